/-
The contracts of package disas, second part: what a word might be, Op by Op, and which instruction it is.
Conditions: the word is one of 32 bits.
-/
import Derived.Test.YtjoikaklincfoaaVdisasg
import Derived.Test.YtjoikaklincfoaaDis
namespace Go.Proofs.Ytjoikaklincfoaa
open Go Go.Vc Go.RowKit
set_option linter.unusedVariables false
set_option linter.unusedSimpArgs false
set_option linter.unnecessarySimpa false
set_option maxRecDepth 100000

theorem AsFn_intro {f : FuncId} {fi ca : Array Value} {L : FuncId → Array Value → Array Value → Prop} (h : L f fi ca) : AsFn (.func (.func f) fi ca) L := h
def gRd (o w : Int) : Int := if hasRdS o = true then fldI w 7 5 else 0
def gR1 (o w : Int) : Int := if hasRs1S o = true then fldI w 15 5 else 0
def gR2 (o w : Int) : Int := if hasRs2S o = true then fldI w 20 5 else 0
def gsCells (o w : Int) : List Value := [u8v o, u8v (gRd o w), u8v (gR1 o w), u8v (gR2 o w), i64v (numS o w)]
def gsV (o w : Int) : Value := .agg (gsCells o w).toArray
theorem fld5 (w : Int) (k : Nat) : 0 ≤ fldI w k 5 ∧ fldI w k 5 < 32 := fldI_range w k 5
theorem u8_fld (w : Int) (k : Nat) : IntKind.u8.wrap (fldI w k 5) = fldI w k 5 := by
  have := fld5 w k
  exact u8_in (by omega) (by omega)
set_option maxHeartbeats 1600000 in
theorem guesses_iter {wv : Int} (hw : W32 wv) (b : Nat) (w : World) (hb : Has w b [u32v wv]) : IterV Try.prog disas_guesses_1.N #[.pointer (some ⟨b, 0, none⟩)] (fun k => k = b) 34 (fun k => [gsV ((k.1 : Int) + 1) wv]) w := by
  refine iterV_of fun l J Jx W hW hJ hJx hY h0 => ?_
  have hbW : Has W b [u32v wv] := hb.kept (hW.block b hb.lt)
  refine disas_guesses_1.calls (yield' := .func (.yield l) #[] #[]) (c0 := some ⟨b, 0, none⟩) ?_
  unfold disas_guesses_1.vc
  refine ⟨fun vs w' => ∃ k : Nat, k ≤ 34 ∧ vs = [.int .u8 ((k : Int) + 1)] ∧ J k w' ∧ Has w' b [u32v wv], fun vs _ => match vs with | [.int _ n] => (40 - n).toNat | _ => 0, ⟨0, by omega, rfl, h0, hbW⟩, ?_⟩
  rintro g op w1 ⟨k, hk, hs, hj, hb1⟩
  simp only [List.cons.injEq, Value.int.injEq, true_and, and_true] at hs
  subst hs
  refine cnd_of (fun h => ?_) fun h => ?_
  · have h34 : k < 34 := by simp only [decide_eq_true_eq] at h; omega
    refine Deref_some rfl ⟨wv, hb1.cell rfl, (disas_number_ok _ hw w1).mono fun e w2 ⟨he, g2⟩ => ⟨_, he, fun w3 h3 => ?_⟩⟩
    have L := (Trk.here g2).alloc h3
    refine L.setAll (l := [u8v ((k : Int) + 1), u8v 0, u8v 0, u8v 0, i64v (numS ((k : Int) + 1) wv)]) 0 rfl rfl (by simp [Value.oneCell']) fun w4 L => ?_
    refine (disas_hasRd_ok _ w4).mono fun e w5 ⟨he, g5⟩ => ⟨_, he, fun vs w6 => vs = [] ∧ Trk w1 w6 [(w2.heap.size, [u8v ((k : Int) + 1), u8v (gRd ((k : Int) + 1) wv), u8v 0, u8v 0, i64v (numS ((k : Int) + 1) wv)])], ?_, ?_⟩
    · have L := L.later g5
      refine cnd_of (fun hr => ?_) fun hr => ⟨rfl, ?_⟩
      · refine Deref_some rfl ⟨wv, (hb1.later L.to).cell rfl, (disas_field_ok hw 7 5 (by omega) (by omega) w5).mono fun e w6 ⟨he, g6⟩ => ⟨_, he, (L.later g6).set1 0 rfl (by simp) fun w7 L => ⟨rfl, ?_⟩⟩⟩
        rw [gRd, if_pos hr]
        rw [u8_fld] at L
        exact L
      · rw [gRd, if_neg (by simp [hr])]
        exact L
    rintro _ w6 ⟨-, L⟩
    refine (disas_hasRs1_ok _ w6).mono fun e w7 ⟨he, g7⟩ => ⟨_, he, fun vs w8 => vs = [] ∧ Trk w1 w8 [(w2.heap.size, [u8v ((k : Int) + 1), u8v (gRd ((k : Int) + 1) wv), u8v (gR1 ((k : Int) + 1) wv), u8v 0, i64v (numS ((k : Int) + 1) wv)])], ?_, ?_⟩
    · have L := L.later g7
      refine cnd_of (fun hr => ?_) fun hr => ⟨rfl, ?_⟩
      · refine Deref_some rfl ⟨wv, (hb1.later L.to).cell rfl, (disas_field_ok hw 15 5 (by omega) (by omega) w7).mono fun e w6 ⟨he, g6⟩ => ⟨_, he, (L.later g6).set1 0 rfl (by simp) fun w7 L => ⟨rfl, ?_⟩⟩⟩
        rw [gR1, if_pos hr]
        rw [u8_fld] at L
        exact L
      · rw [gR1, if_neg (by simp [hr])]
        exact L
    rintro _ w8 ⟨-, L⟩
    refine (disas_hasRs2_ok _ w8).mono fun e w9 ⟨he, g9⟩ => ⟨_, he, fun vs w8 => vs = [] ∧ Trk w1 w8 [(w2.heap.size, gsCells ((k : Int) + 1) wv)], ?_, ?_⟩
    · have L := L.later g9
      refine cnd_of (fun hr => ?_) fun hr => ⟨rfl, ?_⟩
      · refine Deref_some rfl ⟨wv, (hb1.later L.to).cell rfl, (disas_field_ok hw 20 5 (by omega) (by omega) w9).mono fun e w6 ⟨he, g6⟩ => ⟨_, he, (L.later g6).set1 0 rfl (by simp) fun w7 L => ⟨rfl, ?_⟩⟩⟩
        rw [gsCells, gR2, if_pos hr]
        rw [u8_fld] at L
        exact L
      · rw [gsCells, gR2, if_neg (by simp [hr])]
        exact L
    rintro _ w10 ⟨-, L⟩
    refine ⟨_, _, _, _, _, ⟨L.cell 0 rfl rfl, L.cell 0 rfl rfl, L.cell 0 rfl rfl, L.cell 0 rfl rfl, L.cell 0 rfl rfl, trivial⟩, rfl, rfl, ?_⟩
    refine YieldC_mono (fun b w' h => ?_) (hY ⟨k, h34⟩ w10 (hJ _ _ _ hj L.to))
    rcases h with ⟨rfl, h1, h2⟩ | ⟨rfl, h1⟩
    · refine ⟨⟨k + 1, by omega, ?_, h1, (hb1.later L.to).kept (h2 _ rfl)⟩, ?_⟩
      · rw [u8_in (by omega) (by omega)]
        simp
      · show (40 - IntKind.u8.wrap ((k : Int) + 1 + 1)).toNat < (40 - ((k : Int) + 1)).toNat
        rw [u8_in (by omega) (by omega)]
        omega
    · exact ⟨⟨_, rfl⟩, .inr h1⟩
  · have : k = 34 := by simp only [decide_eq_false_iff_not] at h; omega
    subst this
    exact ⟨⟨_, rfl⟩, .inl hj⟩

/-! ### Decode -/
def encG (o w : Int) : Option Int := encv o (gRd o w) (gR1 o w) (gR2 o w) (numS o w)
def fitG (w : Int) (k : Fin 34) : Bool := decide (encG ((k.1 : Int) + 1) w = some w)
def decK (w : Int) : Option (Fin 34) := (List.finRange 34).find? (fitG w)
/-- Which instruction a word is. -/
def decI (w : Int) : List Value := match decK w with | some k => gsCells ((k.1 : Int) + 1) w | none => [u8v 0, u8v 0, u8v 0, u8v 0, i64v 0]
def decE (w : Int) : Int := match decK w with | some _ => 0 | none => 7
theorem disas_guesses_ok (wv : Int) (w : World) : Calls Try.prog disas_guesses.N #[u32v wv] w fun e w' => e = .returned (.func (.func disas_guesses_1.N) #[] #[.pointer (some ⟨w.heap.size, 0, none⟩)]) ∧ Later w w' ∧ Has w' w.heap.size [u32v wv] := by
  refine disas_guesses.calls ?_
  unfold disas_guesses.vc
  intro w1 h1
  have L := (Trk.start w).alloc h1
  exact ⟨rfl, L.to, L.has 0 rfl⟩
theorem decK_none {w : Int} (h : ∀ y ∈ List.finRange 34, fitG w y = false) : decK w = none := List.find?_eq_none.2 fun y hy => by rw [h y hy]; simp
theorem decK_some {w : Int} {p : List (Fin 34)} {x : Fin 34} (hp : p ++ [x] <+: List.finRange 34) (h : ∀ y ∈ p, fitG w y = false) (hx : fitG w x = true) : decK w = some x := by
  obtain ⟨t, ht⟩ := hp
  rw [decK, ← ht, List.append_assoc, List.find?_append, List.find?_eq_none.2 (fun y hy => by rw [h y hy]; simp)]
  simp [hx]
set_option maxHeartbeats 3200000 in
theorem disas_Decode_ok {wv : Int} (hw : W32 wv) (w0 : World) : Calls Try.prog disas_Decode.N #[u32v wv] w0 (Gives (.tuple #[.agg (decI wv).toArray, i64v (decE wv)]) w0) := by
  refine disas_Decode.calls ?_
  unfold disas_Decode.vc
  intro w1 h1 w2 h2 w3 h3
  have L := (((Trk.start w0).alloc h1).alloc h2).alloc h3
  refine ⟨wv, L.cell 0 rfl rfl, (disas_guesses_ok wv w3).mono fun e w4 ⟨he, g4, hb⟩ => ⟨_, he, ?_⟩⟩
  have L4 := L.later g4
  have s04 : w0.heap.size ≤ w4.heap.size := L4.to.size
  refine AsFn_intro (cnd_true (by kernel_rfl) ⟨rfl, (⟨34, fun k => [gsV ((k.1 : Int) + 1) wv], fun k => k = w3.heap.size, fun pre W => (∀ y ∈ pre, fitG wv y = false) ∧ Later w4 W,
      fun pre W => ∃ p x, pre = p ++ [x] ∧ (∀ y ∈ p, fitG wv y = false) ∧ fitG wv x = true ∧ Trk w0 W [(w0.heap.size, [u32v wv]), (w1.heap.size, gsCells ((x.1 : Int) + 1) wv), (w2.heap.size, [i64v 0])],
      fun x vs W => ∃ b, vs = [.pointer (some ⟨b, 0, none⟩)] ∧ Has W b (gsCells ((x.1 : Int) + 1) wv),
      guesses_iter hw _ _ hb, fun k hk => by rw [hk]; exact hb.lt,
      fun s W W' h ht => ⟨h.1, ht.later (Nat.le_refl _) h.2⟩,
      fun s W W' ⟨p, x, e1, e2, e3, e4⟩ ht => ⟨p, x, e1, e2, e3, ht.trk s04 e4⟩,
      fun vs x W W' ⟨b, e1, e2⟩ ht => ⟨b, e1, ht.has e2⟩,
      ⟨by simp, Later.refl _⟩⟩ : Rounds Try.prog disas_guesses_1.N #[.pointer (some ⟨w3.heap.size, 0, none⟩)] w4), ?_, ?_, ?_, ?_, ?_⟩)
  · intro x; rfl
  · rintro s0 s1 s2 s3 s4 pre x W hx ⟨hp, hl⟩ W1 hW1
    have hx : gsV ((x.1 : Int) + 1) wv = .agg #[.int .u8 s0, .int .u8 s1, .int .u8 s2, .int .u8 s3, .int .i64 s4] := by simpa using hx
    have hc : gsCells ((x.1 : Int) + 1) wv = [.int .u8 s0, .int .u8 s1, .int .u8 s2, .int .u8 s3, .int .i64 s4] := by
      have := congrArg Value.cells hx
      simpa [gsV, Value.cells] using this
    have M := (Trk.start W).alloc hW1
    refine M.setAll (l := [.int .u8 s0, .int .u8 s1, .int .u8 s2, .int .u8 s3, .int .i64 s4]) 0 rfl rfl (by simp [Value.oneCell']) fun W2 M => ⟨keepsFrom_later M.to, fun k hk => ?_, ⟨hp, hl.trans M.to⟩, _, rfl, ?_⟩
    · rw [hk]; exact Later.block M.to (Nat.lt_of_lt_of_le hb.lt hl.size)
    · rw [hc]; exact M.has 0 rfl
  · rintro s0 s1 s2 s3 s4 pre x hx hlen g x1 W ⟨⟨hp, hl⟩, b, hb1, hb2⟩
    simp only [List.cons.injEq, Value.pointer.injEq, and_true] at hb1
    subst hb1
    have LW := L4.later hl
    have kp : ∀ {W1 : World}, Later W W1 → KpS (fun k => k = w3.heap.size) W W1 := fun h k hk => by rw [hk]; exact Later.block h (Nat.lt_of_lt_of_le hb.lt hl.size)
    refine Deref_some rfl ⟨_, _, _, _, _, ⟨hb2.cell rfl, hb2.cell rfl, hb2.cell rfl, hb2.cell rfl, hb2.cell rfl, trivial⟩, ?_⟩
    have r1 : U8 (gRd ((x.1 : Int) + 1) wv) := by unfold gRd U8; have := fld5 wv 7; split <;> omega
    have r2 : U8 (gR1 ((x.1 : Int) + 1) wv) := by unfold gR1 U8; have := fld5 wv 15; split <;> omega
    have r3 : U8 (gR2 ((x.1 : Int) + 1) wv) := by unfold gR2 U8; have := fld5 wv 20; split <;> omega
    refine (insn_Encode_ok _ _ _ _ _ ⟨by omega, by have : x.1 < 34 := x.2; omega⟩ r1 r2 r3 (numS_range _ _) W).mono fun e W1 ⟨he, g1⟩ => ?_
    have out : fitG wv x = false → KeepsFrom w4.heap.size W W1 ∧ KpS (fun k => k = w3.heap.size) W W1 ∧ (∀ y ∈ pre ++ [x], fitG wv y = false) ∧ Later w4 W1 := by
      intro hf
      refine ⟨keepsFrom_later g1, kp g1, ?_, hl.trans g1⟩
      intro y hy
      rcases List.mem_append.1 hy with hy | hy
      · exact hp y hy
      · rw [List.mem_singleton.1 hy]; exact hf
    have hfit : fitG wv x = decide (encG ((x.1 : Int) + 1) wv = some wv) := rfl
    change e = .returned (encR (encG ((x.1 : Int) + 1) wv)) at he
    cases hG : encG ((x.1 : Int) + 1) wv with
    | none =>
      rw [hG] at he
      exact ⟨_, _, he, cnd_false rfl (out (by rw [hfit, hG]; simp))⟩
    | some v =>
      rw [hG] at he
      refine ⟨_, _, he, cnd_true rfl ⟨wv, (LW.later g1).cell 0 rfl rfl, cnd_of (fun hv => ?_) fun hv => out (by rw [hfit, hG]; simpa using hv)⟩⟩
      have hv : v = wv := by simpa using hv
      have hf : fitG wv x = true := by rw [hfit, hG, hv]; simp
      have hb3 := hb2.later g1
      refine Deref_some rfl ⟨_, _, _, _, _, ⟨hb3.cell rfl, hb3.cell rfl, hb3.cell rfl, hb3.cell rfl, hb3.cell rfl, trivial⟩, ?_⟩
      refine (LW.later g1).setAllE (l := gsCells ((x.1 : Int) + 1) wv) 1 rfl rfl (by simp [Value.oneCell', gsCells]) fun W2 e2 M => ?_
      refine M.set1E 2 rfl (by simp) fun W3 e3 M => ?_
      refine ⟨?_, pre, x, rfl, hp, hf, M⟩
      rw [e3, e2]
      exact ((keepsFrom_later g1).trans (keepsFrom_setCellsAt _ _ _ _ _)).trans (keepsFrom_setCell _ _ _ _)
  · rintro D W hD ⟨hp, hl⟩ hd
    have LW := L4.later hl
    refine LW.setAllE (l := [u8v 0, u8v 0, u8v 0, u8v 0, i64v 0]) 1 rfl rfl (by simp [Value.oneCell']) fun W2 e2 M => ?_
    refine M.set1E 2 rfl (by simp) fun W3 e3 M => ?_
    have hd3 : W3.heap[D]? = some (.deferred (some [])) := by
      have k : KeepsFrom w4.heap.size W W3 := by rw [e3, e2]; exact (keepsFrom_setCellsAt _ _ _ _ _).trans (keepsFrom_setCell _ _ _ _)
      exact k.same D _ hD hd rfl
    refine ⟨hd3, fun W4 e4 => ?_⟩
    have M : Trk w0 W4 _ := (turn_putObj (o' := .deferred none) hd3 rfl hD).trk s04 M |> fun h => e4 ▸ h
    have hk := decK_none fun y hy => hp y hy
    refine ⟨_, _, _, _, _, ⟨M.cell 1 rfl rfl, M.cell 1 rfl rfl, M.cell 1 rfl rfl, M.cell 1 rfl rfl, M.cell 1 rfl rfl, trivial⟩, _, M.cell 2 rfl rfl, ?_, M.to⟩
    rw [decI, decE, hk]
  · rintro D pre W hD hpre ⟨p, x, rfl, e1, e2, M⟩ hd
    refine ⟨hd, fun W4 e4 => ?_⟩
    have M : Trk w0 W4 _ := (turn_putObj (o' := .deferred none) hd rfl hD).trk s04 M |> fun h => e4 ▸ h
    have hk := decK_some hpre e1 e2
    refine ⟨_, _, _, _, _, ⟨M.cell 1 rfl rfl, M.cell 1 rfl rfl, M.cell 1 rfl rfl, M.cell 1 rfl rfl, M.cell 1 rfl rfl, trivial⟩, _, M.cell 2 rfl rfl, ?_, M.to⟩
    rw [decI, decE, hk]
    rfl
end Go.Proofs.Ytjoikaklincfoaa
