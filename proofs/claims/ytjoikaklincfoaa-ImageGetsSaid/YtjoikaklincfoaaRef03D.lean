/-
The contracts of package sacristyref03 as far as its Decode: it answers as disas does.
Conditions: the word is one of 32 bits.
-/
import Derived.Test.YtjoikaklincfoaaVref03
import Derived.Test.YtjoikaklincfoaaDisD
import Derived.Test.YtjoikaklincfoaaRef02
namespace Go.Proofs.Ytjoikaklincfoaa
open Go Go.Vc Go.RowKit
set_option linter.unusedVariables false
set_option linter.unusedSimpArgs false
set_option linter.unnecessarySimpa false
set_option maxRecDepth 100000

theorem ref03_field_ok {w : Int} (hw : W32 w) (at_ n : Nat) (ha : at_ ≤ 32) (hn : n ≤ 31) (w0 : World) : Calls Try.prog ref03_field.N #[u32v w, i64v at_, i64v n] w0 (Gives (u32v (fldI w at_ n)) w0) := by
  refine ref03_field.calls ?_
  unfold ref03_field.vc
  obtain ⟨p0, p1⟩ := pow_le31 n hn
  have e1 : IntKind.u64.wrap ((at_ : Nat) : Int) = at_ := by rw [u64_in (by omega) (by omega)]
  have e2 : IntKind.u64.wrap ((n : Nat) : Int) = n := by rw [u64_in (by omega) (by omega)]
  rw [e1, e2]
  have e3 : min ((at_ : Nat) : Int).toNat 32 = at_ := by omega
  have e4 : min ((n : Nat) : Int).toNat 32 = n := by omega
  have e5 : ((2 : Int) ^ n) = ((2 ^ n : Nat) : Int) := by simp
  rw [e3, e4, Int.one_mul, e5, u32_in (x := ((2 ^ n : Nat) : Int)) (by omega) (by omega), ← e5]
  have hp := two_pow_pos n
  refine cnd_false (by simp) (cnd_false (by simp) (cnd_false (by simp; omega) ⟨?_, Later.refl _⟩))
  rw [fdiv_nn _ (Int.le_of_lt (two_pow_pos _)), tmod_nn _ (Int.ediv_nonneg hw.1 (Int.le_of_lt (two_pow_pos _)))]
  rfl
theorem ref03_signed_ok {v : Int} (hv : W32 v) (n : Int) (hn : 0 ≤ n ∧ n ≤ 64) (w0 : World) : Calls Try.prog ref03_signed.N #[u32v v, i64v n] w0 (Gives (i64v (sgn v n)) w0) := by
  refine ref03_signed.calls ?_
  unfold ref03_signed.vc
  rw [wrap_u64, Int.emod_eq_of_lt hv.1 (Int.lt_trans hv.2 (by decide))]
  exact (ref01_Sign_ok v n hv.1 (by omega) (by omega) w0).mono fun e w1 ⟨he, l1⟩ => ⟨_, _, he, rfl, l1⟩

/-! ### guess: by its form -/
def numK (k : Nat) (w : Int) : Int :=
  if k = 1 then sgn (fldI w 20 12) 12
  else if k = 2 then fldI w 20 6
  else if k = 3 then sgn (fldI w 12 20 * 4096) 32
  else if k = 4 then sgn (fldI w 25 7 * 32 + fldI w 7 5) 12
  else if k = 5 then sgn (fldI w 8 4 * 2 + fldI w 25 6 * 32 + fldI w 7 1 * 2048 + fldI w 31 1 * 4096) 13
  else if k = 6 then sgn (fldI w 21 10 * 2 + fldI w 20 1 * 2048 + fldI w 12 8 * 4096 + fldI w 31 1 * 1048576) 21
  else 0
def numC (o : Int) : Nat := if (15 ≤ o ∧ o ≤ 19) ∨ o = 24 ∨ o = 25 ∨ o = 33 then 1 else if 20 ≤ o ∧ o ≤ 22 then 2 else if o = 23 then 3 else if o = 26 ∨ o = 27 then 4 else if 28 ≤ o ∧ o ≤ 31 then 5 else if o = 32 then 6 else 0
theorem numS_K (o w : Int) : numS o w = numK (numC o) w := by
  unfold numS numC
  repeat' split
  all_goals rfl
def fK (m : Int) : Nat := (m - 1).toNat
def fRd (m w : Int) : Int := if m = 1 ∨ m = 2 ∨ m = 3 ∨ m = 4 ∨ m = 7 then fldI w 7 5 else 0
def fR1 (m w : Int) : Int := if m = 1 ∨ m = 2 ∨ m = 3 ∨ m = 5 ∨ m = 6 then fldI w 15 5 else 0
def fR2 (m w : Int) : Int := if m = 1 ∨ m = 5 ∨ m = 6 then fldI w 20 5 else 0
def fNum (m w : Int) : Int := if m = 8 then 0 else numK (fK m) w
def fCells (o m w : Int) : List Value := [u8v o, u8v (fRd m w), u8v (fR1 m w), u8v (fR2 m w), i64v (fNum m w)]
theorem forms_all : ∀ k : Fin 34, ∃ x, tabR[k.1]? = some x ∧ (1 ≤ x.2.2.2 ∧ x.2.2.2 ≤ 8) ∧ hasRdS ((k.1 : Int) + 1) = decide (x.2.2.2 = 1 ∨ x.2.2.2 = 2 ∨ x.2.2.2 = 3 ∨ x.2.2.2 = 4 ∨ x.2.2.2 = 7) ∧
    hasRs1S ((k.1 : Int) + 1) = decide (x.2.2.2 = 1 ∨ x.2.2.2 = 2 ∨ x.2.2.2 = 3 ∨ x.2.2.2 = 5 ∨ x.2.2.2 = 6) ∧ hasRs2S ((k.1 : Int) + 1) = decide (x.2.2.2 = 1 ∨ x.2.2.2 = 5 ∨ x.2.2.2 = 6) ∧ numC ((k.1 : Int) + 1) = (if x.2.2.2 = 8 then 0 else fK x.2.2.2) := by
  have h : ∀ k : Fin 34, (match tabR[k.1]? with | some x => decide ((1 ≤ x.2.2.2 ∧ x.2.2.2 ≤ 8) ∧ hasRdS ((k.1 : Int) + 1) = decide (x.2.2.2 = 1 ∨ x.2.2.2 = 2 ∨ x.2.2.2 = 3 ∨ x.2.2.2 = 4 ∨ x.2.2.2 = 7) ∧
    hasRs1S ((k.1 : Int) + 1) = decide (x.2.2.2 = 1 ∨ x.2.2.2 = 2 ∨ x.2.2.2 = 3 ∨ x.2.2.2 = 5 ∨ x.2.2.2 = 6) ∧ hasRs2S ((k.1 : Int) + 1) = decide (x.2.2.2 = 1 ∨ x.2.2.2 = 5 ∨ x.2.2.2 = 6) ∧ numC ((k.1 : Int) + 1) = (if x.2.2.2 = 8 then 0 else fK x.2.2.2)) | none => false) = true := by decide
  intro k
  have := h k
  split at this
  · rename_i x hx
    exact ⟨x, hx, by simpa using this⟩
  · cases this
theorem forms_gs {k : Fin 34} {x : Int × Int × Int × Int} (hx : tabR[k.1]? = some x) (w : Int) : (1 ≤ x.2.2.2 ∧ x.2.2.2 ≤ 8) ∧ fCells ((k.1 : Int) + 1) x.2.2.2 w = gsCells ((k.1 : Int) + 1) w := by
  obtain ⟨y, hy, h0, h1, h2, h3, h4⟩ := forms_all k
  rw [hx] at hy
  obtain rfl := Option.some.inj hy
  refine ⟨h0, ?_⟩
  unfold fCells gsCells gRd gR1 gR2 fRd fR1 fR2 fNum
  rw [h1, h2, h3, numS_K, h4]
  simp only [decide_eq_true_eq]
  by_cases h8 : x.2.2.2 = 8
  · rw [if_pos h8, if_pos h8]
    rfl
  · rw [if_neg h8, if_neg h8]
theorem ret5 {w0 w : World} {L : List Blk} (h : Trk w0 w L) (j k : Nat) {b c : Nat} {cs : List Value} {o d x y v : Int} (hj : L[j]? = some (c, [u8v o, u8v d, u8v x, u8v y, i64v v])) (hk : L[k]? = some (b, cs)) (hc : cs.length = 5) {R : Int → Int → Int → Int → Int → World → Prop} (hR : ∀ w', Trk w0 w' (L.set k (b, [u8v o, u8v d, u8v x, u8v y, i64v v])) → R o d x y v w') :
    ∃ m m1 m2 m3 m4, (w.cell? ⟨c, 0, none⟩ = some (u8v m) ∧ w.cell? ⟨c, 1, none⟩ = some (u8v m1) ∧ w.cell? ⟨c, 2, none⟩ = some (u8v m2) ∧ w.cell? ⟨c, 3, none⟩ = some (u8v m3) ∧ w.cell? ⟨c, 4, none⟩ = some (i64v m4) ∧ True) ∧
    SetsAt w ⟨b, 0, none⟩ 0 [u8v m, u8v m1, u8v m2, u8v m3, i64v m4] ∧ ∀ w', w' = setCellsAt w ⟨b, 0, none⟩ 0 [u8v m, u8v m1, u8v m2, u8v m3, i64v m4] →
      ∃ n n1 n2 n3 n4, (w'.cell? ⟨b, 0, none⟩ = some (u8v n) ∧ w'.cell? ⟨b, 1, none⟩ = some (u8v n1) ∧ w'.cell? ⟨b, 2, none⟩ = some (u8v n2) ∧ w'.cell? ⟨b, 3, none⟩ = some (u8v n3) ∧ w'.cell? ⟨b, 4, none⟩ = some (i64v n4) ∧ True) ∧ R n n1 n2 n3 n4 w' := by
  have hkl : k < L.length := (List.getElem?_eq_some_iff.1 hk).1
  refine ⟨o, d, x, y, v, ⟨h.cell j hj rfl, h.cell j hj rfl, h.cell j hj rfl, h.cell j hj rfl, h.cell j hj rfl, trivial⟩, ?_⟩
  refine h.setAll k hk (by simp [hc]) (ones rfl) fun w' h' => ?_
  have hk' : (L.set k (b, [u8v o, u8v d, u8v x, u8v y, i64v v]))[k]? = some (b, [u8v o, u8v d, u8v x, u8v y, i64v v]) := by rw [List.getElem?_set]; simp [hkl]
  exact ⟨o, d, x, y, v, ⟨h'.cell k hk' rfl, h'.cell k hk' rfl, h'.cell k hk' rfl, h'.cell k hk' rfl, h'.cell k hk' rfl, trivial⟩, hR w' h'⟩
set_option maxHeartbeats 6400000 in
theorem ref03_guess_ok (o m : Int) (hm : 1 ≤ m ∧ m ≤ 8) {w : Int} (hw : W32 w) (w0 : World) : Calls Try.prog ref03_guess.N #[u8v o, i64v m, u32v w] w0 (Gives (.agg (fCells o m w).toArray) w0) := by
  have f (at_ n : Nat) (ha : at_ ≤ 32) (hn : n ≤ 31) := fun w1 => ref03_field_ok hw at_ n ha hn w1
  refine ref03_guess.calls ?_
  unfold ref03_guess.vc
  intro w1 h1 w2 h2
  have L := ((Trk.start w0).alloc h1).alloc h2
  refine L.setAll (l := [u8v o, u8v 0, u8v 0, u8v 0, i64v 0]) 1 rfl rfl (ones rfl) fun w3 L => ?_
  refine (f 7 5 (by omega) (by omega) w3).mono fun e w4 ⟨he, g4⟩ => ⟨_, he, (f 15 5 (by omega) (by omega) w4).mono fun e w5 ⟨he, g5⟩ => ⟨_, he, (f 20 5 (by omega) (by omega) w5).mono fun e w6 ⟨he, g6⟩ => ⟨_, he, ?_⟩⟩⟩
  have L := ((L.later g4).later g5).later g6
  rw [u8_fld, u8_fld, u8_fld]
  have r0 := fldI_range w 20 12
  simp only [show (2 : Int) ^ 12 = 4096 from rfl] at r0
  have : m = 1 ∨ m = 2 ∨ m = 3 ∨ m = 4 ∨ m = 5 ∨ m = 6 ∨ m = 7 ∨ m = 8 := by omega
  rcases this with rfl | rfl | rfl | rfl | rfl | rfl | rfl | rfl
  · refine cnd_true rfl (L.set1 1 rfl (by simp) fun w7 L => L.set1 1 rfl (by simp) fun w8 L => L.set1 1 rfl (by simp) fun w9 L => ret5 L 1 0 rfl rfl rfl fun w' h' => ⟨rfl, h'.to⟩)
  · refine cnd_false rfl (cnd_true rfl ((f 20 12 (by omega) (by omega) w6).mono fun e w7 ⟨he, g7⟩ => ⟨_, he, (ref03_signed_ok ⟨r0.1, by omega⟩ 12 (by omega) w7).mono fun e w8 ⟨he, g8⟩ => ⟨_, he, ?_⟩⟩))
    exact ((L.later g7).later g8).set1 1 rfl (by simp) fun w7 L => L.set1 1 rfl (by simp) fun w8 L => L.set1 1 rfl (by simp) fun w9 L => ret5 L 1 0 rfl rfl rfl fun w' h' => ⟨rfl, h'.to⟩
  · refine cnd_false rfl (cnd_false rfl (cnd_true rfl ((f 20 6 (by omega) (by omega) w6).mono fun e w7 ⟨he, g7⟩ => ⟨_, he, ?_⟩)))
    have r := fldI_range w 20 6
    simp only [show (2 : Int) ^ 6 = 64 from rfl] at r
    rw [i64_in (by omega) (by omega)]
    exact (L.later g7).set1 1 rfl (by simp) fun w7 L => L.set1 1 rfl (by simp) fun w8 L => L.set1 1 rfl (by simp) fun w9 L => ret5 L 1 0 rfl rfl rfl fun w' h' => ⟨rfl, h'.to⟩
  · refine cnd_false rfl (cnd_false rfl (cnd_false rfl (cnd_true rfl ((f 12 20 (by omega) (by omega) w6).mono fun e w7 ⟨he, g7⟩ => ⟨_, he, ?_⟩))))
    have r := fldI_range w 12 20
    simp only [show (2 : Int) ^ 20 = 1048576 from rfl] at r
    rw [u32_in (by omega) (by omega)]
    refine (ref03_signed_ok ⟨by omega, by omega⟩ 32 (by omega) w7).mono fun e w8 ⟨he, g8⟩ => ⟨_, he, ?_⟩
    exact ((L.later g7).later g8).set1 1 rfl (by simp) fun w7 L => L.set1 1 rfl (by simp) fun w8 L => ret5 L 1 0 rfl rfl rfl fun w' h' => ⟨rfl, h'.to⟩
  · refine cnd_false rfl (cnd_false rfl (cnd_false rfl (cnd_false rfl (cnd_true rfl ((f 7 5 (by omega) (by omega) w6).mono fun e w7 ⟨he, g7⟩ => ⟨_, he, (f 25 7 (by omega) (by omega) w7).mono fun e w8 ⟨he, g8⟩ => ⟨_, he, ?_⟩⟩)))))
    have a := fldI_range w 7 5
    have b := fldI_range w 25 7
    simp only [show (2 : Int) ^ 5 = 32 from rfl, show (2 : Int) ^ 7 = 128 from rfl] at a b
    rw [u32_in (x := fldI w 25 7 * 32) (by omega) (by omega), u32_in (by omega) (by omega), Int.add_comm]
    refine (ref03_signed_ok ⟨by omega, by omega⟩ 12 (by omega) w8).mono fun e w9 ⟨he, g9⟩ => ⟨_, he, ?_⟩
    exact (((L.later g7).later g8).later g9).set1 1 rfl (by simp) fun w7 L => L.set1 1 rfl (by simp) fun w8 L => L.set1 1 rfl (by simp) fun w9 L => ret5 L 1 0 rfl rfl rfl fun w' h' => ⟨rfl, h'.to⟩
  · refine cnd_false rfl (cnd_false rfl (cnd_false rfl (cnd_false rfl (cnd_false rfl (cnd_true rfl ((f 8 4 (by omega) (by omega) w6).mono fun e w7 ⟨he, g7⟩ => ⟨_, he, (f 25 6 (by omega) (by omega) w7).mono fun e w8 ⟨he, g8⟩ => ⟨_, he, (f 7 1 (by omega) (by omega) w8).mono fun e w9 ⟨he, g9⟩ => ⟨_, he, (f 31 1 (by omega) (by omega) w9).mono fun e w10 ⟨he, g10⟩ => ⟨_, he, ?_⟩⟩⟩⟩))))))
    have a := fldI_range w 8 4
    have b := fldI_range w 25 6
    have c := fldI_range w 7 1
    have d := fldI_range w 31 1
    simp only [show (2 : Int) ^ 4 = 16 from rfl, show (2 : Int) ^ 6 = 64 from rfl, show (2 : Int) ^ 1 = 2 from rfl] at a b c d
    rw [u32_in (x := fldI w 8 4 * 2) (by omega) (by omega), u32_in (x := fldI w 25 6 * 32) (by omega) (by omega), u32_in (x := fldI w 7 1 * 2048) (by omega) (by omega), u32_in (x := fldI w 31 1 * 4096) (by omega) (by omega),
      u32_in (x := fldI w 8 4 * 2 + fldI w 25 6 * 32) (by omega) (by omega), u32_in (x := fldI w 8 4 * 2 + fldI w 25 6 * 32 + fldI w 7 1 * 2048) (by omega) (by omega), u32_in (by omega) (by omega)]
    refine (ref03_signed_ok ⟨by omega, by omega⟩ 13 (by omega) w10).mono fun e w11 ⟨he, g11⟩ => ⟨_, he, ?_⟩
    exact (((((L.later g7).later g8).later g9).later g10).later g11).set1 1 rfl (by simp) fun w7 L => L.set1 1 rfl (by simp) fun w8 L => L.set1 1 rfl (by simp) fun w9 L => ret5 L 1 0 rfl rfl rfl fun w' h' => ⟨rfl, h'.to⟩
  · refine cnd_false rfl (cnd_false rfl (cnd_false rfl (cnd_false rfl (cnd_false rfl (cnd_false rfl (cnd_true rfl ((f 21 10 (by omega) (by omega) w6).mono fun e w7 ⟨he, g7⟩ => ⟨_, he, (f 20 1 (by omega) (by omega) w7).mono fun e w8 ⟨he, g8⟩ => ⟨_, he, (f 12 8 (by omega) (by omega) w8).mono fun e w9 ⟨he, g9⟩ => ⟨_, he, (f 31 1 (by omega) (by omega) w9).mono fun e w10 ⟨he, g10⟩ => ⟨_, he, ?_⟩⟩⟩⟩)))))))
    have a := fldI_range w 21 10
    have b := fldI_range w 20 1
    have c := fldI_range w 12 8
    have d := fldI_range w 31 1
    simp only [show (2 : Int) ^ 10 = 1024 from rfl, show (2 : Int) ^ 8 = 256 from rfl, show (2 : Int) ^ 1 = 2 from rfl] at a b c d
    rw [u32_in (x := fldI w 21 10 * 2) (by omega) (by omega), u32_in (x := fldI w 20 1 * 2048) (by omega) (by omega), u32_in (x := fldI w 12 8 * 4096) (by omega) (by omega), u32_in (x := fldI w 31 1 * 1048576) (by omega) (by omega),
      u32_in (x := fldI w 21 10 * 2 + fldI w 20 1 * 2048) (by omega) (by omega), u32_in (x := fldI w 21 10 * 2 + fldI w 20 1 * 2048 + fldI w 12 8 * 4096) (by omega) (by omega), u32_in (by omega) (by omega)]
    refine (ref03_signed_ok ⟨by omega, by omega⟩ 21 (by omega) w10).mono fun e w11 ⟨he, g11⟩ => ⟨_, he, ?_⟩
    exact (((((L.later g7).later g8).later g9).later g10).later g11).set1 1 rfl (by simp) fun w7 L => L.set1 1 rfl (by simp) fun w8 L => ret5 L 1 0 rfl rfl rfl fun w' h' => ⟨rfl, h'.to⟩
  · exact cnd_false rfl (cnd_false rfl (cnd_false rfl (cnd_false rfl (cnd_false rfl (cnd_false rfl (cnd_false rfl (ret5 L 1 0 rfl rfl rfl fun w' h' => ⟨rfl, h'.to⟩)))))))

/-! ### Decode -/
theorem decK_at {w : Int} {k : Fin 34} (h : ∀ y : Fin 34, y.1 < k.1 → fitG w y = false) (hk : fitG w k = true) : decK w = some k := by
  have hp : (List.finRange 34).take k.1 ++ [k] <+: List.finRange 34 := by
    have : (List.finRange 34).take k.1 ++ [k] = (List.finRange 34).take (k.1 + 1) := by
      rw [List.take_add_one, List.getElem?_eq_getElem (by rw [List.length_finRange]; exact k.2)]
      simp
    rw [this]
    exact List.take_prefix _ _
  refine decK_some hp (fun y hy => h y ?_) hk
  obtain ⟨i, hi, e⟩ := List.getElem_of_mem hy
  rw [List.getElem_take, List.getElem_finRange] at e
  simp at hi
  rw [← e]
  simp
  omega
set_option maxHeartbeats 3200000 in
theorem ref03_Decode_ok {wv : Int} (hw : W32 wv) (w0 : World) : Calls Try.prog ref03_Decode.N #[u32v wv] w0 (Gives (.tuple #[.agg (decI wv).toArray, i64v (decE wv)]) w0) := by
  refine ref03_Decode.calls ?_
  unfold ref03_Decode.vc
  intro w1 h1
  have L := (Trk.start w0).alloc h1
  refine ⟨fun vs w' => ∃ k : Nat, k ≤ 34 ∧ vs = [.int .u8 ((k : Int) + 1)] ∧ (∀ y : Fin 34, y.1 < k → fitG wv y = false) ∧ Later w1 w', fun vs _ => match vs with | [.int _ n] => (40 - n).toNat | _ => 0, ⟨0, by omega, rfl, fun y hy => by omega, Later.refl _⟩, ?_⟩
  rintro g op w2 ⟨k, hk, hs, hj, hl⟩
  simp only [List.cons.injEq, Value.int.injEq, true_and, and_true] at hs
  subst hs
  have L2 := L.later hl
  refine cnd_of (fun h => ?_) fun h => ?_
  · have h34 : k < 34 := by simp only [decide_eq_true_eq] at h; omega
    obtain ⟨x, hx, -⟩ := forms_all ⟨k, h34⟩
    obtain ⟨hm, hgs⟩ := forms_gs hx wv
    have hx' : tabR[(((k : Int) + 1) - 1).toNat]? = some x := by rw [show (((k : Int) + 1) - 1).toNat = k by omega]; exact hx
    refine (ref02_Of_yes ((k : Int) + 1) (by omega) (by omega) x hx' w2).mono fun e w3 ⟨he, g3⟩ => ⟨_, _, _, _, _, he, fun w4 h4 => ?_⟩
    have M := (Trk.here g3).alloc h4
    refine M.setAll (l := [u32v x.1, u32v x.2.1, u32v x.2.2.1, i64v x.2.2.2]) 0 rfl rfl (ones rfl) fun w5 M => ?_
    refine ⟨_, M.cell 0 rfl rfl, (ref03_guess_ok ((k : Int) + 1) x.2.2.2 hm hw w5).mono fun e w6 ⟨he, g6⟩ => ⟨_, _, _, _, _, he, fun w7 h7 => ?_⟩⟩
    have hc : fCells ((k : Int) + 1) x.2.2.2 wv = gsCells ((k : Int) + 1) wv := hgs
    simp only [fCells, gsCells, List.cons.injEq, Value.int.injEq, true_and, and_true] at hc
    obtain ⟨c1, c2, c3, c4⟩ := hc
    rw [c1, c2, c3, c4]
    have M := (M.later g6).alloc h7
    refine M.setAll (l := gsCells ((k : Int) + 1) wv) 1 rfl rfl (ones rfl) fun w8 M => ?_
    refine ⟨_, _, _, _, _, ⟨M.cell 1 rfl rfl, M.cell 1 rfl rfl, M.cell 1 rfl rfl, M.cell 1 rfl rfl, M.cell 1 rfl rfl, trivial⟩, ?_⟩
    have r1 : U8 (gRd ((k : Int) + 1) wv) := by unfold gRd U8; have := fld5 wv 7; split <;> omega
    have r2 : U8 (gR1 ((k : Int) + 1) wv) := by unfold gR1 U8; have := fld5 wv 15; split <;> omega
    have r3 : U8 (gR2 ((k : Int) + 1) wv) := by unfold gR2 U8; have := fld5 wv 20; split <;> omega
    refine (ref02_Encode_ok _ _ _ _ _ ⟨by omega, by omega⟩ r1 r2 r3 (numS_range _ _) w8).mono fun e w9 ⟨he, g9⟩ => ?_
    have M := M.later g9
    have hfit : fitG wv ⟨k, h34⟩ = decide (encG ((k : Int) + 1) wv = some wv) := rfl
    change e = .returned (encR (encG ((k : Int) + 1) wv)) at he
    have out : fitG wv ⟨k, h34⟩ = false → Goes (fun vs w' => ∃ k : Nat, k ≤ 34 ∧ vs = [.int .u8 ((k : Int) + 1)] ∧ (∀ y : Fin 34, y.1 < k → fitG wv y = false) ∧ Later w1 w') (fun vs _ => match vs with | [.int _ n] => (40 - n).toNat | _ => 0) [.int .u8 ((k : Int) + 1)] w2 [.int .u8 (IntKind.u8.wrap ((k : Int) + 1 + 1))] w9 := by
      intro hf
      rw [u8_in (x := (k : Int) + 1 + 1) (by omega) (by omega)]
      refine ⟨⟨k + 1, by omega, by simp, fun y hy => ?_, hl.trans M.to⟩, ?_⟩
      · by_cases h : y.1 = k
        · obtain rfl : y = ⟨k, h34⟩ := Fin.ext h
          exact hf
        · exact hj y (by omega)
      · show (40 - ((k : Int) + 1 + 1)).toNat < (40 - ((k : Int) + 1)).toNat
        omega
    cases hG : encG ((k : Int) + 1) wv with
    | none =>
      rw [hG] at he
      exact ⟨_, _, he, cnd_false rfl (out (by rw [hfit, hG]; simp))⟩
    | some v =>
      rw [hG] at he
      refine ⟨_, _, he, cnd_true rfl (cnd_of (fun hv => ?_) fun hv => out (by rw [hfit, hG]; simpa using hv))⟩
      have hv : v = wv := by simpa using hv
      have hf : fitG wv ⟨k, h34⟩ = true := by rw [hfit, hG, hv]; simp
      have hK := decK_at hj hf
      refine ⟨_, _, _, _, _, ⟨M.cell 1 rfl rfl, M.cell 1 rfl rfl, M.cell 1 rfl rfl, M.cell 1 rfl rfl, M.cell 1 rfl rfl, trivial⟩, ?_⟩
      refine (L2.later M.to).setAll (l := gsCells ((k : Int) + 1) wv) 0 rfl rfl (ones rfl) fun w10 L => ?_
      refine ⟨_, _, _, _, _, ⟨L.cell 0 rfl rfl, L.cell 0 rfl rfl, L.cell 0 rfl rfl, L.cell 0 rfl rfl, L.cell 0 rfl rfl, trivial⟩, ?_, L.to⟩
      rw [decI, decE, hK]
      rfl
  · have : k = 34 := by simp only [decide_eq_false_iff_not] at h; omega
    subst this
    have hK := decK_none (w := wv) fun y _ => hj y y.2
    refine L2.setAll (l := [u8v 0, u8v 0, u8v 0, u8v 0, i64v 0]) 0 rfl rfl (ones rfl) fun w10 L => ?_
    refine ⟨_, _, _, _, _, ⟨L.cell 0 rfl rfl, L.cell 0 rfl rfl, L.cell 0 rfl rfl, L.cell 0 rfl rfl, L.cell 0 rfl rfl, trivial⟩, ?_, L.to⟩
    rw [decI, decE, hK]
end Go.Proofs.Ytjoikaklincfoaa
