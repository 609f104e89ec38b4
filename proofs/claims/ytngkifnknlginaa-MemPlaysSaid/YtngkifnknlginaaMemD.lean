/-
The contracts of package mem, fourth part: Load, Store, Fetch, Set, Bytes.
Conditions: each theorem's hypotheses.
-/
import Derived.Test.YtngkifnknlginaaMemC
import Derived.Laws.Cover3
namespace Go.Proofs.Ytngkifnknlginaa
open Go Go.Vc Go.RowKit
set_option linter.unusedVariables false
set_option linter.unusedSimpArgs false
set_option linter.unnecessarySimpa false
set_option maxRecDepth 100000

theorem wordL_val : ∀ l : List Int, (∀ b ∈ l, 0 ≤ b ∧ b < 256) → (wordL (l.map fun n => UInt8.ofNat n.toNat) : Int) = valB l
  | [], _ => rfl
  | b :: l, h => by
    have ih := wordL_val l fun c hc => h c (List.mem_cons_of_mem b hc)
    obtain ⟨h0, h1⟩ := h b List.mem_cons_self
    simp only [List.map_cons, wordL, valB, UInt8.toNat_ofNat']
    rw [← ih]
    omega
theorem u64_addr (x : Int) : 0 ≤ x ∧ x < 18446744073709551616 → 0 ≤ x := fun h => h.1
section
variable {w : World} {a b mb pb : Nat} {q off : Nat → Nat} {bb tb : Nat} {BB TB : List Value} {st : List Pt} (h : MA w a b mb pb q off bb tb BB TB st) {i : Nat} {p : Pt} (hi : st[i]? = some p)
include h hi
theorem MA.byte {j : Nat} {x : Int} (hj : p.bs[j]? = some x) : w.cell? ⟨bb, off i + j, none⟩ = some (.int .u8 x) := h.hB.cell ((h.sB i p hi).1 j _ (u8c_get hj))
theorem MA.taint {j : Nat} {x : Bool} (hj : p.ts[j]? = some x) : w.cell? ⟨tb, off i + j, none⟩ = some (.bool x) := h.hT.cell ((h.sT i p hi).1 j _ (boc_get hj))
theorem MA.bytesAt (k n : Nat) : CellsAt w ⟨bb, off i + k, none⟩ 0 (((p.bs.drop k).take n).map (Value.int .u8)) := by
  refine CellsAt_of_get fun j u hj => ?_
  rw [List.getElem?_map, Option.map_eq_some_iff] at hj
  obtain ⟨x, hx, rfl⟩ := hj
  rw [List.getElem?_take] at hx
  split at hx
  · rw [List.getElem?_drop] at hx
    rw [add_block, Nat.zero_add, Nat.add_assoc]
    exact h.byte hi hx
  · cases hx
/-- A stretch's text. -/
theorem MA.text {k n : Nat} (hk : k + n ≤ p.r.s.toNat) {K : Value → World → Prop} {c : Nat} (hK : K (.string (strOf ((p.bs.drop k).take n))) w) :
    RunsV Try.prog (convert 60 9 (.slice (if k + n = k then some ⟨bb, off i, none⟩ else some ⟨bb, off i + k, none⟩) n c)) w K := by
  have lb := (h.len hi).1
  have hlen : n = ((p.bs.drop k).take n).length := by rw [List.length_take, List.length_drop]; omega
  by_cases hn : n = 0
  · subst hn
    rw [if_pos (by omega)]
    refine runs_bytes_string (e := 5) (by kernel_rfl) (by kernel_rfl) (by kernel_rfl) hlen ?_ hK
    rw [List.take_zero]
    trivial
  · rw [if_neg (by omega)]
    exact runs_bytes_string (e := 5) (by kernel_rfl) (by kernel_rfl) (by kernel_rfl) hlen (h.bytesAt hi k n) hK
end
theorem b8_part {p : Pt} (hp : PtOk p) (k n : Nat) : ∀ b ∈ (p.bs.drop k).take n, 0 ≤ b ∧ b < 256 := fun b hb => hp.b8 b (List.mem_of_mem_drop (List.mem_of_mem_take hb))
theorem part_len {p : Pt} (hp : PtOk p) {k n : Nat} (h : k + n ≤ p.r.s.toNat) : ((p.bs.drop k).take n).length = n := by
  rw [List.length_take, List.length_drop, hp.bl]
  omega
/-- The number of a stretch's text. -/
theorem word_part {p : Pt} (hp : PtOk p) {k n : Nat} (h : k + n ≤ p.r.s.toNat) (hn : 1 ≤ n ∧ n ≤ 8) (w : World) : Calls Try.prog word_Word.N #[.string (strOf ((p.bs.drop k).take n))] w (Gives (.tuple #[u64v (valB ((p.bs.drop k).take n)), i64v 0]) w) := by
  have hl := part_len hp h
  have hs : (strOf ((p.bs.drop k).take n)).size = n := by rw [strOf_size, hl]
  refine (word_Word_ok _ (by omega) w).mono fun e w' ⟨he, hl'⟩ => ⟨?_, hl'⟩
  rw [he, if_pos (by omega)]
  have : ((wordL (strOf ((p.bs.drop k).take n)).data.toList : Nat) : Int) = valB ((p.bs.drop k).take n) := by
    rw [← wordL_val _ (b8_part hp k n)]
    unfold strOf
    rw [List.toList_toArray]
  rw [this]
theorem any_step {l : List Bool} {j : Nat} {x : Bool} (h : l[j]? = some x) : (l.take (j + 1)).any id = ((l.take j).any id || x) := by
  rw [List.take_add_one, h]
  simp
theorem drop_get {α : Type} {l : List α} {k j n : Nat} {x : α} (h : ((l.drop k).take n)[j]? = some x) : l[k + j]? = some x := by
  rw [List.getElem?_take] at h
  split at h
  · rwa [List.getElem?_drop] at h
  · cases h
set_option maxHeartbeats 1600000 in
theorem mem_Load_ok {a b mb : Nat} {st : List Pt} (hne : 0 < st.length) {x n : Int} (hx : 0 ≤ x ∧ x < 18446744073709551616) {w : World} (hM : MemAt w a b mb st) :
    Calls Try.prog sacristy_mem_Mem_Load.N #[.pointer (some ⟨mb, 0, none⟩), u64v x, i64v n] w (Gives (.tuple #[u64v (loadM st x n).1, .bool (loadM st x n).2.1, i64v (loadM st x n).2.2]) w) := by
  obtain ⟨pb, q, off, bb, tb, BB, TB, h⟩ := hM
  refine sacristy_mem_Mem_Load.calls ?_
  unfold sacristy_mem_Mem_Load.vc
  refine (mem_right_ok _ n w).mono fun e w1 ⟨he, e1⟩ => ⟨_, he, ?_⟩
  subst e1
  by_cases hn : n < 1 ∨ 8 < n
  · rw [if_pos hn]
    refine cnd_true rfl ⟨?_, Later.refl _⟩
    rw [loadM, if_pos hn]
  rw [if_neg hn]
  refine cnd_false rfl ((mem_in_ok (n := n) hne hx h).mono fun e w2 ⟨he, g2⟩ => ?_)
  have h2 := h.later g2
  have eL : loadM st x n = match findM st x n with
    | none => (0, false, 40)
    | some (_, p) => if p.r.k = 1 then (0, false, 40) else (valB ((p.bs.drop (offR p x)).take n.toNat), ((p.ts.drop (offR p x)).take n.toNat).any id, 0) := by rw [loadM, if_neg hn]; rfl
  cases hf : findM st x n with
  | none =>
    rw [inV_none hf] at he
    rw [hf] at eL
    rw [eL]
    exact ⟨_, _, he, _, ptr_nil (by kernel_rfl) _ _ _, cnd_true rfl ⟨rfl, g2⟩⟩
  | some y =>
    obtain ⟨i, p⟩ := y
    rw [inV_some hf] at he
    rw [hf] at eL
    simp only at eL
    obtain ⟨hi, hh⟩ := findM_get hf
    have hp := h.ok.2 i p hi
    obtain ⟨f1, f2, f3, f4⟩ := hasR_facts hp hh
    have m := mayR_facts hp.may
    have hn64 : n % 18446744073709551616 = n := by omega
    rw [hn64] at f4
    have hk : offR p x + n.toNat ≤ p.r.s.toNat := by omega
    have hq := h2.pt i p hi
    obtain ⟨lb, lt⟩ := h.len hi
    refine ⟨_, _, he, _, ptr_nil (by kernel_rfl) _ _ _, cnd_false rfl (Deref_some rfl ⟨_, hq.cell (i := 2) rfl, cnd_of (fun hk1 => ⟨?_, g2⟩) fun hk1 => Deref_some rfl ⟨_, _, _, hq.cell (i := 4) rfl, ?_⟩⟩)⟩
    · rw [eL, if_pos (by simpa using hk1)]
    have hk1 : ¬ p.r.k = 1 := by simpa using hk1
    rw [if_neg hk1] at eL
    have hw : IntKind.i64.wrap ((offR p x : Int) + n) = ((offR p x + n.toNat : Nat) : Int) := by rw [i64_in (by omega) (by omega)]; omega
    rw [hw, Int.toNat_natCast, Int.toNat_natCast, reslice_at (by omega), show offR p x + n.toNat - offR p x = n.toNat by omega, if_neg (by omega)]
    refine ⟨by omega, by omega, by omega, ?_⟩
    have lts : ((p.ts.drop (offR p x)).take n.toNat).length = n.toNat := by rw [List.length_take, List.length_drop]; omega
    refine ⟨fun vs w' => ∃ j : Nat, j ≤ n.toNat ∧ vs = [.bool ((((p.ts.drop (offR p x)).take n.toNat).take j).any id), i64v j] ∧ w' = w2, fun vs _ => match vs with | [_, .int _ m] => n.toNat - m.toNat | _ => 0, ⟨0, by omega, by simp, rfl⟩, ?_⟩
    rintro g taint s50 w3 ⟨j, hj, hs', rfl⟩
    simp only [List.cons.injEq, Value.int.injEq, Value.bool.injEq, true_and, and_true] at hs'
    obtain ⟨rfl, rfl⟩ := hs'
    refine cnd_of (fun hlt => ?_) fun hge => ?_
    · have hlt : j < n.toNat := by simp only [decide_eq_true_eq] at hlt; omega
      have hg := List.getElem?_eq_getElem (l := (p.ts.drop (offR p x)).take n.toNat) (i := j) (by omega)
      generalize ((p.ts.drop (offR p x)).take n.toNat)[j] = t at hg
      have hst := any_step hg
      refine ⟨by omega, Deref_some rfl ⟨t, ?_, ?_⟩⟩
      · rw [add_block, Int.toNat_natCast, show off i + offR p x + j * 1 = off i + (offR p x + j) by omega]
        exact h2.taint hi (drop_get hg)
      have hw3 : IntKind.i64.wrap ((j : Int) + 1) = ((j + 1 : Nat) : Int) := by rw [i64_in (by omega) (by omega)]; omega
      rw [hw3]
      have dec : n.toNat - ((j + 1 : Nat) : Int).toNat < n.toNat - ((j : Nat) : Int).toNat := by omega
      refine cnd_of (fun ht => ⟨⟨j + 1, by omega, ?_, rfl⟩, dec⟩) fun ht => ⟨⟨j + 1, by omega, ?_, rfl⟩, dec⟩
      · rw [hst, ht]
        rfl
      · rw [hst, ht]
        rfl
    · have : j = n.toNat := by simp only [decide_eq_false_iff_not] at hge; omega
      subst this
      rw [List.take_of_length_le (by omega)]
      refine Deref_some rfl ⟨_, _, _, hq.cell (i := 3) rfl, by omega, by omega, by omega, ?_⟩
      rw [reslice_at (by omega)]
      refine h2.text hi hk ⟨_, rfl, ?_⟩
      refine (word_part hp hk (by omega) _).mono fun e w4 ⟨he, g4⟩ => ⟨_, _, he, ?_, g2.trans g4⟩
      rw [eL]
/-- What a writing call leaves. -/
def Wrote (v : Value) (w : World) (a b mb : Nat) (st : List Pt) (e : Ending) (w' : World) : Prop := e = .returned v ∧ Kept a b w w' ∧ MemAt w' a b mb st
theorem LayR.wrote {w w1 w' : World} {a b mb pb : Nat} {q off : Nat → Nat} {bb tb : Nat} {BB TB : List Value} {st st' : List Pt} (h : MA w a b mb pb q off bb tb BB TB st) (g : Later w w1) (hl : LayR w1 a b mb pb q off bb tb st' w') (v : Value) : Wrote v w a b mb st' (.returned v) w' := by
  obtain ⟨h1, BB', TB', h2⟩ := hl
  refine ⟨rfl, (g.kept a b).trans (h1.kept fun k hk => ?_), _, _, _, _, _, _, _, h2⟩
  rcases hk with rfl | rfl
  · exact h.rB
  · exact h.rT
theorem strB_bytesOf (v : Int) (n : Nat) : strB (bytesOf v n) = lowB v n := strB_strOf (lowB_b8 v n)
set_option maxHeartbeats 1600000 in
theorem mem_Store_ok {a b mb : Nat} {st : List Pt} (hne : 0 < st.length) {x n v : Int} {t : Bool} (hx : 0 ≤ x ∧ x < 18446744073709551616) (hv : 0 ≤ v ∧ v < 18446744073709551616) {w : World} (hM : MemAt w a b mb st) :
    Calls Try.prog sacristy_mem_Mem_Store.N #[.pointer (some ⟨mb, 0, none⟩), u64v x, i64v n, u64v v, .bool t] w (Wrote (i64v (storeM st x n v t).2) w a b mb (storeM st x n v t).1) := by
  have hM' := hM
  obtain ⟨pb, q, off, bb, tb, BB, TB, h⟩ := hM
  refine sacristy_mem_Mem_Store.calls ?_
  unfold sacristy_mem_Mem_Store.vc
  refine (mem_right_ok _ n w).mono fun e w1 ⟨he, e1⟩ => ⟨_, he, ?_⟩
  subst e1
  by_cases hn : n < 1 ∨ 8 < n
  · rw [if_pos hn]
    refine cnd_true rfl ?_
    rw [storeM, if_pos hn]
    exact ⟨rfl, Kept.refl _ _ _, hM'⟩
  rw [if_neg hn]
  refine cnd_false rfl ((mem_in_ok (n := n) hne hx h).mono fun e w2 ⟨he, g2⟩ => ?_)
  have h2 := h.later g2
  have eL : storeM st x n v t = match findM st x n with
    | none => (st, 40)
    | some (i, p) => if p.r.k = 3 ∨ p.r.k = 4 then (layM st i p (offR p x) (lowB v n.toNat) t, 0) else (st, 40) := by rw [storeM, if_neg hn]; rfl
  cases hf : findM st x n with
  | none =>
    rw [inV_none hf] at he
    rw [hf] at eL
    rw [eL]
    exact ⟨_, _, he, _, ptr_nil (by kernel_rfl) _ _ _, cnd_true rfl ⟨rfl, g2.kept _ _, hM'.later g2⟩⟩
  | some y =>
    obtain ⟨i, p⟩ := y
    rw [inV_some hf] at he
    rw [hf] at eL
    simp only at eL
    obtain ⟨hi, hh⟩ := findM_get hf
    have hp := h.ok.2 i p hi
    obtain ⟨f1, f2, f3, f4⟩ := hasR_facts hp hh
    have hn64 : n % 18446744073709551616 = n := by omega
    rw [hn64] at f4
    have hk : offR p x + n.toNat ≤ p.r.s.toNat := by omega
    have hq := h2.pt i p hi
    have write : p.r.k = 3 ∨ p.r.k = 4 → Calls Try.prog word_Bytes.N #[u64v v, i64v n] w2 fun e w' => ∃ (s : ByteArray) (n_3 : Int), e = .returned (.tuple #[.string s, .int .i64 n_3]) ∧
        Calls Try.prog sacristy_mem_part_lay.N #[.pointer (some ⟨q i, 0, none⟩), i64v (offR p x : Int), .string s, .bool t] w' fun e w' => e = .returned (.tuple #[]) ∧ Wrote (i64v (storeM st x n v t).2) w1 a b mb (storeM st x n v t).1 (.returned (i64v 0)) w' := by
      intro hk34
      rw [eL, if_pos hk34]
      refine (word_Bytes_ok v n hv.1 hv.2 w2).mono fun e w3 ⟨he, g3⟩ => ?_
      rw [if_pos (by omega)] at he
      refine ⟨_, _, he, ?_⟩
      have hsz : (bytesOf v n.toNat).size = n.toNat := by rw [← strB_length, strB_bytesOf, lowB_length]
      refine (mem_lay_ok (h2.later g3) hi (s := bytesOf v n.toNat) (by rw [hsz]; exact hk) t).mono fun e w4 ⟨he, hl⟩ => ⟨he, ?_⟩
      rw [strB_bytesOf] at hl
      exact LayR.wrote h (g2.trans g3) hl _
    refine ⟨_, _, he, _, ptr_nil (by kernel_rfl) _ _ _, cnd_false rfl (Deref_some rfl ⟨_, hq.cell (i := 2) rfl, cnd_of (fun hk3 => Deref_some rfl ⟨_, hq.cell (i := 2) rfl, cnd_of (fun hk4 => ?_) fun hk4 => ?_⟩) fun hk3 => ?_⟩)⟩
    · have h3 : ¬ p.r.k = 3 := by simpa using hk3
      have h4 : ¬ p.r.k = 4 := by simpa using hk4
      rw [if_neg (by omega)] at eL
      rw [eL]
      exact ⟨rfl, g2.kept _ _, hM'.later g2⟩
    · exact write (.inr (by simpa using hk4))
    · exact write (.inl (by simpa using hk3))
theorem val4_lt {l : List Int} (h : ∀ b ∈ l, 0 ≤ b ∧ b < 256) (hl : l.length = 4) : 0 ≤ valB l ∧ valB l < 4294967296 := by
  match l, hl with
  | [a, b, c, d], _ =>
    have h1 := h a (by simp)
    have h2 := h b (by simp)
    have h3 := h c (by simp)
    have h4 := h d (by simp)
    simp only [valB]
    omega
set_option maxHeartbeats 1600000 in
theorem mem_Fetch_ok {a b mb : Nat} {st : List Pt} (hne : 0 < st.length) {x : Int} (hx : 0 ≤ x ∧ x < 18446744073709551616) {w : World} (hM : MemAt w a b mb st) :
    Calls Try.prog sacristy_mem_Mem_Fetch.N #[.pointer (some ⟨mb, 0, none⟩), u64v x] w (Gives (.tuple #[.int .u32 (fetchM st x).1, i64v (fetchM st x).2]) w) := by
  obtain ⟨pb, q, off, bb, tb, BB, TB, h⟩ := hM
  refine sacristy_mem_Mem_Fetch.calls ?_
  unfold sacristy_mem_Mem_Fetch.vc
  refine ⟨_, ptr_nil (by kernel_rfl) _ _ _, cnd_false rfl (cnd_of (fun h4 => ?_) fun h4 => ?_)⟩
  · rw [tmod_nn _ hx.1] at h4
    have : ¬ x % 4 = 0 := by simpa using h4
    rw [fetchM, if_neg this]
    exact ⟨rfl, Later.refl _⟩
  rw [tmod_nn _ hx.1] at h4
  have h4 : x % 4 = 0 := by simpa using h4
  refine (mem_in_ok (n := 4) hne hx h).mono fun e w2 ⟨he, g2⟩ => ?_
  have h2 := h.later g2
  have eL : fetchM st x = match findM st x 4 with
    | none => (0, 40)
    | some (_, p) => if p.r.k = 1 then (valB ((p.bs.drop (offR p x)).take 4), 0) else (0, 40) := by rw [fetchM, if_pos h4]; rfl
  cases hf : findM st x 4 with
  | none =>
    rw [inV_none hf] at he
    rw [hf] at eL
    rw [eL]
    exact ⟨_, _, he, _, ptr_nil (by kernel_rfl) _ _ _, cnd_true rfl ⟨rfl, g2⟩⟩
  | some y =>
    obtain ⟨i, p⟩ := y
    rw [inV_some hf] at he
    rw [hf] at eL
    simp only at eL
    obtain ⟨hi, hh⟩ := findM_get hf
    have hp := h.ok.2 i p hi
    obtain ⟨f1, f2, f3, f4⟩ := hasR_facts hp hh
    have m := mayR_facts hp.may
    have hk : offR p x + 4 ≤ p.r.s.toNat := by omega
    have hq := h2.pt i p hi
    obtain ⟨lb, lt⟩ := h.len hi
    refine ⟨_, _, he, _, ptr_nil (by kernel_rfl) _ _ _, cnd_false rfl (Deref_some rfl ⟨_, hq.cell (i := 2) rfl, cnd_of (fun hk1 => ⟨?_, g2⟩) fun hk1 => Deref_some rfl ⟨_, _, _, hq.cell (i := 3) rfl, ?_⟩⟩)⟩
    · rw [eL, if_neg (by simpa using hk1)]
    have hk1 : p.r.k = 1 := by simpa using hk1
    rw [if_pos hk1] at eL
    have hw : IntKind.i64.wrap ((offR p x : Int) + 4) = ((offR p x + 4 : Nat) : Int) := by rw [i64_in (by omega) (by omega)]; omega
    rw [hw, Int.toNat_natCast, Int.toNat_natCast, reslice_at (by omega), show offR p x + 4 - offR p x = 4 by omega]
    refine ⟨by omega, by omega, by omega, h2.text hi hk ⟨_, rfl, ?_⟩⟩
    refine (word_part hp hk (by omega) _).mono fun e w4 ⟨he, g4⟩ => ⟨_, _, he, ?_, g2.trans g4⟩
    obtain ⟨v0, v1⟩ := val4_lt (b8_part hp (offR p x) 4) (part_len hp hk)
    rw [eL, u32_in v0 v1]
theorem mem_Set_ok {a b mb : Nat} {st : List Pt} (hne : 0 < st.length) {x : Int} {s : ByteArray} (hs : s.size < 9223372036854775808) {t : Bool} (hx : 0 ≤ x ∧ x < 18446744073709551616) {w : World} (hM : MemAt w a b mb st) :
    Calls Try.prog sacristy_mem_Mem_Set.N #[.pointer (some ⟨mb, 0, none⟩), u64v x, .string s, .bool t] w (Wrote (i64v (setM st x (strB s) t).2) w a b mb (setM st x (strB s) t).1) := by
  have hM' := hM
  obtain ⟨pb, q, off, bb, tb, BB, TB, h⟩ := hM
  refine sacristy_mem_Mem_Set.calls ?_
  unfold sacristy_mem_Mem_Set.vc
  refine ⟨_, ptr_nil (by kernel_rfl) _ _ _, cnd_false rfl ((mem_in_ok (n := (s.size : Int)) hne hx h).mono fun e w2 ⟨he, g2⟩ => ?_)⟩
  have h2 := h.later g2
  have eL : setM st x (strB s) t = match findM st x (s.size : Int) with
    | none => (st, 40)
    | some (i, p) => (layM st i p (offR p x) (strB s) t, 0) := by rw [setM, strB_length]; rfl
  cases hf : findM st x (s.size : Int) with
  | none =>
    rw [inV_none hf] at he
    rw [hf] at eL
    rw [eL]
    exact ⟨_, _, he, _, ptr_nil (by kernel_rfl) _ _ _, cnd_true rfl ⟨rfl, g2.kept _ _, hM'.later g2⟩⟩
  | some y =>
    obtain ⟨i, p⟩ := y
    rw [inV_some hf] at he
    rw [hf] at eL
    simp only at eL
    obtain ⟨hi, hh⟩ := findM_get hf
    have hp := h.ok.2 i p hi
    obtain ⟨f1, f2, f3, f4⟩ := hasR_facts hp hh
    have hk : offR p x + s.size ≤ p.r.s.toNat := by omega
    refine ⟨_, _, he, _, ptr_nil (by kernel_rfl) _ _ _, cnd_false rfl ?_⟩
    refine (mem_lay_ok h2 hi hk t).mono fun e w4 ⟨he, hl⟩ => ⟨he, ?_⟩
    rw [eL]
    exact LayR.wrote h g2 hl _
end Go.Proofs.Ytngkifnknlginaa
