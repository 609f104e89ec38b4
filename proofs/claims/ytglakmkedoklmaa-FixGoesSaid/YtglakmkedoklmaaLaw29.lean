/-
What the chapter's first law comes to, once called: true, and nothing old is turned.
Conditions: each number is of its kind.
-/
import Derived.Test.YtglakmkedoklmaaVlaw29
import Derived.Test.YtglakmkedoklmaaFixT
import Derived.Test.YtglakmkedoklmaaVcKRow
namespace Go.Proofs.Ytglakmkedoklmaa
open Go Go.Vc Go.RowKit
set_option linter.unusedVariables false
set_option linter.unusedSimpArgs false
set_option maxRecDepth 100000

theorem linRow : RowTy Try.prog 22 37 7 32 := RowTy.of (.agg #[i64v 0, u8v 0, u8v 0, u8v 0, u8v 0, i64v 0, i64v 0]) (by kernel_rfl) (by kernel_rfl) rfl (by decide)
theorem eq_lin (F G : Nat → Nat → Int) (i j : Nat) (xo yo : Operand) : EqRuns Try.prog .neq 37 xo yo (.agg (lineCells F i).toArray) (.agg (lineCells G j).toArray) (!eqL (lineCells F i) (lineCells G j)) :=
  (eq_flat2 (P := Try.prog) (vs := lineCells F i) (us := lineCells G j) xo yo Try.underlying37 (by kernel_rfl) (by kernel_rfl) (by kernel_rfl)).2
theorem eqL_refl_lin (F : Nat → Nat → Int) (i : Nat) : eqL (lineCells F i) (lineCells F i) = true := by simp [eqL, eq1]

/-! ### a branch over so many instructions -/
def manyF (m i j : Nat) : Int :=
  if i = 0 then (match j with | 0 => -1 | 1 => 28 | 6 => 1 | _ => 0)
  else if i = m + 1 then (match j with | 0 => 1 | 1 => 34 | 6 => -1 | _ => 0)
  else (match j with | 0 => -1 | 1 => 34 | 6 => -1 | _ => 0)
theorem many_0 (m j : Nat) : manyF m 0 j = (match j with | 0 => -1 | 1 => 28 | 6 => 1 | _ => 0) := by unfold manyF; rw [if_pos rfl]
theorem many_last (m j : Nat) : manyF m (m + 1) j = (match j with | 0 => 1 | 1 => 34 | 6 => -1 | _ => 0) := by unfold manyF; rw [if_neg (by omega), if_pos rfl]
theorem many_mid {m i : Nat} (j : Nat) (h0 : i ≠ 0) (h1 : i ≠ m + 1) : manyF m i j = (match j with | 0 => -1 | 1 => 34 | 6 => -1 | _ => 0) := by unfold manyF; rw [if_neg h0, if_neg h1]
theorem many_wf (m i : Nat) : ∀ j k, linK[j]? = some k → (Lit.int k (manyF m i j)).wf = true := by
  intro j k hj
  have h7 : j < 7 := (List.getElem?_eq_some_iff.1 hj).1
  have : j = 0 ∨ j = 1 ∨ j = 2 ∨ j = 3 ∨ j = 4 ∨ j = 5 ∨ j = 6 := by omega
  by_cases h0 : i = 0
  · subst h0
    rw [many_0]
    rcases this with rfl | rfl | rfl | rfl | rfl | rfl | rfl <;> obtain rfl := Option.some.inj hj <;> decide
  · by_cases h1 : i = m + 1
    · subst h1
      rw [many_last]
      rcases this with rfl | rfl | rfl | rfl | rfl | rfl | rfl <;> obtain rfl := Option.some.inj hj <;> decide
    · rw [many_mid j h0 h1]
      rcases this with rfl | rfl | rfl | rfl | rfl | rfl | rfl <;> obtain rfl := Option.some.inj hj <;> decide
theorem law29_many_ok (m : Nat) (hm : m ≤ 2000) (w : World) : Calls Try.prog law29_many.N #[i64v m] w (fun e w' => Later w w' ∧ ∃ p c, e = .returned (.slice p (m + 2) c) ∧ IntRow w' p (m + 2) linK (manyF m)) := by
  refine law29_many.calls ?_
  unfold law29_many.vc
  intro w1 e1
  have one : ∀ i, kOne linK (manyF m) i = lineCells (manyF m) i := fun i => rfl
  have hk0 : lineCells (manyF m) 0 = [i64v (-1), u8v 28, u8v 0, u8v 0, u8v 0, i64v 0, i64v 1] := by simp only [lineCells, many_0]
  have o1 : OwnS w w1 37 7 (.slice (some ⟨w.heap.size, 0, none⟩) 1 1) 1 (kC linK (manyF m) 1) := by
    have := own_made (w0 := w) (cs := [i64v (-1), u8v 28, u8v 0, u8v 0, u8v 0, i64v 0, i64v 1]) (size := 7) (Later.refl w) e1 rfl
    rw [kC, kC, one, hk0]; exact this
  refine ⟨fun vs w' => ∃ (k : Nat) (p : Option Addr) (c : Nat), vs = [.slice p (k + 1) c, .int .i64 k] ∧ k ≤ m ∧ OwnS w w' 37 7 (.slice p (k + 1) c) (k + 1) (kC linK (manyF m) (k + 1)) ∧ Later w w', fun vs _ => match vs with | [_, .int _ k] => (m - k.toNat) | _ => 0,
    ⟨0, _, _, rfl, Nat.zero_le _, o1, e1 ▸ Later.alloc' w _⟩, ?_⟩
  rintro g p _ c _ w2 ⟨k, _, _, hs, hk, ho, l2⟩
  simp only [List.cons.injEq, Value.int.injEq, Value.slice.injEq, true_and, and_true] at hs
  obtain ⟨⟨rfl, rfl, rfl⟩, rfl⟩ := hs
  refine cnd_of (fun hlt => ?_) (fun hlt => ?_)
  · have hlt := of_decide_eq_true hlt
    intro w3 e3
    subst e3
    refine RunsV_append 22 linRow (ho.alloc _) (l2.alloc _) (m := 1) (news := [i64v (-1), u8v 34, u8v 0, u8v 0, u8v 0, i64v 0, i64v (-1)]) rfl (CellsAt_new' w2 _ _ _) (ones rfl) (by unfold maxLen; omega) (by omega) ?_
    intro p' pn pc w' ho' hl' _
    obtain rfl := ho'.len
    refine ⟨_, _, _, rfl, ?_⟩
    rw [i64_in (by omega) (by omega)]
    refine ⟨⟨k + 1, _, _, rfl, by omega, ?_, hl'⟩, by simp only; omega⟩
    rw [kC, one]
    have : lineCells (manyF m) (k + 1) = [i64v (-1), u8v 34, u8v 0, u8v 0, u8v 0, i64v 0, i64v (-1)] := by
      simp only [lineCells, many_mid _ (show k + 1 ≠ 0 by omega) (show k + 1 ≠ m + 1 by omega)]
    rw [this]; exact ho'
  · have hlt := of_decide_eq_false hlt
    obtain rfl : k = m := by omega
    intro w3 e3
    subst e3
    refine RunsV_append 22 linRow (ho.alloc _) (l2.alloc _) (m := 1) (news := [i64v 1, u8v 34, u8v 0, u8v 0, u8v 0, i64v 0, i64v (-1)]) rfl (CellsAt_new' w2 _ _ _) (ones rfl) (by unfold maxLen; omega) (by omega) ?_
    intro p' pn pc w' ho' hl' _
    obtain rfl := ho'.len
    refine ⟨_, _, _, rfl, hl', _, _, rfl, ?_⟩
    have hx : OwnS w w' 37 7 (.slice p' (k + 1 + 1) pc) (k + 1 + 1) (kC linK (manyF k) (k + 1 + 1)) := by
      rw [kC, one]
      have : lineCells (manyF k) (k + 1) = [i64v 1, u8v 34, u8v 0, u8v 0, u8v 0, i64v 0, i64v (-1)] := by
        simp only [lineCells, many_last]
      rw [this]; exact ho'
    exact own_krow (ks := linK) hx (fun i _ => many_wf k i)
theorem many_valid (m : Nat) (hm : m ≤ 2000) : valid (manyF m) (m + 2) := by
  have e28 : (encv 28 0 0 0 0).isSome = true := by kernel_rfl
  have e34 : (encv 34 0 0 0 0).isSome = true := by kernel_rfl
  have first1 : ∀ k, k ≤ m + 1 → firstAt (manyF m) 1 k = none := by
    intro k hk
    refine firstAt_none.2 fun j hj => ?_
    by_cases h0 : j = 0
    · subst h0; rw [many_0]; decide
    · rw [many_mid _ h0 (by omega)]; decide
  intro i hi
  by_cases h0 : i = 0
  · subst h0
    refine ⟨⟨?_, by rw [many_0]; decide, by rw [many_0]; decide, fun h => by rw [many_0] at h; exact absurd h (by decide), fun _ => ⟨by rw [many_0]; decide, by rw [many_0]; decide, by rw [many_0]; rfl⟩⟩, fun _ => ?_⟩
    · unfold encL; simp only [many_0]; exact e28
    · rw [many_0]
      simp only
      rw [firstAt_of (i := m + 1) (by rw [many_last]; rfl) (first1 _ (Nat.le_refl _)) _ (by omega)]; rfl
  · by_cases h1 : i = m + 1
    · subst h1
      refine ⟨⟨?_, by rw [many_last]; decide, by rw [many_last]; decide, fun h => ?_, fun h => by rw [many_last] at h; exact absurd h (by decide)⟩, fun h => by rw [many_last] at h; exact absurd h (by decide)⟩
      · unfold encL; simp only [many_last]; exact e34
      · rw [many_last]
        exact first1 _ (Nat.le_refl _)
    · refine ⟨⟨?_, by rw [many_mid _ h0 h1]; decide, by rw [many_mid _ h0 h1]; decide, fun h => by rw [many_mid _ h0 h1] at h; exact absurd h (by decide), fun h => by rw [many_mid _ h0 h1] at h; exact absurd h (by decide)⟩, fun h => by rw [many_mid _ h0 h1] at h; exact absurd h (by decide)⟩
      unfold encL; simp only [many_mid _ h0 h1]; exact e34
theorem many_tgt (m : Nat) : tgt (manyF m) (m + 2) 0 = ((m + 1 : Nat) : Int) := by
  have first1 : firstAt (manyF m) 1 (m + 1) = none := by
    refine firstAt_none.2 fun j hj => ?_
    by_cases h0 : j = 0
    · subst h0; rw [many_0]; decide
    · rw [many_mid _ h0 (by omega)]; decide
  unfold tgt
  rw [many_0]
  simp only
  rw [if_neg (by decide), firstAt_of (i := m + 1) (by rw [many_last]; rfl) first1 _ (by omega)]
  rfl
theorem many_rest {m k i : Nat} (h : i ≠ 0) : iterL (manyF m) (m + 2) k i = false := by
  cases hi : iterL (manyF m) (m + 2) k i with
  | false => rfl
  | true =>
    have := (iter_tgt hi).1
    by_cases h1 : i = m + 1
    · subst h1; rw [many_last] at this; exact absurd this (by decide)
    · rw [many_mid _ h h1] at this; exact absurd this (by decide)
theorem plc_zero {L : Nat → Bool} (h : ∀ i, i ≠ 0 → L i = false) : ∀ j : Nat, plc L (j + 1) = 4 * (j + 1 : Nat) + if L 0 then 4 else 0
  | 0 => by rw [plc, plc]; split <;> rfl
  | j + 1 => by
    rw [plc, plc_zero h j, h (j + 1) (by omega)]
    split <;> simp <;> omega
theorem many_way {m : Nat} {L : Nat → Bool} (h : ∀ i, i ≠ 0 → L i = false) : wayL (manyF m) (m + 2) L 0 = 4 * (m + 1 : Nat) + if L 0 then 4 else 0 := by
  unfold wayL
  rw [many_tgt, show (((m + 1 : Nat) : Int)).toNat = m + 1 from rfl, plc_zero h, plc]
  omega
theorem many_longer {m : Nat} {L : Nat → Bool} (h : ∀ i, i ≠ 0 → L i = false) (h0 : L 0 = false) : longer (manyF m) (m + 2) L 0 = decide ((4 * (m + 1 : Nat) : Int) > 4094) := by
  unfold longer
  rw [many_way h, h0, many_0, many_0]
  simp only [Bool.false_eq_true, if_false, Int.add_zero]
  have : decide ((4 * (m + 1 : Nat) : Int) < -4096) = false := decide_eq_false (by omega)
  rw [this]
  simp
theorem many_fin {m : Nat} {L : Nat → Bool} (h : isFin (manyF m) (m + 2) L) : (∀ i, i ≠ 0 → L i = false) ∧ L 0 = decide ((4 * (m + 1 : Nat) : Int) > 4094) := by
  obtain ⟨⟨k, rfl⟩, ha⟩ := h
  have hr : ∀ k i, i ≠ 0 → iterL (manyF m) (m + 2) k i = false := fun k i hi => many_rest hi
  refine ⟨hr k, ?_⟩
  have up : ∀ k, iterL (manyF m) (m + 2) k 0 = true → decide ((4 * (m + 1 : Nat) : Int) > 4094) = true := by
    intro k
    induction k with
    | zero => intro h; simp [iterL] at h
    | succ k ih =>
      intro h
      simp only [iterL, grown, Bool.or_eq_true, Bool.and_eq_true] at h
      rcases h with h | h
      · exact ih h
      · cases hk : iterL (manyF m) (m + 2) k 0 with
        | true => exact ih hk
        | false => rw [← many_longer (hr k) hk]; exact h.2
  cases hk : iterL (manyF m) (m + 2) k 0 with
  | true => exact (up k hk).symm
  | false =>
    have := anyL_false ha 0 (by omega)
    rw [many_longer (hr k) hk] at this
    exact this.symm
theorem outs_front (F : Nat → Nat → Int) (n : Nat) (L : Nat → Bool) {i : Nat} : ∀ k : Nat, i < (outs F n L 1).length → (outs F n L (k + 1))[i]? = (outs F n L 1)[i]?
  | 0, _ => rfl
  | k + 1, h => by
    have ih := outs_front F n L k h
    rw [outs, List.getElem?_append_left]
    · exact ih
    · have := List.getElem?_eq_getElem h
      rw [this] at ih
      exact (List.getElem?_eq_some_iff.1 ih).1
theorem many_outs {m : Nat} {L : Nat → Bool} (h : isFin (manyF m) (m + 2) L) : ((outs (manyF m) (m + 2) L (m + 2)).length : Int) = m + 2 + (if (4 * (m + 1 : Nat) : Int) > 4094 then 1 else 0) ∧
    ∀ i, i < (lineOut (manyF m) (m + 2) L 0).length → (outs (manyF m) (m + 2) L (m + 2))[i]? = (lineOut (manyF m) (m + 2) L 0)[i]? := by
  obtain ⟨h1, h2⟩ := many_fin h
  have hl := outs_length h (m + 2)
  rw [plc_zero h1, h2] at hl
  have e1 : outs (manyF m) (m + 2) L 1 = lineOut (manyF m) (m + 2) L 0 := by rw [outs, outs]; rfl
  refine ⟨?_, fun i hi => ?_⟩
  · simp only [decide_eq_true_eq] at hl
    split at hl <;> rename_i hh <;> simp only [hh, if_true, if_false] <;> omega
  · rw [← e1] at hi ⊢
    exact outs_front _ _ _ (m + 1) hi
theorem many_short {m : Nat} {L : Nat → Bool} (h : isFin (manyF m) (m + 2) L) (hm : 4 * (m + 1) ≤ 4094) : lineOut (manyF m) (m + 2) L 0 = [(28, 0, 0, 0, 4 * ((m : Int) + 1))] := by
  obtain ⟨h1, h2⟩ := many_fin h
  have h0 : L 0 = false := by rw [h2]; exact decide_eq_false (by omega)
  unfold lineOut
  rw [if_neg (by rw [many_0]; decide), if_neg (by rw [h0]; decide), many_way h1, h0]
  simp only [many_0]
  simp
theorem many_long {m : Nat} {L : Nat → Bool} (h : isFin (manyF m) (m + 2) L) (hm : 4094 < 4 * (m + 1)) : lineOut (manyF m) (m + 2) L 0 = [(29, 0, 0, 0, 8), (32, 0, 0, 0, 4 * ((m : Int) + 1))] := by
  obtain ⟨h1, h2⟩ := many_fin h
  have h0 : L 0 = true := by rw [h2]; exact decide_eq_true (by omega)
  unfold lineOut
  rw [if_neg (by rw [many_0]; decide), if_pos h0, many_way h1, h0]
  simp only [many_0, if_true]
  have : (4 * (m + 1 : Nat) : Int) + 4 - 4 = 4 * ((m : Int) + 1) := by omega
  rw [this]; rfl
/-- The first instructions of what was made. -/
theorem code_at {w0 w : World} {b : Option Addr} {bn c : Nat} {l : List I5} (h : OwnS w0 w 35 5 (.slice b bn c) l.length (codeC l)) {i : Nat} {x : I5} (hx : l[i]? = some x) : ∃ ad, b = some ad ∧ CellsAt w (ad.add (i * 5)) 0 (i5c x) := by
  have hi : i < l.length := (List.getElem?_eq_some_iff.1 hx).1
  have ho := own_code h
  cases b with
  | none =>
    obtain ⟨_, h | ⟨g, cap, cur, h2, _⟩⟩ := ho
    · omega
    · cases h2
  | some ad =>
    refine ⟨ad, rfl, CellsAt_of_get fun j u hj => ?_⟩
    have hj5 : j < 5 := (List.getElem?_eq_some_iff.1 hj).1
    have hg := insCells_get (codeF l) l.length i j hi hj5
    have hc : ∀ j, codeF l i j = i5f x j := fun j => by unfold codeF; rw [hx]
    rw [hc, hc, hc, hc, hc] at hg
    rw [show ([u8v (i5f x 0), u8v (i5f x 1), u8v (i5f x 2), u8v (i5f x 3), i64v (i5f x 4)] : List Value) = i5c x from rfl, hj] at hg
    have := CellsAt_get ho.cells _ _ hg
    rw [Nat.zero_add] at this ⊢
    rw [Deep.add_add]; exact this
theorem lone_invalid : ¬ valid (fun _ j => match j with | 0 => -1 | 1 => 32 | 6 => 7 | _ => 0) 1 := by
  intro h
  have := (h 0 (by decide)).2 (by decide)
  exact absurd this (by decide)
theorem many_fix (m : Nat) (hm : m ≤ 2000) {p : Option Addr} {c : Nat} (w : World) (hR : IntRow w p (m + 2) linK (manyF m)) :
    Calls Try.prog fix_Fix.N #[.slice p (m + 2) c] w (fun e w' => Later w w' ∧ ∃ (b : Option Addr) (c : Nat) (l : List I5), e = .returned (pairv (.slice b l.length c) okv) ∧ OwnS w w' 35 5 (.slice b l.length c) l.length (codeC l) ∧
      (4 * (m + 1) ≤ 4094 → (l.length : Int) = m + 2 ∧ l[0]? = some (28, 0, 0, 0, 4 * ((m : Int) + 1))) ∧ (4094 < 4 * (m + 1) → (l.length : Int) = m + 3 ∧ l[0]? = some (29, 0, 0, 0, 8) ∧ l[1]? = some (32, 0, 0, 0, 4 * ((m : Int) + 1)))) := by
  refine (fix_Fix_ok (by omega) w hR).mono fun e w2 ⟨l2, h2⟩ => ⟨l2, ?_⟩
  rcases h2 with ⟨-, L2, b2, d2, f2, he, o2⟩ | ⟨hV, -⟩
  case inr => exact absurd (many_valid m hm) hV
  obtain ⟨n2, g2⟩ := many_outs f2
  refine ⟨_, _, _, he, o2, fun h => ?_, fun h => ?_⟩
  · rw [many_short f2 h] at g2
    refine ⟨?_, g2 0 (by simp)⟩
    rw [n2, if_neg (by omega)]; simp
  · rw [many_long f2 h] at g2
    refine ⟨?_, g2 0 (by simp), g2 1 (by simp)⟩
    rw [n2, if_pos (by omega)]; omega
theorem law29_alive_ok (w : World) : Calls Try.prog law29_alive.N #[] w (Gives (.bool true) w) := by
  refine law29_alive.calls ?_
  unfold law29_alive.vc
  refine (law29_many_ok 1 (by omega) w).mono fun e w1 ⟨l1, p1, c1, he, r1⟩ => ⟨_, _, _, he, ?_⟩
  refine (many_fix 1 (by omega) w1 r1).mono fun e w2 ⟨l2, b2, d2, m2, he, o2, g2, _⟩ => ⟨_, _, _, _, he, ?_⟩
  refine (law29_many_ok 1024 (by omega) w2).mono fun e w3 ⟨l3, p3, c3, he, r3⟩ => ⟨_, _, _, he, ?_⟩
  refine (many_fix 1024 (by omega) w3 r3).mono fun e w4 ⟨l4, b4, d4, m4, he, o4, _, g4⟩ => ⟨_, _, _, _, he, ?_⟩
  refine (law29_many_ok 1022 (by omega) w4).mono fun e w5 ⟨l5, p5, c5, he, r5⟩ => ⟨_, _, _, he, ?_⟩
  refine (many_fix 1022 (by omega) w5 r5).mono fun e w6 ⟨l6, b6, d6, m6, he, o6, g6, _⟩ => ⟨_, _, _, _, he, fun w7 e7 => ?_⟩
  have r7 : IntRow w7 (some ⟨w6.heap.size, 0, none⟩) 1 linK (fun _ j => match j with | 0 => -1 | 1 => 32 | 6 => 7 | _ => 0) := by
    have T7 := (Trk.start w6).alloc e7
    intro i hi
    obtain rfl : i = 0 := by omega
    refine ⟨_, rfl, fun j k hj => ?_⟩
    have h7 : j < 7 := (List.getElem?_eq_some_iff.1 hj).1
    have : j = 0 ∨ j = 1 ∨ j = 2 ∨ j = 3 ∨ j = 4 ∨ j = 5 ∨ j = 6 := by omega
    rw [Nat.zero_mul, add_block, add_block]
    rcases this with rfl | rfl | rfl | rfl | rfl | rfl | rfl <;> obtain rfl := Option.some.inj hj <;> exact ⟨T7.cell 0 rfl rfl, by decide⟩
  have l7 : Later w6 w7 := e7 ▸ Later.alloc' w6 _
  refine (fix_Fix_ok (cap := 1) (by omega) w7 r7).mono fun e w8 ⟨l8, h8⟩ => ?_
  rcases h8 with ⟨hV, -⟩ | ⟨-, he⟩
  · exact absurd hV lone_invalid
  refine ⟨_, _, _, _, he, ?_⟩
  have all : Later w w8 := l1.trans (l2.trans (l3.trans (l4.trans (l5.trans (l6.trans (l7.trans l8))))))
  have o2' := o2.later (l3.trans (l4.trans (l5.trans (l6.trans (l7.trans l8)))))
  have o4' := o4.later (l5.trans (l6.trans (l7.trans l8)))
  have o6' := o6.later (l7.trans l8)
  obtain ⟨n2, g2⟩ := g2 (by omega)
  obtain ⟨n4, g4, g4'⟩ := g4 (by omega)
  obtain ⟨n6, g6⟩ := g6 (by omega)
  obtain ⟨a2, rfl, x2⟩ := code_at o2' g2
  obtain ⟨a4, rfl, x4⟩ := code_at o4' g4
  obtain ⟨a4', e4, y4⟩ := code_at o4' g4'
  obtain rfl := Option.some.inj e4
  obtain ⟨a6, rfl, x6⟩ := code_at o6' g6
  have at' : ∀ {ad : Addr} {i : Nat} {x : I5}, CellsAt w8 (ad.add (i * 5)) 0 (i5c x) → w8.cell? (ad.add (i * 5)) = some (u8v x.1) ∧ w8.cell? ((ad.add (i * 5)).add 1) = some (u8v x.2.1) ∧ w8.cell? ((ad.add (i * 5)).add 2) = some (u8v x.2.2.1) ∧ w8.cell? ((ad.add (i * 5)).add 3) = some (u8v x.2.2.2.1) ∧ w8.cell? ((ad.add (i * 5)).add 4) = some (i64v x.2.2.2.2) ∧ True :=
    fun h => ⟨h.1, h.2.1, h.2.2.1, h.2.2.2.1, h.2.2.2.2.1, trivial⟩
  have q2 := at' x2
  have q4 := at' x4
  have q4' := at' y4
  have q6 := at' x6
  refine cnd_true rfl (cnd_true (by rw [n2]; rfl) ⟨⟨(by decide : (0 : Int) ≤ 0), by omega⟩, Deref_some rfl ⟨_, _, _, _, _, q2, _, (eq_ins _ _ _ _ _ _ _ _ _ _ _ _).1, cnd_true (by decide) ?_⟩⟩)
  refine cnd_true rfl (cnd_true (by rw [n4]; rfl) ⟨⟨(by decide : (0 : Int) ≤ 0), by omega⟩, Deref_some rfl ⟨_, _, _, _, _, q4, _, (eq_ins _ _ _ _ _ _ _ _ _ _ _ _).1, cnd_true (by decide) ⟨⟨(by decide : (0 : Int) ≤ 1), by omega⟩, Deref_some rfl ⟨_, _, _, _, _, q4', _, (eq_ins _ _ _ _ _ _ _ _ _ _ _ _).1, cnd_true (by decide) ?_⟩⟩⟩⟩)
  exact cnd_true rfl (cnd_true (by rw [n6]; rfl) ⟨⟨(by decide : (0 : Int) ≤ 0), by omega⟩, Deref_some rfl ⟨_, q6.2.2.2.2.1, cnd_true (by decide) ⟨rfl, all⟩⟩⟩)
/-- What a law asks at its end. -/
theorem law29_done (w w' : World) (hl : Later w w') : Calls Try.prog law29_alive.N #[] w' (fun e w'' => ∃ b : Bool, e = .returned (.bool b) ∧ Gives (.bool true) w (.returned (.bool b)) w'') :=
  (law29_alive_ok _).mono fun e8 w8 ⟨he, h8⟩ => ⟨_, he, rfl, hl.trans h8⟩
theorem outs_code {F : Nat → Nat → Int} {n : Nat} {L : Nat → Bool} (hn : n ≤ 3000) (hF : ∀ i, i < n → U8 (F i 1) ∧ U8 (F i 2) ∧ U8 (F i 3) ∧ U8 (F i 4) ∧ I64 (F i 5)) : ∀ k, k ≤ n → CodeOk (outs F n L k)
  | 0, _ => by intro x hx; cases hx
  | k + 1, hk => by
    intro x hx
    rw [outs] at hx
    rcases List.mem_append.1 hx with hx | hx
    · exact outs_code hn hF k (by omega) x hx
    · obtain ⟨f1, f2, f3, f4, f5⟩ := hF k (by omega)
      have hw := wayL_range F (show k < n by omega) L
      have z : U8 0 := ⟨by omega, by omega⟩
      unfold lineOut at hx
      split at hx
      · obtain rfl := List.mem_singleton.1 hx
        exact ⟨f1, f2, f3, f4, f5⟩
      · split at hx
        · simp only [List.mem_cons, List.not_mem_nil, or_false] at hx
          rcases hx with rfl | rfl
          · exact ⟨oppv_u8 _, z, f3, f4, ⟨by simp only; omega, by simp only; omega⟩⟩
          · exact ⟨⟨by simp only; omega, by simp only; omega⟩, z, z, z, ⟨by simp only; omega, by simp only; omega⟩⟩
        · obtain rfl := List.mem_singleton.1 hx
          exact ⟨f1, f2, f3, f4, ⟨by simp only; omega, by simp only; omega⟩⟩
theorem row_kinds {w : World} {A : Option Addr} {n : Nat} {F : Nat → Nat → Int} (hR : IntRow w A n linK F) : ∀ i, i < n → U8 (F i 1) ∧ U8 (F i 2) ∧ U8 (F i 3) ∧ U8 (F i 4) ∧ I64 (F i 5) := fun i hi => by
  obtain ⟨ad, _, _, u0, u1, u2, u3, u4, u5, u6⟩ := lin_cells hR hi
  exact ⟨u1, u2, u3, u4, u5⟩
theorem law29_Large_ok (A : Option Addr) (n cap : Nat) (w : World) : Calls Try.prog law29_Large.N #[.slice A n cap] w (Gives (.bool (decide ((n : Int) > 3000))) w) := by
  refine law29_Large.calls ?_
  unfold law29_Large.vc
  exact ⟨rfl, Later.refl _⟩
theorem law29_FixTells_ok (A : Option Addr) (n cap : Nat) (F : Nat → Nat → Int) (hle : n ≤ cap) (w : World) (hR : IntRow w A n linK F) :
    Calls Try.prog law29_FixTells.N #[.slice A n cap] w (Gives (.bool true) w) := by
  refine law29_FixTells.calls ?_
  unfold law29_FixTells.vc
  refine (law29_Large_ok A n cap w).mono fun e w1 ⟨he, l1⟩ => ⟨_, he, cnd_of (fun h => law29_done w _ l1) (fun h => ?_)⟩
  have h := of_decide_eq_false h
  have hn : n ≤ 3000 := by omega
  have R := hR
  have hR := hR.later l1
  refine copy_krow linRow (by unfold maxLen; omega) (by omega) hR fun b c w2 hb l2 => ⟨_, _, _, rfl, ?_⟩
  refine (fix_Fix_ok hn w2 hb).mono fun e w3 ⟨l3, h3⟩ => ?_
  have r3 := fun w' (h' : Later w2 w') => fix_Places_ok (cap := c) hn w' (hb.later h')
  have r4 := fun w' (h' : Later w1 w') => ref29_Fix_ok (cap := cap) hn w' (hR.later h')
  rcases h3 with ⟨hV, L, p1, d1, f1, he, o1⟩ | ⟨hV, he⟩
  · refine ⟨_, _, _, _, he, (r3 w3 l3).mono fun e w4 ⟨l4, h4⟩ => ?_⟩
    rcases h4 with ⟨-, L2, k2, f2, he, hk2, x2⟩ | ⟨hV', -⟩
    case inr => exact absurd hV hV'
    refine ⟨_, _, _, _, he, (r4 w4 (l2.trans (l3.trans l4))).mono fun e w5 ⟨l5, h5⟩ => ?_⟩
    rcases h5 with ⟨-, L3, b3, d3, k3, f3, he, o3, x3⟩ | ⟨hV', -⟩
    case inr => exact absurd hV hV'
    obtain rfl := fin_uniq f1 f2
    obtain rfl := fin_uniq f1 f3
    refine ⟨_, _, _, _, _, _, _, he, ?_⟩
    have l05 := l1.trans (l2.trans (l3.trans (l4.trans l5)))
    have hlen := outs_le f1 n
    refine ⟨fun vs w' => ∃ k : Nat, vs = [.int .i64 k] ∧ k ≤ n ∧ Later w5 w', fun vs _ => match vs with | [.int _ k] => (n - k.toNat) | _ => 0, ⟨0, rfl, Nat.zero_le _, Later.refl _⟩, ?_⟩
    rintro g _ w6 ⟨k, hs, hk, l6⟩
    simp only [List.cons.injEq, Value.int.injEq, true_and, and_true] at hs
    subst hs
    refine cnd_of (fun h => ?_) (fun h => ?_)
    · have h := of_decide_eq_true h
      have hkn : k < n := by omega
      obtain ⟨ad, rfl, ⟨c0, c1, c2, c3, c4, c5, c6, -⟩, -⟩ := lin_cells (((hb.later (l3.trans (l4.trans l5)))).later l6) hkn
      obtain ⟨ae, rfl, ⟨d0, d1, d2, d3, d4, d5, d6, -⟩, -⟩ := lin_cells (R.later (l05.trans l6)) hkn
      refine ⟨⟨by omega, by omega⟩, Deref_some rfl ⟨_, _, _, _, _, _, _, fun w' h' => ⟨h'.cell_some c0, h'.cell_some c1, h'.cell_some c2, h'.cell_some c3, h'.cell_some c4, h'.cell_some c5, h'.cell_some c6, trivial⟩, ⟨by omega, by omega⟩, Deref_some rfl ⟨_, _, _, _, _, _, _, fun w' h' => ⟨h'.cell_some d0, h'.cell_some d1, h'.cell_some d2, h'.cell_some d3, h'.cell_some d4, h'.cell_some d5, h'.cell_some d6, trivial⟩, _, eq_lin F F k k _ _, fun w7 h7 => cnd_false (by rw [eqL_refl_lin]; rfl) ?_⟩⟩⟩
      rw [i64_in (by omega) (by omega)]
      exact ⟨⟨k + 1, rfl, by omega, l6.trans h7⟩, by simp only; omega⟩
    · have ok := outs_code (L := L) hn (row_kinds hR) n (Nat.le_refl _)
      have a1 := code_row (o1.later (l4.trans (l5.trans l6))) ok
      have a3 := code_row (o3.later l6) ok
      refine (ref03_Same_ok (by omega) w6 a1 a3).mono fun e w7 ⟨he, l7⟩ => ⟨_, he, cnd_true rfl ?_⟩
      have y2 := x2.later (l5.trans (l6.trans l7))
      have y3 := x3.later (l6.trans l7)
      refine (ref24_Same_ok (f := fun i => plc L i) (by omega) w7 (fun i hi => ⟨_, rfl, by rw [addk]; exact y2.cell (fcells_get _ hi)⟩) (fun i hi => ⟨_, rfl, by rw [addk]; exact y3.cell (fcells_get _ hi)⟩)).mono fun e w8 ⟨he, l8⟩ => ⟨_, he, cnd_true rfl ?_⟩
      exact cnd_true rfl (cnd_true rfl (law29_done w _ (l05.trans (l6.trans (l7.trans l8)))))
  · refine ⟨_, _, _, _, he, (r3 w3 l3).mono fun e w4 ⟨l4, h4⟩ => ?_⟩
    rcases h4 with ⟨hV', -⟩ | ⟨-, he⟩
    · exact absurd hV' hV
    refine ⟨_, _, _, _, he, (r4 w4 (l2.trans (l3.trans l4))).mono fun e w5 ⟨l5, h5⟩ => ?_⟩
    rcases h5 with ⟨hV', -⟩ | ⟨-, he⟩
    · exact absurd hV' hV
    refine ⟨_, _, _, _, _, _, _, he, ?_⟩
    have l05 := l1.trans (l2.trans (l3.trans (l4.trans l5)))
    refine ⟨fun vs w' => ∃ k : Nat, vs = [.int .i64 k] ∧ k ≤ n ∧ Later w5 w', fun vs _ => match vs with | [.int _ k] => (n - k.toNat) | _ => 0, ⟨0, rfl, Nat.zero_le _, Later.refl _⟩, ?_⟩
    rintro g _ w6 ⟨k, hs, hk, l6⟩
    simp only [List.cons.injEq, Value.int.injEq, true_and, and_true] at hs
    subst hs
    refine cnd_of (fun h => ?_) (fun h => ?_)
    · have h := of_decide_eq_true h
      have hkn : k < n := by omega
      obtain ⟨ad, rfl, ⟨c0, c1, c2, c3, c4, c5, c6, -⟩, -⟩ := lin_cells (((hb.later (l3.trans (l4.trans l5)))).later l6) hkn
      obtain ⟨ae, rfl, ⟨d0, d1, d2, d3, d4, d5, d6, -⟩, -⟩ := lin_cells (R.later (l05.trans l6)) hkn
      refine ⟨⟨by omega, by omega⟩, Deref_some rfl ⟨_, _, _, _, _, _, _, fun w' h' => ⟨h'.cell_some c0, h'.cell_some c1, h'.cell_some c2, h'.cell_some c3, h'.cell_some c4, h'.cell_some c5, h'.cell_some c6, trivial⟩, ⟨by omega, by omega⟩, Deref_some rfl ⟨_, _, _, _, _, _, _, fun w' h' => ⟨h'.cell_some d0, h'.cell_some d1, h'.cell_some d2, h'.cell_some d3, h'.cell_some d4, h'.cell_some d5, h'.cell_some d6, trivial⟩, _, eq_lin F F k k _ _, fun w7 h7 => cnd_false (by rw [eqL_refl_lin]; rfl) ?_⟩⟩⟩
      rw [i64_in (by omega) (by omega)]
      exact ⟨⟨k + 1, rfl, by omega, l6.trans h7⟩, by simp only; omega⟩
    · have nil : ∀ w', IntRow w' none 0 insK F := fun w' i hi => absurd hi (Nat.not_lt_zero i)
      refine (ref03_Same_ok (by omega) w6 (nil _) (nil _)).mono fun e w7 ⟨he, l7⟩ => ⟨_, he, cnd_true rfl ?_⟩
      refine (ref24_Same_ok (f := fun i => 0) (by omega) w7 (fun i hi => absurd hi (Nat.not_lt_zero i)) (fun i hi => absurd hi (Nat.not_lt_zero i))).mono fun e w8 ⟨he, l8⟩ => ⟨_, he, cnd_true rfl ?_⟩
      exact cnd_true rfl (cnd_true rfl (law29_done w _ (l05.trans (l6.trans (l7.trans l8)))))
end Go.Proofs.Ytglakmkedoklmaa
