/-
Lines with labels as instructions, in plain words: which lines may be fixed, which are long, where each stands.
Conditions: each theorem's hypotheses; no program is spoken of but its numbers' kinds.
-/
import Derived.Test.YtglakmkedoklmaaInsnA
import Derived.Test.YtglakmkedoklmaaVcMap
namespace Go.Proofs.Ytglakmkedoklmaa
open Go Go.Vc Go.RowKit
set_option linter.unusedVariables false
set_option linter.unusedSimpArgs false
set_option maxRecDepth 100000

/-! ### cells by a function -/
def fcells (n : Nat) (f : Nat → Value) : List Value := (List.range n).map f
theorem fcells_length (n : Nat) (f : Nat → Value) : (fcells n f).length = n := by simp [fcells]
theorem fcells_get {n i : Nat} (f : Nat → Value) (h : i < n) : (fcells n f)[i]? = some (f i) := by simp [fcells, h]
theorem fcells_set (n i : Nat) (f : Nat → Value) (v : Value) : (fcells n f).set i v = fcells n fun j => if j = i then v else f j := by
  apply List.ext_getElem?
  intro j
  rw [List.getElem?_set]
  by_cases hj : j < n
  · rw [fcells_get _ hj, fcells_length]
    by_cases hij : i = j
    · subst hij; rw [fcells_get _ hj]; simp [hj]
    · rw [if_neg hij, fcells_get _ hj]
      rw [if_neg (fun h => hij h.symm)]
  · rw [List.getElem?_eq_none (l := fcells n f) (by rw [fcells_length]; omega), List.getElem?_eq_none (by rw [fcells_length]; omega), fcells_length]
    split <;> simp; omega
theorem fcells_congr {n : Nat} {f g : Nat → Value} (h : ∀ i, i < n → f i = g i) : fcells n f = fcells n g := by
  unfold fcells
  refine List.map_congr_left fun i hi => h i (by simpa using hi)
theorem fcells_rep (n : Nat) (v : Value) : repL [v] n = fcells n fun _ => v := by
  apply List.ext_getElem?
  intro j
  have hl : ∀ m, (repL [v] m).length = m := by
    intro m
    induction m with
    | zero => rfl
    | succ m ih => simp [repL, ih]
  by_cases hj : j < n
  · rw [fcells_get _ hj]
    have : ∀ m j, j < m → (repL [v] m)[j]? = some v := by
      intro m
      induction m with
      | zero => intro j h; omega
      | succ m ih =>
        intro j h
        simp only [repL]
        cases j with
        | zero => simp
        | succ j => simpa using ih j (by omega)
    exact this n j hj
  · rw [List.getElem?_eq_none (by rw [hl]; omega), List.getElem?_eq_none (by rw [fcells_length]; omega)]
/-- What a world's block has of false. -/
def isFalse : Value → Bool
  | .bool false => true
  | _ => false
def falses (w : World) (b : Nat) : Nat := match w.heap[b]? with | some (.cells cs _ _) => cs.toList.countP isFalse | _ => 0
def cF (L : Nat → Bool) : Nat → Nat
  | 0 => 0
  | k + 1 => cF L k + if L k then 0 else 1
theorem fcells_succ (n : Nat) (f : Nat → Value) : fcells (n + 1) f = fcells n f ++ [f n] := by simp [fcells, List.range_succ]
theorem falses_of {w : World} {b n : Nat} {L : Nat → Bool} (h : Has w b (fcells n fun i => .bool (L i))) : falses w b = cF L n := by
  obtain ⟨t, h⟩ := h
  unfold falses
  rw [h]
  simp only
  have : ∀ m, (fcells m fun i => Value.bool (L i)).countP isFalse = cF L m := by
    intro m
    induction m with
    | zero => rfl
    | succ m ih =>
      rw [fcells_succ, List.countP_append, ih, cF]
      cases L m <;> rfl
  exact this n

/-! ### lines -/
abbrev linK : List IntKind := [.i64, .u8, .u8, .u8, .u8, .i64, .i64]
def firstAt (F : Nat → Nat → Int) (a : Int) : Nat → Option Nat
  | 0 => none
  | k + 1 => match firstAt F a k with | some i => some i | none => if F k 0 = a then some k else none
theorem firstAt_none {F : Nat → Nat → Int} {a : Int} : ∀ {k : Nat}, firstAt F a k = none ↔ ∀ j, j < k → F j 0 ≠ a
  | 0 => by simp [firstAt]
  | k + 1 => by
    have ih := firstAt_none (F := F) (a := a) (k := k)
    unfold firstAt
    cases h : firstAt F a k with
    | some i =>
      simp only [reduceCtorEq, false_iff]
      intro hh
      have := ih.2 fun j hj => hh j (by omega)
      rw [h] at this; cases this
    | none =>
      have h' := ih.1 h
      simp only
      constructor
      · intro hh j hj
        by_cases hjk : j = k
        · subst hjk
          intro he
          rw [if_pos he] at hh; cases hh
        · exact h' j (by omega)
      · intro hh
        rw [if_neg (hh k (by omega))]
theorem firstAt_some {F : Nat → Nat → Int} {a : Int} {i : Nat} : ∀ {k : Nat}, firstAt F a k = some i → i < k ∧ F i 0 = a ∧ firstAt F a i = none
  | 0, h => by simp [firstAt] at h
  | k + 1, h => by
    unfold firstAt at h
    cases hk : firstAt F a k with
    | some j =>
      rw [hk] at h
      obtain rfl := Option.some.inj h
      obtain ⟨h1, h2, h3⟩ := firstAt_some hk
      exact ⟨by omega, h2, h3⟩
    | none =>
      rw [hk] at h
      simp only at h
      split at h
      · rename_i he
        obtain rfl := Option.some.inj h
        exact ⟨by omega, he, hk⟩
      · cases h
theorem firstAt_of {F : Nat → Nat → Int} {a : Int} {i : Nat} (h : F i 0 = a) (hn : firstAt F a i = none) : ∀ k, i < k → firstAt F a k = some i := by
  intro k
  induction k with
  | zero => intro h; omega
  | succ k ih =>
    intro hk
    unfold firstAt
    by_cases hik : i = k
    · subst hik; rw [hn]; simp [h]
    · rw [ih (by omega)]
def firstI (o : Option Nat) : Int := match o with | some i => i | none => -1
/-- Where a line's way goes. -/
def tgt (F : Nat → Nat → Int) (n i : Nat) : Int := if F i 6 < 0 then -1 else firstI (firstAt F (F i 6) n)
def encL (F : Nat → Nat → Int) (k : Nat) : Option Int := encv (F k 1) (F k 2) (F k 3) (F k 4) (F k 5)
def lineV (F : Nat → Nat → Int) (k : Nat) : Prop := (encL F k).isSome = true ∧ -1 ≤ F k 0 ∧ -1 ≤ F k 6 ∧ (0 ≤ F k 0 → firstAt F (F k 0) k = none) ∧ (0 ≤ F k 6 → 28 ≤ F k 1 ∧ F k 1 ≤ 32 ∧ F k 5 = 0)
def lineT (F : Nat → Nat → Int) (n k : Nat) : Prop := 0 ≤ F k 6 → (firstAt F (F k 6) n).isSome = true
instance (F : Nat → Nat → Int) (k : Nat) : Decidable (lineV F k) := by unfold lineV; infer_instance
instance (F : Nat → Nat → Int) (n k : Nat) : Decidable (lineT F n k) := by unfold lineT; infer_instance
def valid (F : Nat → Nat → Int) (n : Nat) : Prop := ∀ k, k < n → lineV F k ∧ lineT F n k
instance (F : Nat → Nat → Int) (n : Nat) : Decidable (valid F n) := by unfold valid; infer_instance
theorem tgt_neg {F : Nat → Nat → Int} {n i : Nat} (h : F i 6 < 0) : tgt F n i = -1 := by unfold tgt; rw [if_pos h]
theorem tgt_pos {F : Nat → Nat → Int} {n i : Nat} (hV : valid F n) (hi : i < n) (h : 0 ≤ F i 6) : ∃ j, tgt F n i = (j : Nat) ∧ j < n ∧ firstAt F (F i 6) n = some j := by
  have := (hV i hi).2 h
  cases hf : firstAt F (F i 6) n with
  | none => rw [hf] at this; cases this
  | some j => exact ⟨j, by unfold tgt; rw [if_neg (by omega), hf]; rfl, (firstAt_some hf).1, rfl⟩
theorem tgt_lt (F : Nat → Nat → Int) (n i : Nat) : tgt F n i < n ∧ -1 ≤ tgt F n i := by
  unfold tgt
  split
  · omega
  · cases hf : firstAt F (F i 6) n with
    | none => simp only [firstI]; omega
    | some j => have := (firstAt_some hf).1; simp only [firstI]; omega
/-- The labels' map over the first k lines. -/
def mapF (F : Nat → Nat → Int) (k : Nat) : Int → Option Value := fun a => if a < 0 then none else (firstAt F a k).map fun i => i64v i
theorem mapF_zero (F : Nat → Nat → Int) : mapF F 0 = fun _ => none := by funext a; simp [mapF, firstAt]
theorem mapF_keep {F : Nat → Nat → Int} {k : Nat} (h : F k 0 < 0) : mapF F (k + 1) = mapF F k := by
  funext a
  unfold mapF
  by_cases ha : a < 0
  · rw [if_pos ha, if_pos ha]
  · rw [if_neg ha, if_neg ha]
    congr 1
    rw [firstAt]
    cases hf : firstAt F a k with
    | some i => rfl
    | none => simp only; rw [if_neg (by omega)]
theorem mapF_add {F : Nat → Nat → Int} {k : Nat} (h : 0 ≤ F k 0) (hn : firstAt F (F k 0) k = none) : mapF F (k + 1) = fun a => if a = F k 0 then some (i64v k) else mapF F k a := by
  funext a
  unfold mapF
  by_cases ha : a < 0
  · rw [if_pos ha, if_neg (by omega), if_pos ha]
  · rw [if_neg ha, if_neg ha]
    by_cases he : a = F k 0
    · subst he
      rw [if_pos rfl, firstAt, hn]; simp
    · rw [if_neg he, firstAt]
      congr 1
      cases hf : firstAt F a k with
      | some i => rfl
      | none => simp only; rw [if_neg (fun h => he h.symm)]
theorem mapF_get {F : Nat → Nat → Int} {k : Nat} {a : Int} (h : 0 ≤ a) : mapF F k a = (firstAt F a k).map fun i => i64v i := by unfold mapF; rw [if_neg (by omega)]

/-! ### places -/
def plc (L : Nat → Bool) : Nat → Int
  | 0 => 0
  | k + 1 => plc L k + 4 + if L k then 4 else 0
theorem plc_range (L : Nat → Bool) : ∀ k : Nat, 4 * (k : Int) ≤ plc L k ∧ plc L k ≤ 8 * k
  | 0 => by simp [plc]
  | k + 1 => by
    have := plc_range L k
    rw [plc]
    split <;> omega
theorem plc_mono (L : Nat → Bool) {i j : Nat} (h : i ≤ j) : plc L i + 4 * (j - i : Nat) ≤ plc L j := by
  induction j with
  | zero => obtain rfl : i = 0 := by omega
            simp
  | succ j ih =>
    by_cases hj : i = j + 1
    · subst hj; simp
    · have := ih (by omega)
      rw [plc]
      split <;> omega
def wayL (F : Nat → Nat → Int) (n : Nat) (L : Nat → Bool) (i : Nat) : Int := plc L (tgt F n i).toNat - plc L i
theorem wayL_range (F : Nat → Nat → Int) {n i : Nat} (hi : i < n) (L : Nat → Bool) : -8 * (n : Int) ≤ wayL F n L i ∧ wayL F n L i ≤ 8 * n := by
  have h1 := plc_range L i
  have h2 := plc_range L (tgt F n i).toNat
  have h3 := tgt_lt F n i
  unfold wayL
  omega
def longer (F : Nat → Nat → Int) (n : Nat) (L : Nat → Bool) (i : Nat) : Bool := decide (0 ≤ F i 6) && (F i 1 != 32) && !(L i) && (decide (wayL F n L i < -4096) || decide (wayL F n L i > 4094))
def grown (F : Nat → Nat → Int) (n : Nat) (L : Nat → Bool) : Nat → Bool := fun i => L i || (decide (i < n) && longer F n L i)
def mid (F : Nat → Nat → Int) (n : Nat) (L : Nat → Bool) (k : Nat) : Nat → Bool := fun j => if j < k then grown F n L j else L j
def anyL (F : Nat → Nat → Int) (n : Nat) (L : Nat → Bool) : Nat → Bool
  | 0 => false
  | k + 1 => anyL F n L k || longer F n L k
theorem mid_zero (F : Nat → Nat → Int) (n : Nat) (L : Nat → Bool) : mid F n L 0 = L := by funext j; simp [mid]
theorem mid_all (F : Nat → Nat → Int) (n : Nat) (L : Nat → Bool) : mid F n L n = grown F n L := by
  funext j
  unfold mid grown
  split
  · rfl
  · rename_i h; simp [h]
theorem mid_at (F : Nat → Nat → Int) (n : Nat) (L : Nat → Bool) (k : Nat) : mid F n L k k = L k := by simp [mid]
theorem mid_yes {F : Nat → Nat → Int} {n k : Nat} {L : Nat → Bool} (hk : k < n) (h : longer F n L k = true) : (fun j => if j = k then true else mid F n L k j) = mid F n L (k + 1) := by
  funext j
  unfold mid
  by_cases hj : j = k
  · subst hj; simp [grown, hk, h]
  · rw [if_neg hj]
    by_cases hjk : j < k
    · rw [if_pos hjk, if_pos (by omega)]
    · rw [if_neg hjk, if_neg (by omega)]
theorem mid_no {F : Nat → Nat → Int} {n k : Nat} {L : Nat → Bool} (h : longer F n L k = false) : mid F n L k = mid F n L (k + 1) := by
  funext j
  unfold mid
  by_cases hj : j = k
  · subst hj; simp [grown, h]
  · by_cases hjk : j < k
    · rw [if_pos hjk, if_pos (by omega)]
    · rw [if_neg hjk, if_neg (by omega)]
theorem anyL_false {F : Nat → Nat → Int} {n : Nat} {L : Nat → Bool} : ∀ {k : Nat}, anyL F n L k = false → ∀ j, j < k → longer F n L j = false
  | 0, _, j, h => by omega
  | k + 1, h, j, hj => by
    simp only [anyL, Bool.or_eq_false_iff] at h
    by_cases hjk : j = k
    · subst hjk; exact h.2
    · exact anyL_false h.1 j (by omega)
theorem stable_of {F : Nat → Nat → Int} {n : Nat} {L : Nat → Bool} (h : anyL F n L n = false) : grown F n L = L := by
  funext j
  unfold grown
  by_cases hj : j < n
  · rw [anyL_false h j hj]; simp
  · simp [hj]
theorem count_step (x y z : Bool) (p q : Nat) (hl : y = true → x = false) (ih : p + (if z then 1 else 0) ≤ q) : p + (if (x || y) then 0 else 1) + (if (z || y) then 1 else 0) ≤ q + if x then 0 else 1 := by
  cases x <;> cases y <;> cases z <;> simp_all <;> omega
theorem grown_count {F : Nat → Nat → Int} {n : Nat} {L : Nat → Bool} : ∀ {k : Nat}, k ≤ n → cF (grown F n L) k + (if anyL F n L k then 1 else 0) ≤ cF L k
  | 0, _ => by simp [cF, anyL]
  | k + 1, hk => by
    have ih := grown_count (F := F) (n := n) (L := L) (k := k) (by omega)
    have hkn : k < n := by omega
    simp only [cF, anyL]
    have hg : grown F n L k = (L k || longer F n L k) := by simp [grown, hkn]
    have hl : longer F n L k = true → L k = false := fun h => by
      simp only [longer, Bool.and_eq_true, Bool.not_eq_true'] at h
      exact h.1.2
    rw [hg]
    exact count_step _ _ _ _ _ hl ih
def iterL (F : Nat → Nat → Int) (n : Nat) : Nat → Nat → Bool
  | 0 => fun _ => false
  | k + 1 => grown F n (iterL F n k)
theorem iter_stable {F : Nat → Nat → Int} {n k : Nat} (h : grown F n (iterL F n k) = iterL F n k) : ∀ j, iterL F n (k + j) = iterL F n k
  | 0 => rfl
  | j + 1 => by rw [show k + (j + 1) = (k + j) + 1 by omega, iterL, iter_stable h j, h]
/-- The lines that are long, once none is to be made long. -/
def isFin (F : Nat → Nat → Int) (n : Nat) (L : Nat → Bool) : Prop := (∃ k, L = iterL F n k) ∧ anyL F n L n = false
theorem fin_uniq {F : Nat → Nat → Int} {n : Nat} {L M : Nat → Bool} (h : isFin F n L) (g : isFin F n M) : L = M := by
  obtain ⟨⟨k, rfl⟩, h2⟩ := h
  obtain ⟨⟨j, rfl⟩, g2⟩ := g
  have h3 := iter_stable (stable_of h2)
  have g3 := iter_stable (stable_of g2)
  rcases Nat.le_total k j with hkj | hkj
  · have := h3 (j - k)
    rw [show k + (j - k) = j by omega] at this
    exact this.symm
  · have := g3 (k - j)
    rw [show j + (k - j) = k by omega] at this
    exact this
theorem iter_tgt {F : Nat → Nat → Int} {n : Nat} : ∀ {k i : Nat}, iterL F n k i = true → 0 ≤ F i 6 ∧ F i 1 ≠ 32
  | 0, i, h => by simp [iterL] at h
  | k + 1, i, h => by
    simp only [iterL, grown, Bool.or_eq_true, Bool.and_eq_true, longer, decide_eq_true_eq, bne_iff_ne] at h
    rcases h with h | h
    · exact iter_tgt h
    · exact ⟨h.2.1.1.1, h.2.1.1.2⟩
end Go.Proofs.Ytglakmkedoklmaa
