/-
What is handed in: the cells of a slice whose elements are numbers, or flat structs of numbers.
Conditions: each theorem's hypotheses; nothing is asked of a program.
-/
import Derived.Test.YtngkifnknlginaaVcLib
import Derived.Deep.Slices
import Derived.ChangeShapes
import Derived.WideShapes
namespace Go.Vc
open Go.RowKit Go.ChangeShapes Go.WideShapes
set_option linter.unusedVariables false
set_option linter.unusedSimpArgs false
set_option linter.unnecessarySimpa false

section
variable {H : Type} {enc : TypeId × Value → H} {P : Program} {w : World} {base : Nat} {spare : Nat → Bool} {held : Bool}
/-- The fields are numbers of these kinds, a cell each. -/
def intFields (P : Program) : List Field → Nat → List IntKind → Bool
  | [], _, [] => true
  | f :: fs, o, k :: ks => f.offset == o && P.cellsOf f.type == 1 && (match P.underlying f.type with | some (.int k') => k' == k | _ => false) && intFields P fs (o + 1) ks
  | _, _, _ => false
theorem intFields_at {P : Program} : ∀ {fs : List Field} {o : Nat} {ks : List IntKind}, intFields P fs o ks = true → fs.length = ks.length ∧ ∀ i k, ks[i]? = some k → ∃ f, fs[i]? = some f ∧ f.offset = o + i ∧ P.cellsOf f.type = 1 ∧ P.underlying f.type = some (.int k)
  | [], o, [], _ => ⟨rfl, fun i k h => by simp at h⟩
  | [], o, _ :: _, h => by simp [intFields] at h
  | _ :: _, o, [], h => by simp [intFields] at h
  | f :: fs, o, k :: ks, h => by
    simp only [intFields, Bool.and_eq_true, beq_iff_eq] at h
    obtain ⟨⟨⟨h1, h2⟩, h3⟩, h4⟩ := h
    obtain ⟨hl, hr⟩ := intFields_at h4
    refine ⟨by simp [hl], fun i k' hi => ?_⟩
    cases i with
    | zero =>
      obtain rfl : k = k' := by simpa using hi
      refine ⟨f, rfl, h1, h2, ?_⟩
      split at h3
      · rename_i k2 hu
        obtain rfl := eq_of_beq h3
        exact hu
      · cases h3
    | succ i =>
      obtain ⟨f', g1, g2, g3, g4⟩ := hr i k' (by simpa using hi)
      exact ⟨f', by simpa using g1, by omega, g3, g4⟩
/-- The cells of a struct of numbers. -/
theorem ints_struct {e : TypeId} {fs : Array Field} {m : Nat} {cs : List Value} {x : DataW H × List MemPlace} (ks : List IntKind) (he : P.underlying e = some (.struct fs)) (hk : intFields P fs.toList 0 ks = true) (h : DataW.trod enc P w base spare held m e cs = some x) :
    ∃ F : Nat → Int, ∀ j k, ks[j]? = some k → cs[j]? = some (.int k (F j)) ∧ (Lit.int k (F j)).wf = true := by
  obtain ⟨xs, n, _, _, hlen, _, hf⟩ := DataW.trod_struct he h
  obtain ⟨hl, hr⟩ := intFields_at hk
  have each : ∀ j, j < ks.length → ∃ q : Int, ∀ k, ks[j]? = some k → cs[j]? = some (.int k q) ∧ (Lit.int k q).wf = true := by
    intro j hj
    have hk := List.getElem?_eq_getElem hj
    obtain ⟨f, g1, g2, g3, g4⟩ := hr j _ hk
    have h1 := hf j f (by simpa using g1)
    rw [g2, g3, Nat.zero_add] at h1
    have hx : ∃ y, xs[j]? = some y := by
      have hjl : j < xs.length := by
        rename_i hs
        have : j < fs.size := by have := (List.getElem?_eq_some_iff.1 g1).1; simpa using this
        omega
      exact ⟨_, List.getElem?_eq_getElem hjl⟩
    obtain ⟨y, hy⟩ := hx
    rw [hy] at h1
    obtain ⟨q, hq, _, hw⟩ := DataW.trod_int g4 h1
    refine ⟨q, fun k hk' => ?_⟩
    obtain rfl : ks[j] = k := Option.some.inj (hk.symm.trans hk')
    refine ⟨?_, hw⟩
    have : ((cs.drop j).take 1)[0]? = some (Value.int ks[j] q) := by rw [hq]; rfl
    simpa [List.getElem?_take, List.getElem?_drop] using this
  obtain ⟨F, hF⟩ := Deep.choose_lt each
  exact ⟨F, fun j k hj => hF j (List.getElem?_eq_some_iff.1 hj).1 k hj⟩
/-- The elements of a slice that was handed in, each of so many cells. -/
def ArgRow (w : World) (A : Option Addr) (n sz : Nat) (C : Nat → List Value) : Prop := ∀ i, i < n → ∃ ad, A = some ad ∧ (C i).length = sz ∧ ∀ j v, (C i)[j]? = some v → w.cell? ((ad.add (i * sz)).add j) = some v
theorem ArgRow.later {w w' : World} {A : Option Addr} {n sz : Nat} {C : Nat → List Value} (h : ArgRow w A n sz C) (hl : Later w w') : ArgRow w' A n sz C := by
  intro i hi
  obtain ⟨ad, h1, h2, h3⟩ := h i hi
  exact ⟨ad, h1, h2, fun j v hj => hl.cell_some (h3 j v hj)⟩
theorem arg_row {r : Reach} {b0 : Nat} {t e : TypeId} {v : Value} {d : DataW H} {ps : List MemPlace} (ht : P.underlying t = some (.slice e)) (hval : Value.okWide P w r b0 t v) (h : DataW.Trod enc P w base spare held t v d ps) :
    ∃ A n cap C, v = .slice A n cap ∧ n ≤ cap ∧ cap ≤ maxLen ∧ ArgRow w A n (P.cellsOf e) C ∧ ∀ i, i < n → ∃ m x, DataW.trod enc P w base spare held m e (C i) = some x := by
  obtain ⟨A, n, cap, rfl⟩ := okWide_slice ht hval
  obtain ⟨fuel, h⟩ := h
  rcases Deep.open_slice ht h with ⟨hc, _⟩ | ⟨a, len, cap', m, q, D, Pl, hc, _, hl, hm, hmm, _, hx⟩
  · simp only [Value.cells, List.cons.injEq, Value.slice.injEq, and_true] at hc
    obtain ⟨rfl, rfl, rfl⟩ := hc
    exact ⟨none, 0, 0, fun _ => [], rfl, Nat.le_refl _, by decide, fun i hi => absurd hi (Nat.not_lt_zero i), fun i hi => absurd hi (Nat.not_lt_zero i)⟩
  · simp only [Value.cells, List.cons.injEq, Value.slice.injEq, and_true] at hc
    obtain ⟨rfl, rfl, rfl⟩ := hc
    have hnm : n ≤ m := by rw [hmm]; split <;> omega
    obtain ⟨C, hC⟩ := Deep.choose_lt (fun i hi => hx i (Nat.lt_of_lt_of_le hi hnm) : ∀ i, i < n → _)
    refine ⟨some a, n, cap, C, rfl, hl, hm, fun i hi => ?_, fun i hi => ⟨q, _, (hC i hi).2⟩⟩
    obtain ⟨_, h2, h3⟩ := World.cells?_some (hC i hi).1
    refine ⟨a, rfl, h2, fun j v hj => ?_⟩
    have hlt := (List.getElem?_eq_some_iff.1 hj).1
    rw [h3 j (by omega)]
    exact hj
/-- A slice of structs of numbers. -/
def IntRow (w : World) (A : Option Addr) (n : Nat) (ks : List IntKind) (F : Nat → Nat → Int) : Prop :=
  ∀ i, i < n → ∃ ad, A = some ad ∧ ∀ j k, ks[j]? = some k → w.cell? ((ad.add (i * ks.length)).add j) = some (.int k (F i j)) ∧ (Lit.int k (F i j)).wf = true
theorem IntRow.later {w w' : World} {A : Option Addr} {n : Nat} {ks : List IntKind} {F : Nat → Nat → Int} (h : IntRow w A n ks F) (hl : Later w w') : IntRow w' A n ks F := by
  intro i hi
  obtain ⟨ad, h1, h2⟩ := h i hi
  exact ⟨ad, h1, fun j k hj => ⟨hl.cell_some (h2 j k hj).1, (h2 j k hj).2⟩⟩
theorem arg_structs {r : Reach} {b0 : Nat} {t e : TypeId} {fs : Array Field} {v : Value} {d : DataW H} {ps : List MemPlace} (ks : List IntKind) (ht : P.underlying t = some (.slice e)) (he : P.underlying e = some (.struct fs)) (hk : intFields P fs.toList 0 ks = true)
    (hC : P.cellsOf e = ks.length) (hval : Value.okWide P w r b0 t v) (h : DataW.Trod enc P w base spare held t v d ps) :
    ∃ A n cap F, v = .slice A n cap ∧ n ≤ cap ∧ cap ≤ maxLen ∧ IntRow w A n ks F := by
  obtain ⟨A, n, cap, C, rfl, hl, hm, hR, hT⟩ := arg_row ht hval h
  obtain ⟨F, hF⟩ := Deep.choose_lt (p := fun i (F : Nat → Int) => ∀ j k, ks[j]? = some k → (C i)[j]? = some (.int k (F j)) ∧ (Lit.int k (F j)).wf = true) (n := n) (fun i hi => by
    obtain ⟨m, x, hx⟩ := hT i hi
    exact ints_struct ks he hk hx)
  refine ⟨A, n, cap, F, rfl, hl, hm, fun i hi => ?_⟩
  obtain ⟨ad, h1, h2, h3⟩ := hR i hi
  rw [hC] at h3
  exact ⟨ad, h1, fun j k hj => ⟨h3 j _ (hF i hi j k hj).1, (hF i hi j k hj).2⟩⟩
/-- The fields are numbers of these kinds, or structs of such numbers. -/
def nestFields (P : Program) : List Field → Nat → List IntKind → Bool
  | [], _, [] => true
  | [], _, _ :: _ => false
  | f :: fs, o, ks => f.offset == o && (match P.underlying f.type with
    | some (.int k') => (match ks with | k :: ks' => P.cellsOf f.type == 1 && k' == k && nestFields P fs (o + 1) ks' | [] => false)
    | some (.struct gs) => P.cellsOf f.type == gs.size && decide (gs.size ≤ ks.length) && intFields P gs.toList 0 (ks.take gs.size) && nestFields P fs (o + gs.size) (ks.drop gs.size)
    | _ => false)
theorem nest_cells {cs : List Value} : ∀ (fs : List Field) (o : Nat) (ks : List IntKind), nestFields P fs o ks = true →
    (∀ f ∈ fs, ∃ m y, DataW.trod enc P w base spare held m f.type ((cs.drop f.offset).take (P.cellsOf f.type)) = some y) → ∀ j, j < ks.length → ∃ q : Int, ∀ k, ks[j]? = some k → cs[o + j]? = some (.int k q) ∧ (Lit.int k q).wf = true := by
  intro fs
  induction fs with
  | nil =>
    intro o ks h _ j hj
    cases ks with
    | nil => simp at hj
    | cons k ks => simp [nestFields] at h
  | cons f fs ih =>
    intro o ks h hT j hj
    unfold nestFields at h
    simp only [Bool.and_eq_true, beq_iff_eq] at h
    obtain ⟨rfl, h⟩ := h
    obtain ⟨m, y, hy⟩ := hT f List.mem_cons_self
    have hT' := fun g hg => hT g (List.mem_cons_of_mem f hg)
    split at h
    · rename_i k' hu
      split at h
      · rename_i k ks'
        simp only [Bool.and_eq_true, beq_iff_eq] at h
        obtain ⟨⟨hc, hkk⟩, hr⟩ := h
        subst hkk
        cases j with
        | zero =>
          rw [hc] at hy
          obtain ⟨q, hq, _, hw⟩ := DataW.trod_int hu hy
          refine ⟨q, fun k2 hk2 => ?_⟩
          obtain rfl : k' = k2 := by simpa using hk2
          refine ⟨?_, hw⟩
          have : ((cs.drop f.offset).take 1)[0]? = some (Value.int k' q) := by rw [hq]; rfl
          simpa [List.getElem?_take, List.getElem?_drop] using this
        | succ j =>
          obtain ⟨q, hq⟩ := ih (f.offset + 1) ks' hr hT' j (by simpa using hj)
          refine ⟨q, fun k2 hk2 => ?_⟩
          have := hq k2 (by simpa using hk2)
          rwa [show f.offset + 1 + j = f.offset + (j + 1) by omega] at this
      · cases h
    · rename_i gs hu
      simp only [Bool.and_eq_true, beq_iff_eq, decide_eq_true_eq] at h
      obtain ⟨⟨⟨hc, hle⟩, hin⟩, hr⟩ := h
      by_cases hjs : j < gs.size
      · rw [hc] at hy
        obtain ⟨F, hF⟩ := ints_struct (ks.take gs.size) hu hin hy
        refine ⟨F j, fun k hk => ?_⟩
        have := hF j k (by rw [List.getElem?_take, if_pos hjs]; exact hk)
        refine ⟨?_, this.2⟩
        have h1 := this.1
        rw [List.getElem?_take, if_pos hjs, List.getElem?_drop] at h1
        exact h1
      · obtain ⟨q, hq⟩ := ih (f.offset + gs.size) (ks.drop gs.size) hr hT' (j - gs.size) (by rw [List.length_drop]; omega)
        refine ⟨q, fun k hk => ?_⟩
        have := hq k (by rw [List.getElem?_drop, show gs.size + (j - gs.size) = j by omega]; exact hk)
        rwa [show f.offset + gs.size + (j - gs.size) = f.offset + j by omega] at this
    · cases h
theorem nest_struct {e : TypeId} {fs : Array Field} {m : Nat} {cs : List Value} {x : DataW H × List MemPlace} (ks : List IntKind) (he : P.underlying e = some (.struct fs)) (hk : nestFields P fs.toList 0 ks = true) (h : DataW.trod enc P w base spare held m e cs = some x) :
    ∃ F : Nat → Int, ∀ j k, ks[j]? = some k → cs[j]? = some (.int k (F j)) ∧ (Lit.int k (F j)).wf = true := by
  obtain ⟨xs, n, _, _, hlen, hxs, hf⟩ := DataW.trod_struct he h
  have := nest_cells (enc := enc) (P := P) (w := w) (base := base) (spare := spare) (held := held) (cs := cs) fs.toList 0 ks hk (fun f hf' => by
    obtain ⟨i, hi⟩ := List.getElem?_of_mem hf'
    have h1 := hf i f (by simpa using hi)
    have hil : i < xs.length := by
      have := (List.getElem?_eq_some_iff.1 hi).1
      rw [hxs]; simpa using this
    rw [List.getElem?_eq_getElem hil] at h1
    exact ⟨n, _, h1⟩)
  obtain ⟨F, hF⟩ := Deep.choose_lt this
  exact ⟨F, fun j k hj => by have := hF j (List.getElem?_eq_some_iff.1 hj).1 k hj; rwa [Nat.zero_add] at this⟩
theorem arg_nests {r : Reach} {b0 : Nat} {t e : TypeId} {fs : Array Field} {v : Value} {d : DataW H} {ps : List MemPlace} (ks : List IntKind) (ht : P.underlying t = some (.slice e)) (he : P.underlying e = some (.struct fs)) (hk : nestFields P fs.toList 0 ks = true)
    (hC : P.cellsOf e = ks.length) (hval : Value.okWide P w r b0 t v) (h : DataW.Trod enc P w base spare held t v d ps) :
    ∃ A n cap F, v = .slice A n cap ∧ n ≤ cap ∧ cap ≤ maxLen ∧ IntRow w A n ks F := by
  obtain ⟨A, n, cap, C, rfl, hl, hm, hR, hT⟩ := arg_row ht hval h
  obtain ⟨F, hF⟩ := Deep.choose_lt (p := fun i (F : Nat → Int) => ∀ j k, ks[j]? = some k → (C i)[j]? = some (.int k (F j)) ∧ (Lit.int k (F j)).wf = true) (n := n) (fun i hi => by
    obtain ⟨m, x, hx⟩ := hT i hi
    exact nest_struct ks he hk hx)
  refine ⟨A, n, cap, F, rfl, hl, hm, fun i hi => ?_⟩
  obtain ⟨ad, h1, h2, h3⟩ := hR i hi
  rw [hC] at h3
  exact ⟨ad, h1, fun j k hj => ⟨h3 j _ (hF i hi j k hj).1, (hF i hi j k hj).2⟩⟩
theorem arg_ints {r : Reach} {b0 : Nat} {t e : TypeId} {k : IntKind} {v : Value} {d : DataW H} {ps : List MemPlace} (ht : P.underlying t = some (.slice e)) (he : P.underlying e = some (.int k))
    (hC : P.cellsOf e = 1) (hval : Value.okWide P w r b0 t v) (h : DataW.Trod enc P w base spare held t v d ps) :
    ∃ A n cap F, v = .slice A n cap ∧ n ≤ cap ∧ cap ≤ maxLen ∧ IntRow w A n [k] F := by
  obtain ⟨A, n, cap, C, rfl, hl, hm, hR, hT⟩ := arg_row ht hval h
  obtain ⟨F, hF⟩ := Deep.choose_lt (p := fun i (q : Int) => C i = [.int k q] ∧ (Lit.int k q).wf = true) (n := n) (fun i hi => by
    obtain ⟨m, x, hx⟩ := hT i hi
    obtain ⟨q, h1, _, h2⟩ := DataW.trod_int he hx
    exact ⟨q, h1, h2⟩)
  refine ⟨A, n, cap, fun i _ => F i, rfl, hl, hm, fun i hi => ?_⟩
  obtain ⟨ad, h1, h2, h3⟩ := hR i hi
  rw [hC] at h3
  refine ⟨ad, h1, fun j k' hj => ?_⟩
  cases j with
  | zero =>
    obtain rfl : k = k' := by simpa using hj
    exact ⟨h3 0 _ (by rw [(hF i hi).1]; rfl), (hF i hi).2⟩
  | succ j => simp at hj
/-- A flat struct of five numbers, by value. -/
theorem arg_struct5 {r : Reach} {b0 : Nat} {t : TypeId} {fs : Array Field} {v : Value} {d : DataW H} {ps : List MemPlace} (k0 k1 k2 k3 k4 : IntKind) (he : P.underlying t = some (.struct fs)) (hk : intFields P fs.toList 0 [k0, k1, k2, k3, k4] = true)
    (hC : P.cellsOf t = 5) (hval : Value.okWide P w r b0 t v) (h : DataW.Trod enc P w base spare held t v d ps) :
    ∃ F : Nat → Int, v = .agg #[.int k0 (F 0), .int k1 (F 1), .int k2 (F 2), .int k3 (F 3), .int k4 (F 4)] ∧ (Lit.int k0 (F 0)).wf = true ∧ (Lit.int k1 (F 1)).wf = true ∧ (Lit.int k2 (F 2)).wf = true ∧ (Lit.int k3 (F 3)).wf = true ∧ (Lit.int k4 (F 4)).wf = true := by
  obtain ⟨cs, rfl, hsz⟩ := okWide_struct he hval
  obtain ⟨fuel, h⟩ := h
  obtain ⟨F, hF⟩ := ints_struct [k0, k1, k2, k3, k4] he hk h
  have h0 := hF 0 k0 rfl
  have h1 := hF 1 k1 rfl
  have h2 := hF 2 k2 rfl
  have h3 := hF 3 k3 rfl
  have h4 := hF 4 k4 rfl
  refine ⟨F, ?_, h0.2, h1.2, h2.2, h3.2, h4.2⟩
  congr 1
  apply Array.ext_getElem?
  intro i
  simp only [Value.cells, Array.getElem?_toList] at h0 h1 h2 h3 h4
  by_cases hi : i < 5
  · have : i = 0 ∨ i = 1 ∨ i = 2 ∨ i = 3 ∨ i = 4 := by omega
    rcases this with rfl | rfl | rfl | rfl | rfl
    · exact h0.1
    · exact h1.1
    · exact h2.1
    · exact h3.1
    · exact h4.1
  · rw [Array.getElem?_eq_none (by omega), Array.getElem?_eq_none (by simp; omega)]
end
end Go.Vc
