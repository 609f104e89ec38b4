/-
Texts of this claim, merged: VcArg, VcRead, VcRow, ImgL, Law30B.
Conditions: each theorem's own.
-/
import Derived.Test.YtjoikaklincfoaaPkImageBackE
import Derived.Deep.Slices
import Derived.ChangeShapes
import Derived.WideShapes
import Derived.OpenVars
import Derived.ProofKit
import Derived.OpenShut

/-
What is handed in: the cells of a slice whose elements are numbers, or flat structs of numbers.
Conditions: each theorem's hypotheses; nothing is asked of a program.
-/
namespace Go.Vc
open Go.RowKit Go.ChangeShapes Go.WideShapes
set_option linter.unusedVariables false
set_option linter.unusedSimpArgs false
set_option linter.unnecessarySimpa false

section
variable {H : Type} {enc : TypeId × Value → H} {P : Program} {w : World} {base : Nat} {spare : Nat → Bool} {held : Bool}
/-- The fields are numbers of these kinds, a cell each. -/
def intFields (P : Program) : List Field → Nat → List IntKind → Bool
  | [], _, [] => true
  | f :: fs, o, k :: ks => f.offset == o && P.cellsOf f.type == 1 && (match P.underlying f.type with | some (.int k') => k' == k | _ => false) && intFields P fs (o + 1) ks
  | _, _, _ => false
theorem intFields_at {P : Program} : ∀ {fs : List Field} {o : Nat} {ks : List IntKind}, intFields P fs o ks = true → fs.length = ks.length ∧ ∀ i k, ks[i]? = some k → ∃ f, fs[i]? = some f ∧ f.offset = o + i ∧ P.cellsOf f.type = 1 ∧ P.underlying f.type = some (.int k)
  | [], o, [], _ => ⟨rfl, fun i k h => by simp at h⟩
  | [], o, _ :: _, h => by simp [intFields] at h
  | _ :: _, o, [], h => by simp [intFields] at h
  | f :: fs, o, k :: ks, h => by
    simp only [intFields, Bool.and_eq_true, beq_iff_eq] at h
    obtain ⟨⟨⟨h1, h2⟩, h3⟩, h4⟩ := h
    obtain ⟨hl, hr⟩ := intFields_at h4
    refine ⟨by simp [hl], fun i k' hi => ?_⟩
    cases i with
    | zero =>
      obtain rfl : k = k' := by simpa using hi
      refine ⟨f, rfl, h1, h2, ?_⟩
      split at h3
      · rename_i k2 hu
        obtain rfl := eq_of_beq h3
        exact hu
      · cases h3
    | succ i =>
      obtain ⟨f', g1, g2, g3, g4⟩ := hr i k' (by simpa using hi)
      exact ⟨f', by simpa using g1, by omega, g3, g4⟩
/-- The cells of a struct of numbers. -/
theorem ints_struct {e : TypeId} {fs : Array Field} {m : Nat} {cs : List Value} {x : DataW H × List MemPlace} (ks : List IntKind) (he : P.underlying e = some (.struct fs)) (hk : intFields P fs.toList 0 ks = true) (h : DataW.trod enc P w base spare held m e cs = some x) :
    ∃ F : Nat → Int, ∀ j k, ks[j]? = some k → cs[j]? = some (.int k (F j)) ∧ (Lit.int k (F j)).wf = true := by
  obtain ⟨xs, n, _, _, hlen, _, hf⟩ := DataW.trod_struct he h
  obtain ⟨hl, hr⟩ := intFields_at hk
  have each : ∀ j, j < ks.length → ∃ q : Int, ∀ k, ks[j]? = some k → cs[j]? = some (.int k q) ∧ (Lit.int k q).wf = true := by
    intro j hj
    have hk := List.getElem?_eq_getElem hj
    obtain ⟨f, g1, g2, g3, g4⟩ := hr j _ hk
    have h1 := hf j f (by simpa using g1)
    rw [g2, g3, Nat.zero_add] at h1
    have hx : ∃ y, xs[j]? = some y := by
      have hjl : j < xs.length := by
        rename_i hs
        have : j < fs.size := by have := (List.getElem?_eq_some_iff.1 g1).1; simpa using this
        omega
      exact ⟨_, List.getElem?_eq_getElem hjl⟩
    obtain ⟨y, hy⟩ := hx
    rw [hy] at h1
    obtain ⟨q, hq, _, hw⟩ := DataW.trod_int g4 h1
    refine ⟨q, fun k hk' => ?_⟩
    obtain rfl : ks[j] = k := Option.some.inj (hk.symm.trans hk')
    refine ⟨?_, hw⟩
    have : ((cs.drop j).take 1)[0]? = some (Value.int ks[j] q) := by rw [hq]; rfl
    simpa [List.getElem?_take, List.getElem?_drop] using this
  obtain ⟨F, hF⟩ := Deep.choose_lt each
  exact ⟨F, fun j k hj => hF j (List.getElem?_eq_some_iff.1 hj).1 k hj⟩
/-- The elements of a slice that was handed in, each of so many cells. -/
def ArgRow (w : World) (A : Option Addr) (n sz : Nat) (C : Nat → List Value) : Prop := ∀ i, i < n → ∃ ad, A = some ad ∧ (C i).length = sz ∧ ∀ j v, (C i)[j]? = some v → w.cell? ((ad.add (i * sz)).add j) = some v
theorem ArgRow.later {w w' : World} {A : Option Addr} {n sz : Nat} {C : Nat → List Value} (h : ArgRow w A n sz C) (hl : Later w w') : ArgRow w' A n sz C := by
  intro i hi
  obtain ⟨ad, h1, h2, h3⟩ := h i hi
  exact ⟨ad, h1, h2, fun j v hj => hl.cell_some (h3 j v hj)⟩
theorem arg_row {r : Reach} {b0 : Nat} {t e : TypeId} {v : Value} {d : DataW H} {ps : List MemPlace} (ht : P.underlying t = some (.slice e)) (hval : Value.okWide P w r b0 t v) (h : DataW.Trod enc P w base spare held t v d ps) :
    ∃ A n cap C, v = .slice A n cap ∧ n ≤ cap ∧ cap ≤ maxLen ∧ ArgRow w A n (P.cellsOf e) C ∧ ∀ i, i < n → ∃ m x, DataW.trod enc P w base spare held m e (C i) = some x := by
  obtain ⟨A, n, cap, rfl⟩ := okWide_slice ht hval
  obtain ⟨fuel, h⟩ := h
  rcases Deep.open_slice ht h with ⟨hc, _⟩ | ⟨a, len, cap', m, q, D, Pl, hc, _, hl, hm, hmm, _, hx⟩
  · simp only [Value.cells, List.cons.injEq, Value.slice.injEq, and_true] at hc
    obtain ⟨rfl, rfl, rfl⟩ := hc
    exact ⟨none, 0, 0, fun _ => [], rfl, Nat.le_refl _, by decide, fun i hi => absurd hi (Nat.not_lt_zero i), fun i hi => absurd hi (Nat.not_lt_zero i)⟩
  · simp only [Value.cells, List.cons.injEq, Value.slice.injEq, and_true] at hc
    obtain ⟨rfl, rfl, rfl⟩ := hc
    have hnm : n ≤ m := by rw [hmm]; split <;> omega
    obtain ⟨C, hC⟩ := Deep.choose_lt (fun i hi => hx i (Nat.lt_of_lt_of_le hi hnm) : ∀ i, i < n → _)
    refine ⟨some a, n, cap, C, rfl, hl, hm, fun i hi => ?_, fun i hi => ⟨q, _, (hC i hi).2⟩⟩
    obtain ⟨_, h2, h3⟩ := World.cells?_some (hC i hi).1
    refine ⟨a, rfl, h2, fun j v hj => ?_⟩
    have hlt := (List.getElem?_eq_some_iff.1 hj).1
    rw [h3 j (by omega)]
    exact hj
/-- A slice of structs of numbers. -/
def IntRow (w : World) (A : Option Addr) (n : Nat) (ks : List IntKind) (F : Nat → Nat → Int) : Prop :=
  ∀ i, i < n → ∃ ad, A = some ad ∧ ∀ j k, ks[j]? = some k → w.cell? ((ad.add (i * ks.length)).add j) = some (.int k (F i j)) ∧ (Lit.int k (F i j)).wf = true
theorem IntRow.later {w w' : World} {A : Option Addr} {n : Nat} {ks : List IntKind} {F : Nat → Nat → Int} (h : IntRow w A n ks F) (hl : Later w w') : IntRow w' A n ks F := by
  intro i hi
  obtain ⟨ad, h1, h2⟩ := h i hi
  exact ⟨ad, h1, fun j k hj => ⟨hl.cell_some (h2 j k hj).1, (h2 j k hj).2⟩⟩
theorem arg_structs {r : Reach} {b0 : Nat} {t e : TypeId} {fs : Array Field} {v : Value} {d : DataW H} {ps : List MemPlace} (ks : List IntKind) (ht : P.underlying t = some (.slice e)) (he : P.underlying e = some (.struct fs)) (hk : intFields P fs.toList 0 ks = true)
    (hC : P.cellsOf e = ks.length) (hval : Value.okWide P w r b0 t v) (h : DataW.Trod enc P w base spare held t v d ps) :
    ∃ A n cap F, v = .slice A n cap ∧ n ≤ cap ∧ cap ≤ maxLen ∧ IntRow w A n ks F := by
  obtain ⟨A, n, cap, C, rfl, hl, hm, hR, hT⟩ := arg_row ht hval h
  obtain ⟨F, hF⟩ := Deep.choose_lt (p := fun i (F : Nat → Int) => ∀ j k, ks[j]? = some k → (C i)[j]? = some (.int k (F j)) ∧ (Lit.int k (F j)).wf = true) (n := n) (fun i hi => by
    obtain ⟨m, x, hx⟩ := hT i hi
    exact ints_struct ks he hk hx)
  refine ⟨A, n, cap, F, rfl, hl, hm, fun i hi => ?_⟩
  obtain ⟨ad, h1, h2, h3⟩ := hR i hi
  rw [hC] at h3
  exact ⟨ad, h1, fun j k hj => ⟨h3 j _ (hF i hi j k hj).1, (hF i hi j k hj).2⟩⟩
/-- The fields are numbers of these kinds, or structs of such numbers. -/
def nestFields (P : Program) : List Field → Nat → List IntKind → Bool
  | [], _, [] => true
  | [], _, _ :: _ => false
  | f :: fs, o, ks => f.offset == o && (match P.underlying f.type with
    | some (.int k') => (match ks with | k :: ks' => P.cellsOf f.type == 1 && k' == k && nestFields P fs (o + 1) ks' | [] => false)
    | some (.struct gs) => P.cellsOf f.type == gs.size && decide (gs.size ≤ ks.length) && intFields P gs.toList 0 (ks.take gs.size) && nestFields P fs (o + gs.size) (ks.drop gs.size)
    | _ => false)
theorem nest_cells {cs : List Value} : ∀ (fs : List Field) (o : Nat) (ks : List IntKind), nestFields P fs o ks = true →
    (∀ f ∈ fs, ∃ m y, DataW.trod enc P w base spare held m f.type ((cs.drop f.offset).take (P.cellsOf f.type)) = some y) → ∀ j, j < ks.length → ∃ q : Int, ∀ k, ks[j]? = some k → cs[o + j]? = some (.int k q) ∧ (Lit.int k q).wf = true := by
  intro fs
  induction fs with
  | nil =>
    intro o ks h _ j hj
    cases ks with
    | nil => simp at hj
    | cons k ks => simp [nestFields] at h
  | cons f fs ih =>
    intro o ks h hT j hj
    unfold nestFields at h
    simp only [Bool.and_eq_true, beq_iff_eq] at h
    obtain ⟨rfl, h⟩ := h
    obtain ⟨m, y, hy⟩ := hT f List.mem_cons_self
    have hT' := fun g hg => hT g (List.mem_cons_of_mem f hg)
    split at h
    · rename_i k' hu
      split at h
      · rename_i k ks'
        simp only [Bool.and_eq_true, beq_iff_eq] at h
        obtain ⟨⟨hc, hkk⟩, hr⟩ := h
        subst hkk
        cases j with
        | zero =>
          rw [hc] at hy
          obtain ⟨q, hq, _, hw⟩ := DataW.trod_int hu hy
          refine ⟨q, fun k2 hk2 => ?_⟩
          obtain rfl : k' = k2 := by simpa using hk2
          refine ⟨?_, hw⟩
          have : ((cs.drop f.offset).take 1)[0]? = some (Value.int k' q) := by rw [hq]; rfl
          simpa [List.getElem?_take, List.getElem?_drop] using this
        | succ j =>
          obtain ⟨q, hq⟩ := ih (f.offset + 1) ks' hr hT' j (by simpa using hj)
          refine ⟨q, fun k2 hk2 => ?_⟩
          have := hq k2 (by simpa using hk2)
          rwa [show f.offset + 1 + j = f.offset + (j + 1) by omega] at this
      · cases h
    · rename_i gs hu
      simp only [Bool.and_eq_true, beq_iff_eq, decide_eq_true_eq] at h
      obtain ⟨⟨⟨hc, hle⟩, hin⟩, hr⟩ := h
      by_cases hjs : j < gs.size
      · rw [hc] at hy
        obtain ⟨F, hF⟩ := ints_struct (ks.take gs.size) hu hin hy
        refine ⟨F j, fun k hk => ?_⟩
        have := hF j k (by rw [List.getElem?_take, if_pos hjs]; exact hk)
        refine ⟨?_, this.2⟩
        have h1 := this.1
        rw [List.getElem?_take, if_pos hjs, List.getElem?_drop] at h1
        exact h1
      · obtain ⟨q, hq⟩ := ih (f.offset + gs.size) (ks.drop gs.size) hr hT' (j - gs.size) (by rw [List.length_drop]; omega)
        refine ⟨q, fun k hk => ?_⟩
        have := hq k (by rw [List.getElem?_drop, show gs.size + (j - gs.size) = j by omega]; exact hk)
        rwa [show f.offset + gs.size + (j - gs.size) = f.offset + j by omega] at this
    · cases h
theorem nest_struct {e : TypeId} {fs : Array Field} {m : Nat} {cs : List Value} {x : DataW H × List MemPlace} (ks : List IntKind) (he : P.underlying e = some (.struct fs)) (hk : nestFields P fs.toList 0 ks = true) (h : DataW.trod enc P w base spare held m e cs = some x) :
    ∃ F : Nat → Int, ∀ j k, ks[j]? = some k → cs[j]? = some (.int k (F j)) ∧ (Lit.int k (F j)).wf = true := by
  obtain ⟨xs, n, _, _, hlen, hxs, hf⟩ := DataW.trod_struct he h
  have := nest_cells (enc := enc) (P := P) (w := w) (base := base) (spare := spare) (held := held) (cs := cs) fs.toList 0 ks hk (fun f hf' => by
    obtain ⟨i, hi⟩ := List.getElem?_of_mem hf'
    have h1 := hf i f (by simpa using hi)
    have hil : i < xs.length := by
      have := (List.getElem?_eq_some_iff.1 hi).1
      rw [hxs]; simpa using this
    rw [List.getElem?_eq_getElem hil] at h1
    exact ⟨n, _, h1⟩)
  obtain ⟨F, hF⟩ := Deep.choose_lt this
  exact ⟨F, fun j k hj => by have := hF j (List.getElem?_eq_some_iff.1 hj).1 k hj; rwa [Nat.zero_add] at this⟩
theorem arg_nests {r : Reach} {b0 : Nat} {t e : TypeId} {fs : Array Field} {v : Value} {d : DataW H} {ps : List MemPlace} (ks : List IntKind) (ht : P.underlying t = some (.slice e)) (he : P.underlying e = some (.struct fs)) (hk : nestFields P fs.toList 0 ks = true)
    (hC : P.cellsOf e = ks.length) (hval : Value.okWide P w r b0 t v) (h : DataW.Trod enc P w base spare held t v d ps) :
    ∃ A n cap F, v = .slice A n cap ∧ n ≤ cap ∧ cap ≤ maxLen ∧ IntRow w A n ks F := by
  obtain ⟨A, n, cap, C, rfl, hl, hm, hR, hT⟩ := arg_row ht hval h
  obtain ⟨F, hF⟩ := Deep.choose_lt (p := fun i (F : Nat → Int) => ∀ j k, ks[j]? = some k → (C i)[j]? = some (.int k (F j)) ∧ (Lit.int k (F j)).wf = true) (n := n) (fun i hi => by
    obtain ⟨m, x, hx⟩ := hT i hi
    exact nest_struct ks he hk hx)
  refine ⟨A, n, cap, F, rfl, hl, hm, fun i hi => ?_⟩
  obtain ⟨ad, h1, h2, h3⟩ := hR i hi
  rw [hC] at h3
  exact ⟨ad, h1, fun j k hj => ⟨h3 j _ (hF i hi j k hj).1, (hF i hi j k hj).2⟩⟩
theorem arg_ints {r : Reach} {b0 : Nat} {t e : TypeId} {k : IntKind} {v : Value} {d : DataW H} {ps : List MemPlace} (ht : P.underlying t = some (.slice e)) (he : P.underlying e = some (.int k))
    (hC : P.cellsOf e = 1) (hval : Value.okWide P w r b0 t v) (h : DataW.Trod enc P w base spare held t v d ps) :
    ∃ A n cap F, v = .slice A n cap ∧ n ≤ cap ∧ cap ≤ maxLen ∧ IntRow w A n [k] F := by
  obtain ⟨A, n, cap, C, rfl, hl, hm, hR, hT⟩ := arg_row ht hval h
  obtain ⟨F, hF⟩ := Deep.choose_lt (p := fun i (q : Int) => C i = [.int k q] ∧ (Lit.int k q).wf = true) (n := n) (fun i hi => by
    obtain ⟨m, x, hx⟩ := hT i hi
    obtain ⟨q, h1, _, h2⟩ := DataW.trod_int he hx
    exact ⟨q, h1, h2⟩)
  refine ⟨A, n, cap, fun i _ => F i, rfl, hl, hm, fun i hi => ?_⟩
  obtain ⟨ad, h1, h2, h3⟩ := hR i hi
  rw [hC] at h3
  refine ⟨ad, h1, fun j k' hj => ?_⟩
  cases j with
  | zero =>
    obtain rfl : k = k' := by simpa using hj
    exact ⟨h3 0 _ (by rw [(hF i hi).1]; rfl), (hF i hi).2⟩
  | succ j => simp at hj
/-- A flat struct of five numbers, by value. -/
theorem arg_struct5 {r : Reach} {b0 : Nat} {t : TypeId} {fs : Array Field} {v : Value} {d : DataW H} {ps : List MemPlace} (k0 k1 k2 k3 k4 : IntKind) (he : P.underlying t = some (.struct fs)) (hk : intFields P fs.toList 0 [k0, k1, k2, k3, k4] = true)
    (hC : P.cellsOf t = 5) (hval : Value.okWide P w r b0 t v) (h : DataW.Trod enc P w base spare held t v d ps) :
    ∃ F : Nat → Int, v = .agg #[.int k0 (F 0), .int k1 (F 1), .int k2 (F 2), .int k3 (F 3), .int k4 (F 4)] ∧ (Lit.int k0 (F 0)).wf = true ∧ (Lit.int k1 (F 1)).wf = true ∧ (Lit.int k2 (F 2)).wf = true ∧ (Lit.int k3 (F 3)).wf = true ∧ (Lit.int k4 (F 4)).wf = true := by
  obtain ⟨cs, rfl, hsz⟩ := okWide_struct he hval
  obtain ⟨fuel, h⟩ := h
  obtain ⟨F, hF⟩ := ints_struct [k0, k1, k2, k3, k4] he hk h
  have h0 := hF 0 k0 rfl
  have h1 := hF 1 k1 rfl
  have h2 := hF 2 k2 rfl
  have h3 := hF 3 k3 rfl
  have h4 := hF 4 k4 rfl
  refine ⟨F, ?_, h0.2, h1.2, h2.2, h3.2, h4.2⟩
  congr 1
  apply Array.ext_getElem?
  intro i
  simp only [Value.cells, Array.getElem?_toList] at h0 h1 h2 h3 h4
  by_cases hi : i < 5
  · have : i = 0 ∨ i = 1 ∨ i = 2 ∨ i = 3 ∨ i = 4 := by omega
    rcases this with rfl | rfl | rfl | rfl | rfl
    · exact h0.1
    · exact h1.1
    · exact h2.1
    · exact h3.1
    · exact h4.1
  · rw [Array.getElem?_eq_none (by omega), Array.getElem?_eq_none (by simp; omega)]
end
end Go.Vc

/-
What is handed in: values, and elements of slices, that are numbers, bools, texts, and structs of them, however deep.
Conditions: each theorem's hypotheses; nothing is asked of a program.
-/
namespace Go.Vc
open Go.RowKit Go.ChangeShapes Go.WideShapes
set_option linter.unusedVariables false
set_option linter.unusedSimpArgs false
set_option linter.unnecessarySimpa false

inductive CK where
  | int (k : IntKind) | bool | str
def CK.fits : CK → Value → Prop
  | .int k, v => ∃ n, v = .int k n ∧ (Lit.int k n).wf = true
  | .bool, v => ∃ b, v = .bool b
  | .str, v => ∃ s : ByteArray, v = .string s ∧ s.size ≤ maxLen
/-- The kinds of the cells of a struct's fields. -/
def kindsFs (P : Program) (g : TypeId → Option (List CK)) : List Field → Nat → Option (List CK)
  | [], _ => some []
  | f :: fs, o => (match g f.type with
    | some ks => (match Nat.beq f.offset o && Nat.beq (P.cellsOf f.type) ks.length with
      | true => (match kindsFs P g fs (o + ks.length) with | some l => some (ks ++ l) | none => none)
      | false => none)
    | none => none)
def kindsT (P : Program) : Nat → TypeId → Option (List CK)
  | 0, _ => none
  | n + 1, t => (match P.underlying t with
    | some .bool => some [.bool]
    | some (.int k) => some [.int k]
    | some .string => some [.str]
    | some (.struct fs) => kindsFs P (kindsT P n) fs.toList 0
    | _ => none)
section
variable {H : Type} {enc : TypeId × Value → H} {P : Program} {w : World} {base : Nat} {spare : Nat → Bool} {held : Bool}
theorem kindsFs_read {g : TypeId → Option (List CK)} {cs : List Value} (hg : ∀ (t : TypeId) (ks : List CK) (m : Nat) (cs' : List Value) (x : DataW H × List MemPlace), g t = some ks → DataW.trod enc P w base spare held m t cs' = some x → ∀ (j : Nat) (k : CK), ks[j]? = some k → ∃ v, cs'[j]? = some v ∧ k.fits v) :
    ∀ (fs : List Field) (o : Nat) (ks : List CK), kindsFs P g fs o = some ks → (∀ f ∈ fs, ∃ m y, DataW.trod enc P w base spare held m f.type ((cs.drop f.offset).take (P.cellsOf f.type)) = some y) → ∀ (j : Nat) (k : CK), ks[j]? = some k → ∃ v, cs[o + j]? = some v ∧ k.fits v := by
  intro fs
  induction fs with
  | nil =>
    intro o ks h _ j k hj
    simp only [kindsFs, Option.some.injEq] at h
    subst h
    simp at hj
  | cons f fs ih =>
    intro o ks h hT j k hj
    unfold kindsFs at h
    split at h
    case h_2 => cases h
    rename_i ks1 hk1
    split at h
    case h_2 => cases h
    rename_i hb
    simp only [Bool.and_eq_true] at hb
    have ho := Nat.eq_of_beq_eq_true hb.1
    have hc := Nat.eq_of_beq_eq_true hb.2
    split at h
    case h_2 => cases h
    rename_i l hl
    obtain rfl := Option.some.inj h
    by_cases hjl : j < ks1.length
    · rw [List.getElem?_append_left hjl] at hj
      obtain ⟨m, y, hy⟩ := hT f List.mem_cons_self
      obtain ⟨v, hv, hf⟩ := hg _ _ _ _ _ hk1 hy j k hj
      refine ⟨v, ?_, hf⟩
      rw [List.getElem?_take, hc, if_pos hjl, List.getElem?_drop, ho] at hv
      exact hv
    · rw [List.getElem?_append_right (by omega)] at hj
      obtain ⟨v, hv, hf⟩ := ih _ _ hl (fun g hg => hT g (List.mem_cons_of_mem f hg)) _ _ hj
      exact ⟨v, by rwa [show o + ks1.length + (j - ks1.length) = o + j by omega] at hv, hf⟩
theorem kindsT_read : ∀ (n : Nat) (t : TypeId) (ks : List CK) (m : Nat) (cs : List Value) (x : DataW H × List MemPlace), kindsT P n t = some ks → DataW.trod enc P w base spare held m t cs = some x → ∀ (j : Nat) (k : CK), ks[j]? = some k → ∃ v, cs[j]? = some v ∧ k.fits v
  | 0, t, ks, m, cs, x, h, _ => by simp [kindsT] at h
  | n + 1, t, ks, m, cs, x, h, hx => by
    intro j k hj
    unfold kindsT at h
    split at h
    · rename_i hu
      obtain rfl := Option.some.inj h
      obtain ⟨b, rfl, _⟩ := DataW.trod_bool hu hx
      cases j with
      | zero => obtain rfl : CK.bool = k := by simpa using hj
                exact ⟨_, rfl, b, rfl⟩
      | succ j => simp at hj
    · rename_i k' hu
      obtain rfl := Option.some.inj h
      obtain ⟨q, rfl, _, hw⟩ := DataW.trod_int hu hx
      cases j with
      | zero => obtain rfl : CK.int k' = k := by simpa using hj
                exact ⟨_, rfl, q, rfl, hw⟩
      | succ j => simp at hj
    · rename_i hu
      obtain rfl := Option.some.inj h
      obtain ⟨s, rfl, _, hs⟩ := DataW.trod_string hu hx
      cases j with
      | zero => obtain rfl : CK.str = k := by simpa using hj
                exact ⟨_, rfl, s, rfl, hs⟩
      | succ j => simp at hj
    · rename_i fs hu
      obtain ⟨xs, n', _, _, hlen, hxs, hf⟩ := DataW.trod_struct hu hx
      have := kindsFs_read (cs := cs) (fun t ks m cs x => kindsT_read n t ks m cs x) fs.toList 0 ks h (fun f hf' => by
        obtain ⟨i, hi⟩ := List.getElem?_of_mem hf'
        have h1 := hf i f (by simpa using hi)
        have hil : i < xs.length := by
          have := (List.getElem?_eq_some_iff.1 hi).1
          rw [hxs]; simpa using this
        rw [List.getElem?_eq_getElem hil] at h1
        exact ⟨n', _, h1⟩) j k hj
      rwa [Nat.zero_add] at this
    · cases h
/-- A slice that was handed in: its elements' cells, each of its kind. -/
theorem arg_cells {r : Reach} {b0 : Nat} {t e : TypeId} {v : Value} {d : DataW H} {ps : List MemPlace} (n : Nat) (ks : List CK) (ht : P.underlying t = some (.slice e)) (hk : kindsT P n e = some ks) (hC : P.cellsOf e = ks.length)
    (hval : Value.okWide P w r b0 t v) (h : DataW.Trod enc P w base spare held t v d ps) :
    ∃ A len cap C, v = .slice A len cap ∧ len ≤ cap ∧ cap ≤ maxLen ∧ ArgRow w A len ks.length C ∧ ∀ i, i < len → ∀ (j : Nat) (k : CK), ks[j]? = some k → ∃ u, (C i)[j]? = some u ∧ k.fits u := by
  obtain ⟨A, len, cap, C, rfl, hl, hm, hR, hT⟩ := arg_row ht hval h
  rw [hC] at hR
  exact ⟨A, len, cap, C, rfl, hl, hm, hR, fun i hi => let ⟨m, x, hx⟩ := hT i hi; kindsT_read n e ks m (C i) x hk hx⟩
/-- A struct that was handed in. -/
theorem arg_agg {r : Reach} {b0 : Nat} {t : TypeId} {fs : Array Field} {v : Value} {d : DataW H} {ps : List MemPlace} (n : Nat) (ks : List CK) (ht : P.underlying t = some (.struct fs)) (hk : kindsT P n t = some ks) (hC : P.cellsOf t = ks.length)
    (hval : Value.okWide P w r b0 t v) (h : DataW.Trod enc P w base spare held t v d ps) :
    ∃ cs : List Value, v = .agg cs.toArray ∧ cs.length = ks.length ∧ ∀ (j : Nat) (k : CK), ks[j]? = some k → ∃ u, cs[j]? = some u ∧ k.fits u := by
  obtain ⟨cs, rfl, hsz⟩ := okWide_struct ht hval
  obtain ⟨fuel, h⟩ := h
  refine ⟨cs.toList, by simp, by rw [← hC]; simpa using hsz, ?_⟩
  exact kindsT_read n t ks fuel _ _ hk (by simpa [Value.cells] using h)
end
end Go.Vc

/-
A row of a law, from its call: the call comes to true and turns nothing old, so the row's words behind the call stand.
Conditions: the program is laid out; each parameter's type can be read.
-/
namespace Go.Vc
open Go.RowKit Go.ChangeShapes Go.WideShapes Go.ChangeAt
set_option linter.unusedVariables false

/-- Each type can be read and is a row of the table. -/
def readAll (P : Program) (ts : List TypeId) : Bool := ts.all fun t => P.readableRec t && decide (t < P.types.size)
theorem later_trodAll {H : Type} {enc : TypeId × Value → H} {P : Program} (hl : laidOutB P = true) {W W' : World} (hb : Later W W') :
    ∀ {ts : List TypeId} {vs : List Value} {ds : List (DataW H)} {ps : List MemPlace}, readAll P ts = true → DataW.TrodAll enc P W 0 (fun _ => true) true ts vs ds ps → (∀ x ∈ ps, x.block < W.heap.size) →
      DataW.TrodAll enc P W' 0 (fun b => decide (b < W.heap.size)) true ts vs ds ps
  | [], [], [], _, _, h, _ => h
  | [], [], _ :: _, _, _, h, _ => h.elim
  | [], _ :: _, [], _, _, h, _ => h.elim
  | [], _ :: _, _ :: _, _, _, h, _ => h.elim
  | _ :: _, [], [], _, _, h, _ => h.elim
  | _ :: _, [], _ :: _, _, _, h, _ => h.elim
  | _ :: _, _ :: _, [], _, _, h, _ => h.elim
  | t :: ts, v :: vs, d :: ds, ps, hr, h, hp => by
    obtain ⟨p, q, h1, h2, e⟩ := h
    simp only [readAll, List.all_cons, Bool.and_eq_true] at hr
    subst e
    exact ⟨p, q, Below.trod hl hr.1.1 (of_decide_eq_true hr.1.2) h1 hb (fun x hx => hp x (by simp [hx])), later_trodAll hl hb (by simpa [readAll] using hr.2) h2 (fun x hx => hp x (by simp [hx])), rfl⟩
/-- The row's words behind a law's call. -/
theorem law_post {H : Type} {enc : TypeId × Value → H} {P : Program} {f : Func} {s : ChangeSpec} {W W' : World} {args : Array Value} {ds gs : List (DataW H)} {before : List MemPlace} {tb : TypeId}
    (hl : laidOutB P = true) (hW : DataW.Whole enc P f.params.toList s.vars false W args.toList ds gs before) (hr : readAll P f.params.toList = true) (hv : varsRowed P s.vars = true)
    (ht : f.resultTypes = #[tb]) (hu : P.underlying tb = some .bool) (hfn : s.fn H (ds ++ gs) = { results := [.lit (.bool true)], args := ds, vars := gs }) (hb : Later W W') :
    s.post enc P f false true false false W args (.bool true) W' := by
  have hlt : ∀ x ∈ before, x.block < W.heap.size := fun x hx => hW.lt x hx
  have hW0 := hW
  obtain ⟨p, q, hA, hV, e, hz, hn⟩ := hW
  subst e
  refine ⟨ds, gs, p ++ q, [], p, q, hW0, ?_, ?_, ?_, Below.frame hb _, fun h => by cases h⟩
  · rw [hfn, ht]
    exact trodAll_cons_mk (shut_bool hu _) trodAll_mk0
  · rw [hfn]
    exact later_trodAll hl hb hr hA (fun x hx => hlt x (by simp [hx]))
  · rw [hfn]
    exact Below.trodVars hl hb hv hV
theorem wf_bound {k : IntKind} {n : Int} (h : (Lit.int k n).wf = true) : k.min ≤ n ∧ n ≤ k.max := by
  simpa [Lit.wf] using h
theorem wf_u64 {n : Int} (h : (Lit.int .u64 n).wf = true) : 0 ≤ n ∧ n < 18446744073709551616 := by
  have := wf_bound h
  rw [show IntKind.u64.min = 0 from rfl, show IntKind.u64.max = 18446744073709551615 from rfl] at this
  omega
theorem wf_u32 {n : Int} (h : (Lit.int .u32 n).wf = true) : 0 ≤ n ∧ n < 4294967296 := by
  have := wf_bound h
  rw [show IntKind.u32.min = 0 from rfl, show IntKind.u32.max = 4294967295 from rfl] at this
  omega
theorem wf_u8 {n : Int} (h : (Lit.int .u8 n).wf = true) : 0 ≤ n ∧ n < 256 := by
  have := wf_bound h
  rw [show IntKind.u8.min = 0 from rfl, show IntKind.u8.max = 255 from rfl] at this
  omega
theorem wf_i64 {n : Int} (h : (Lit.int .i64 n).wf = true) : -9223372036854775808 ≤ n ∧ n < 9223372036854775808 := by
  have := wf_bound h
  rw [show IntKind.i64.min = -9223372036854775808 from rfl, show IntKind.i64.max = 9223372036854775807 from rfl] at this
  omega
end Go.Vc

/-
Images, twelfth part: an image that is handed in.
Conditions: each theorem's hypotheses.
-/
namespace Go.Proofs.Ytjoikaklincfoaa
open Go Go.Vc Go.RowKit Go.ChangeShapes Go.WideShapes
set_option linter.unusedVariables false
set_option linter.unusedSimpArgs false
set_option linter.unnecessarySimpa false
set_option maxRecDepth 100000

section
variable {H : Type} {enc : TypeId × Value → H} {w : World} {base : Nat} {spare : Nat → Bool} {held : Bool} {P : Program}
theorem row_read {t e : TypeId} {fuel : Nat} {cs : List Value} {x : DataW H × List MemPlace} (ht : P.underlying t = some (.slice e)) (h : DataW.trod enc P w base spare held fuel t cs = some x) :
    ∃ A n cap C, cs = [.slice A n cap] ∧ n ≤ cap ∧ cap ≤ maxLen ∧ ArgRow w A n (P.cellsOf e) C ∧ ∀ i, i < n → ∃ m x, DataW.trod enc P w base spare held m e (C i) = some x := by
  rcases Deep.open_slice ht h with ⟨hc, _⟩ | ⟨a, n, cap, m, q, D, Pl, hc, _, hl, hm, hmm, _, hx⟩
  · exact ⟨none, 0, 0, fun _ => [], hc, Nat.le_refl _, by decide, fun i hi => absurd hi (Nat.not_lt_zero i), fun i hi => absurd hi (Nat.not_lt_zero i)⟩
  · have hnm : n ≤ m := by rw [hmm]; split <;> omega
    obtain ⟨C, hC⟩ := Deep.choose_lt (fun i hi => hx i (Nat.lt_of_lt_of_le hi hnm) : ∀ i, i < n → _)
    refine ⟨some a, n, cap, C, hc, hl, hm, fun i hi => ?_, fun i hi => ⟨q, _, (hC i hi).2⟩⟩
    obtain ⟨_, h2, h3⟩ := World.cells?_some (hC i hi).1
    refine ⟨a, rfl, h2, fun j v hj => ?_⟩
    have hlt := (List.getElem?_eq_some_iff.1 hj).1
    rw [h3 j (by omega)]
    exact hj
theorem field_read {cs : List Value} {fs : Array Field} {n' : Nat} {xs : List (DataW H × List MemPlace)} (hlen : xs.length = fs.size) (hf : ∀ (i : Nat) (f : Field), fs[i]? = some f → DataW.trod enc P w base spare held n' f.type ((cs.drop f.offset).take (P.cellsOf f.type)) = xs[i]?)
    (i : Nat) (f : Field) (hi : fs[i]? = some f) (t o n : Nat) (ht : f.type = t) (ho : f.offset = o) (hn : P.cellsOf t = n) : ∃ m y, DataW.trod enc P w base spare held m t ((cs.drop o).take n) = some y := by
  subst ht; subst ho; subst hn
  have hil : i < xs.length := by rw [hlen]; exact (Array.getElem?_eq_some_iff.1 hi).1
  exact ⟨n', _, (hf i f hi).trans (List.getElem?_eq_getElem hil)⟩
instance : Inhabited Hd := ⟨⟨false, false, false, 0, 0⟩⟩
theorem arg_image {r : Reach} {b0 : Nat} {v : Value} {d : DataW H} {ps : List MemPlace} (hval : Value.okWide Try.prog w r b0 25 v) (h : DataW.Trod enc Try.prog w base spare held 25 v d ps) :
    ∃ A1 c1 A2 c2 x, v = imgV A1 c1 A2 c2 x ∧ ImIn x ∧ ImAt w A1 A2 x := by
  obtain ⟨cs, rfl, hsz⟩ := okWide_struct Try.underlying25 hval
  obtain ⟨fuel, h⟩ := h
  obtain ⟨xs, n', _, _, hlen, hxs, hf⟩ := DataW.trod_struct Try.underlying25 h
  have hsz : cs.size = 5 := hsz.trans (by kernel_rfl)
  obtain ⟨m0, y0, h0⟩ := field_read hxs hf 0 _ rfl 3 0 1 rfl rfl (by kernel_rfl)
  obtain ⟨m1, y1, h1⟩ := field_read hxs hf 1 _ rfl 22 1 1 rfl rfl (by kernel_rfl)
  obtain ⟨m2, y2, h2⟩ := field_read hxs hf 2 _ rfl 4 2 1 rfl rfl (by kernel_rfl)
  obtain ⟨m3, y3, h3⟩ := field_read hxs hf 3 _ rfl 4 3 1 rfl rfl (by kernel_rfl)
  obtain ⟨m4, y4, h4⟩ := field_read hxs hf 4 _ rfl 23 4 1 rfl rfl (by kernel_rfl)
  obtain ⟨l, rfl⟩ : ∃ l : List Value, cs = l.toArray := ⟨cs.toList, by simp⟩
  match l, hsz with
  | [v0, v1, v2, v3, v4], _ =>
  simp only [Value.cells, List.drop_zero, List.drop_succ_cons, List.take_succ_cons, List.take_zero] at h0 h1 h2 h3 h4
  obtain ⟨n0, e0, _, w0⟩ := DataW.trod_int Try.underlying3 h0
  obtain ⟨b2, e2, _⟩ := DataW.trod_bool Try.underlying4 h2
  obtain ⟨b3, e3, _⟩ := DataW.trod_bool Try.underlying4 h3
  obtain ⟨A1, l1, c1, C1, e1, hl1, hm1, R1, T1⟩ := row_read Try.underlying22 h1
  obtain ⟨A2, l2, c2, C2, e4, hl2, hm2, R2, T2⟩ := row_read Try.underlying23 h4
  obtain ⟨F, hF⟩ := Deep.choose_lt (p := fun i (m : Hd) => (∀ j v, (hdC m)[j]? = some v → (C1 i)[j]? = some v) ∧ I64 m.d ∧ I64 m.len) (n := l1) (fun i hi => by
    obtain ⟨m, x, hx⟩ := T1 i hi
    have hc := kindsT_read 2 _ [.bool, .bool, .bool, .int .i64, .int .i64] _ _ _ (by kernel_rfl) hx
    obtain ⟨u0, g0, b0, rfl⟩ := hc 0 _ rfl
    obtain ⟨u1, g1, b1, rfl⟩ := hc 1 _ rfl
    obtain ⟨u2, g2, b2, rfl⟩ := hc 2 _ rfl
    obtain ⟨u3, g3, n3, rfl, f3⟩ := hc 3 _ rfl
    obtain ⟨u4, g4, n4, rfl, f4⟩ := hc 4 _ rfl
    refine ⟨⟨b0, b1, b2, n3, n4⟩, fun j v hv => ?_, wf_i64 f3, wf_i64 f4⟩
    have hj : j < 5 := (List.getElem?_eq_some_iff.1 hv).1
    match j, hj, hv with
    | 0, _, hv => rw [g0]; exact hv
    | 1, _, hv => rw [g1]; exact hv
    | 2, _, hv => rw [g2]; exact hv
    | 3, _, hv => rw [g3]; exact hv
    | 4, _, hv => rw [g4]; exact hv)
  obtain ⟨G, hG⟩ := Deep.choose_lt (p := fun i (m : Int) => (C2 i)[0]? = some (.int .u32 m) ∧ W32 m) (n := l2) (fun i hi => by
    obtain ⟨m, x, hx⟩ := T2 i hi
    have hc := kindsT_read 1 _ [.int .u32] _ _ _ (by kernel_rfl) hx
    obtain ⟨u0, g0, n0, rfl, f0⟩ := hc 0 _ rfl
    exact ⟨n0, g0, wf_u32 f0⟩)
  have hn1 : ((List.range l1).map F).length = l1 := by simp
  have hn2 : ((List.range l2).map G).length = l2 := by simp
  obtain rfl : v0 = _ := by simpa using e0
  obtain rfl : v1 = _ := by simpa using e1
  obtain rfl : v2 = _ := by simpa using e2
  obtain rfl : v3 = _ := by simpa using e3
  obtain rfl : v4 = _ := by simpa using e4
  refine ⟨A1, c1, A2, c2, ⟨n0, (List.range l1).map F, b2, b3, (List.range l2).map G⟩, ?_, ⟨wf_i64 w0, ?_, ?_⟩, ⟨?_, ?_⟩⟩
  · simp [imgV]
  · intro m hm
    obtain ⟨i, hi, rfl⟩ := List.mem_map.1 hm
    exact (hF i (List.mem_range.1 hi)).2
  · intro m hm
    obtain ⟨i, hi, rfl⟩ := List.mem_map.1 hm
    exact (hG i (List.mem_range.1 hi)).2
  · intro i m hi
    have hil : i < l1 := by have := (List.getElem?_eq_some_iff.1 hi).1; rwa [hn1] at this
    obtain rfl : F i = m := by simpa [hil] using hi
    obtain ⟨ad, g1, _, g3⟩ := R1 i hil
    exact ⟨ad, g1, fun j v hv => g3 j v ((hF i hil).1 j v hv)⟩
  · intro i m hi
    have hil : i < l2 := by have := (List.getElem?_eq_some_iff.1 hi).1; rwa [hn2] at this
    obtain rfl : G i = m := by simpa [hil] using hi
    obtain ⟨ad, g1, _, g3⟩ := R2 i hil
    refine ⟨ad, g1, fun j v hv => ?_⟩
    have hj : j < 1 := (List.getElem?_eq_some_iff.1 hv).1
    match j, hj, hv with
    | 0, _, hv =>
      obtain rfl : Value.int .u32 (G i) = v := by simpa [u32T] using hv
      exact g3 0 _ (hG i hil).1
end
end Go.Proofs.Ytjoikaklincfoaa

/-
Chapter 30's third law, once called: it answers true and turns nothing old.
Conditions: the image's numbers are of their kinds, the texts are no longer than any text may be.
-/
namespace Go.Proofs.Ytjoikaklincfoaa
open Go Go.Vc Go.RowKit
set_option linter.unusedVariables false
set_option linter.unusedSimpArgs false
set_option linter.unnecessarySimpa false
set_option maxRecDepth 100000

set_option maxHeartbeats 6400000 in
theorem law30_ImageBack_ok {x : Img} (hin : ImIn x) {A1 A2 : Option Addr} {c1 c2 : Nat} (s more : ByteArray) (cut : Int) (hcut : 0 ≤ cut ∧ cut < 65536) (hsm : s.size ≤ 140737488355328) (hmm : more.size ≤ 140737488355328) (w : World) (hr : ImAt w A1 A2 x) :
    Calls Try.prog law30_ImageBack.N #[imgV A1 c1 A2 c2 x, .string s, .int .u16 cut, .string more] w (Gives (.bool true) w) := by
  refine law30_ImageBack.calls ?_
  unfold law30_ImageBack.vc
  intro w1 h1
  have L := (Trk.start w).alloc h1
  have alive : ∀ {w' : World}, Later w w' → Calls Try.prog law30_alive.N #[] w' fun e w'' => ∃ b : Bool, e = .returned (.bool b) ∧ Gives (.bool true) w (.returned (.bool b)) w'' := fun hl => (law30_alive_ok _).mono fun e w3 ⟨he, g3⟩ => ⟨_, he, rfl, hl.trans g3⟩
  refine ⟨_, _, _, _, _, _, _, _, _, ⟨L.cell 0 rfl rfl, L.cell 0 rfl rfl, L.cell 0 rfl rfl, L.cell 0 rfl rfl, L.cell 0 rfl rfl, trivial⟩, ?_⟩
  refine (law30_large_ok (c1 := c1) (c2 := c2) (A1 := A1) (A2 := A2) (x := x) w1).mono fun e w2 ⟨he, g2⟩ => ⟨_, he, ?_⟩
  have L := L.later g2
  refine cnd_of (fun h => alive L.to) fun h => ?_
  have hx3 : x.params.length ≤ 300 ∧ x.code.length ≤ 3000 := by
    simp only [Bool.or_eq_false_iff, decide_eq_false_iff_not] at h
    omega
  have hx : ImOk x := ⟨hin.slots, hin.params, hin.code, by omega, by omega⟩
  refine cnd_of (fun h => alive L.to) fun h => ?_
  have hsum : s.size + more.size ≤ 16384 := by
    skip
    rw [decide_eq_false_iff_not, i64_in (by omega) (by omega)] at h
    omega
  have hs1 : s.size ≤ 100000 := by omega
  refine ⟨_, _, _, _, _, _, _, _, _, ⟨L.cell 0 rfl rfl, L.cell 0 rfl rfl, L.cell 0 rfl rfl, L.cell 0 rfl rfl, L.cell 0 rfl rfl, trivial⟩, ?_⟩
  refine (ref30_Copy_ok (c1 := c1) (c2 := c2) hx (hr.later L.to)).mono fun e w3 ⟨g3, B1, d1, B2, d2, he, hq, _, _⟩ => ?_
  have L := L.later g3
  refine ⟨_, _, _, _, _, _, _, _, _, he, ?_⟩
  refine (image_Put_ok (c1 := d1) (c2 := d2) hx hq).mono fun e w4 ⟨he, g4⟩ => ⟨_, _, he, ?_⟩
  have L := L.later g4
  refine cnd_of (fun h => ?_) fun h => ?_
  · have hm : mayI x = true := by
      cases hm : mayI x with
      | true => rfl
      | false => simp [textE, hm] at h
    have ep : putS x = strOf (putB x) := by rw [putS, if_pos hm]
    rw [ep]
    have z1 : (strOf (putB x)).size ≤ 20000 := by rw [strOf_size, putB_length]; omega
    have z2 := put_size4 x
    obtain ⟨hE, hX⟩ := get_put hx hm
    refine (image_Get_ok (s := strOf (putB x)) (by omega) _).mono fun e w5 ⟨g5, D1, e1, D2, e2, he, hi⟩ => ?_
    refine ⟨_, _, _, _, _, _, _, _, _, _, he, fun w6 h6 => keepI (L.later g5) h6 fun w7 g7 L => ?_⟩
    have hi := hi.later g7
    refine cnd_false (by rw [hE]; rfl) ?_
    refine ⟨_, _, _, _, _, _, _, _, _, ⟨L.cell 0 rfl rfl, L.cell 0 rfl rfl, L.cell 0 rfl rfl, L.cell 0 rfl rfl, L.cell 0 rfl rfl, trivial⟩, _, _, _, _, _, _, _, _, _, ⟨L.cell 1 rfl rfl, L.cell 1 rfl rfl, L.cell 1 rfl rfl, L.cell 1 rfl rfl, L.cell 1 rfl rfl, trivial⟩, ?_⟩
    refine (ref30_Same_ok (c1 := c1) (c2 := c2) hx (hr.later L.to) hi).mono fun e w8 ⟨he, g8⟩ => ⟨_, he, ?_⟩
    have L := L.later g8
    refine cnd_false (by rw [hX]; simp) (cnd_false ?_ (cnd_false ?_ ?_))
    · rw [Bool.eq_false_iff]
      intro h
      have := eq_size h
      have z : (ByteArray.mk #[]).size = 0 := rfl
      omega
    · rw [decide_eq_false_iff_not]
      omega
    have ew : IntKind.i64.wrap cut = cut := i64_in (by omega) (by omega)
    rw [ew, tmod_nn _ hcut.1]
    have k0 : 0 ≤ cut % ((strOf (putB x)).size : Int) := Int.emod_nonneg _ (by omega)
    have k1 : cut % ((strOf (putB x)).size : Int) < ((strOf (putB x)).size : Int) := Int.emod_lt_of_pos _ (by omega)
    generalize cut % ((strOf (putB x)).size : Int) = k at k0 k1
    have hk : k.toNat < (strOf (putB x)).size := by omega
    have h6 := get_cut hx hm hk
    refine ⟨⟨k0, by omega⟩, ?_⟩
    refine (image_Get_ok (s := (strOf (putB x)).extract 0 k.toNat) (by rw [ByteArray.size_extract]; omega) _).mono fun e w9 ⟨g9, E1, f1, E2, f2, he, _⟩ => ?_
    refine ⟨_, _, _, _, _, _, _, _, _, _, he, fun w10 h10 => keepI (L.later g9) h10 fun w11 g11 L => ⟨by omega, ?_⟩⟩
    refine (image_Get_ok (s := strOf (putB x) ++ more) (by rw [ByteArray.size_append]; omega) _).mono fun e w12 ⟨g12, F1, i1, F2, i2, he, _⟩ => ?_
    refine ⟨_, _, _, _, _, _, _, _, _, _, he, fun w13 h13 => keepI (L.later g12) h13 fun w14 g14 L => ?_⟩
    refine cnd_false (by rw [h6]; rfl) (cnd_of (fun h => ?_) fun h => ?_)
    · have hmo : more.size ≠ 0 := by
        intro hz
        have : more = ByteArray.mk #[] := ByteArray.ext (Array.eq_empty_of_size_eq_zero hz)
        rw [this] at h
        simp at h
      refine cnd_false (by rw [get_more hx hm hmo]; rfl) ?_
      refine (image_Get_ok hs1 _).mono fun e wt ⟨gt, T1, u1, T2, u2, he, ht⟩ => ?_
      refine ⟨_, _, _, _, _, _, _, _, _, _, he, fun wk hk => keepI (L.later gt) hk fun wz gz L => ?_⟩
      have ht := ht.later gz
      refine cnd_of (fun h => ?_) fun h => ?_
      · have h0 : getE s ≠ 0 := by simpa using h
        obtain ⟨h6, hz⟩ := get_none h0
        have same : Calls Try.prog ref30_Same.N #[imgV T1 u1 T2 u2 (getX s), imgV none 0 none 0 zeroI] wz fun e w' => ∃ b : Bool, e = .returned (.bool b) ∧ cnd b (Calls Try.prog law30_alive.N #[] w' fun e w'' => ∃ b : Bool, e = .returned (.bool b) ∧ Gives (.bool true) w (.returned (.bool b)) w'') (Gives (.bool true) w (.returned (.bool false)) w') := by
          refine (ref30_Same_ok (getX_ok hs1) ht (zero_at wz)).mono fun e wy ⟨he, gy⟩ => ⟨_, he, cnd_true (by rw [hz]; simp) ?_⟩
          exact alive (L.later gy).to
        rcases h6 with h6 | h6
        · refine cnd_true (by rw [h6]; rfl) ?_
          exact ⟨_, _, _, _, _, _, _, _, _, ⟨L.cell 4 rfl rfl, L.cell 4 rfl rfl, L.cell 4 rfl rfl, L.cell 4 rfl rfl, L.cell 4 rfl rfl, trivial⟩, same⟩
        · refine cnd_false (by rw [h6]; rfl) (cnd_true (by rw [h6]; rfl) ?_)
          exact ⟨_, _, _, _, _, _, _, _, _, ⟨L.cell 4 rfl rfl, L.cell 4 rfl rfl, L.cell 4 rfl rfl, L.cell 4 rfl rfl, L.cell 4 rfl rfl, trivial⟩, same⟩
      have h0 : getE s = 0 := by simpa using h
      obtain ⟨hmb, hpb⟩ := get_back h0
      refine ⟨_, _, _, _, _, _, _, _, _, ⟨L.cell 4 rfl rfl, L.cell 4 rfl rfl, L.cell 4 rfl rfl, L.cell 4 rfl rfl, L.cell 4 rfl rfl, trivial⟩, ?_⟩
      refine (image_Put_ok (getX_ok hs1) ht).mono fun e wy ⟨he, gy⟩ => ⟨_, _, he, ?_⟩
      refine cnd_true (by simp [textE, hmb]) (cnd_true (eq_toList.2 (by rw [putS, if_pos hmb, hpb])) ?_)
      exact alive (L.later gy).to
    · skip
      refine (image_Get_ok hs1 _).mono fun e wt ⟨gt, T1, u1, T2, u2, he, ht⟩ => ?_
      refine ⟨_, _, _, _, _, _, _, _, _, _, he, fun wk hk => keepI (L.later gt) hk fun wz gz L => ?_⟩
      have ht := ht.later gz
      refine cnd_of (fun h => ?_) fun h => ?_
      · have h0 : getE s ≠ 0 := by simpa using h
        obtain ⟨h6, hz⟩ := get_none h0
        have same : Calls Try.prog ref30_Same.N #[imgV T1 u1 T2 u2 (getX s), imgV none 0 none 0 zeroI] wz fun e w' => ∃ b : Bool, e = .returned (.bool b) ∧ cnd b (Calls Try.prog law30_alive.N #[] w' fun e w'' => ∃ b : Bool, e = .returned (.bool b) ∧ Gives (.bool true) w (.returned (.bool b)) w'') (Gives (.bool true) w (.returned (.bool false)) w') := by
          refine (ref30_Same_ok (getX_ok hs1) ht (zero_at wz)).mono fun e wy ⟨he, gy⟩ => ⟨_, he, cnd_true (by rw [hz]; simp) ?_⟩
          exact alive (L.later gy).to
        rcases h6 with h6 | h6
        · refine cnd_true (by rw [h6]; rfl) ?_
          exact ⟨_, _, _, _, _, _, _, _, _, ⟨L.cell 4 rfl rfl, L.cell 4 rfl rfl, L.cell 4 rfl rfl, L.cell 4 rfl rfl, L.cell 4 rfl rfl, trivial⟩, same⟩
        · refine cnd_false (by rw [h6]; rfl) (cnd_true (by rw [h6]; rfl) ?_)
          exact ⟨_, _, _, _, _, _, _, _, _, ⟨L.cell 4 rfl rfl, L.cell 4 rfl rfl, L.cell 4 rfl rfl, L.cell 4 rfl rfl, L.cell 4 rfl rfl, trivial⟩, same⟩
      have h0 : getE s = 0 := by simpa using h
      obtain ⟨hmb, hpb⟩ := get_back h0
      refine ⟨_, _, _, _, _, _, _, _, _, ⟨L.cell 4 rfl rfl, L.cell 4 rfl rfl, L.cell 4 rfl rfl, L.cell 4 rfl rfl, L.cell 4 rfl rfl, trivial⟩, ?_⟩
      refine (image_Put_ok (getX_ok hs1) ht).mono fun e wy ⟨he, gy⟩ => ⟨_, _, he, ?_⟩
      refine cnd_true (by simp [textE, hmb]) (cnd_true (eq_toList.2 (by rw [putS, if_pos hmb, hpb])) ?_)
      exact alive (L.later gy).to
  · have hm : mayI x = false := by
      cases hm : mayI x with
      | false => rfl
      | true => simp [textE, hm] at h
    have ep : putS x = ByteArray.mk #[] := by simp [putS, hm]
    rw [ep]
    refine cnd_false (by simp) ?_
    refine (image_Get_ok hs1 _).mono fun e wt ⟨gt, T1, u1, T2, u2, he, ht⟩ => ?_
    refine ⟨_, _, _, _, _, _, _, _, _, _, he, fun wk hk => keepI (L.later gt) hk fun wz gz L => ?_⟩
    have ht := ht.later gz
    refine cnd_of (fun h => ?_) fun h => ?_
    · have h0 : getE s ≠ 0 := by simpa using h
      obtain ⟨h6, hz⟩ := get_none h0
      have same : Calls Try.prog ref30_Same.N #[imgV T1 u1 T2 u2 (getX s), imgV none 0 none 0 zeroI] wz fun e w' => ∃ b : Bool, e = .returned (.bool b) ∧ cnd b (Calls Try.prog law30_alive.N #[] w' fun e w'' => ∃ b : Bool, e = .returned (.bool b) ∧ Gives (.bool true) w (.returned (.bool b)) w'') (Gives (.bool true) w (.returned (.bool false)) w') := by
        refine (ref30_Same_ok (getX_ok hs1) ht (zero_at wz)).mono fun e wy ⟨he, gy⟩ => ⟨_, he, cnd_true (by rw [hz]; simp) ?_⟩
        exact alive (L.later gy).to
      rcases h6 with h6 | h6
      · refine cnd_true (by rw [h6]; rfl) ?_
        exact ⟨_, _, _, _, _, _, _, _, _, ⟨L.cell 1 rfl rfl, L.cell 1 rfl rfl, L.cell 1 rfl rfl, L.cell 1 rfl rfl, L.cell 1 rfl rfl, trivial⟩, same⟩
      · refine cnd_false (by rw [h6]; rfl) (cnd_true (by rw [h6]; rfl) ?_)
        exact ⟨_, _, _, _, _, _, _, _, _, ⟨L.cell 1 rfl rfl, L.cell 1 rfl rfl, L.cell 1 rfl rfl, L.cell 1 rfl rfl, L.cell 1 rfl rfl, trivial⟩, same⟩
    have h0 : getE s = 0 := by simpa using h
    obtain ⟨hmb, hpb⟩ := get_back h0
    refine ⟨_, _, _, _, _, _, _, _, _, ⟨L.cell 1 rfl rfl, L.cell 1 rfl rfl, L.cell 1 rfl rfl, L.cell 1 rfl rfl, L.cell 1 rfl rfl, trivial⟩, ?_⟩
    refine (image_Put_ok (getX_ok hs1) ht).mono fun e wy ⟨he, gy⟩ => ⟨_, _, he, ?_⟩
    refine cnd_true (by simp [textE, hmb]) (cnd_true (eq_toList.2 (by rw [putS, if_pos hmb, hpb])) ?_)
    exact alive (L.later gy).to
end Go.Proofs.Ytjoikaklincfoaa
