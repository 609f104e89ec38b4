/-
What is handed in: values, and elements of slices, that are numbers, bools, texts, and structs of them, however deep.
Conditions: each theorem's hypotheses; nothing is asked of a program.
-/
import Derived.Test.YtngkifnknlginaaVcArg
namespace Go.Vc
open Go.RowKit Go.ChangeShapes Go.WideShapes
set_option linter.unusedVariables false
set_option linter.unusedSimpArgs false
set_option linter.unnecessarySimpa false

inductive CK where
  | int (k : IntKind) | bool | str
def CK.fits : CK → Value → Prop
  | .int k, v => ∃ n, v = .int k n ∧ (Lit.int k n).wf = true
  | .bool, v => ∃ b, v = .bool b
  | .str, v => ∃ s : ByteArray, v = .string s ∧ s.size ≤ maxLen
/-- The kinds of the cells of a struct's fields. -/
def kindsFs (P : Program) (g : TypeId → Option (List CK)) : List Field → Nat → Option (List CK)
  | [], _ => some []
  | f :: fs, o => (match g f.type with
    | some ks => (match Nat.beq f.offset o && Nat.beq (P.cellsOf f.type) ks.length with
      | true => (match kindsFs P g fs (o + ks.length) with | some l => some (ks ++ l) | none => none)
      | false => none)
    | none => none)
def kindsT (P : Program) : Nat → TypeId → Option (List CK)
  | 0, _ => none
  | n + 1, t => (match P.underlying t with
    | some .bool => some [.bool]
    | some (.int k) => some [.int k]
    | some .string => some [.str]
    | some (.struct fs) => kindsFs P (kindsT P n) fs.toList 0
    | _ => none)
section
variable {H : Type} {enc : TypeId × Value → H} {P : Program} {w : World} {base : Nat} {spare : Nat → Bool} {held : Bool}
theorem kindsFs_read {g : TypeId → Option (List CK)} {cs : List Value} (hg : ∀ (t : TypeId) (ks : List CK) (m : Nat) (cs' : List Value) (x : DataW H × List MemPlace), g t = some ks → DataW.trod enc P w base spare held m t cs' = some x → ∀ (j : Nat) (k : CK), ks[j]? = some k → ∃ v, cs'[j]? = some v ∧ k.fits v) :
    ∀ (fs : List Field) (o : Nat) (ks : List CK), kindsFs P g fs o = some ks → (∀ f ∈ fs, ∃ m y, DataW.trod enc P w base spare held m f.type ((cs.drop f.offset).take (P.cellsOf f.type)) = some y) → ∀ (j : Nat) (k : CK), ks[j]? = some k → ∃ v, cs[o + j]? = some v ∧ k.fits v := by
  intro fs
  induction fs with
  | nil =>
    intro o ks h _ j k hj
    simp only [kindsFs, Option.some.injEq] at h
    subst h
    simp at hj
  | cons f fs ih =>
    intro o ks h hT j k hj
    unfold kindsFs at h
    split at h
    case h_2 => cases h
    rename_i ks1 hk1
    split at h
    case h_2 => cases h
    rename_i hb
    simp only [Bool.and_eq_true] at hb
    have ho := Nat.eq_of_beq_eq_true hb.1
    have hc := Nat.eq_of_beq_eq_true hb.2
    split at h
    case h_2 => cases h
    rename_i l hl
    obtain rfl := Option.some.inj h
    by_cases hjl : j < ks1.length
    · rw [List.getElem?_append_left hjl] at hj
      obtain ⟨m, y, hy⟩ := hT f List.mem_cons_self
      obtain ⟨v, hv, hf⟩ := hg _ _ _ _ _ hk1 hy j k hj
      refine ⟨v, ?_, hf⟩
      rw [List.getElem?_take, hc, if_pos hjl, List.getElem?_drop, ho] at hv
      exact hv
    · rw [List.getElem?_append_right (by omega)] at hj
      obtain ⟨v, hv, hf⟩ := ih _ _ hl (fun g hg => hT g (List.mem_cons_of_mem f hg)) _ _ hj
      exact ⟨v, by rwa [show o + ks1.length + (j - ks1.length) = o + j by omega] at hv, hf⟩
theorem kindsT_read : ∀ (n : Nat) (t : TypeId) (ks : List CK) (m : Nat) (cs : List Value) (x : DataW H × List MemPlace), kindsT P n t = some ks → DataW.trod enc P w base spare held m t cs = some x → ∀ (j : Nat) (k : CK), ks[j]? = some k → ∃ v, cs[j]? = some v ∧ k.fits v
  | 0, t, ks, m, cs, x, h, _ => by simp [kindsT] at h
  | n + 1, t, ks, m, cs, x, h, hx => by
    intro j k hj
    unfold kindsT at h
    split at h
    · rename_i hu
      obtain rfl := Option.some.inj h
      obtain ⟨b, rfl, _⟩ := DataW.trod_bool hu hx
      cases j with
      | zero => obtain rfl : CK.bool = k := by simpa using hj
                exact ⟨_, rfl, b, rfl⟩
      | succ j => simp at hj
    · rename_i k' hu
      obtain rfl := Option.some.inj h
      obtain ⟨q, rfl, _, hw⟩ := DataW.trod_int hu hx
      cases j with
      | zero => obtain rfl : CK.int k' = k := by simpa using hj
                exact ⟨_, rfl, q, rfl, hw⟩
      | succ j => simp at hj
    · rename_i hu
      obtain rfl := Option.some.inj h
      obtain ⟨s, rfl, _, hs⟩ := DataW.trod_string hu hx
      cases j with
      | zero => obtain rfl : CK.str = k := by simpa using hj
                exact ⟨_, rfl, s, rfl, hs⟩
      | succ j => simp at hj
    · rename_i fs hu
      obtain ⟨xs, n', _, _, hlen, hxs, hf⟩ := DataW.trod_struct hu hx
      have := kindsFs_read (cs := cs) (fun t ks m cs x => kindsT_read n t ks m cs x) fs.toList 0 ks h (fun f hf' => by
        obtain ⟨i, hi⟩ := List.getElem?_of_mem hf'
        have h1 := hf i f (by simpa using hi)
        have hil : i < xs.length := by
          have := (List.getElem?_eq_some_iff.1 hi).1
          rw [hxs]; simpa using this
        rw [List.getElem?_eq_getElem hil] at h1
        exact ⟨n', _, h1⟩) j k hj
      rwa [Nat.zero_add] at this
    · cases h
/-- A slice that was handed in: its elements' cells, each of its kind. -/
theorem arg_cells {r : Reach} {b0 : Nat} {t e : TypeId} {v : Value} {d : DataW H} {ps : List MemPlace} (n : Nat) (ks : List CK) (ht : P.underlying t = some (.slice e)) (hk : kindsT P n e = some ks) (hC : P.cellsOf e = ks.length)
    (hval : Value.okWide P w r b0 t v) (h : DataW.Trod enc P w base spare held t v d ps) :
    ∃ A len cap C, v = .slice A len cap ∧ len ≤ cap ∧ cap ≤ maxLen ∧ ArgRow w A len ks.length C ∧ ∀ i, i < len → ∀ (j : Nat) (k : CK), ks[j]? = some k → ∃ u, (C i)[j]? = some u ∧ k.fits u := by
  obtain ⟨A, len, cap, C, rfl, hl, hm, hR, hT⟩ := arg_row ht hval h
  rw [hC] at hR
  exact ⟨A, len, cap, C, rfl, hl, hm, hR, fun i hi => let ⟨m, x, hx⟩ := hT i hi; kindsT_read n e ks m (C i) x hk hx⟩
/-- A struct that was handed in. -/
theorem arg_agg {r : Reach} {b0 : Nat} {t : TypeId} {fs : Array Field} {v : Value} {d : DataW H} {ps : List MemPlace} (n : Nat) (ks : List CK) (ht : P.underlying t = some (.struct fs)) (hk : kindsT P n t = some ks) (hC : P.cellsOf t = ks.length)
    (hval : Value.okWide P w r b0 t v) (h : DataW.Trod enc P w base spare held t v d ps) :
    ∃ cs : List Value, v = .agg cs.toArray ∧ cs.length = ks.length ∧ ∀ (j : Nat) (k : CK), ks[j]? = some k → ∃ u, cs[j]? = some u ∧ k.fits u := by
  obtain ⟨cs, rfl, hsz⟩ := okWide_struct ht hval
  obtain ⟨fuel, h⟩ := h
  refine ⟨cs.toList, by simp, by rw [← hC]; simpa using hsz, ?_⟩
  exact kindsT_read n t ks fuel _ _ hk (by simpa [Value.cells] using h)
end
end Go.Vc
