/-
What is handed in: moves, a place.
Conditions: each theorem's hypotheses.
-/
import Derived.Test.YtngpkmpbhkbgoaaVcRead
import Derived.Test.YtngpkmpbhkbgoaaMvA
namespace Go.Proofs.Ytngpkmpbhkbgoaa
open Go Go.Vc Go.RowKit Go.ChangeShapes Go.WideShapes
set_option linter.unusedVariables false
set_option linter.unusedSimpArgs false
set_option maxRecDepth 100000

section
variable {H : Type} {enc : TypeId × Value → H} {w : World} {base : Nat} {spare : Nat → Bool} {held : Bool}
theorem arg_place {r : Reach} {b0 : Nat} {v : Value} {d : DataW H} {ps : List MemPlace} (hval : Value.okWide Try.prog w r b0 24 v) (h : DataW.Trod enc Try.prog w base spare held 24 v d ps) : ∃ p : Pl, v = plv p := by
  obtain ⟨cs, rfl, hlen, hc⟩ := arg_agg 2 [.bool, .int .i64] Try.underlying24 (by kernel_rfl) (by kernel_rfl) hval h
  obtain ⟨u0, h0, b, rfl⟩ := hc 0 _ rfl
  obtain ⟨u1, h1, n, rfl, _⟩ := hc 1 _ rfl
  match cs, hlen, h0, h1 with
  | [a, c], _, h0, h1 =>
    simp only [List.getElem?_cons_zero, Option.some.injEq, List.getElem?_cons_succ] at h0 h1
    exact ⟨(b, n), by rw [h0, h1]⟩
theorem arg_moves {r : Reach} {b0 : Nat} {v : Value} {d : DataW H} {ps : List MemPlace} (hval : Value.okWide Try.prog w r b0 22 v) (h : DataW.Trod enc Try.prog w base spare held 22 v d ps) : ∃ A cap l, v = .slice A (l : List Mv).length cap ∧ l.length ≤ cap ∧ cap ≤ maxLen ∧ MRow w A l := by
  obtain ⟨A, len, cap, C, rfl, hl, hm, hR, hc⟩ := arg_cells 3 [.bool, .int .i64, .bool, .int .i64] Try.underlying22 (by kernel_rfl) (by kernel_rfl) hval h
  obtain ⟨F, hF⟩ := Deep.choose_lt (p := fun i (m : Mv) => ∀ j v, (mvC m)[j]? = some v → (C i)[j]? = some v) (n := len) (fun i hi => by
    obtain ⟨u0, h0, b0, rfl⟩ := hc i hi 0 _ rfl
    obtain ⟨u1, h1, n0, rfl, _⟩ := hc i hi 1 _ rfl
    obtain ⟨u2, h2, b1, rfl⟩ := hc i hi 2 _ rfl
    obtain ⟨u3, h3, n1, rfl, _⟩ := hc i hi 3 _ rfl
    refine ⟨((b0, n0), (b1, n1)), fun j v hv => ?_⟩
    have hj : j < 4 := (List.getElem?_eq_some_iff.1 hv).1
    match j, hj, hv with
    | 0, _, hv => rw [h0]; exact hv
    | 1, _, hv => rw [h1]; exact hv
    | 2, _, hv => rw [h2]; exact hv
    | 3, _, hv => rw [h3]; exact hv)
  have hlen : ((List.range len).map F).length = len := by simp
  refine ⟨A, cap, (List.range len).map F, by rw [hlen], by rw [hlen]; exact hl, hm, fun i m hi => ?_⟩
  have hil : i < len := by have := (List.getElem?_eq_some_iff.1 hi).1; rwa [hlen] at this
  obtain rfl : F i = m := by simpa [hil] using hi
  obtain ⟨ad, h1, _, h3⟩ := hR i hil
  exact ⟨ad, h1, fun j v hv => h3 j v (hF i hil j v hv)⟩
end
end Go.Proofs.Ytngpkmpbhkbgoaa
