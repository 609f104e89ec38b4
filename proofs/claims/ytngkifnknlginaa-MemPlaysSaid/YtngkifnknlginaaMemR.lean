/-
What is handed in: regions, steps.
Conditions: each theorem's hypotheses.
-/
import Derived.Test.YtngkifnknlginaaVcRead
import Derived.Test.YtngkifnknlginaaVcRow
import Derived.Test.YtngkifnknlginaaMemL
namespace Go.Proofs.Ytngkifnknlginaa
open Go Go.Vc Go.RowKit Go.ChangeShapes Go.WideShapes
set_option linter.unusedVariables false
set_option linter.unusedSimpArgs false
set_option linter.unnecessarySimpa false
set_option maxRecDepth 100000

instance : Inhabited Reg := ⟨⟨0, 0, 0⟩⟩
instance : Inhabited Stp := ⟨⟨0, 0, 0, 0, ByteArray.mk #[], false⟩⟩
section
variable {H : Type} {enc : TypeId × Value → H} {w : World} {base : Nat} {spare : Nat → Bool} {held : Bool}
theorem wf_u8' {n : Int} (h : (Lit.int .u8 n).wf = true) : 0 ≤ n ∧ n < 256 := by
  have := wf_bound h
  rw [show IntKind.u8.min = 0 from rfl, show IntKind.u8.max = 255 from rfl] at this
  omega
theorem arg_regions {r : Reach} {b0 : Nat} {v : Value} {d : DataW H} {ps : List MemPlace} (hval : Value.okWide Try.prog w r b0 22 v) (h : DataW.Trod enc Try.prog w base spare held 22 v d ps) :
    ∃ A cap l, v = .slice A (l : List Reg).length cap ∧ l.length ≤ cap ∧ cap ≤ maxLen ∧ RegsIn l ∧ ERow regT w A l := by
  obtain ⟨A, len, cap, C, rfl, hl, hm, hR, hc⟩ := arg_cells 3 [.int .u64, .int .u64, .int .u8] Try.underlying22 (by kernel_rfl) (by kernel_rfl) hval h
  obtain ⟨F, hF⟩ := Deep.choose_lt (p := fun i (m : Reg) => (∀ j v, (regC m)[j]? = some v → (C i)[j]? = some v) ∧ RegIn m) (n := len) (fun i hi => by
    obtain ⟨u0, h0, n0, rfl, f0⟩ := hc i hi 0 _ rfl
    obtain ⟨u1, h1, n1, rfl, f1⟩ := hc i hi 1 _ rfl
    obtain ⟨u2, h2, n2, rfl, f2⟩ := hc i hi 2 _ rfl
    refine ⟨⟨n0, n1, n2⟩, fun j v hv => ?_, ⟨(wf_u64 f0).1, (wf_u64 f0).2, (wf_u64 f1).1, (wf_u64 f1).2, (wf_u8' f2).1, (wf_u8' f2).2⟩⟩
    have hj : j < 3 := (List.getElem?_eq_some_iff.1 hv).1
    match j, hj, hv with
    | 0, _, hv => rw [h0]; exact hv
    | 1, _, hv => rw [h1]; exact hv
    | 2, _, hv => rw [h2]; exact hv)
  have hlen : ((List.range len).map F).length = len := by simp
  refine ⟨A, cap, (List.range len).map F, by rw [hlen], by rw [hlen]; exact hl, hm, fun i m hi => ?_, fun i m hi => ?_⟩
  · have hil : i < len := by have := (List.getElem?_eq_some_iff.1 hi).1; rwa [hlen] at this
    obtain rfl : F i = m := by simpa [hil] using hi
    exact (hF i hil).2
  · have hil : i < len := by have := (List.getElem?_eq_some_iff.1 hi).1; rwa [hlen] at this
    obtain rfl : F i = m := by simpa [hil] using hi
    obtain ⟨ad, h1, _, h3⟩ := hR i hil
    exact ⟨ad, h1, fun j v hv => h3 j v ((hF i hil).1 j v hv)⟩
theorem arg_steps {r : Reach} {b0 : Nat} {v : Value} {d : DataW H} {ps : List MemPlace} (hval : Value.okWide Try.prog w r b0 23 v) (h : DataW.Trod enc Try.prog w base spare held 23 v d ps) :
    ∃ A cap l, v = .slice A (l : List Stp).length cap ∧ l.length ≤ cap ∧ cap ≤ maxLen ∧ (∀ (i : Nat) (y : Stp), l[i]? = some y → StpIn y) ∧ ERow stpT w A l := by
  obtain ⟨A, len, cap, C, rfl, hl, hm, hR, hc⟩ := arg_cells 3 [.int .i64, .int .u64, .int .i64, .int .u64, .str, .bool] Try.underlying23 (by kernel_rfl) (by kernel_rfl) hval h
  obtain ⟨F, hF⟩ := Deep.choose_lt (p := fun i (m : Stp) => (∀ j v, (stpC m)[j]? = some v → (C i)[j]? = some v) ∧ StpIn m) (n := len) (fun i hi => by
    obtain ⟨u0, h0, n0, rfl, f0⟩ := hc i hi 0 _ rfl
    obtain ⟨u1, h1, n1, rfl, f1⟩ := hc i hi 1 _ rfl
    obtain ⟨u2, h2, n2, rfl, f2⟩ := hc i hi 2 _ rfl
    obtain ⟨u3, h3, n3, rfl, f3⟩ := hc i hi 3 _ rfl
    obtain ⟨u4, h4, s4, rfl, f4⟩ := hc i hi 4 _ rfl
    obtain ⟨u5, h5, b5, rfl⟩ := hc i hi 5 _ rfl
    refine ⟨⟨n0, n1, n2, n3, s4, b5⟩, fun j v hv => ?_, ⟨wf_u64 f1, wf_u64 f3, by simp only [maxLen] at f4; show s4.size < 9223372036854775808; omega⟩⟩
    have hj : j < 6 := (List.getElem?_eq_some_iff.1 hv).1
    match j, hj, hv with
    | 0, _, hv => rw [h0]; exact hv
    | 1, _, hv => rw [h1]; exact hv
    | 2, _, hv => rw [h2]; exact hv
    | 3, _, hv => rw [h3]; exact hv
    | 4, _, hv => rw [h4]; exact hv
    | 5, _, hv => rw [h5]; exact hv)
  have hlen : ((List.range len).map F).length = len := by simp
  refine ⟨A, cap, (List.range len).map F, by rw [hlen], by rw [hlen]; exact hl, hm, fun i m hi => ?_, fun i m hi => ?_⟩
  · have hil : i < len := by have := (List.getElem?_eq_some_iff.1 hi).1; rwa [hlen] at this
    obtain rfl : F i = m := by simpa [hil] using hi
    exact (hF i hil).2
  · have hil : i < len := by have := (List.getElem?_eq_some_iff.1 hi).1; rwa [hlen] at this
    obtain rfl : F i = m := by simpa [hil] using hi
    obtain ⟨ad, h1, _, h3⟩ := hR i hil
    exact ⟨ad, h1, fun j v hv => h3 j v ((hF i hil).1 j v hv)⟩
theorem arg_step {r : Reach} {b0 : Nat} {v : Value} {d : DataW H} {ps : List MemPlace} (hval : Value.okWide Try.prog w r b0 33 v) (h : DataW.Trod enc Try.prog w base spare held 33 v d ps) : ∃ x : Stp, v = stpV x := by
  obtain ⟨cs, rfl, hlen, hc⟩ := arg_agg 2 [.int .i64, .int .u64, .int .i64, .int .u64, .str, .bool] Try.underlying33 (by kernel_rfl) (by kernel_rfl) hval h
  obtain ⟨u0, h0, n0, rfl, f0⟩ := hc 0 _ rfl
  obtain ⟨u1, h1, n1, rfl, f1⟩ := hc 1 _ rfl
  obtain ⟨u2, h2, n2, rfl, f2⟩ := hc 2 _ rfl
  obtain ⟨u3, h3, n3, rfl, f3⟩ := hc 3 _ rfl
  obtain ⟨u4, h4, s4, rfl, f4⟩ := hc 4 _ rfl
  obtain ⟨u5, h5, b5, rfl⟩ := hc 5 _ rfl
  match cs, hlen, h0, h1, h2, h3, h4, h5 with
  | [a0, a1, a2, a3, a4, a5], _, h0, h1, h2, h3, h4, h5 =>
    simp only [List.getElem?_cons_zero, Option.some.injEq, List.getElem?_cons_succ] at h0 h1 h2 h3 h4 h5
    exact ⟨⟨n0, n1, n2, n3, s4, b5⟩, by rw [h0, h1, h2, h3, h4, h5]⟩
end
end Go.Proofs.Ytngkifnknlginaa
