/-
For any regions and any script, MemPlays answers true and leaves its arguments as they were.
Conditions: none beyond the row's own.
-/
import Derived.Test.YtngkifnknlginaaRows
import Derived.Test.YtngkifnknlginaaMemX
import Derived.Test.YtngkifnknlginaaVcRow
import Derived.Test.YtngkifnknlginaaMemR
import Derived.Lib.SmallJoins
namespace Go.Proofs.Ytngkifnknlginaa
open Go Go.Vc Go.RowKit Go.ChangeShapes Go.WideShapes Go.ChangeAt
set_option linter.unusedVariables false
set_option linter.unusedSimpArgs false
set_option linter.unnecessarySimpa false

theorem own_memPlays : ownKnob Try.prog.godebug = none := by kernel_rfl
theorem laidOut_memPlays : laidOutB Try.prog = true := by kernel_rfl
set_option maxRecDepth 100000 in
theorem memPlays_lifted (os : Os) (started : os.Started) (H : Type) (enc : TypeId × Value → H) :
    ReturnsInHanded {} Try.checked os 5 .any (Rows.memPlaysSpec.pre6 enc Try.prog Try.f5 Rows.memPlaysRow.domain false) (Rows.memPlaysSpec.post enc Try.prog Try.f5 false true false false) := by
  refine returnsInHanded_of_change (C := Try.checked) own_memPlays started (by kernel_rfl) Try.func5
    (ChangeSpec.witness6 (enc := enc) (C := Try.checked) false ⟨#[], #[.slice none 0 0, .slice none 0 0], []⟩ 8 (by kernel_rfl) (by kernel_rfl) (by kernel_rfl) (by kernel_rfl)) ?_
  intro W base args ds gs before hval0 hW hcnd _
  have hval : ∀ (j : Nat) t v, Try.f5.params[j]? = some t → args[j]? = some v → Value.okWide Try.prog W .any base t v := hval0
  have hW' := hW
  obtain ⟨p, q, hA0, hV, rfl, hfz, hnd⟩ := hW
  have hA : DataW.TrodAll enc Try.prog W 0 (fun _ => true) true Try.f5.params.toList args.toList ds p := hA0
  rw [Try.params5] at hA hval
  obtain ⟨v0, vs0, d0, ds0, p0, q0, hargs, rfl, rfl, h0, r0⟩ := trodAll_cons hA
  obtain ⟨v1, vs1, d1, ds1, p1, q1, rfl, rfl, rfl, h1, r1⟩ := trodAll_cons r0
  obtain ⟨rfl, rfl, rfl⟩ := trodAll_nil r1
  obtain rfl : args = #[v0, v1] := by cases args; simp_all
  obtain ⟨rfl, rfl⟩ := trodVars_none hV
  obtain ⟨A0, c0, l0, rfl, nc0, cm0, I0, R0⟩ := arg_regions (hval 0 22 v0 rfl rfl) h0
  obtain ⟨A1, c1, l1, rfl, nc1, cm1, I1, R1⟩ := arg_steps (hval 1 23 v1 rfl rfl) h1
  clear hA0 hval0
  simp only [List.append_nil] at hW'
  refine (law04_MemPlays_ok I0 nc0 (by simp only [maxLen] at cm0; omega) I1 (by simp only [maxLen] at cm1; omega) W R0 R1).mono fun e W' ⟨he, hg⟩ => ?_
  subst he
  exact ⟨_, rfl, law_post laidOut_memPlays hW' (by kernel_rfl) (by kernel_rfl) rfl (by kernel_rfl) rfl hg⟩
theorem memPlays_proved : Rows.MemPlaysSaid :=
  OpenClaim.holds_of_wide 5 Try.f5 rfl rfl rfl rfl rfl rfl rfl ⟨rfl, rfl, rfl, rfl, rfl⟩ rfl rfl rfl rfl rfl (by kernel_rfl) Try.func5 (by kernel_rfl)
    (of_decide_eq_true (by kernel_rfl)) (by unfold Func.isWrapper; first | (rw [if_pos (by decide +kernel)]; kernel_rfl) | (rw [if_neg (by decide +kernel)]; exact ⟨rfl, rfl⟩))
    (fun os started H enc _ => memPlays_lifted os started H enc)
#print axioms memPlays_proved
end Go.Proofs.Ytngkifnknlginaa
