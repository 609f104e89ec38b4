/-
What the chapter's laws come to, once called: true, and nothing old is turned.
Conditions: each number is of its kind.
-/
import Derived.Test.YtpfnjooddobohaaVlaw20
import Derived.Test.YtpfnjooddobohaaRef20
namespace Go.Proofs.Ytpfnjooddobohaa
open Go Go.Vc Go.RowKit
set_option linter.unusedVariables false
set_option linter.unusedSimpArgs false
set_option maxRecDepth 100000

theorem one2 (x y : Int) : ∀ v ∈ ([.int .u64 x, .int .u64 y] : List Value), v.oneCell' = true := by
  intro v hv
  simp at hv
  rcases hv with rfl | rfl <;> rfl
theorem law20_alive_ok (w : World) : Calls Try.prog law20_alive.N #[] w (Gives (.bool true) w) := by
  refine law20_alive.calls ?_
  unfold law20_alive.vc
  have A1 := fun w => span_Alu_ok 10 0 18446744073709551615 7 7 (by decide) (by decide) (by decide) (by decide) (by decide) w
  have A2 := fun w => span_Alu_ok 14 0 18446744073709551615 1 9 (by decide) (by decide) (by decide) (by decide) (by decide) w
  have A3 := fun w => span_Alu_ok 1 0 18446744073709551615 1 1 (by decide) (by decide) (by decide) (by decide) (by decide) w
  have A4 := fun w => span_Meet_ok 1 2 3 4 w
  rw [show aluR 10 0 18446744073709551615 7 7 = pairv (rv 0 7) (i64v 0) by kernel_rfl] at A1
  rw [show aluR 14 0 18446744073709551615 1 9 = pairv (rv 0 8) (i64v 0) by kernel_rfl] at A2
  rw [show aluR 1 0 18446744073709551615 1 1 = pairv allv (i64v 0) by kernel_rfl] at A3
  rw [show meetv 1 2 3 4 = pairv (rv 0 0) (i64v 3) by kernel_rfl] at A4
  refine (ref20_All_ok w).mono fun e w1 ⟨he, l1⟩ => ⟨_, _, he, fun w2 h2 => ?_⟩
  have L2 := (Trk.here l1).alloc h2
  refine L2.setAll 0 rfl (by rfl) (one2 _ _) fun w3 L3 => ?_
  refine ⟨_, _, ⟨L3.cell 0 rfl rfl, L3.cell 0 rfl rfl, trivial⟩, (A1 w3).mono fun e w4 ⟨he, l4⟩ => ⟨_, _, _, he, fun w5 h5 => ?_⟩⟩
  refine ((L3.later l4).alloc h5).setAll 1 rfl (by rfl) (one2 _ _) fun w6 L6 => ?_
  refine ⟨_, _, ⟨L6.cell 0 rfl rfl, L6.cell 0 rfl rfl, trivial⟩, (A2 w6).mono fun e w7 ⟨he, l7⟩ => ⟨_, _, _, he, fun w8 h8 => ?_⟩⟩
  refine ((L6.later l7).alloc h8).setAll 2 rfl (by rfl) (one2 _ _) fun w9 L9 => ?_
  refine ⟨_, _, ⟨L9.cell 0 rfl rfl, L9.cell 0 rfl rfl, trivial⟩, (A3 w9).mono fun e w10 ⟨he, l10⟩ => ⟨_, _, _, he, fun w11 h11 => ?_⟩⟩
  refine ((L9.later l10).alloc h11).setAll 3 rfl (by rfl) (one2 _ _) fun w12 L12 => ?_
  refine (A4 w12).mono fun e w13 ⟨he, l13⟩ => ⟨_, _, _, he, fun w14 h14 => ?_⟩
  refine ((L12.later l13).alloc h14).setAll 4 rfl (by rfl) (one2 _ _) fun w15 L15 => ?_
  refine cnd_true rfl ⟨_, _, ⟨L15.cell 1 rfl rfl, L15.cell 1 rfl rfl, trivial⟩, _, (eq_rg _ _ _ _ _ _).1, cnd_true rfl (cnd_true rfl ?_)⟩
  refine ⟨_, _, ⟨L15.cell 2 rfl rfl, L15.cell 2 rfl rfl, trivial⟩, _, (eq_rg _ _ _ _ _ _).1, cnd_true rfl (cnd_true rfl ?_)⟩
  refine ⟨_, _, ⟨L15.cell 3 rfl rfl, L15.cell 3 rfl rfl, trivial⟩, _, _, ⟨L15.cell 0 rfl rfl, L15.cell 0 rfl rfl, trivial⟩, _, (eq_rg _ _ _ _ _ _).1, cnd_true rfl (cnd_true rfl ?_)⟩
  refine (span_Check_ok 1 0 _).mono fun e w16 ⟨he, l16⟩ => ⟨_, he, cnd_true rfl ?_⟩
  have L16 := L15.later l16
  refine ⟨_, _, ⟨L16.cell 1 rfl rfl, L16.cell 1 rfl rfl, trivial⟩, (span_Has_ok _ _ 7 _).mono fun e w17 ⟨he, l17⟩ => ⟨_, he, cnd_true rfl ?_⟩⟩
  have L17 := L16.later l17
  refine ⟨_, _, ⟨L17.cell 1 rfl rfl, L17.cell 1 rfl rfl, trivial⟩, (span_Has_ok _ _ 8 _).mono fun e w18 ⟨he, l18⟩ => ⟨_, he, rfl, (L17.later l18).to⟩⟩
theorem law20_SpanAlus_ok (fn a b c d : Int) (hf : 0 ≤ fn ∧ fn < 256) (ha : W64 a) (hb : W64 b) (hc : W64 c) (hd : W64 d) (w : World) :
    Calls Try.prog law20_SpanAlus.N #[.int .u8 fn, rv a b, rv c d] w (Gives (.bool true) w) := by
  refine law20_SpanAlus.calls ?_
  unfold law20_SpanAlus.vc
  intro w1 h1 w2 h2
  have L := ((Trk.start w).alloc h1).alloc h2
  have A := span_Alu_ok fn a b c d hf ha hb hc hd w2
  obtain ⟨x, y, e, hx, hyes, hno⟩ := pair_if (p := aluOk fn a b c d) (aluv fn a b c d).1 (aluv fn a b c d).2
  rw [show aluR fn a b c d = pairv (rv x y) (i64v e) from hx] at A
  refine ⟨_, _, ⟨L.cell 0 rfl rfl, L.cell 0 rfl rfl, trivial⟩, _, _, ⟨L.cell 1 rfl rfl, L.cell 1 rfl rfl, trivial⟩, A.mono fun e' w3 ⟨he, l3⟩ => ⟨_, _, _, he, fun w4 h4 => ?_⟩⟩
  refine ((L.later l3).alloc h4).setAll 2 rfl (by rfl) (one2 _ _) fun w5 L5 => ?_
  refine ⟨fun vs w' => vs = [.bool (!decide (aluOk fn a b c d))] ∧ Later w5 w', ?_, ?_⟩
  · have nn : ¬ aluOk fn a b c d → ([.bool true] : List Value) = [.bool (!decide (aluOk fn a b c d))] := fun h => by rw [decide_eq_false h]; rfl
    refine cnd_of (fun h => ?_) (fun h => ?_)
    · have h := of_decide_eq_true h
      exact ⟨nn fun x => by have := x.1; omega, Later.refl _⟩
    refine cnd_of (fun h' => ?_) (fun h' => ?_)
    · have h' := of_decide_eq_true h'
      exact ⟨nn fun x => by have := x.2.1; omega, Later.refl _⟩
    have h := of_decide_eq_false h
    have h' := of_decide_eq_false h'
    refine ⟨_, _, ⟨L5.cell 0 rfl rfl, L5.cell 0 rfl rfl, trivial⟩, (ref20_May_ok a b _).mono fun e6 w6 ⟨he, l6⟩ => ⟨_, he, cnd_of (fun h1 => ?_) (fun h1 => ?_)⟩⟩
    · refine ⟨nn fun x => ?_, l6⟩
      rw [decide_eq_true x.2.2.1] at h1
      cases h1
    have hab : a ≤ b := by simpa using h1
    refine ⟨_, _, ⟨(L5.later l6).cell 1 rfl rfl, (L5.later l6).cell 1 rfl rfl, trivial⟩, (ref20_May_ok c d _).mono fun e7 w7 ⟨he, l7⟩ => ⟨_, he, ?_, l6.trans l7⟩⟩
    by_cases hcd : c ≤ d
    · rw [decide_eq_true hcd, decide_eq_true (show aluOk fn a b c d from ⟨by omega, by omega, hab, hcd⟩)]
    · rw [decide_eq_false hcd, decide_eq_false (show ¬ aluOk fn a b c d from fun x => hcd x.2.2.2)]
  rintro g s31 w6 ⟨hs, l6⟩
  obtain rfl : s31 = !decide (aluOk fn a b c d) := by simpa using hs
  have L6 := L5.later l6
  refine cnd_of (fun h => ?_) (fun h => ?_)
  · have h : ¬ aluOk fn a b c d := fun hh => by rw [decide_eq_true hh] at h; cases h
    obtain ⟨rfl, rfl, rfl⟩ := hno h
    refine ⟨_, _, ⟨L6.cell 2 rfl rfl, L6.cell 2 rfl rfl, trivial⟩, _, (eq_rg _ _ _ _ _ _).1, cnd_true rfl (cnd_true rfl ?_)⟩
    exact (law20_alive_ok _).mono fun e8 w8 ⟨he, hl⟩ => ⟨_, he, rfl, L6.to.trans hl⟩
  · have h : aluOk fn a b c d := by
      by_cases hh : aluOk fn a b c d
      · exact hh
      · rw [decide_eq_false hh] at h; cases h
    obtain ⟨rfl, rfl, rfl⟩ := hyes h
    refine ⟨_, _, fun w7 h7 => ⟨(L6.later h7).cell 2 rfl rfl, (L6.later h7).cell 2 rfl rfl, trivial⟩, a, b, fun w7 h7 => ⟨(L6.later h7).cell 0 rfl rfl, (L6.later h7).cell 0 rfl rfl, trivial⟩, c, d, fun w7 h7 => ⟨(L6.later h7).cell 1 rfl rfl, (L6.later h7).cell 1 rfl rfl, trivial⟩, ?_⟩
    refine ⟨_, _, fun w7 h7 => (ref20_Alu_ok fn a b c d ⟨h.1, h.2.1⟩ ha hb hc hd h.2.2.1 h.2.2.2 w7).mono fun e8 w8 ⟨he, hl⟩ => ⟨he, hl⟩, _, (eq_rg _ _ _ _ _ _).1, cnd_true (by simp) (cnd_true rfl ⟨true, fun w7 h7 => (law20_alive_ok w7).mono fun e8 w8 ⟨he, hl⟩ => ⟨he, hl⟩, fun w7 h7 => ⟨rfl, (L6.later h7).to⟩⟩)⟩
end Go.Proofs.Ytpfnjooddobohaa
