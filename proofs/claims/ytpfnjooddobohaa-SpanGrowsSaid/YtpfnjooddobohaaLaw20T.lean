/-
What SpanTells comes to, once called: true, and nothing old is turned.
Conditions: each number is of its kind.
-/
import Derived.Test.YtpfnjooddobohaaVlaw20t
import Derived.Test.YtpfnjooddobohaaLaw20
namespace Go.Proofs.Ytpfnjooddobohaa
open Go Go.Vc Go.RowKit
set_option linter.unusedVariables false
set_option linter.unusedSimpArgs false
set_option maxRecDepth 100000

theorem meet_if (a b c d : Int) : ∃ x y e, meetv a b c d = pairv (rv x y) (i64v e) ∧
    (a ≤ b ∧ c ≤ d → (gomax a c ≤ gomin b d → x = gomax a c ∧ y = gomin b d ∧ e = 0) ∧ (¬ gomax a c ≤ gomin b d → x = 0 ∧ y = 0 ∧ e = 3)) ∧ (¬ (a ≤ b ∧ c ≤ d) → x = 0 ∧ y = 0 ∧ e = 2) := by
  unfold meetv
  by_cases h : a ≤ b ∧ c ≤ d
  · by_cases h' : gomax a c ≤ gomin b d
    · exact ⟨_, _, _, by rw [if_pos h, if_pos h'], fun _ => ⟨fun _ => ⟨rfl, rfl, rfl⟩, fun n => (n h').elim⟩, fun n => (n h).elim⟩
    · exact ⟨_, _, _, by rw [if_pos h, if_neg h'], fun _ => ⟨fun n => (h' n).elim, fun _ => ⟨rfl, rfl, rfl⟩⟩, fun n => (n h).elim⟩
  · exact ⟨_, _, _, by rw [if_neg h], fun n => (h n).elim, fun _ => ⟨rfl, rfl, rfl⟩⟩
theorem refmeet_if (a b c d : Int) : ∃ x y e, (if gomax a c ≤ gomin b d then pairv (rv (gomax a c) (gomin b d)) (.bool true) else pairv (rv 0 0) (.bool false)) = pairv (rv x y) (.bool e) ∧
    (gomax a c ≤ gomin b d → x = gomax a c ∧ y = gomin b d ∧ e = true) ∧ (¬ gomax a c ≤ gomin b d → x = 0 ∧ y = 0 ∧ e = false) := by
  by_cases h : gomax a c ≤ gomin b d
  · exact ⟨_, _, _, by rw [if_pos h], fun _ => ⟨rfl, rfl, rfl⟩, fun n => (n h).elim⟩
  · exact ⟨_, _, _, by rw [if_neg h], fun n => (h n).elim, fun _ => ⟨rfl, rfl, rfl⟩⟩
set_option maxHeartbeats 1600000 in
theorem law20_SpanTells_ok (a b c d v : Int) (w : World) :
    Calls Try.prog law20_SpanTells.N #[rv a b, rv c d, u64v v] w (Gives (.bool true) w) := by
  refine law20_SpanTells.calls ?_
  unfold law20_SpanTells.vc
  intro w1 h1 w2 h2
  have L := ((Trk.start w).alloc h1).alloc h2
  obtain ⟨jx, jy, je, hj, jyes, jno⟩ := pair_if (p := a ≤ b ∧ c ≤ d) (gomin a c) (gomax b d)
  obtain ⟨mx, my, me, hm, myes, mno⟩ := meet_if a b c d
  obtain ⟨wx, wy, we, hw, wyes, wno⟩ := pair_if (p := a ≤ b ∧ c ≤ d) (widLo a c) (widHi b d)
  have C1 := fun w => span_Join_ok a b c d w
  have C2 := fun w => span_Meet_ok a b c d w
  have C3 := fun w => span_Widen_ok a b c d w
  rw [hj] at C1
  rw [hm] at C2
  rw [hw] at C3
  refine ⟨_, _, ⟨L.cell 0 rfl rfl, L.cell 0 rfl rfl, trivial⟩, _, _, ⟨L.cell 1 rfl rfl, L.cell 1 rfl rfl, trivial⟩, (C1 _).mono fun e' w3 ⟨he, l3⟩ => ⟨_, _, _, he, fun w4 h4 => ?_⟩⟩
  refine ((L.later l3).alloc h4).setAll 2 rfl (by rfl) (one2 _ _) fun w5 L5 => ?_
  refine ⟨_, _, ⟨L5.cell 0 rfl rfl, L5.cell 0 rfl rfl, trivial⟩, _, _, ⟨L5.cell 1 rfl rfl, L5.cell 1 rfl rfl, trivial⟩, (C2 _).mono fun e' w6 ⟨he, l6⟩ => ⟨_, _, _, he, fun w7 h7 => ?_⟩⟩
  refine ((L5.later l6).alloc h7).setAll 3 rfl (by rfl) (one2 _ _) fun w8 L8 => ?_
  refine ⟨_, _, ⟨L8.cell 0 rfl rfl, L8.cell 0 rfl rfl, trivial⟩, _, _, ⟨L8.cell 1 rfl rfl, L8.cell 1 rfl rfl, trivial⟩, (C3 _).mono fun e' w9 ⟨he, l9⟩ => ⟨_, _, _, he, fun w10 h10 => ?_⟩⟩
  refine ((L8.later l9).alloc h10).setAll 4 rfl (by rfl) (one2 _ _) fun w11 L11 => ?_
  refine ⟨fun vs w' => vs = [.bool false] ∧ Later w11 w', ?_, ?_⟩
  · refine ⟨_, _, fun w' h' => ⟨(L11.later h').cell 0 rfl rfl, (L11.later h').cell 0 rfl rfl, trivial⟩, _, fun w' h' => span_Check_ok a b w', _, _, fun w' h' => ⟨(L11.later h').cell 0 rfl rfl, (L11.later h').cell 0 rfl rfl, trivial⟩, _, fun w' h' => ref20_May_ok a b w', cnd_false ?_ ?_⟩
    · by_cases h : a ≤ b
      · rw [if_neg (by omega), decide_eq_true h]; rfl
      · rw [if_pos (by omega), decide_eq_false h]; rfl
    refine ⟨_, _, fun w' h' => ⟨(L11.later h').cell 0 rfl rfl, (L11.later h').cell 0 rfl rfl, trivial⟩, _, fun w' h' => span_Has_ok a b v w', _, fun w' h' => (L11.later h').cell 0 rfl rfl, cnd_of (fun h => ?_) (fun h => ?_)⟩
    · refine ⟨_, fun w' h' => (L11.later h').cell 0 rfl rfl, fun w' h' => ⟨?_, h'⟩⟩
      have h : a ≤ v := of_decide_eq_true h
      rw [decide_eq_true h, Bool.true_and, beq_self_eq_true]
      rfl
    · intro w' h'
      have h : ¬ a ≤ v := of_decide_eq_false h
      refine ⟨?_, h'⟩
      rw [decide_eq_false h, Bool.false_and]
      rfl
  rintro g s w12 ⟨hs, l12⟩
  obtain rfl : s = false := by simpa using hs
  refine cnd_false rfl fun w13 h13 => ?_
  refine ((L11.later l12).alloc h13).setAll 5 rfl (by rfl) (one2 _ _) fun w14 L14 => ?_
  refine ⟨fun vs w' => vs = [.bool (!decide (a ≤ b ∧ c ≤ d))] ∧ Later w14 w', ?_, ?_⟩
  · refine ⟨_, _, ⟨L14.cell 0 rfl rfl, L14.cell 0 rfl rfl, trivial⟩, (ref20_May_ok a b _).mono fun e w15 ⟨he, l15⟩ => ⟨_, he, cnd_of (fun h => ?_) (fun h => ?_)⟩⟩
    · refine ⟨?_, l15⟩
      have h : ¬ a ≤ b := by simpa using h
      rw [decide_eq_false (fun x => h x.1)]
      rfl
    · have h : a ≤ b := by simpa using h
      refine ⟨_, _, ⟨(L14.later l15).cell 1 rfl rfl, (L14.later l15).cell 1 rfl rfl, trivial⟩, (ref20_May_ok c d _).mono fun e w16 ⟨he, l16⟩ => ⟨_, he, ?_, l15.trans l16⟩⟩
      by_cases hcd : c ≤ d
      · rw [decide_eq_true hcd, decide_eq_true (⟨h, hcd⟩ : a ≤ b ∧ c ≤ d)]
      · rw [decide_eq_false hcd, decide_eq_false (fun x : a ≤ b ∧ c ≤ d => hcd x.2)]
  rintro g s w15 ⟨hs, l15⟩
  obtain rfl : s = !decide (a ≤ b ∧ c ≤ d) := by simpa using hs
  have L15 := L14.later l15
  refine cnd_of (fun h => ?_) (fun h => ?_)
  · have hn : ¬ (a ≤ b ∧ c ≤ d) := fun hh => by rw [decide_eq_true hh] at h; cases h
    obtain ⟨rfl, rfl, rfl⟩ := jno hn
    obtain ⟨rfl, rfl, rfl⟩ := mno hn
    obtain ⟨rfl, rfl, rfl⟩ := wno hn
    refine ⟨fun vs w' => vs = [.bool true] ∧ Later w w', ?_, ?_⟩
    · refine ⟨_, _, ⟨L15.cell 2 rfl rfl, L15.cell 2 rfl rfl, trivial⟩, _, _, ⟨L15.cell 5 rfl rfl, L15.cell 5 rfl rfl, trivial⟩, _, (eq_rg _ _ _ _ _ _).1, cnd_true rfl ?_⟩
      refine ⟨_, _, ⟨L15.cell 3 rfl rfl, L15.cell 3 rfl rfl, trivial⟩, _, _, ⟨L15.cell 5 rfl rfl, L15.cell 5 rfl rfl, trivial⟩, _, (eq_rg _ _ _ _ _ _).1, cnd_true rfl ?_⟩
      refine ⟨_, _, ⟨L15.cell 4 rfl rfl, L15.cell 4 rfl rfl, trivial⟩, _, _, ⟨L15.cell 5 rfl rfl, L15.cell 5 rfl rfl, trivial⟩, _, (eq_rg _ _ _ _ _ _).1, cnd_true rfl (cnd_true rfl (cnd_true rfl (cnd_true rfl ?_)))⟩
      exact (law20_alive_ok _).mono fun e8 w8 ⟨he, hl⟩ => ⟨_, he, rfl, L15.to.trans hl⟩
    · rintro g s w16 ⟨hs, l16⟩
      obtain rfl : s = true := by simpa using hs
      exact ⟨rfl, l16⟩
  · have ok : a ≤ b ∧ c ≤ d := by
      by_cases hh : a ≤ b ∧ c ≤ d
      · exact hh
      · rw [decide_eq_false hh] at h; cases h
    obtain ⟨rfl, rfl, rfl⟩ := jyes ok
    obtain ⟨rfl, rfl, rfl⟩ := wyes ok
    obtain ⟨rx, ry, re, hr, ryes, rno⟩ := refmeet_if a b c d
    have C4 := fun w => ref20_Meet_ok a b c d w
    rw [hr] at C4
    refine ⟨_, _, ⟨L15.cell 0 rfl rfl, L15.cell 0 rfl rfl, trivial⟩, _, _, ⟨L15.cell 1 rfl rfl, L15.cell 1 rfl rfl, trivial⟩, (C4 _).mono fun e' w16 ⟨he, l16⟩ => ⟨_, _, _, he, fun w17 h17 => ?_⟩⟩
    refine ((L15.later l16).alloc h17).setAll 6 rfl (by rfl) (one2 _ _) fun w18 L18 => ?_
    refine ⟨fun vs w' => vs = [.bool false] ∧ Later w18 w', ?_, ?_⟩
    · refine ⟨_, _, ⟨L18.cell 3 rfl rfl, L18.cell 3 rfl rfl, trivial⟩, _, _, ⟨L18.cell 6 rfl rfl, L18.cell 6 rfl rfl, trivial⟩, _, (eq_rg _ _ _ _ _ _).2, ?_⟩
      by_cases hh : gomax a c ≤ gomin b d
      · obtain ⟨rfl, rfl, rfl⟩ := (myes ok).1 hh
        obtain ⟨rfl, rfl, rfl⟩ := ryes hh
        exact cnd_false (by simp) (cnd_false rfl (cnd_false rfl ⟨rfl, Later.refl _⟩))
      · obtain ⟨rfl, rfl, rfl⟩ := (myes ok).2 hh
        obtain ⟨rfl, rfl, rfl⟩ := rno hh
        exact cnd_false (by simp) (cnd_false rfl (cnd_true rfl ⟨rfl, Later.refl _⟩))
    rintro g s w19 ⟨hs, l19⟩
    obtain rfl : s = false := by simpa using hs
    have L19 := L18.later l19
    refine cnd_false rfl ⟨fun vs w' => vs = [.bool true] ∧ Later w w', ?_, ?_⟩
    · refine ⟨_, _, fun w' h' => ⟨(L19.later h').cell 2 rfl rfl, (L19.later h').cell 2 rfl rfl, trivial⟩, _, _, fun w' h' => ⟨(L19.later h').cell 0 rfl rfl, (L19.later h').cell 0 rfl rfl, trivial⟩, _, _, fun w' h' => ⟨(L19.later h').cell 1 rfl rfl, (L19.later h').cell 1 rfl rfl, trivial⟩, _, _, fun w' h' => ref20_Join_ok a b c d w', _, (eq_rg _ _ _ _ _ _).1, cnd_true (by simp) (cnd_true rfl ?_)⟩
      refine ⟨_, _, fun w' h' => ⟨(L19.later h').cell 4 rfl rfl, (L19.later h').cell 4 rfl rfl, trivial⟩, _, _, fun w' h' => ⟨(L19.later h').cell 0 rfl rfl, (L19.later h').cell 0 rfl rfl, trivial⟩, _, _, fun w' h' => ⟨(L19.later h').cell 1 rfl rfl, (L19.later h').cell 1 rfl rfl, trivial⟩, _, _, fun w' h' => ref20_Widen_ok a b c d w', _, (eq_rg _ _ _ _ _ _).1, cnd_true (by simp) (cnd_true rfl ?_)⟩
      exact ⟨true, fun w' h' => law20_alive_ok w', fun w' h' => ⟨rfl, (L19.later h').to⟩⟩
    · rintro g s w20 ⟨hs, l20⟩
      obtain rfl : s = true := by simpa using hs
      exact ⟨rfl, l20⟩
end Go.Proofs.Ytpfnjooddobohaa
