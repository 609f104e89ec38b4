/-
The contracts of package span, second part: what takes a function, what is exported.
Conditions: each number is a word, as each theorem says.
-/
import Derived.Test.YtpfnjooddobohaaSpan
namespace Go.Proofs.Ytpfnjooddobohaa
open Go Go.Vc Go.RowKit
set_option linter.unusedVariables false
set_option linter.unusedSimpArgs false
set_option maxRecDepth 100000

theorem span_two_ok (a b c d x y : Int) (k : FuncId) (he : entersB Try.prog k = true) (hdo : a ≤ b → c ≤ d → ∀ w, Calls Try.prog k #[rv a b, rv c d] w (Gives (rv x y) w)) (w : World) :
    Calls Try.prog span_two.N #[rv a b, rv c d, fnv k] w (Gives (if a ≤ b ∧ c ≤ d then pairv (rv x y) (i64v 0) else pairv (rv 0 0) (i64v 2)) w) := by
  refine span_two.calls ?_
  unfold span_two.vc
  intro w1 h1 w2 h2 w3 h3
  have L := (((Trk.start w).alloc h1).alloc h2).alloc h3
  refine ⟨_, _, ⟨L.cell 0 rfl rfl, L.cell 0 rfl rfl, trivial⟩, (span_Check_ok a b _).mono fun e w4 ⟨h4, l4⟩ => ⟨_, h4, ?_⟩⟩
  have L4 := L.later l4
  by_cases hab : a ≤ b
  · rw [if_neg (show ¬ a > b by omega)]
    refine cnd_false rfl ⟨_, _, ⟨L4.cell 1 rfl rfl, L4.cell 1 rfl rfl, trivial⟩, (span_Check_ok c d _).mono fun e w5 ⟨h5, l5⟩ => ⟨_, h5, ?_⟩⟩
    have L5 := L4.later l5
    by_cases hcd : c ≤ d
    · rw [if_neg (show ¬ c > d by omega), if_pos ⟨hab, hcd⟩]
      refine cnd_false rfl ⟨_, _, ⟨L5.cell 0 rfl rfl, L5.cell 0 rfl rfl, trivial⟩, _, _, ⟨L5.cell 1 rfl rfl, L5.cell 1 rfl rfl, trivial⟩, ?_⟩
      show cnd (entersB _ k) _ _
      refine cnd_true he ?_
      refine (hdo hab hcd w5).mono fun e w6 ⟨h6, l6⟩ => ⟨_, _, h6, ?_⟩
      exact ret2 (L5.later l6) 2 rfl rfl fun w' h' => ⟨rfl, h'.to⟩
    · rw [if_pos (show c > d by omega), if_neg (fun h => hcd h.2)]
      exact cnd_true rfl (ret2 L5 2 rfl rfl fun w' h' => ⟨rfl, h'.to⟩)
  · rw [if_pos (show a > b by omega), if_neg (fun h => hab h.1)]
    exact cnd_true rfl (ret2 L4 2 rfl rfl fun w' h' => ⟨rfl, h'.to⟩)
theorem pair_if {p : Prop} [Decidable p] (x y : Int) : ∃ u v e, (if p then pairv (rv x y) (i64v 0) else pairv (rv 0 0) (i64v 2)) = pairv (rv u v) (i64v e) ∧ (p → u = x ∧ v = y ∧ e = 0) ∧ (¬ p → u = 0 ∧ v = 0 ∧ e = 2) := by
  by_cases h : p
  · exact ⟨x, y, 0, by rw [if_pos h], fun _ => ⟨rfl, rfl, rfl⟩, fun n => (n h).elim⟩
  · exact ⟨0, 0, 2, by rw [if_neg h], fun n => (h n).elim, fun _ => ⟨rfl, rfl, rfl⟩⟩
theorem span_Join_ok (a b c d : Int) (w : World) :
    Calls Try.prog span_Join.N #[rv a b, rv c d] w (Gives (if a ≤ b ∧ c ≤ d then pairv (rv (gomin a c) (gomax b d)) (i64v 0) else pairv (rv 0 0) (i64v 2)) w) := by
  refine span_Join.calls ?_
  intro w1 h1 w2 h2 w3 h3
  have L := (((Trk.start w).alloc h1).alloc h2).alloc h3
  have T := span_two_ok a b c d _ _ span_Join_1.N (by kernel_rfl) (fun _ _ w => span_Join_1_ok a b c d w) w3
  obtain ⟨u, v, e, hx, _⟩ := pair_if (p := a ≤ b ∧ c ≤ d) (gomin a c) (gomax b d)
  rw [hx] at T ⊢
  refine ⟨_, _, ⟨L.cell 0 rfl rfl, L.cell 0 rfl rfl, trivial⟩, _, _, ⟨L.cell 1 rfl rfl, L.cell 1 rfl rfl, trivial⟩, T.mono fun e' w4 ⟨h4, l4⟩ => ⟨_, _, _, h4, ?_⟩⟩
  exact ret2 (L.later l4) 2 rfl rfl fun w' h' => ⟨rfl, h'.to⟩
/-- What both have: none where the lower end is above the higher one. -/
def meetv (a b c d : Int) : Value :=
  if a ≤ b ∧ c ≤ d then (if gomax a c ≤ gomin b d then pairv (rv (gomax a c) (gomin b d)) (i64v 0) else pairv (rv 0 0) (i64v 3)) else pairv (rv 0 0) (i64v 2)
theorem span_Meet_ok (a b c d : Int) (w : World) : Calls Try.prog span_Meet.N #[rv a b, rv c d] w (Gives (meetv a b c d) w) := by
  refine span_Meet.calls ?_
  unfold span_Meet.vc
  intro w1 h1 w2 h2 w3 h3
  have L := (((Trk.start w).alloc h1).alloc h2).alloc h3
  have T := span_two_ok a b c d _ _ span_Meet_1.N (by kernel_rfl) (fun _ _ w => span_Meet_1_ok a b c d w) w3
  refine ⟨_, _, ⟨L.cell 0 rfl rfl, L.cell 0 rfl rfl, trivial⟩, _, _, ⟨L.cell 1 rfl rfl, L.cell 1 rfl rfl, trivial⟩, T.mono fun e' w4 ⟨h4, l4⟩ => ?_⟩
  have L4 := L.later l4
  by_cases h : a ≤ b ∧ c ≤ d
  · unfold meetv
    rw [if_pos h] at h4 ⊢
    refine ⟨_, _, _, h4, fun w5 h5 => ?_⟩
    have L5 := L4.alloc h5
    refine L5.setAll 3 rfl (by rfl) (by intro v hv; simp at hv; rcases hv with rfl | rfl <;> rfl) fun w6 L6 => ?_
    refine cnd_true rfl ⟨_, _, ⟨L6.cell 3 rfl rfl, L6.cell 3 rfl rfl, trivial⟩, (span_Check_ok _ _ _).mono fun e w7 ⟨h7, l7⟩ => ⟨_, h7, ?_⟩⟩
    have L7 := L6.later l7
    by_cases hm : gomax a c ≤ gomin b d
    · rw [if_neg (show ¬ gomax a c > gomin b d by omega), if_pos hm]
      refine cnd_false rfl ⟨_, _, ⟨L7.cell 3 rfl rfl, L7.cell 3 rfl rfl, trivial⟩, ?_⟩
      exact ret2 L7 2 rfl rfl fun w' h' => ⟨rfl, h'.to⟩
    · rw [if_pos (show gomax a c > gomin b d by omega), if_neg hm]
      exact cnd_true rfl (ret2 L7 2 rfl rfl fun w' h' => ⟨rfl, h'.to⟩)
  · unfold meetv
    rw [if_neg h] at h4 ⊢
    refine ⟨_, _, _, h4, fun w5 h5 => ?_⟩
    have L5 := L4.alloc h5
    refine L5.setAll 3 rfl (by rfl) (by intro v hv; simp at hv; subst hv; rfl) fun w6 L6 => ?_
    refine cnd_false rfl ⟨_, _, ⟨L6.cell 3 rfl rfl, L6.cell 3 rfl rfl, trivial⟩, ?_⟩
    exact ret2 L6 2 rfl rfl fun w' h' => ⟨rfl, h'.to⟩
/-- A range widened by another one. -/
def widLo (a c : Int) : Int := if c < a then 0 else a
def widHi (b d : Int) : Int := if d > b then 18446744073709551615 else b
theorem span_Widen_1_ok (a b c d : Int) (w : World) : Calls Try.prog span_Widen_1.N #[rv a b, rv c d] w (Gives (rv (widLo a c) (widHi b d)) w) := by
  refine span_Widen_1.calls ?_
  unfold span_Widen_1.vc
  intro w1 h1 w2 h2 w3 h3
  have L := (((Trk.start w).alloc h1).alloc h2).alloc h3
  refine ⟨_, L.cell 0 rfl rfl, _, L.cell 1 rfl rfl, _, L.cell 0 rfl rfl, _, L.cell 1 rfl rfl, fun w4 h4 => ?_⟩
  have L4 := L.alloc h4
  refine ret2 L4 3 rfl rfl fun w5 L5 => ⟨_, _, ⟨L5.cell 0 rfl rfl, L5.cell 0 rfl rfl, trivial⟩, _, (eq_rg _ _ _ _ _ _).2, ?_⟩
  have e1 : gomin a c = if c < a then c else a := rfl
  have e2 : gomax b d = if d > b then d else b := rfl
  refine ⟨fun vs w' => vs = [] ∧ Trk w w' [(w.heap.size, [u64v (widLo a c), u64v (widHi b d)]), (w1.heap.size, [u64v c, u64v d]), (w2.heap.size, [u64v 0, u64v 0]), (w3.heap.size, [u64v (gomin a c), u64v (gomax b d)])], ?_, ?_⟩
  · refine cnd_of (fun h => ?_) (fun h => ?_)
    · refine ⟨_, L5.cell 3 rfl rfl, _, L5.cell 0 rfl rfl, ?_⟩
      refine ⟨fun vs w' => vs = [] ∧ Trk w w' [(w.heap.size, [u64v (widLo a c), u64v b]), (w1.heap.size, [u64v c, u64v d]), (w2.heap.size, [u64v 0, u64v 0]), (w3.heap.size, [u64v (gomin a c), u64v (gomax b d)])], ?_, ?_⟩
      · refine cnd_of (fun h => ?_) (fun h => ?_)
        · have h : ¬ gomin a c = a := by simpa using h
          have hca : c < a := by rw [e1] at h; split at h <;> omega
          refine L5.set1 0 rfl (by simp) fun w6 L6 => ⟨rfl, ?_⟩
          unfold widLo
          rw [if_pos hca]
          exact L6
        · have h : gomin a c = a := by simpa using h
          have hca : ¬ c < a := by rw [e1] at h; split at h <;> omega
          refine ⟨rfl, ?_⟩
          unfold widLo
          rw [if_neg hca]
          exact L5
      rintro g w6 ⟨_, L6⟩
      refine ⟨_, L6.cell 3 rfl rfl, _, L6.cell 0 rfl rfl, cnd_of (fun h => ?_) (fun h => ?_)⟩
      · have h : ¬ gomax b d = b := by simpa using h
        have hdb : d > b := by rw [e2] at h; split at h <;> omega
        refine L6.set1 0 rfl (by simp) fun w7 L7 => ⟨rfl, ?_⟩
        unfold widHi
        rw [if_pos hdb]
        exact L7
      · have h : gomax b d = b := by simpa using h
        have hdb : ¬ d > b := by rw [e2] at h; split at h <;> omega
        refine ⟨rfl, ?_⟩
        unfold widHi
        rw [if_neg hdb]
        exact L6
    · have h : gomin a c = a ∧ gomax b d = b := by simpa using h
      have hca : ¬ c < a := by have := h.1; rw [e1] at this; split at this <;> omega
      have hdb : ¬ d > b := by have := h.2; rw [e2] at this; split at this <;> omega
      refine ⟨rfl, ?_⟩
      unfold widLo widHi
      rw [if_neg hca, if_neg hdb]
      exact L5
  rintro g w6 ⟨_, L6⟩
  exact ⟨_, _, ⟨L6.cell 0 rfl rfl, L6.cell 0 rfl rfl, trivial⟩, ret2 L6 2 rfl rfl fun w' h' => ⟨rfl, h'.to⟩⟩
theorem span_Widen_ok (a b c d : Int) (w : World) :
    Calls Try.prog span_Widen.N #[rv a b, rv c d] w (Gives (if a ≤ b ∧ c ≤ d then pairv (rv (widLo a c) (widHi b d)) (i64v 0) else pairv (rv 0 0) (i64v 2)) w) := by
  refine span_Widen.calls ?_
  intro w1 h1 w2 h2 w3 h3
  have L := (((Trk.start w).alloc h1).alloc h2).alloc h3
  have T := span_two_ok a b c d _ _ span_Widen_1.N (by kernel_rfl) (fun _ _ w => span_Widen_1_ok a b c d w) w3
  obtain ⟨u, v, e, hx, _⟩ := pair_if (p := a ≤ b ∧ c ≤ d) (widLo a c) (widHi b d)
  rw [hx] at T ⊢
  refine ⟨_, _, ⟨L.cell 0 rfl rfl, L.cell 0 rfl rfl, trivial⟩, _, _, ⟨L.cell 1 rfl rfl, L.cell 1 rfl rfl, trivial⟩, T.mono fun e' w4 ⟨h4, l4⟩ => ⟨_, _, _, h4, ?_⟩⟩
  exact ret2 (L.later l4) 2 rfl rfl fun w' h' => ⟨rfl, h'.to⟩
def sllR (a b c d : Int) : Value := if c = d ∧ c < 64 ∧ (lenN b.toNat : Int) + c ≤ 64 then rv (a * 2 ^ c.toNat % 18446744073709551616) (b * 2 ^ c.toNat % 18446744073709551616) else allv
theorem span_sll_ok (a b c d : Int) (hb : W64 b) (hc : W64 c) (w : World) : Calls Try.prog span_sll.N #[rv a b, rv c d] w (Gives (sllR a b c d) w) := by
  refine span_sll.calls ?_
  intro w1 h1 w2 h2 w3 h3
  have L := (((Trk.start w).alloc h1).alloc h2).alloc h3
  have hc0 := hc.1
  have hb0 := hb.1
  have hb1 := hb.2
  obtain ⟨n, rfl⟩ := Int.eq_ofNat_of_zero_le hb0
  have hle := lenN_le n 64 (by omega)
  refine ⟨_, _, ⟨L.cell 1 rfl rfl, L.cell 1 rfl rfl, trivial⟩, (span_one_ok c d _).mono fun e w4 ⟨he, hl⟩ => ⟨_, _, he, ?_⟩⟩
  have L4 := L.later hl
  refine cnd_of (fun h => ?_) (fun h => ?_)
  · have h : ¬ (c = d ∧ c < 64 ∧ (lenN ((n : Int)).toNat : Int) + c ≤ 64) := by
      intro hh
      simp [hh.1.symm, hh.2.1] at h
    unfold sllR
    rw [if_neg h]
    exact (span_all_ok _).mono fun e w5 ⟨he, hl⟩ => ⟨_, _, he, ret2 (L4.later hl) 2 rfl rfl fun w' h' => ⟨rfl, h'.to⟩⟩
  · have h : c = d ∧ c < 64 := by simpa using h
    refine ⟨_, L4.cell 0 rfl rfl, (math_bits_Len64_ok n (by omega) _).mono fun e w5 ⟨he, hl⟩ => ⟨_, he, ?_⟩⟩
    have L5 := L4.later hl
    rw [i64_in (x := c) (by omega) (by omega), i64_in (by omega) (by omega)]
    refine cnd_of (fun h' => ?_) (fun h' => ?_)
    · have h' := of_decide_eq_true h'
      unfold sllR
      rw [Int.toNat_natCast, if_neg (by omega)]
      exact (span_all_ok _).mono fun e w6 ⟨he, hl⟩ => ⟨_, _, he, ret2 (L5.later hl) 2 rfl rfl fun w' h' => ⟨rfl, h'.to⟩⟩
    · have h' := of_decide_eq_false h'
      unfold sllR
      rw [Int.toNat_natCast, if_pos ⟨h.1, h.2, by omega⟩]
      refine ⟨_, L5.cell 0 rfl rfl, cnd_false (decide_eq_false (by omega)) ⟨_, L5.cell 0 rfl rfl, cnd_false (decide_eq_false (by omega)) ?_⟩⟩
      refine ret2 L5 2 rfl rfl fun w' h' => ⟨?_, h'.to⟩
      rw [show min c.toNat 64 = c.toNat by omega, wrap_u64, wrap_u64]
end Go.Proofs.Ytpfnjooddobohaa
