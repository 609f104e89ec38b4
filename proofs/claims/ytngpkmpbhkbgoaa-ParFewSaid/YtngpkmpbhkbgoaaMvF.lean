/-
The contracts of package par, last part: Order, Rings.
Conditions: none.
-/
import Derived.Test.YtngpkmpbhkbgoaaMvE
namespace Go.Proofs.Ytngpkmpbhkbgoaa
open Go Go.Vc Go.RowKit
set_option linter.unusedVariables false
set_option linter.unusedSimpArgs false
set_option maxRecDepth 100000

/-- Is a place one that no move is from or to? -/
structure SpP (l : List Mv) (s : Pl) : Prop where
  free : ∀ m ∈ l, m.1 ≠ s ∧ m.2 ≠ s
  pos : 0 ≤ s.2
instance (l : List Mv) (s : Pl) : Decidable (SpP l s) := decidable_of_iff ((∀ m ∈ l, m.1 ≠ s ∧ m.2 ≠ s) ∧ 0 ≤ s.2) ⟨fun h => ⟨h.1, h.2⟩, fun h => ⟨h.1, h.2⟩⟩
/-- Where order ends. -/
def EndOf (l : List Mv) (sp : Pl) (s : St) : Prop := ∃ k, s = iter sp k (start l) ∧ s.left = []
theorem EndOf.same {l : List Mv} {sp : Pl} {s s' : St} (h : EndOf l sp s) (h' : EndOf l sp s') : s = s' := by
  obtain ⟨k, rfl, hk⟩ := h
  obtain ⟨j, rfl, hj⟩ := h'
  exact iter_same hk hj
theorem par_Order_ok {A : Option Addr} {cap : Nat} {l : List Mv} {sp : Pl} (w : World) (hR : MRow w A l) :
    Calls Try.prog par_Order.N #[.slice A l.length cap, plv sp] w (fun e w' => Later w w' ∧ ((MayP l ∧ SpP l sp ∧ ∃ s b c, EndOf l sp s ∧ e = .returned (.tuple #[.slice b s.out.length c, i64v 0]) ∧ OwnM w w' b c s.out) ∨
      (¬ (MayP l ∧ SpP l sp) ∧ e = .returned (.tuple #[.slice none 0 0, i64v 2])))) := by
  refine par_Order.calls ?_
  unfold par_Order.vc
  intro w1 e1
  have T1 := (Trk.start w).alloc e1
  refine (par_may_ok w1 (hR.later T1.to)).mono fun e w2 ⟨he, l2⟩ => ⟨_, he, cnd_of (fun h => ?_) (fun h => ?_)⟩
  · have hm : ¬ MayP l := by simpa using h
    exact ⟨T1.to.trans l2, .inr ⟨fun q => hm q.1, rfl⟩⟩
  have hm : MayP l := by simpa using h
  have T2 := T1.later l2
  refine ⟨_, T2.cell 0 rfl rfl, cnd_of (fun h => ?_) (fun h => ?_)⟩
  · have h := of_decide_eq_true h
    exact ⟨T2.to, .inr ⟨fun q => by have := q.2.pos; omega, rfl⟩⟩
  have hp := of_decide_eq_false h
  refine (slices_ContainsFunc_ok (f := par_Order_1.N) (x := .pointer (some ⟨w.heap.size, 0, none⟩)) (p := fun m => decide (m.1 = sp) || decide (m.2 = sp)) (cap := cap) (by have := hm.len; omega) w2 (hR.later T2.to) (by kernel_rfl)
    fun m _ w' l' => par_Order_1_ok m w' ((T2.later l').has 0 rfl)).mono fun e w3 ⟨he, l3⟩ => ⟨_, he, cnd_of (fun h => ?_) (fun h => ?_)⟩
  · obtain ⟨m, hml, hmm⟩ := List.any_eq_true.1 h
    refine ⟨T2.to.trans l3, .inr ⟨fun q => ?_, rfl⟩⟩
    have := q.2.free m hml
    simp only [Bool.or_eq_true, decide_eq_true_eq] at hmm
    exact hmm.elim this.1 this.2
  have hfree : ∀ m ∈ l, m.1 ≠ sp ∧ m.2 ≠ sp := fun m hml => by
    have := List.any_eq_false.1 h m hml
    simp only [Bool.or_eq_true, decide_eq_true_eq, not_or] at this
    exact this
  have T3 := T2.later l3
  refine ⟨_, _, ⟨T3.cell 0 rfl rfl, T3.cell 0 rfl rfl, trivial⟩, (par_order_ok hm.len (fun m hm => (hfree m hm).2) w3 (hR.later T3.to)).mono fun e w4 ⟨l4, k, b, c, hl, he, ho⟩ => ⟨_, _, _, _, he, ?_⟩⟩
  exact ⟨T3.to.trans l4, .inl ⟨hm, ⟨hfree, by omega⟩, _, b, c, ⟨k, rfl, hl⟩, rfl, ho.weak T3.to.size⟩⟩
theorem par_Rings_ok {A : Option Addr} {cap : Nat} {l : List Mv} (w : World) (hR : MRow w A l) :
    Calls Try.prog par_Rings.N #[.slice A l.length cap] w (fun e w' => Later w w' ∧ ((MayP l ∧ ∃ s, EndOf l (false, -1) s ∧ e = .returned (.tuple #[i64v s.rings, i64v 0])) ∨ (¬ MayP l ∧ e = .returned (.tuple #[i64v 0, i64v 2])))) := by
  refine par_Rings.calls ?_
  unfold par_Rings.vc
  refine (par_may_ok w hR).mono fun e w2 ⟨he, l2⟩ => ⟨_, he, cnd_of (fun h => ?_) (fun h => ?_)⟩
  · have hm : ¬ MayP l := by simpa using h
    exact ⟨l2, .inr ⟨hm, rfl⟩⟩
  have hm : MayP l := by simpa using h
  refine (par_order_ok (sp := (false, -1)) hm.len (fun m hml e => by have := (hm.pos m hml).2; rw [e] at this; revert this; decide) w2 (hR.later l2)).mono fun e w4 ⟨l4, k, b, c, hl, he, ho⟩ => ⟨_, _, _, _, he, ?_⟩
  exact ⟨l2.trans l4, .inl ⟨hm, _, ⟨k, rfl, hl⟩, rfl⟩⟩
end Go.Proofs.Ytngpkmpbhkbgoaa
