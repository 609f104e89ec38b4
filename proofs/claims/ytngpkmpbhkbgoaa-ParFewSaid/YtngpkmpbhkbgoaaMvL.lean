/-
What the chapter's first law comes to, once called: true, and nothing old is turned.
Conditions: none.
-/
import Derived.Test.YtngpkmpbhkbgoaaVlaw27
import Derived.Test.YtngpkmpbhkbgoaaMvI
namespace Go.Proofs.Ytngpkmpbhkbgoaa
open Go Go.Vc Go.RowKit
set_option linter.unusedVariables false
set_option linter.unusedSimpArgs false
set_option maxRecDepth 100000

theorem has_mrow {w : World} {k : Nat} {l : List Mv} (h : Has w k (mvsC l)) : MRow w (some ⟨k, 0, none⟩) l := by
  intro i m hi
  refine ⟨_, rfl, fun j v hv => ?_⟩
  have hj : j < 4 := (List.getElem?_eq_some_iff.1 hv).1
  rw [Zn_add, add_block, Nat.zero_add]
  exact h.cell (by rw [mvsC_get l i j m hi hj]; exact hv)
theorem law27_move_ok (a b : Int) (w : World) : Calls Try.prog law27_move.N #[i64v a, i64v b] w (Gives (mvv ((false, a), (false, b))) w) := by
  refine law27_move.calls ?_
  unfold law27_move.vc
  intro w1 e1
  refine ((Trk.start w).alloc e1).setAll 0 rfl (l := mvC ((false, a), (false, b))) (by rfl) (by simp [mvC, Value.oneCell']) fun w2 T2 => ?_
  exact ⟨_, _, _, _, ⟨T2.cell 0 rfl rfl, T2.cell 0 rfl rfl, T2.cell 0 rfl rfl, T2.cell 0 rfl rfl, trivial⟩, rfl, T2.to⟩
abbrev rg (a : Int) : Pl := (false, a)
abbrev sl0 : Pl := (true, 0)
theorem end1 : EndOf [(rg 0, rg 1), (rg 1, rg 2)] sl0 ⟨[], [(rg 1, rg 2), (rg 0, rg 1)], 0⟩ := ⟨2, by kernel_rfl, rfl⟩
theorem end2 : EndOf [(rg 0, rg 1), (rg 1, rg 0)] sl0 ⟨[], [(rg 1, sl0), (rg 0, rg 1), (sl0, rg 0)], 1⟩ := ⟨3, by kernel_rfl, rfl⟩
theorem end3 : ∃ o, EndOf [(rg 0, rg 1), (rg 1, rg 0), (rg 2, rg 2)] (false, -1) ⟨[], o, 1⟩ := ⟨[(rg 1, (false, -1)), (rg 0, rg 1), ((false, -1), rg 0)], 3, by kernel_rfl, rfl⟩
set_option maxHeartbeats 3200000 in
theorem law27_alive_ok (w : World) : Calls Try.prog law27_alive.N #[] w (Gives (.bool true) w) := by
  refine law27_alive.calls ?_
  unfold law27_alive.vc
  intro w1 e1
  refine ((Trk.start w).alloc e1).setAll 0 rfl (l := [.bool true, i64v 0]) (by rfl) (by simp [Value.oneCell']) fun w2 T2 w3 l3 => ?_
  have T3 := T2.later l3
  have sc : ∀ {w' : World}, Later w3 w' → w'.cell? ⟨w.heap.size, 0, none⟩ = some (.bool true) ∧ w'.cell? ⟨w.heap.size, 1, none⟩ = some (i64v 0) ∧ True := fun h => ⟨(T3.later h).cell 0 rfl rfl, (T3.later h).cell 0 rfl rfl, trivial⟩
  have sc2 : ∀ {w' : World}, Later w2 w' → w'.cell? ⟨w.heap.size, 0, none⟩ = some (.bool true) ∧ w'.cell? ⟨w.heap.size, 1, none⟩ = some (i64v 0) ∧ True := fun h => ⟨(T2.later h).cell 0 rfl rfl, (T2.later h).cell 0 rfl rfl, trivial⟩
  -- two moves, one behind the other
  refine ⟨_, _, fun w' h' => sc2 h', (law27_move_ok 0 1 w3).mono fun e w4 ⟨he, l4⟩ => ⟨_, _, _, _, he, l3.trans l4, (law27_move_ok 1 2 w4).mono fun e w5 ⟨he, l5⟩ => ⟨_, _, _, _, he, l3.trans (l4.trans l5), fun w6 e6 => ?_⟩⟩⟩
  have T6 := (Trk.start w5).alloc e6
  have l36 : Later w3 w6 := l4.trans (l5.trans T6.to)
  refine ⟨l3.trans l36, (par_Order_ok (l := [(rg 0, rg 1), (rg 1, rg 2)]) (sp := sl0) w6 (has_mrow (T6.has 0 rfl))).mono fun e w7 ⟨l7, h7⟩ => ?_⟩
  rcases h7 with ⟨-, -, s, b7, c7, hE, he, o7⟩ | ⟨hno, -⟩
  case inr => exact absurd (by decide) hno
  obtain rfl := hE.same end1
  have l37 := l36.trans l7
  refine ⟨_, _, _, _, he, l3.trans l37, fun w8 l8 => ?_⟩
  have l38 := l37.trans l8
  -- a ring
  refine ⟨_, _, fun w' h' => sc (l37.trans h'), (law27_move_ok 0 1 w8).mono fun e w9 ⟨he, l9⟩ => ⟨_, _, _, _, he, l8.trans l9, (law27_move_ok 1 0 w9).mono fun e w10 ⟨he, l10⟩ => ⟨_, _, _, _, he, l8.trans (l9.trans l10), fun w11 e11 => ?_⟩⟩⟩
  have T11 := (Trk.start w10).alloc e11
  have l711 : Later w7 w11 := l8.trans (l9.trans (l10.trans T11.to))
  refine ⟨l711, (par_Order_ok (l := [(rg 0, rg 1), (rg 1, rg 0)]) (sp := sl0) w11 (has_mrow (T11.has 0 rfl))).mono fun e w12 ⟨l12, h12⟩ => ?_⟩
  rcases h12 with ⟨-, -, s, b12, c12, hE, he, o12⟩ | ⟨hno, -⟩
  case inr => exact absurd (by decide) hno
  obtain rfl := hE.same end2
  refine ⟨_, _, _, _, he, l711.trans l12, ?_⟩
  -- rings
  refine (law27_move_ok 0 1 w12).mono fun e w13 ⟨he, l13⟩ => ⟨_, _, _, _, he, (law27_move_ok 1 0 w13).mono fun e w14 ⟨he, l14⟩ => ⟨_, _, _, _, he, (law27_move_ok 2 2 w14).mono fun e w15 ⟨he, l15⟩ => ⟨_, _, _, _, he, fun w16 e16 => ?_⟩⟩⟩
  have T16 := (Trk.start w15).alloc e16
  refine (par_Rings_ok (l := [(rg 0, rg 1), (rg 1, rg 0), (rg 2, rg 2)]) w16 (has_mrow (T16.has 0 rfl))).mono fun e w17 ⟨l17, h17⟩ => ?_
  rcases h17 with ⟨-, s, hE, he⟩ | ⟨hno, -⟩
  case inr => exact absurd (by decide) hno
  obtain ⟨o3, hE3⟩ := end3
  obtain rfl := hE.same hE3
  have l1217 : Later w12 w17 := l13.trans (l14.trans (l15.trans (T16.to.trans l17)))
  have l317 : Later w3 w17 := l37.trans (l711.trans (l12.trans l1217))
  refine ⟨_, _, he, fun w18 l18 => ?_⟩
  -- none
  refine ⟨_, _, fun w' h' => sc (l317.trans h'), (law27_move_ok 0 1 w18).mono fun e w19 ⟨he, l19⟩ => ⟨_, _, _, _, he, l18.trans l19, (law27_move_ok 2 1 w19).mono fun e w20 ⟨he, l20⟩ => ⟨_, _, _, _, he, l18.trans (l19.trans l20), fun w21 e21 => ?_⟩⟩⟩
  have T21 := (Trk.start w20).alloc e21
  have l1721 : Later w17 w21 := l18.trans (l19.trans (l20.trans T21.to))
  refine ⟨l1721, (par_Order_ok (l := [(rg 0, rg 1), (rg 2, rg 1)]) (sp := sl0) w21 (has_mrow (T21.has 0 rfl))).mono fun e w22 ⟨l22, h22⟩ => ?_⟩
  rcases h22 with ⟨hM, -⟩ | ⟨-, he⟩
  · exact absurd hM (by decide)
  have l322 : Later w3 w22 := l317.trans (l1721.trans l22)
  refine ⟨_, _, _, _, he, l1721.trans l22, fun w23 l23 => cnd_true rfl ?_⟩
  -- what they are
  refine (law27_move_ok 1 2 w23).mono fun e w24 ⟨he, l24⟩ => ⟨_, _, _, _, he, l23.trans l24, (law27_move_ok 0 1 w24).mono fun e w25 ⟨he, l25⟩ => ⟨_, _, _, _, he, l23.trans (l24.trans l25), fun w26 e26 => ?_⟩⟩
  have T26 := (Trk.start w25).alloc e26
  have l2226 : Later w22 w26 := l23.trans (l24.trans (l25.trans T26.to))
  have l726 : Later w7 w26 := l711.trans (l12.trans (l1217.trans (l1721.trans (l22.trans l2226))))
  refine ⟨l2226, (ref27_Same_ok (l := [(rg 1, rg 2), (rg 0, rg 1)]) (k := [(rg 1, rg 2), (rg 0, rg 1)]) (by decide) w26 (MRow.later (OwnM.row o7) l726) (has_mrow (T26.has 0 rfl))).mono fun e w27 ⟨he, l27⟩ => ⟨_, he, l2226.trans l27, cnd_true rfl (cnd_true rfl ?_)⟩⟩
  have l2227 := l2226.trans l27
  refine ⟨_, _, fun w' h' => sc (l322.trans h'), _, _, fun w' h' => sc (l322.trans h'), (law27_move_ok 0 1 w27).mono fun e w28 ⟨he, l28⟩ => ⟨_, _, _, _, he, l2227.trans l28, fun w29 e29 => ?_⟩⟩
  have T29 := (Trk.start w28).alloc e29
  have l2229 : Later w22 w29 := l2227.trans (l28.trans T29.to)
  have l1229 : Later w12 w29 := l1217.trans (l1721.trans (l22.trans l2229))
  refine ⟨l2229, (ref27_Same_ok (l := [(rg 1, sl0), (rg 0, rg 1), (sl0, rg 0)]) (k := [(rg 1, sl0), (rg 0, rg 1), (sl0, rg 0)]) (by decide) w29 (MRow.later (OwnM.row o12) l1229) (has_mrow (T29.has 0 rfl))).mono fun e w30 ⟨he, l30⟩ => ⟨_, he, l2229.trans l30, cnd_true rfl (cnd_true rfl (cnd_true rfl ?_))⟩⟩
  exact ⟨rfl, T3.to.trans (l322.trans (l2229.trans l30))⟩
end Go.Proofs.Ytngpkmpbhkbgoaa
