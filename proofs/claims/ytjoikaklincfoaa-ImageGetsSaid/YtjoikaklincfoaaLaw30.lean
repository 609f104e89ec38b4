/-
Chapter 30's laws, once called: each answers true and turns nothing old.
Conditions: each theorem's hypotheses.
-/
import Derived.Test.YtjoikaklincfoaaVlaw30
import Derived.Test.YtjoikaklincfoaaImgK
namespace Go.Proofs.Ytjoikaklincfoaa
open Go Go.Vc Go.RowKit
set_option linter.unusedVariables false
set_option linter.unusedSimpArgs false
set_option linter.unnecessarySimpa false
set_option maxRecDepth 100000

/-- An image kept in a block of its own. -/
theorem keepI {w0 w : World} {L : List Blk} (h : Trk w0 w L) {w1 : World} {ty : TypeId} (h1 : w1 = w.alloc (.cells #[i64v 0, .slice none 0 0, .bool false, .bool false, .slice none 0 0] ty)) {A1 : Option Addr} {c1 : Nat} {A2 : Option Addr} {c2 : Nat} {x : Img} {K : World → Prop}
    (hK : ∀ w2, Later w w2 → Trk w0 w2 (L ++ [(w.heap.size, imgC A1 c1 A2 c2 x)]) → K w2) :
    SetsAt w1 ⟨w.heap.size, 0, none⟩ 0 (imgC A1 c1 A2 c2 x) ∧ ∀ w2, w2 = setCellsAt w1 ⟨w.heap.size, 0, none⟩ 0 (imgC A1 c1 A2 c2 x) → K w2 := by
  have hk : (L ++ [(w.heap.size, [i64v 0, .slice none 0 0, .bool false, .bool false, .slice none 0 0])])[L.length]? = some (w.heap.size, [i64v 0, .slice none 0 0, .bool false, .bool false, .slice none 0 0]) := by simp
  refine (h.alloc h1).setAllE (l := imgC A1 c1 A2 c2 x) L.length hk rfl (ones rfl) fun w2 e2 t => ?_
  obtain ⟨_, hs⟩ := ((Trk.start w).alloc h1).setAllE (K := fun w2 => Later w w2) (l := imgC A1 c1 A2 c2 x) 0 rfl rfl (ones rfl) (fun w2 _ t => t.to)
  refine hK w2 (hs w2 e2) ?_
  simpa using t
theorem ins_eql (o d a b v o' d' a' b' v' : Int) (xo yo : Operand) : EqRuns Try.prog .eql 39 xo yo (.agg #[u8v o, u8v d, u8v a, u8v b, i64v v]) (.agg #[u8v o', u8v d', u8v a', u8v b', i64v v']) (o == o' && (d == d' && (a == a' && (b == b' && v == v')))) := by
  have := (eq_flat (P := Try.prog) (vs := [u8v o, u8v d, u8v a, u8v b, i64v v]) (us := [u8v o', u8v d', u8v a', u8v b', i64v v']) xo yo Try.underlying39 (by kernel_rfl) (by kernel_rfl) (by kernel_rfl)).1
  simpa [eqL, eq1] using this
def x0I : Img := ⟨0, [], false, false, [115]⟩
def lit0 : ByteArray := ByteArray.mk #[83, 67, 82, 49, 0, 0, 0, 1, 0, 0, 0, 115, 0, 0, 0]
theorem f_may : mayI x0I = true := by decide +kernel
theorem f_put : strOf (putB x0I) = lit0 := by decide +kernel
theorem f_text : textL x0I = [(34, 0, 0, 0, 0)] := by decide +kernel
theorem f_rd : rdI (bytesI lit0) = x0I := by decide +kernel
theorem f_can : canRd (bytesI lit0) = true := by decide +kernel
theorem f_pre : preOk lit0 = true := by decide +kernel
theorem f_2 : getE (ByteArray.mk #[83, 67, 82, 50]) = 7 := by decide +kernel
theorem f_6 : getE (ByteArray.mk #[83, 67]) = 6 := by decide +kernel
theorem f_get : getE lit0 = 0 := by simp [getE, f_pre, f_can, okG, f_rd, f_may, f_put]
theorem f_getX : getX lit0 = x0I := by rw [getX, f_get, if_pos rfl, f_rd]
theorem x0_ok : ImOk x0I := ⟨⟨by decide, by decide⟩, by simp [x0I], by intro c hc; simp [x0I] at hc; subst hc; exact ⟨by decide, by decide⟩, by decide, by decide⟩
theorem law30_large_ok {x : Img} {A1 A2 : Option Addr} {c1 c2 : Nat} (w : World) : Calls Try.prog law30_large.N #[imgV A1 c1 A2 c2 x] w (Gives (.bool (decide ((x.params.length : Int) > 300) || decide ((x.code.length : Int) > 3000))) w) := by
  refine law30_large.calls ?_
  unfold law30_large.vc
  intro w1 h1
  have L := (Trk.start w).alloc h1
  refine ⟨_, _, _, L.cell 0 rfl rfl, cnd_of (fun h => ?_) fun h => ⟨_, _, _, L.cell 0 rfl rfl, ?_⟩⟩
  · rw [h]; exact ⟨rfl, L.to⟩
  · rw [h]; exact ⟨rfl, L.to⟩
theorem getX_ok {s : ByteArray} (hs : s.size ≤ 100000) : ImOk (getX s) := by
  unfold getX
  split
  · refine rdI_ok hs ?_
    rename_i h
    cases hc : canRd (bytesI s) with
    | true => rfl
    | false => simp only [getE, hc] at h; split at h <;> simp at h
  · exact ⟨⟨by decide, by decide⟩, by simp [zeroI], by simp [zeroI], by decide, by decide⟩
set_option maxHeartbeats 3200000 in
theorem law30_alive_ok (w : World) : Calls Try.prog law30_alive.N #[] w (Gives (.bool true) w) := by
  refine law30_alive.calls ?_
  unfold law30_alive.vc
  intro w1 h1 w2 h2
  have L := ((Trk.start w).alloc h1).alloc h2
  refine L.setAll (l := imgC none 0 (some ⟨w.heap.size, 0, none⟩) 1 x0I) 1 rfl rfl (ones rfl) fun w3 L => ?_
  refine ⟨_, _, _, _, _, _, _, _, _, ⟨L.cell 1 rfl rfl, L.cell 1 rfl rfl, L.cell 1 rfl rfl, L.cell 1 rfl rfl, L.cell 1 rfl rfl, trivial⟩, ?_⟩
  have hi : ImAt w3 none (some ⟨w.heap.size, 0, none⟩) x0I := ⟨ERow.nil _ _, Has.erow (T := u32T) (l := x0I.code) (L.has 0 rfl)⟩
  refine (image_Put_ok (c1 := 0) (c2 := 1) x0_ok hi).mono fun e w4 ⟨he, g4⟩ => ⟨_, _, he, ?_⟩
  have L := L.later g4
  refine (image_Get_ok (s := lit0) (by decide) w4).mono fun e w5 ⟨g5, A1, c1, A2, c2, he, hg⟩ => ?_
  refine ⟨_, _, _, _, _, _, _, _, _, _, he, fun w6 h6 => keepI (L.later g5) h6 fun w7 g7 L => ?_⟩
  have hi := (hi.later g4)
  refine ⟨_, _, _, _, _, _, _, _, _, ⟨L.cell 1 rfl rfl, L.cell 1 rfl rfl, L.cell 1 rfl rfl, L.cell 1 rfl rfl, L.cell 1 rfl rfl, trivial⟩, ?_⟩
  have hi := hi.later (g5.trans g7)
  refine (image_Text_ok (c1 := 0) (c2 := 1) x0_ok hi).mono fun e w8 ⟨g8, b8, c8, he, o8⟩ => ⟨_, _, _, _, he, ?_⟩
  have L := L.later g8
  refine (image_Get_ok (s := ByteArray.mk #[83, 67, 82, 50]) (by decide) w8).mono fun e w9 ⟨g9, B1, d1, B2, d2, he, _⟩ => ?_
  refine ⟨_, _, _, _, _, _, _, _, _, _, he, fun w10 h10 => keepI (L.later g9) h10 fun w11 g11 L => ?_⟩
  refine (image_Get_ok (s := ByteArray.mk #[83, 67]) (by decide) w11).mono fun e w12 ⟨g12, C1, f1, C2, f2, he, _⟩ => ?_
  refine ⟨_, _, _, _, _, _, _, _, _, _, he, fun w13 h13 => keepI (L.later g12) h13 fun w14 g14 L => ?_⟩
  rw [f_2, f_6]
  have e1 : textE x0I = 0 := by simp [textE, f_may]
  have e2 : putS x0I = lit0 := by simp [putS, f_may, f_put]
  rw [e1, e2]
  refine cnd_true rfl (cnd_true (by show (lit0.toList == lit0.toList) = true; simp) ?_)
  rw [f_get]
  refine cnd_true rfl ?_
  have gg := g8.trans (g9.trans (g11.trans (g12.trans g14)))
  have hi14 := hi.later gg
  have hg14 := hg.later (g7.trans gg)
  refine ⟨_, _, _, _, _, _, _, _, _, ⟨L.cell 1 rfl rfl, L.cell 1 rfl rfl, L.cell 1 rfl rfl, L.cell 1 rfl rfl, L.cell 1 rfl rfl, trivial⟩, ?_⟩
  refine ⟨_, _, _, _, _, _, _, _, _, ⟨L.cell 2 rfl rfl, L.cell 2 rfl rfl, L.cell 2 rfl rfl, L.cell 2 rfl rfl, L.cell 2 rfl rfl, trivial⟩, ?_⟩
  refine (ref30_Same_ok (c1 := 0) (c2 := 1) x0_ok hi14 hg14).mono fun e w15 ⟨he, g15⟩ => ⟨_, he, ?_⟩
  have L := L.later g15
  refine cnd_true (by rw [f_getX]; simp) (cnd_true rfl ?_)
  have o := (o8.row.later ((g9.trans (g11.trans (g12.trans g14))).trans g15))
  rw [f_text] at o ⊢
  refine cnd_true rfl ⟨⟨show (0 : Int) ≤ 0 by decide, by decide⟩, ?_⟩
  obtain ⟨ad, rfl, hc⟩ := o 0 _ rfl
  have cc : ∀ j v, (insC (34, 0, 0, 0, 0))[j]? = some v → w15.cell? (ad.add j) = some v := fun j v hj => by
    have := hc j v hj
    rwa [Nat.zero_mul, addr_add_add, Nat.zero_add] at this
  refine Deref_some rfl ⟨_, _, _, _, _, ⟨by have := cc 0 _ rfl; rwa [addr_add_zero] at this, cc 1 _ rfl, cc 2 _ rfl, cc 3 _ rfl, cc 4 _ rfl, trivial⟩, ?_⟩
  refine ⟨_, ins_eql _ _ _ _ _ _ _ _ _ _ _ _, cnd_true (by rfl) (cnd_true rfl (cnd_true rfl ?_))⟩
  refine (image_Check_ok (x := zeroI) (c1 := 0) (c2 := 0) ⟨⟨by decide, by decide⟩, by simp [zeroI], by simp [zeroI], by decide, by decide⟩ (zero_at w15)).mono fun e w16 ⟨he, g16⟩ => ⟨_, he, ?_⟩
  refine ⟨?_, (L.later g16).to⟩
  have : (textE zeroI == 2) = true := by decide +kernel
  rw [this]
set_option maxHeartbeats 3200000 in
theorem law30_ImageGets_ok (s : ByteArray) (w : World) : Calls Try.prog law30_ImageGets.N #[.string s] w (Gives (.bool true) w) := by
  refine law30_ImageGets.calls ?_
  unfold law30_ImageGets.vc
  refine cnd_of (fun h => ?_) fun h => ?_
  · exact (law30_alive_ok w).mono fun e w1 ⟨he, g1⟩ => ⟨_, he, rfl, g1⟩
  have hs : s.size ≤ 100000 := by simp only [decide_eq_false_iff_not] at h; omega
  refine (image_Get_ok hs w).mono fun e w1 ⟨g1, A1, c1, A2, c2, he, hi⟩ => ?_
  refine ⟨_, _, _, _, _, _, _, _, _, _, he, fun w2 h2 => keepI ((Trk.start w).later g1) h2 fun w3 g3 L => ?_⟩
  refine (ref30_Get_ok hs w3).mono fun e w4 ⟨g4, B1, d1, B2, d2, he, hj⟩ => ?_
  refine ⟨_, _, _, _, _, _, _, _, _, _, he, fun w5 h5 => keepI (L.later g4) h5 fun w6 g6 L => ?_⟩
  refine ⟨_, _, _, _, _, _, _, _, _, ⟨L.cell 0 rfl rfl, L.cell 0 rfl rfl, L.cell 0 rfl rfl, L.cell 0 rfl rfl, L.cell 0 rfl rfl, trivial⟩, ?_⟩
  refine ⟨_, _, _, _, _, _, _, _, _, ⟨L.cell 1 rfl rfl, L.cell 1 rfl rfl, L.cell 1 rfl rfl, L.cell 1 rfl rfl, L.cell 1 rfl rfl, trivial⟩, ?_⟩
  refine (ref30_Same_ok (getX_ok hs) (hi.later (g3.trans (g4.trans g6))) (hj.later g6)).mono fun e w7 ⟨he, g7⟩ => ⟨_, he, ?_⟩
  refine cnd_true (by simp) (cnd_true (by simp) ?_)
  exact (law30_alive_ok w7).mono fun e w8 ⟨he, g8⟩ => ⟨_, he, rfl, (L.later g7).to.trans g8⟩
end Go.Proofs.Ytjoikaklincfoaa
