/-
Texts of this claim, merged: Law30, Law30T, ImgL.
Conditions: each theorem's own.
-/
import Derived.Test.YtjoikaklincfoaaPkImageTellsE

/-
Chapter 30's laws, once called: each answers true and turns nothing old.
Conditions: each theorem's hypotheses.
-/
namespace Go.Proofs.Ytjoikaklincfoaa
open Go Go.Vc Go.RowKit
set_option linter.unusedVariables false
set_option linter.unusedSimpArgs false
set_option linter.unnecessarySimpa false
set_option maxRecDepth 100000

/-- An image kept in a block of its own. -/
theorem keepI {w0 w : World} {L : List Blk} (h : Trk w0 w L) {w1 : World} {ty : TypeId} (h1 : w1 = w.alloc (.cells #[i64v 0, .slice none 0 0, .bool false, .bool false, .slice none 0 0] ty)) {A1 : Option Addr} {c1 : Nat} {A2 : Option Addr} {c2 : Nat} {x : Img} {K : World → Prop}
    (hK : ∀ w2, Later w w2 → Trk w0 w2 (L ++ [(w.heap.size, imgC A1 c1 A2 c2 x)]) → K w2) :
    SetsAt w1 ⟨w.heap.size, 0, none⟩ 0 (imgC A1 c1 A2 c2 x) ∧ ∀ w2, w2 = setCellsAt w1 ⟨w.heap.size, 0, none⟩ 0 (imgC A1 c1 A2 c2 x) → K w2 := by
  have hk : (L ++ [(w.heap.size, [i64v 0, .slice none 0 0, .bool false, .bool false, .slice none 0 0])])[L.length]? = some (w.heap.size, [i64v 0, .slice none 0 0, .bool false, .bool false, .slice none 0 0]) := by simp
  refine (h.alloc h1).setAllE (l := imgC A1 c1 A2 c2 x) L.length hk rfl (ones rfl) fun w2 e2 t => ?_
  obtain ⟨_, hs⟩ := ((Trk.start w).alloc h1).setAllE (K := fun w2 => Later w w2) (l := imgC A1 c1 A2 c2 x) 0 rfl rfl (ones rfl) (fun w2 _ t => t.to)
  refine hK w2 (hs w2 e2) ?_
  simpa using t
theorem ins_eql (o d a b v o' d' a' b' v' : Int) (xo yo : Operand) : EqRuns Try.prog .eql 39 xo yo (.agg #[u8v o, u8v d, u8v a, u8v b, i64v v]) (.agg #[u8v o', u8v d', u8v a', u8v b', i64v v']) (o == o' && (d == d' && (a == a' && (b == b' && v == v')))) := by
  have := (eq_flat (P := Try.prog) (vs := [u8v o, u8v d, u8v a, u8v b, i64v v]) (us := [u8v o', u8v d', u8v a', u8v b', i64v v']) xo yo Try.underlying39 (by kernel_rfl) (by kernel_rfl) (by kernel_rfl)).1
  simpa [eqL, eq1] using this
def x0I : Img := ⟨0, [], false, false, [115]⟩
def lit0 : ByteArray := ByteArray.mk #[83, 67, 82, 49, 0, 0, 0, 1, 0, 0, 0, 115, 0, 0, 0]
theorem f_may : mayI x0I = true := by decide +kernel
theorem f_put : strOf (putB x0I) = lit0 := by decide +kernel
theorem f_text : textL x0I = [(34, 0, 0, 0, 0)] := by decide +kernel
theorem f_rd : rdI (bytesI lit0) = x0I := by decide +kernel
theorem f_can : canRd (bytesI lit0) = true := by decide +kernel
theorem f_pre : preOk lit0 = true := by decide +kernel
theorem f_2 : getE (ByteArray.mk #[83, 67, 82, 50]) = 7 := by decide +kernel
theorem f_6 : getE (ByteArray.mk #[83, 67]) = 6 := by decide +kernel
theorem f_get : getE lit0 = 0 := by simp [getE, f_pre, f_can, okG, f_rd, f_may, f_put]
theorem f_getX : getX lit0 = x0I := by rw [getX, f_get, if_pos rfl, f_rd]
theorem x0_ok : ImOk x0I := ⟨⟨by decide, by decide⟩, by simp [x0I], by intro c hc; simp [x0I] at hc; subst hc; exact ⟨by decide, by decide⟩, by decide, by decide⟩
theorem law30_large_ok {x : Img} {A1 A2 : Option Addr} {c1 c2 : Nat} (w : World) : Calls Try.prog law30_large.N #[imgV A1 c1 A2 c2 x] w (Gives (.bool (decide ((x.params.length : Int) > 300) || decide ((x.code.length : Int) > 3000))) w) := by
  refine law30_large.calls ?_
  unfold law30_large.vc
  intro w1 h1
  have L := (Trk.start w).alloc h1
  refine ⟨_, _, _, L.cell 0 rfl rfl, cnd_of (fun h => ?_) fun h => ⟨_, _, _, L.cell 0 rfl rfl, ?_⟩⟩
  · rw [h]; exact ⟨rfl, L.to⟩
  · rw [h]; exact ⟨rfl, L.to⟩
theorem getX_ok {s : ByteArray} (hs : s.size ≤ 100000) : ImOk (getX s) := by
  unfold getX
  split
  · refine rdI_ok hs ?_
    rename_i h
    cases hc : canRd (bytesI s) with
    | true => rfl
    | false => simp only [getE, hc] at h; split at h <;> simp at h
  · exact ⟨⟨by decide, by decide⟩, by simp [zeroI], by simp [zeroI], by decide, by decide⟩
set_option maxHeartbeats 3200000 in
theorem law30_alive_ok (w : World) : Calls Try.prog law30_alive.N #[] w (Gives (.bool true) w) := by
  refine law30_alive.calls ?_
  unfold law30_alive.vc
  intro w1 h1 w2 h2
  have L := ((Trk.start w).alloc h1).alloc h2
  refine L.setAll (l := imgC none 0 (some ⟨w.heap.size, 0, none⟩) 1 x0I) 1 rfl rfl (ones rfl) fun w3 L => ?_
  refine ⟨_, _, _, _, _, _, _, _, _, ⟨L.cell 1 rfl rfl, L.cell 1 rfl rfl, L.cell 1 rfl rfl, L.cell 1 rfl rfl, L.cell 1 rfl rfl, trivial⟩, ?_⟩
  have hi : ImAt w3 none (some ⟨w.heap.size, 0, none⟩) x0I := ⟨ERow.nil _ _, Has.erow (T := u32T) (l := x0I.code) (L.has 0 rfl)⟩
  refine (image_Put_ok (c1 := 0) (c2 := 1) x0_ok hi).mono fun e w4 ⟨he, g4⟩ => ⟨_, _, he, ?_⟩
  have L := L.later g4
  refine (image_Get_ok (s := lit0) (by decide) w4).mono fun e w5 ⟨g5, A1, c1, A2, c2, he, hg⟩ => ?_
  refine ⟨_, _, _, _, _, _, _, _, _, _, he, fun w6 h6 => keepI (L.later g5) h6 fun w7 g7 L => ?_⟩
  have hi := (hi.later g4)
  refine ⟨_, _, _, _, _, _, _, _, _, ⟨L.cell 1 rfl rfl, L.cell 1 rfl rfl, L.cell 1 rfl rfl, L.cell 1 rfl rfl, L.cell 1 rfl rfl, trivial⟩, ?_⟩
  have hi := hi.later (g5.trans g7)
  refine (image_Text_ok (c1 := 0) (c2 := 1) x0_ok hi).mono fun e w8 ⟨g8, b8, c8, he, o8⟩ => ⟨_, _, _, _, he, ?_⟩
  have L := L.later g8
  refine (image_Get_ok (s := ByteArray.mk #[83, 67, 82, 50]) (by decide) w8).mono fun e w9 ⟨g9, B1, d1, B2, d2, he, _⟩ => ?_
  refine ⟨_, _, _, _, _, _, _, _, _, _, he, fun w10 h10 => keepI (L.later g9) h10 fun w11 g11 L => ?_⟩
  refine (image_Get_ok (s := ByteArray.mk #[83, 67]) (by decide) w11).mono fun e w12 ⟨g12, C1, f1, C2, f2, he, _⟩ => ?_
  refine ⟨_, _, _, _, _, _, _, _, _, _, he, fun w13 h13 => keepI (L.later g12) h13 fun w14 g14 L => ?_⟩
  rw [f_2, f_6]
  have e1 : textE x0I = 0 := by simp [textE, f_may]
  have e2 : putS x0I = lit0 := by simp [putS, f_may, f_put]
  rw [e1, e2]
  refine cnd_true rfl (cnd_true (by show (lit0.toList == lit0.toList) = true; simp) ?_)
  rw [f_get]
  refine cnd_true rfl ?_
  have gg := g8.trans (g9.trans (g11.trans (g12.trans g14)))
  have hi14 := hi.later gg
  have hg14 := hg.later (g7.trans gg)
  refine ⟨_, _, _, _, _, _, _, _, _, ⟨L.cell 1 rfl rfl, L.cell 1 rfl rfl, L.cell 1 rfl rfl, L.cell 1 rfl rfl, L.cell 1 rfl rfl, trivial⟩, ?_⟩
  refine ⟨_, _, _, _, _, _, _, _, _, ⟨L.cell 2 rfl rfl, L.cell 2 rfl rfl, L.cell 2 rfl rfl, L.cell 2 rfl rfl, L.cell 2 rfl rfl, trivial⟩, ?_⟩
  refine (ref30_Same_ok (c1 := 0) (c2 := 1) x0_ok hi14 hg14).mono fun e w15 ⟨he, g15⟩ => ⟨_, he, ?_⟩
  have L := L.later g15
  refine cnd_true (by rw [f_getX]; simp) (cnd_true rfl ?_)
  have o := (o8.row.later ((g9.trans (g11.trans (g12.trans g14))).trans g15))
  rw [f_text] at o ⊢
  refine cnd_true rfl ⟨⟨show (0 : Int) ≤ 0 by decide, by decide⟩, ?_⟩
  obtain ⟨ad, rfl, hc⟩ := o 0 _ rfl
  have cc : ∀ j v, (insC (34, 0, 0, 0, 0))[j]? = some v → w15.cell? (ad.add j) = some v := fun j v hj => by
    have := hc j v hj
    rwa [Nat.zero_mul, addr_add_add, Nat.zero_add] at this
  refine Deref_some rfl ⟨_, _, _, _, _, ⟨by have := cc 0 _ rfl; rwa [addr_add_zero] at this, cc 1 _ rfl, cc 2 _ rfl, cc 3 _ rfl, cc 4 _ rfl, trivial⟩, ?_⟩
  refine ⟨_, ins_eql _ _ _ _ _ _ _ _ _ _ _ _, cnd_true (by rfl) (cnd_true rfl (cnd_true rfl ?_))⟩
  refine (image_Check_ok (x := zeroI) (c1 := 0) (c2 := 0) ⟨⟨by decide, by decide⟩, by simp [zeroI], by simp [zeroI], by decide, by decide⟩ (zero_at w15)).mono fun e w16 ⟨he, g16⟩ => ⟨_, he, ?_⟩
  refine ⟨?_, (L.later g16).to⟩
  have : (textE zeroI == 2) = true := by decide +kernel
  rw [this]
set_option maxHeartbeats 3200000 in
theorem law30_ImageGets_ok (s : ByteArray) (w : World) : Calls Try.prog law30_ImageGets.N #[.string s] w (Gives (.bool true) w) := by
  refine law30_ImageGets.calls ?_
  unfold law30_ImageGets.vc
  refine cnd_of (fun h => ?_) fun h => ?_
  · exact (law30_alive_ok w).mono fun e w1 ⟨he, g1⟩ => ⟨_, he, rfl, g1⟩
  have hs : s.size ≤ 100000 := by simp only [decide_eq_false_iff_not] at h; omega
  refine (image_Get_ok hs w).mono fun e w1 ⟨g1, A1, c1, A2, c2, he, hi⟩ => ?_
  refine ⟨_, _, _, _, _, _, _, _, _, _, he, fun w2 h2 => keepI ((Trk.start w).later g1) h2 fun w3 g3 L => ?_⟩
  refine (ref30_Get_ok hs w3).mono fun e w4 ⟨g4, B1, d1, B2, d2, he, hj⟩ => ?_
  refine ⟨_, _, _, _, _, _, _, _, _, _, he, fun w5 h5 => keepI (L.later g4) h5 fun w6 g6 L => ?_⟩
  refine ⟨_, _, _, _, _, _, _, _, _, ⟨L.cell 0 rfl rfl, L.cell 0 rfl rfl, L.cell 0 rfl rfl, L.cell 0 rfl rfl, L.cell 0 rfl rfl, trivial⟩, ?_⟩
  refine ⟨_, _, _, _, _, _, _, _, _, ⟨L.cell 1 rfl rfl, L.cell 1 rfl rfl, L.cell 1 rfl rfl, L.cell 1 rfl rfl, L.cell 1 rfl rfl, trivial⟩, ?_⟩
  refine (ref30_Same_ok (getX_ok hs) (hi.later (g3.trans (g4.trans g6))) (hj.later g6)).mono fun e w7 ⟨he, g7⟩ => ⟨_, he, ?_⟩
  refine cnd_true (by simp) (cnd_true (by simp) ?_)
  exact (law30_alive_ok w7).mono fun e w8 ⟨he, g8⟩ => ⟨_, he, rfl, (L.later g7).to.trans g8⟩
end Go.Proofs.Ytjoikaklincfoaa

/-
Chapter 30's first law, once called: it answers true and turns nothing old.
Conditions: the image's numbers are of their kinds.
-/
namespace Go.Proofs.Ytjoikaklincfoaa
open Go Go.Vc Go.RowKit
set_option linter.unusedVariables false
set_option linter.unusedSimpArgs false
set_option linter.unnecessarySimpa false
set_option maxRecDepth 100000

/-- An image that was handed in. -/
structure ImIn (x : Img) : Prop where
  slots : I64 x.slots
  params : ∀ h ∈ x.params, I64 h.d ∧ I64 h.len
  code : ∀ c ∈ x.code, W32 c
theorem ins_neq (o d a b v o' d' a' b' v' : Int) (xo yo : Operand) : EqRuns Try.prog .neq 39 xo yo (.agg #[u8v o, u8v d, u8v a, u8v b, i64v v]) (.agg #[u8v o', u8v d', u8v a', u8v b', i64v v']) (!(o == o' && (d == d' && (a == a' && (b == b' && v == v'))))) := by
  have := (eq_flat (P := Try.prog) (vs := [u8v o, u8v d, u8v a, u8v b, i64v v]) (us := [u8v o', u8v d', u8v a', u8v b', i64v v']) xo yo Try.underlying39 (by kernel_rfl) (by kernel_rfl) (by kernel_rfl)).2
  simpa [eqL, eq1] using this
set_option maxHeartbeats 6400000 in
theorem law30_ImageTells_ok {x : Img} (hin : ImIn x) {A1 A2 : Option Addr} {c1 c2 : Nat} (w : World) (hr : ImAt w A1 A2 x) : Calls Try.prog law30_ImageTells.N #[imgV A1 c1 A2 c2 x] w (Gives (.bool true) w) := by
  refine law30_ImageTells.calls ?_
  unfold law30_ImageTells.vc
  intro w1 h1
  have L := (Trk.start w).alloc h1
  refine ⟨_, _, _, _, _, _, _, _, _, ⟨L.cell 0 rfl rfl, L.cell 0 rfl rfl, L.cell 0 rfl rfl, L.cell 0 rfl rfl, L.cell 0 rfl rfl, trivial⟩, ?_⟩
  refine (law30_large_ok (c1 := c1) (c2 := c2) (A1 := A1) (A2 := A2) (x := x) w1).mono fun e w2 ⟨he, g2⟩ => ⟨_, he, ?_⟩
  have L := L.later g2
  refine cnd_of (fun h => ?_) fun h => ?_
  · exact (law30_alive_ok w2).mono fun e w3 ⟨he, g3⟩ => ⟨_, he, rfl, L.to.trans g3⟩
  have hx : ImOk x := by
    simp only [Bool.or_eq_false_iff, decide_eq_false_iff_not] at h
    exact ⟨hin.slots, hin.params, hin.code, by omega, by omega⟩
  refine ⟨_, _, _, _, _, _, _, _, _, ⟨L.cell 0 rfl rfl, L.cell 0 rfl rfl, L.cell 0 rfl rfl, L.cell 0 rfl rfl, L.cell 0 rfl rfl, trivial⟩, ?_⟩
  refine (ref30_Copy_ok (c1 := c1) (c2 := c2) hx (hr.later L.to)).mono fun e w3 ⟨g3, B1, d1, B2, d2, he, hq, _, _⟩ => ?_
  refine ⟨_, _, _, _, _, _, _, _, _, he, fun w4 h4 => keepI (L.later g3) h4 fun w5 g5 L => ?_⟩
  have hq := hq.later g5
  refine ⟨_, _, _, _, _, _, _, _, _, ⟨L.cell 1 rfl rfl, L.cell 1 rfl rfl, L.cell 1 rfl rfl, L.cell 1 rfl rfl, L.cell 1 rfl rfl, trivial⟩, ?_⟩
  refine (image_Check_ok (c1 := d1) (c2 := d2) hx hq).mono fun e w6 ⟨he, g6⟩ => ⟨_, he, ?_⟩
  have L := L.later g6
  have hq := hq.later g6
  refine ⟨_, _, _, _, _, _, _, _, _, ⟨L.cell 1 rfl rfl, L.cell 1 rfl rfl, L.cell 1 rfl rfl, L.cell 1 rfl rfl, L.cell 1 rfl rfl, trivial⟩, ?_⟩
  refine (image_Put_ok (c1 := d1) (c2 := d2) hx hq).mono fun e w7 ⟨he, g7⟩ => ⟨_, _, he, ?_⟩
  have L := L.later g7
  have hq := hq.later g7
  refine ⟨_, _, _, _, _, _, _, _, _, ⟨L.cell 1 rfl rfl, L.cell 1 rfl rfl, L.cell 1 rfl rfl, L.cell 1 rfl rfl, L.cell 1 rfl rfl, trivial⟩, ?_⟩
  refine (image_Text_ok (c1 := d1) (c2 := d2) hx hq).mono fun e w8 ⟨g8, b8, c8, he, o8⟩ => ⟨_, _, _, _, he, ?_⟩
  have L := L.later g8
  have hq := hq.later g8
  have ot := o8.row
  refine ⟨_, _, _, _, _, _, _, _, _, ⟨L.cell 1 rfl rfl, L.cell 1 rfl rfl, L.cell 1 rfl rfl, L.cell 1 rfl rfl, L.cell 1 rfl rfl, trivial⟩, ?_⟩
  refine ⟨_, _, _, _, _, _, _, _, _, ⟨L.cell 0 rfl rfl, L.cell 0 rfl rfl, L.cell 0 rfl rfl, L.cell 0 rfl rfl, L.cell 0 rfl rfl, trivial⟩, ?_⟩
  refine (ref30_Same_ok (c1 := d1) (c2 := d2) (d1 := c1) (d2 := c2) hx hq (hr.later L.to)).mono fun e w9 ⟨he, g9⟩ => ⟨_, he, ?_⟩
  have L := L.later g9
  have ot := ot.later g9
  refine cnd_false (by simp) ?_
  refine ⟨_, _, _, _, _, _, _, _, _, ⟨L.cell 0 rfl rfl, L.cell 0 rfl rfl, L.cell 0 rfl rfl, L.cell 0 rfl rfl, L.cell 0 rfl rfl, trivial⟩, ?_⟩
  refine (ref30_May_ok (c1 := c1) (c2 := c2) hx (hr.later L.to)).mono fun e w10 ⟨he, g10⟩ => ⟨_, he, ?_⟩
  have L := L.later g10
  have ot := ot.later g10
  have alive : ∀ {w' : World}, Later w w' → Calls Try.prog law30_alive.N #[] w' fun e w'' => ∃ b : Bool, e = .returned (.bool b) ∧ Gives (.bool true) w (.returned (.bool b)) w'' := fun hl => (law30_alive_ok _).mono fun e w3 ⟨he, g3⟩ => ⟨_, he, rfl, hl.trans g3⟩
  refine cnd_of (fun h => ?_) fun h => ?_
  · have hm : mayI x = false := by simpa using h
    have e1 : textE x = 2 := by simp [textE, hm]
    have e2 : putS x = ByteArray.mk #[] := by simp [putS, hm]
    have e3 : textL x = [] := by simp [textL, hm]
    rw [e1, e2, e3]
    exact cnd_true rfl (cnd_true rfl (cnd_true rfl (cnd_true (by simp) (cnd_true rfl (alive L.to)))))
  have hm : mayI x = true := by simpa using h
  have e1 : textE x = 0 := by simp [textE, hm]
  have e2 : putS x = strOf (putB x) := by simp [putS, hm]
  have e3 : textL x = x.code.map decN := by simp [textL, hm]
  rw [e1, e2]
  refine cnd_false rfl (cnd_false rfl (cnd_false rfl ?_))
  refine ⟨_, _, _, _, _, _, _, _, _, ⟨L.cell 0 rfl rfl, L.cell 0 rfl rfl, L.cell 0 rfl rfl, L.cell 0 rfl rfl, L.cell 0 rfl rfl, trivial⟩, ?_⟩
  refine (ref30_Put_ok (c1 := c1) (c2 := c2) hx (hr.later L.to)).mono fun e w11 ⟨he, g11⟩ => ⟨_, he, cnd_false (by simp) ?_⟩
  have L := L.later g11
  have ot := ot.later g11
  have el : (textL x).length = x.code.length := by rw [e3, List.length_map]
  refine ⟨_, _, _, L.cell 0 rfl rfl, cnd_false (by rw [el]; simp) ?_⟩
  refine ⟨fun vs w' => ∃ k : Nat, k ≤ x.code.length ∧ vs = [i64v k] ∧ Later w11 w', fun vs _ => match vs with | [.int _ n] => x.code.length - n.toNat | _ => 0, ⟨0, by omega, rfl, Later.refl _⟩, ?_⟩
  rintro g i w12 ⟨k, hk, hvs, g12⟩
  simp only [List.cons.injEq, Value.int.injEq, true_and, and_true] at hvs
  subst hvs
  have L := L.later g12
  have ot := ot.later g12
  refine cnd_of (fun h => ?_) fun h => alive L.to
  have hlt : k < x.code.length := by simp only [decide_eq_true_eq] at h; omega
  have hg := List.getElem?_eq_getElem hlt
  generalize x.code[k] = m at hg
  have nc := hx.nc
  obtain ⟨ad, hA, hc⟩ := (hr.2.later L.to) k _ hg
  refine ⟨_, _, _, L.cell 0 rfl rfl, ⟨by omega, by omega⟩, Deref_some hA ⟨m, ?_, ?_⟩⟩
  · have := hc 0 _ rfl
    rw [addr_add_zero] at this
    exact this
  refine (ref03_Decode_ok (hx.code m (List.mem_of_getElem? hg)) w12).mono fun e w13 ⟨he, g13⟩ => ?_
  rw [decI_is] at he
  refine ⟨_, _, _, _, _, _, he, fun w14 h14 => ?_⟩
  have M := (Trk.here g13).alloc h14
  refine M.setAll (l := insC (decN m)) 0 rfl rfl (ones rfl) fun w15 M => ?_
  have hg2 : (textL x)[k]? = some (decN m) := by rw [e3, List.getElem?_map, hg]; rfl
  obtain ⟨ad2, hA2, hc2⟩ := (ot.later M.to) k _ hg2
  refine ⟨⟨by omega, by rw [el]; omega⟩, Deref_some hA2 ⟨_, _, _, _, _, fun w' hl => ⟨?_, hl.cell_some (hc2 1 _ rfl), hl.cell_some (hc2 2 _ rfl), hl.cell_some (hc2 3 _ rfl), hl.cell_some (hc2 4 _ rfl), trivial⟩,
    _, _, _, _, _, fun w' hl => ⟨(M.later hl).cell 0 rfl rfl, (M.later hl).cell 0 rfl rfl, (M.later hl).cell 0 rfl rfl, (M.later hl).cell 0 rfl rfl, (M.later hl).cell 0 rfl rfl, trivial⟩, _, ins_neq _ _ _ _ _ _ _ _ _ _ _ _, fun w16 g16 => cnd_false (by show (!((decN m).1 == (decN m).1 && ((decN m).2.1 == (decN m).2.1 && ((decN m).2.2.1 == (decN m).2.2.1 && ((decN m).2.2.2.1 == (decN m).2.2.2.1 && (decN m).2.2.2.2 == (decN m).2.2.2.2))))) = false; simp) ?_⟩⟩
  · have := hl.cell_some (hc2 0 _ rfl)
    rw [addr_add_zero] at this
    exact this
  have hw : IntKind.i64.wrap ((k : Int) + 1) = ((k + 1 : Nat) : Int) := by rw [i64_in (by omega) (by omega)]; omega
  rw [hw]
  exact ⟨⟨k + 1, by omega, rfl, g12.trans (M.to.trans g16)⟩, by show x.code.length - ((k + 1 : Nat) : Int).toNat < x.code.length - ((k : Nat) : Int).toNat; omega⟩
end Go.Proofs.Ytjoikaklincfoaa

/-
Images, twelfth part: an image that is handed in.
Conditions: each theorem's hypotheses.
-/
namespace Go.Proofs.Ytjoikaklincfoaa
open Go Go.Vc Go.RowKit Go.ChangeShapes Go.WideShapes
set_option linter.unusedVariables false
set_option linter.unusedSimpArgs false
set_option linter.unnecessarySimpa false
set_option maxRecDepth 100000

section
variable {H : Type} {enc : TypeId × Value → H} {w : World} {base : Nat} {spare : Nat → Bool} {held : Bool} {P : Program}
theorem row_read {t e : TypeId} {fuel : Nat} {cs : List Value} {x : DataW H × List MemPlace} (ht : P.underlying t = some (.slice e)) (h : DataW.trod enc P w base spare held fuel t cs = some x) :
    ∃ A n cap C, cs = [.slice A n cap] ∧ n ≤ cap ∧ cap ≤ maxLen ∧ ArgRow w A n (P.cellsOf e) C ∧ ∀ i, i < n → ∃ m x, DataW.trod enc P w base spare held m e (C i) = some x := by
  rcases Deep.open_slice ht h with ⟨hc, _⟩ | ⟨a, n, cap, m, q, D, Pl, hc, _, hl, hm, hmm, _, hx⟩
  · exact ⟨none, 0, 0, fun _ => [], hc, Nat.le_refl _, by decide, fun i hi => absurd hi (Nat.not_lt_zero i), fun i hi => absurd hi (Nat.not_lt_zero i)⟩
  · have hnm : n ≤ m := by rw [hmm]; split <;> omega
    obtain ⟨C, hC⟩ := Deep.choose_lt (fun i hi => hx i (Nat.lt_of_lt_of_le hi hnm) : ∀ i, i < n → _)
    refine ⟨some a, n, cap, C, hc, hl, hm, fun i hi => ?_, fun i hi => ⟨q, _, (hC i hi).2⟩⟩
    obtain ⟨_, h2, h3⟩ := World.cells?_some (hC i hi).1
    refine ⟨a, rfl, h2, fun j v hj => ?_⟩
    have hlt := (List.getElem?_eq_some_iff.1 hj).1
    rw [h3 j (by omega)]
    exact hj
theorem field_read {cs : List Value} {fs : Array Field} {n' : Nat} {xs : List (DataW H × List MemPlace)} (hlen : xs.length = fs.size) (hf : ∀ (i : Nat) (f : Field), fs[i]? = some f → DataW.trod enc P w base spare held n' f.type ((cs.drop f.offset).take (P.cellsOf f.type)) = xs[i]?)
    (i : Nat) (f : Field) (hi : fs[i]? = some f) (t o n : Nat) (ht : f.type = t) (ho : f.offset = o) (hn : P.cellsOf t = n) : ∃ m y, DataW.trod enc P w base spare held m t ((cs.drop o).take n) = some y := by
  subst ht; subst ho; subst hn
  have hil : i < xs.length := by rw [hlen]; exact (Array.getElem?_eq_some_iff.1 hi).1
  exact ⟨n', _, (hf i f hi).trans (List.getElem?_eq_getElem hil)⟩
instance : Inhabited Hd := ⟨⟨false, false, false, 0, 0⟩⟩
theorem arg_image {r : Reach} {b0 : Nat} {v : Value} {d : DataW H} {ps : List MemPlace} (hval : Value.okWide Try.prog w r b0 25 v) (h : DataW.Trod enc Try.prog w base spare held 25 v d ps) :
    ∃ A1 c1 A2 c2 x, v = imgV A1 c1 A2 c2 x ∧ ImIn x ∧ ImAt w A1 A2 x := by
  obtain ⟨cs, rfl, hsz⟩ := okWide_struct Try.underlying25 hval
  obtain ⟨fuel, h⟩ := h
  obtain ⟨xs, n', _, _, hlen, hxs, hf⟩ := DataW.trod_struct Try.underlying25 h
  have hsz : cs.size = 5 := hsz.trans (by kernel_rfl)
  obtain ⟨m0, y0, h0⟩ := field_read hxs hf 0 _ rfl 3 0 1 rfl rfl (by kernel_rfl)
  obtain ⟨m1, y1, h1⟩ := field_read hxs hf 1 _ rfl 22 1 1 rfl rfl (by kernel_rfl)
  obtain ⟨m2, y2, h2⟩ := field_read hxs hf 2 _ rfl 4 2 1 rfl rfl (by kernel_rfl)
  obtain ⟨m3, y3, h3⟩ := field_read hxs hf 3 _ rfl 4 3 1 rfl rfl (by kernel_rfl)
  obtain ⟨m4, y4, h4⟩ := field_read hxs hf 4 _ rfl 23 4 1 rfl rfl (by kernel_rfl)
  obtain ⟨l, rfl⟩ : ∃ l : List Value, cs = l.toArray := ⟨cs.toList, by simp⟩
  match l, hsz with
  | [v0, v1, v2, v3, v4], _ =>
  simp only [Value.cells, List.drop_zero, List.drop_succ_cons, List.take_succ_cons, List.take_zero] at h0 h1 h2 h3 h4
  obtain ⟨n0, e0, _, w0⟩ := DataW.trod_int Try.underlying3 h0
  obtain ⟨b2, e2, _⟩ := DataW.trod_bool Try.underlying4 h2
  obtain ⟨b3, e3, _⟩ := DataW.trod_bool Try.underlying4 h3
  obtain ⟨A1, l1, c1, C1, e1, hl1, hm1, R1, T1⟩ := row_read Try.underlying22 h1
  obtain ⟨A2, l2, c2, C2, e4, hl2, hm2, R2, T2⟩ := row_read Try.underlying23 h4
  obtain ⟨F, hF⟩ := Deep.choose_lt (p := fun i (m : Hd) => (∀ j v, (hdC m)[j]? = some v → (C1 i)[j]? = some v) ∧ I64 m.d ∧ I64 m.len) (n := l1) (fun i hi => by
    obtain ⟨m, x, hx⟩ := T1 i hi
    have hc := kindsT_read 2 _ [.bool, .bool, .bool, .int .i64, .int .i64] _ _ _ (by kernel_rfl) hx
    obtain ⟨u0, g0, b0, rfl⟩ := hc 0 _ rfl
    obtain ⟨u1, g1, b1, rfl⟩ := hc 1 _ rfl
    obtain ⟨u2, g2, b2, rfl⟩ := hc 2 _ rfl
    obtain ⟨u3, g3, n3, rfl, f3⟩ := hc 3 _ rfl
    obtain ⟨u4, g4, n4, rfl, f4⟩ := hc 4 _ rfl
    refine ⟨⟨b0, b1, b2, n3, n4⟩, fun j v hv => ?_, wf_i64 f3, wf_i64 f4⟩
    have hj : j < 5 := (List.getElem?_eq_some_iff.1 hv).1
    match j, hj, hv with
    | 0, _, hv => rw [g0]; exact hv
    | 1, _, hv => rw [g1]; exact hv
    | 2, _, hv => rw [g2]; exact hv
    | 3, _, hv => rw [g3]; exact hv
    | 4, _, hv => rw [g4]; exact hv)
  obtain ⟨G, hG⟩ := Deep.choose_lt (p := fun i (m : Int) => (C2 i)[0]? = some (.int .u32 m) ∧ W32 m) (n := l2) (fun i hi => by
    obtain ⟨m, x, hx⟩ := T2 i hi
    have hc := kindsT_read 1 _ [.int .u32] _ _ _ (by kernel_rfl) hx
    obtain ⟨u0, g0, n0, rfl, f0⟩ := hc 0 _ rfl
    exact ⟨n0, g0, wf_u32 f0⟩)
  have hn1 : ((List.range l1).map F).length = l1 := by simp
  have hn2 : ((List.range l2).map G).length = l2 := by simp
  obtain rfl : v0 = _ := by simpa using e0
  obtain rfl : v1 = _ := by simpa using e1
  obtain rfl : v2 = _ := by simpa using e2
  obtain rfl : v3 = _ := by simpa using e3
  obtain rfl : v4 = _ := by simpa using e4
  refine ⟨A1, c1, A2, c2, ⟨n0, (List.range l1).map F, b2, b3, (List.range l2).map G⟩, ?_, ⟨wf_i64 w0, ?_, ?_⟩, ⟨?_, ?_⟩⟩
  · simp [imgV]
  · intro m hm
    obtain ⟨i, hi, rfl⟩ := List.mem_map.1 hm
    exact (hF i (List.mem_range.1 hi)).2
  · intro m hm
    obtain ⟨i, hi, rfl⟩ := List.mem_map.1 hm
    exact (hG i (List.mem_range.1 hi)).2
  · intro i m hi
    have hil : i < l1 := by have := (List.getElem?_eq_some_iff.1 hi).1; rwa [hn1] at this
    obtain rfl : F i = m := by simpa [hil] using hi
    obtain ⟨ad, g1, _, g3⟩ := R1 i hil
    exact ⟨ad, g1, fun j v hv => g3 j v ((hF i hil).1 j v hv)⟩
  · intro i m hi
    have hil : i < l2 := by have := (List.getElem?_eq_some_iff.1 hi).1; rwa [hn2] at this
    obtain rfl : G i = m := by simpa [hil] using hi
    obtain ⟨ad, g1, _, g3⟩ := R2 i hil
    refine ⟨ad, g1, fun j v hv => ?_⟩
    have hj : j < 1 := (List.getElem?_eq_some_iff.1 hv).1
    match j, hj, hv with
    | 0, _, hv =>
      obtain rfl : Value.int .u32 (G i) = v := by simpa [u32T] using hv
      exact g3 0 _ (hG i hil).1
end
end Go.Proofs.Ytjoikaklincfoaa
