/-
The contracts of the document's answer for moves, last part: Order.
Conditions: each theorem's hypotheses.
-/
import Derived.Test.YtngpkmpbhkbgoaaMvH
namespace Go.Proofs.Ytngpkmpbhkbgoaa
open Go Go.Vc Go.RowKit
set_option linter.unusedVariables false
set_option linter.unusedSimpArgs false
set_option maxRecDepth 100000

theorem mvsC_set4 (l : List Mv) (i : Nat) (m : Mv) (h : i < l.length) : ((((mvsC l).set (i * 4) (.bool m.1.1)).set (i * 4 + 1) (i64v m.1.2)).set (i * 4 + 2) (.bool m.2.1)).set (i * 4 + 3) (i64v m.2.2) = mvsC (l.set i m) := by
  apply List.ext_getElem?
  intro k
  by_cases hk : k < l.length * 4
  · obtain ⟨q, j, hj, rfl⟩ : ∃ q j, j < 4 ∧ k = q * 4 + j := ⟨k / 4, k % 4, by omega, by omega⟩
    have hq : q < l.length := by omega
    have e1 := List.getElem?_eq_getElem hq
    rw [List.getElem?_set, List.getElem?_set, List.getElem?_set, List.getElem?_set, mvsC_get l q j l[q] e1 hj]
    by_cases hqi : i = q
    · subst hqi
      rw [mvsC_get (l.set i m) i j m (by simp [h]) hj]
      simp only [List.length_set, mvsC_length]
      match j, hj with
      | 0, _ => simp [mvC]; omega
      | 1, _ => simp [mvC]; omega
      | 2, _ => simp [mvC]; omega
      | 3, _ => simp [mvC]; omega
    · rw [mvsC_get (l.set i m) q j l[q] (by rw [List.getElem?_set_ne hqi, e1]) hj, if_neg (by omega), if_neg (by omega), if_neg (by omega), if_neg (by omega)]
  · rw [List.getElem?_eq_none (by simp [mvsC_length]; omega), List.getElem?_eq_none (by rw [mvsC_length]; simp; omega)]
theorem own_setMv {w0 w : World} {g c : Nat} {l : List Mv} (h : OwnM w0 w (some ⟨g, 0, none⟩) c l) (hl : Later w0 w) {i : Nat} (hi : i < l.length) (m : Mv) :
    SetsAt w ((Addr.mk g 0 none).add (i * 4)) 0 [.bool m.1.1, i64v m.1.2, .bool m.2.1, i64v m.2.2] ∧ ∀ w', w' = setCellsAt w ((Addr.mk g 0 none).add (i * 4)) 0 [.bool m.1.1, i64v m.1.2, .bool m.2.1, i64v m.2.2] → OwnM w0 w' (some ⟨g, 0, none⟩) c (l.set i m) ∧ Later w0 w' ∧ ∀ k, k ≠ g → w'.heap[k]? = w.heap[k]? := by
  have cellAt : ∀ j, j < 4 → ∃ u, w.cell? ⟨g, i * 4 + j, none⟩ = some u := by
    intro j hj
    have hjl : i * 4 + j < (mvsC l).length := by rw [mvsC_length]; omega
    have := CellsAt_get h.cells (i * 4 + j) _ (List.getElem?_eq_getElem hjl)
    rw [Nat.zero_add, add_block, Nat.zero_add] at this
    exact ⟨_, this⟩
  have fr : ∀ j, w.frozen? ⟨g, j, none⟩ = false := fun j => World.ownsRow.frozenAt (h := h) j
  have hg0 := (h.lt rfl).1
  rw [add_block, Nat.zero_add]
  constructor
  · obtain ⟨u0, h0⟩ := cellAt 0 (by omega)
    obtain ⟨u1, h1⟩ := cellAt 1 (by omega)
    obtain ⟨u2, h2⟩ := cellAt 2 (by omega)
    obtain ⟨u3, h3⟩ := cellAt 3 (by omega)
    refine cnd_true rfl ⟨⟨?_, ?_⟩, cnd_true rfl ⟨⟨?_, ?_⟩, cnd_true rfl ⟨⟨?_, ?_⟩, cnd_true rfl ⟨⟨?_, ?_⟩, trivial⟩⟩⟩⟩
    · rw [add_block, h0]; rfl
    · rw [add_block]; exact fr _
    · rw [add_block, h1]; rfl
    · rw [add_block]; exact fr _
    · rw [add_block, h2]; rfl
    · rw [add_block]; exact fr _
    · rw [add_block, h3]; rfl
    · rw [add_block]; exact fr _
  · intro w' e
    subst e
    simp only [setCellsAt, add_block, Nat.add_zero]
    obtain ⟨o1, k1⟩ := h.store (i * 4) (.bool m.1.1)
    have l1 := hl.setCell (p := ⟨g, i * 4, none⟩) hg0 (.bool m.1.1)
    obtain ⟨o2, k2⟩ := OwnS.store o1 (i * 4 + 1) (i64v m.1.2)
    have l2 := l1.setCell (p := ⟨g, i * 4 + 1, none⟩) hg0 (i64v m.1.2)
    obtain ⟨o3, k3⟩ := OwnS.store o2 (i * 4 + 2) (.bool m.2.1)
    have l3 := l2.setCell (p := ⟨g, i * 4 + 2, none⟩) hg0 (.bool m.2.1)
    obtain ⟨o4, k4⟩ := OwnS.store o3 (i * 4 + 3) (i64v m.2.2)
    have l4 := l3.setCell (p := ⟨g, i * 4 + 3, none⟩) hg0 (i64v m.2.2)
    rw [mvsC_set4 l i m hi] at o4
    refine ⟨?_, l4, fun k hk => by rw [k4 k hk, k3 k hk, k2 k hk, k1 k hk]⟩
    unfold OwnM
    rw [List.length_set]
    exact o4
theorem own_cap {w0 w : World} {b : Option Addr} {c : Nat} {l : List Mv} (h : OwnM w0 w b c l) : l.length ≤ c := by
  obtain ⟨_, h | ⟨g, cap, cur, h2, h3, h4, h5, _⟩⟩ := h
  · omega
  · cases h2; exact h5
theorem askB_opn {l : List Mv} {k : Nat} {m : Mv} (hm : l[k]? = some m) (hne : m.1 ≠ m.2) : askB l m.2 k = !opn l m := by
  rw [Bool.eq_iff_iff]
  unfold askB
  rw [List.any_eq_true]
  constructor
  · rintro ⟨i, hi, h⟩
    have hi := List.mem_range.1 hi
    rw [List.getElem?_eq_getElem hi] at h
    simp only [Bool.and_eq_true, decide_eq_true_eq] at h
    simp only [Bool.not_eq_true']
    rw [Bool.eq_false_iff]
    intro ho
    exact opn_iff.1 ho _ (List.getElem_mem hi) h.2
  · intro h
    simp only [Bool.not_eq_true'] at h
    rw [Bool.eq_false_iff, ne_eq, opn_iff] at h
    have : ∃ x ∈ l, x.1 = m.2 := by
      apply Classical.byContradiction
      intro hno
      exact h fun x hx e => hno ⟨x, hx, e⟩
    obtain ⟨x, hx, he⟩ := this
    obtain ⟨i, hi⟩ := List.getElem?_of_mem hx
    refine ⟨i, List.mem_range.2 (List.getElem?_eq_some_iff.1 hi).1, ?_⟩
    rw [hi]
    have : i ≠ k := by
      rintro rfl
      rw [hm] at hi
      obtain rfl := Option.some.inj hi
      exact hne he
    simp [this, he]
/-- The world of the reference's loops: the spare place, what is left, what is out. -/
structure Rp (w0 w : World) (sp : Pl) (sb : Nat) (b : Option Addr) (c : Nat) (left : List Mv) (bo : Option Addr) (co : Nat) (out : List Mv) : Prop where
  to : Later w0 w
  hs : Has w sb [.bool sp.1, i64v sp.2]
  ns : w0.heap.size ≤ sb
  own : OwnM w0 w b c left
  oo : OwnM w0 w bo co out
  ab : rowB b ≠ some sb
  ao : ∀ k, rowB bo = some k → k ≠ sb ∧ rowB b ≠ some k
section
variable {w0 w w' : World} {sp : Pl} {sb : Nat} {b bo b' : Option Addr} {c co c' : Nat} {left out left' : List Mv}
theorem Rp.later (h : Rp w0 w sp sb b c left bo co out) (hl : Later w w') : Rp w0 w' sp sb b c left bo co out := ⟨h.to.trans hl, h.hs.later hl, h.ns, OwnS.later h.own hl, OwnS.later h.oo hl, h.ab, h.ao⟩
theorem Rp.row (h : Rp w0 w sp sb b c left bo co out) (ho : OwnM w0 w' b' c' left') (hl : Later w0 w') (hk : ∀ k, k < w.heap.size → rowB b ≠ some k → w'.heap[k]? = w.heap[k]? ∧ rowB b' ≠ some k) : Rp w0 w' sp sb b' c' left' bo co out :=
  ⟨hl, h.hs.kept (hk sb h.hs.lt h.ab).1, h.ns, ho, OwnS.kept h.oo fun k e => (hk k (h.oo.lt e).2 (h.ao k e).2).1, (hk sb h.hs.lt h.ab).2, fun k e => ⟨(h.ao k e).1, (hk k (h.oo.lt e).2 (h.ao k e).2).2⟩⟩
theorem Rp.push (h : Rp w0 w sp sb b c left bo co out) {bo' : Option Addr} {co' : Nat} {out' : List Mv} (ho : OwnM w0 w' bo' co' out') (hl : Later w0 w') (hk : ∀ k, k < w.heap.size → rowB bo ≠ some k → w'.heap[k]? = w.heap[k]? ∧ rowB bo' ≠ some k) : Rp w0 w' sp sb b c left bo' co' out' := by
  have hs := hk sb h.hs.lt (fun e => (h.ao sb e).1 rfl)
  refine ⟨hl, h.hs.kept hs.1, h.ns, OwnS.kept h.own fun k e => (hk k (h.own.lt e).2 (fun e2 => (h.ao k e2).2 e)).1, ho, h.ab, fun k e => ⟨fun e2 => hs.2 (e2 ▸ e), fun e2 => (hk k (h.own.lt e2).2 (fun e3 => (h.ao k e3).2 e2)).2 e⟩⟩
end
set_option maxHeartbeats 6400000 in
theorem ref27_Order_ok {A : Option Addr} {cap : Nat} {l : List Mv} {sp : Pl} (hn : l.length ≤ 10000) (w : World) (hR : MRow w A l) :
    Calls Try.prog ref27_Order.N #[.slice A l.length cap, plv sp] w (fun e w' => Later w w' ∧ ((MayP l ∧ SpP l sp ∧ ∃ s b c, EndOf l sp s ∧ e = .returned (.tuple #[.slice b s.out.length c, i64v s.rings, i64v 0]) ∧ OwnM w w' b c s.out) ∨
      (¬ (MayP l ∧ SpP l sp) ∧ e = .returned (.tuple #[.slice none 0 0, i64v 0, i64v 2])))) := by
  refine ref27_Order.calls ?_
  unfold ref27_Order.vc
  intro w1 e1
  have T1 := (Trk.start w).alloc e1
  refine (ref27_May_ok (by omega) w1 (hR.later T1.to)).mono fun e w2 ⟨he, l2⟩ => ⟨_, he, cnd_of (fun h => ?_) (fun h => ?_)⟩
  · have hm : ¬ MayP l := by simpa using h
    exact ⟨T1.to.trans l2, .inr ⟨fun q => hm q.1, rfl⟩⟩
  have hm : MayP l := by simpa using h
  have hlen := hm.len
  have T2 := T1.later l2
  refine ⟨_, _, ⟨T2.cell 0 rfl rfl, T2.cell 0 rfl rfl, trivial⟩, (ref27_Spare_ok (s := sp) (by omega) w2 (hR.later T2.to)).mono fun e w3 ⟨he, l3⟩ => ⟨_, he, cnd_of (fun h => ?_) (fun h => ?_)⟩⟩
  · have hs : ¬ SpP l sp := by simpa using h
    exact ⟨T2.to.trans l3, .inr ⟨fun q => hs q.2, rfl⟩⟩
  have hs : SpP l sp := by simpa using h
  have T3 := T2.later l3
  have hsb := (T3.has 0 rfl).lt
  have P3 : Rp w w3 sp w.heap.size none 0 [] none 0 [] := ⟨T3.to, T3.has 0 rfl, Nat.le_refl _, OwnS_nil _ _ _ _, OwnS_nil _ _ _ _, (by intro h; cases h), fun k h => by cases h⟩
  generalize hsb0 : w.heap.size = sb at P3 hsb
  -- the first loop
  refine ⟨fun vs w' => ∃ (k : Nat) (b : Option Addr) (c : Nat), vs = [.slice b ((l.take k).filter keep).length c, .int .i64 k] ∧ k ≤ l.length ∧ Rp w w' sp sb b c ((l.take k).filter keep) none 0 [], fun vs _ => match vs with | [_, .int _ k] => (l.length - k.toNat) | _ => 0,
    ⟨0, none, 0, by simp, Nat.zero_le _, by simpa using P3⟩, ?_⟩
  rintro g b _ c _ w5 ⟨k, _, _, hs', hk, P5⟩
  simp only [List.cons.injEq, Value.int.injEq, Value.slice.injEq, true_and, and_true] at hs'
  obtain ⟨⟨rfl, rfl, rfl⟩, rfl⟩ := hs'
  refine cnd_of (fun h => ?_) (fun h => ?_)
  · have hkl : k < l.length := by have := of_decide_eq_true h; omega
    have hmk := List.getElem?_eq_getElem hkl
    generalize l[k] = m at hmk
    obtain ⟨ad, rfl, hc⟩ := (hR.later P5.to).at hmk
    have hfl : ((l.take k).filter keep).length ≤ 64 := by
      have h1 := List.length_filter_le keep (l.take k)
      have h2 := List.length_take_le k l
      omega
    have dec : l.length - ((k : Int) + 1).toNat < l.length - ((k : Nat) : Int).toNat := by omega
    refine ⟨⟨by omega, by omega⟩, Deref_some rfl ⟨_, _, fun w' h' => ⟨h'.cell_some hc.1, h'.cell_some hc.2.1, trivial⟩, ⟨by omega, by omega⟩, Deref_some rfl ⟨_, _, fun w' h' => ⟨h'.cell_some hc.2.2.1, by rw [add_two_one]; exact h'.cell_some hc.2.2.2.1, trivial⟩, _, (pl_eq _ _ m.1 m.2).2, fun w6 l6 => cnd_of (fun h2 => ?_) (fun h2 => ?_)⟩⟩⟩
    · have hne : m.1 ≠ m.2 := by simpa using h2
      have hkeep : (l.take (k + 1)).filter keep = (l.take k).filter keep ++ [m] := by rw [take_snoc hmk, List.filter_append]; simp [keep, hne]
      have P6 := P5.later l6
      refine ⟨⟨by omega, by omega⟩, Deref_some rfl ⟨_, _, _, _, ⟨l6.cell_some hc.1, l6.cell_some hc.2.1, l6.cell_some hc.2.2.1, l6.cell_some hc.2.2.2.1, trivial⟩, fun w7 e7 => ?_⟩⟩
      refine mv_push m P6.own P6.to (by omega) e7 fun b' c' w8 ho8 l8 hk8 => ⟨_, _, _, rfl, ?_⟩
      rw [i64_in (x := (k : Int) + 1) (by omega) (by omega)]
      refine ⟨⟨k + 1, b', c', by rw [hkeep]; rfl, by omega, ?_⟩, dec⟩
      rw [hkeep]
      exact P6.row ho8 l8 hk8
    · have heq : m.1 = m.2 := by simpa using h2
      have hkeep : (l.take (k + 1)).filter keep = (l.take k).filter keep := by rw [take_snoc hmk, List.filter_append]; simp [keep, heq]
      rw [i64_in (x := (k : Int) + 1) (by omega) (by omega)]
      refine ⟨⟨k + 1, b, c, by rw [hkeep]; rfl, by omega, ?_⟩, dec⟩
      rw [hkeep]; exact P5.later l6
  -- the main loop
  have hkn : k = l.length := by have := of_decide_eq_false h; omega
  subst hkn
  rw [List.take_length] at P5 ⊢
  clear P3 h hk
  have hst0 : (start l).left = l.filter keep := rfl
  have G0 : Good sp (start l) := Good.start fun m hm => (hs.free m hm).2
  have hmu0 : mu (start l) ≤ 129 := by
    have h1 := mu_le (start l)
    have h2 := List.length_filter_le keep l
    rw [hst0] at h1
    omega
  have hlft : ∀ k, (iter sp k (start l)).left.length ≤ 64 := fun k => by
    have h1 := left_le (sp := sp) (s := start l) k
    have h2 := List.length_filter_le keep l
    rw [hst0] at h1
    omega
  have hout : ∀ k, (iter sp k (start l)).out.length + mu (iter sp k (start l)) ≤ 129 := fun k => by
    have := out_bound G0 k
    have h0 : (start l).out.length = 0 := rfl
    omega
  have hrng : ∀ k, (iter sp k (start l)).rings ≤ (iter sp k (start l)).out.length := fun k => rings_le (Nat.le_refl _) k
  refine ⟨fun vs w' => ∃ (k : Nat) (bo : Option Addr) (co : Nat) (bl : Option Addr) (cl : Nat), vs = [.slice bl (iter sp k (start l)).left.length cl, .slice bo (iter sp k (start l)).out.length co, .int .i64 ((iter sp k (start l)).rings : Nat)] ∧
      Rp w w' sp sb bl cl (iter sp k (start l)).left bo co (iter sp k (start l)).out,
    fun vs _ => match vs with | [_, .slice _ n _, _] => 200 - n | _ => 0, ⟨0, none, 0, b, c, rfl, P5⟩, ?_⟩
  clear P5
  rintro g2 bl _ cl bo _ co _ w6 ⟨k, _, _, _, _, hs', P6⟩
  simp only [List.cons.injEq, Value.int.injEq, Value.slice.injEq, true_and, and_true] at hs'
  obtain ⟨⟨rfl, rfl, rfl⟩, ⟨rfl, rfl, rfl⟩, rfl⟩ := hs'
  have G := G0.iter k
  have hl6 := hlft k
  have ho6 := hout k
  have hr6 := hrng k
  have hstep : iter sp (k + 1) (start l) = stp sp (iter sp k (start l)) := rfl
  have ho7 := hout (k + 1)
  rw [hstep] at ho7
  refine cnd_of (fun h => ?_) (fun h => ?_)
  case refine_2 =>
    have := of_decide_eq_false h
    have hnil : (iter sp k (start l)).left = [] := List.length_eq_zero_iff.1 (by omega)
    exact ⟨P6.to, .inl ⟨hm, hs, _, bo, co, ⟨k, rfl, hnil⟩, rfl, P6.oo⟩⟩
  have hpos : 0 < (iter sp k (start l)).left.length := by have := of_decide_eq_true h; omega
  have hnil : (iter sp k (start l)).left ≠ [] := List.length_pos_iff.1 hpos
  generalize hS : iter sp k (start l) = S at *
  have hmus := mu_step G hnil
  -- which one
  refine ⟨fun vs w' => vs = [.int .i64 ((S.left.findIdx (opn S.left) : Nat) : Int)] ∧ Later w6 w', ⟨fun vs w' => ∃ j : Nat, vs = [.int .i64 j] ∧ j ≤ S.left.length ∧ j ≤ S.left.findIdx (opn S.left) ∧ Later w6 w', fun vs _ => match vs with | [.int _ j] => (S.left.length - j.toNat) | _ => 0, ⟨0, rfl, Nat.zero_le _, Nat.zero_le _, Later.refl _⟩, ?_⟩, ?_⟩
  · rintro g3 _ w7 ⟨j, hs', hj, hjf, l7⟩
    simp only [List.cons.injEq, Value.int.injEq, true_and, and_true] at hs'
    subst hs'
    refine cnd_of (fun h => ?_) (fun h => ?_)
    · have hjl : j < S.left.length := by have := of_decide_eq_true h; omega
      have hmj := List.getElem?_eq_getElem hjl
      have hR7 : MRow w7 bl S.left := (P6.later l7).own.row
      obtain ⟨ad, rfl, hc⟩ := hR7.at hmj
      refine ⟨⟨by omega, by omega⟩, Deref_some rfl ⟨_, _, ⟨hc.2.2.1, by rw [add_two_one]; exact hc.2.2.2.1, trivial⟩, ?_⟩⟩
      refine (ref27_asked_ok (p := S.left[j].2) (by omega) w7 hR7).mono fun e w8 ⟨he, l8⟩ => ⟨_, he, ?_⟩
      rw [askB_opn hmj (G.apart _ (List.getElem_mem hjl))]
      refine cnd_of (fun h2 => ?_) (fun h2 => ?_)
      · rw [i64_in (by omega) (by omega)]
        refine ⟨⟨j + 1, rfl, by omega, ?_, l7.trans l8⟩, by simp only; omega⟩
        rcases Nat.lt_or_eq_of_le hjf with h3 | h3
        · omega
        · exfalso
          have hlt : S.left.findIdx (opn S.left) < S.left.length := by omega
          have := List.findIdx_getElem (w := hlt)
          simp only [← h3] at this
          rw [this] at h2; cases h2
      · refine ⟨?_, l7.trans l8⟩
        have : S.left.findIdx (opn S.left) ≤ j := Nat.le_of_not_lt fun h => by
          have := List.not_of_lt_findIdx h
          rw [this] at h2; cases h2
        rw [show S.left.findIdx (opn S.left) = j by omega]
    · have := of_decide_eq_false h
      have hfl : S.left.findIdx (opn S.left) ≤ S.left.length := List.findIdx_le_length
      exact ⟨by rw [show S.left.findIdx (opn S.left) = j by omega], l7⟩
  rintro g3 _ w7 ⟨hs', l7⟩
  simp only [List.cons.injEq, Value.int.injEq, true_and, and_true] at hs'
  subst hs'
  have P7 := P6.later l7
  refine cnd_of (fun hidx => ?_) (fun hidx => ?_)
  · have hidx : S.left.findIdx (opn S.left) < S.left.length := by have := of_decide_eq_true hidx; omega
    have hmk := List.getElem?_eq_getElem hidx
    generalize S.left[S.left.findIdx (opn S.left)] = m at hmk
    have hs1 := stp_open (sp := sp) rfl hmk
    obtain ⟨ad, had, hc⟩ := P7.own.row.at hmk
    refine ⟨⟨by omega, by omega⟩, Deref_some had ⟨_, _, _, _, hc, fun w8 e8 => ?_⟩⟩
    refine mv_push m P7.oo P7.to (by omega) e8 fun bo' co' w9 ho9 l9 hk9 => ⟨_, _, _, rfl, ?_⟩
    have P9 := P7.push ho9 l9 hk9
    refine (ref27_without_ok (by omega) (own_cap P9.own) w9 P9.own.row hidx).mono fun e w10 ⟨l10, b', c', he, ho10⟩ => ⟨_, _, _, he, ?_⟩
    have P10 := P9.later l10
    refine ⟨⟨k + 1, bo', co', b', c', ?_, ?_⟩, ?_⟩
    · rw [hstep, hs1]
    · rw [hstep, hs1]
      refine ⟨P10.to, P10.hs, P10.ns, ho10.weak P9.to.size, P10.oo, fun e => ?_, fun j e => ⟨(P10.ao j e).1, fun e2 => ?_⟩⟩
      · have := (ho10.lt e).1; have := P9.hs.lt; omega
      · have := (ho10.lt e2).1; have := (P9.oo.lt e).2; omega
    · rw [hs1] at ho7
      simp only [List.length_append, List.length_cons, List.length_nil] at ho7 ⊢
      omega
  · have hidx : ¬ S.left.findIdx (opn S.left) < S.left.length := by have := of_decide_eq_false hidx; omega
    obtain ⟨m0, h0⟩ : ∃ m0, S.left[0]? = some m0 := ⟨_, List.getElem?_eq_getElem hpos⟩
    have hs1 := stp_ring (sp := sp) h0 hidx
    obtain ⟨ad, had, hc⟩ := P7.own.row.at h0
    rw [Nat.zero_mul, add_zero_nn] at hc
    refine ⟨⟨Int.le_refl 0, by omega⟩, Deref_some had ⟨_, _, ⟨hc.2.2.1, by rw [add_two_one]; exact hc.2.2.2.1, trivial⟩, fun w8 e8 => ?_⟩⟩
    refine ((Trk.start w7).alloc e8).setAll 0 rfl (l := [.bool m0.2.1, i64v m0.2.2]) (by rfl) (by simp [Value.oneCell']) fun w9 T9 => ?_
    have hx9 := T9.has 0 rfl
    have P9 := P7.later T9.to
    have htl : rowB bl ≠ some w7.heap.size := fun e => by have := (P7.own.lt e).2; omega
    have hto : rowB bo ≠ some w7.heap.size := fun e => by have := (P7.oo.lt e).2; omega
    have s9 : ∀ {w' : World} {b : Nat} {sp : Pl}, Has w' b [.bool sp.1, i64v sp.2] → w'.cell? ⟨b, 0, none⟩ = some (.bool sp.1) ∧ w'.cell? ⟨b, 1, none⟩ = some (i64v sp.2) ∧ True := fun h => ⟨h.cell rfl, h.cell rfl, trivial⟩
    refine ⟨_, _, s9 hx9, _, _, s9 P9.hs, fun w10 e10 => ?_⟩
    refine mv_push (m0.2, sp) P9.oo P9.to (by omega) e10 fun bo' co' w11 ho11 l11 hk11 => ⟨_, _, _, rfl, ?_⟩
    have P11 := P9.push ho11 l11 hk11
    have hx11 : Has w11 w7.heap.size [.bool m0.2.1, i64v m0.2.2] := hx9.kept (hk11 _ hx9.lt hto).1
    have hto11 : rowB bo' ≠ some w7.heap.size := (hk11 _ hx9.lt hto).2
    generalize w7.heap.size = tb at hx11 htl hto11
    refine ⟨fun vs w' => ∃ (j : Nat), vs = [.int .i64 j] ∧ j ≤ S.left.length ∧ Rp w w' sp sb bl cl (renTo m0.2 sp S.left j) bo' co' (S.out ++ [(m0.2, sp)]) ∧ Has w' tb [.bool m0.2.1, i64v m0.2.2],
      fun vs _ => match vs with | [.int _ j] => (S.left.length - j.toNat) | _ => 0, ⟨0, rfl, Nat.zero_le _, by rw [renTo_zero]; exact P11, hx11⟩, ?_⟩
    clear P11 ho11 hx11 hk11 P9 hx9
    rintro g4 _ w12 ⟨j, hs', hj, P12, hx12⟩
    simp only [List.cons.injEq, Value.int.injEq, true_and, and_true] at hs'
    subst hs'
    refine cnd_of (fun h => ?_) (fun h => ?_)
    · have hjl : j < S.left.length := by have := of_decide_eq_true h; omega
      have hmj := List.getElem?_eq_getElem hjl
      generalize S.left[j] = m at hmj
      have hmr : (renTo m0.2 sp S.left j)[j]? = some m := renTo_get hmj
      obtain ⟨ae, hae, hce⟩ := P12.own.row.at hmr
      refine ⟨⟨by omega, by omega⟩, Deref_some hae ⟨_, _, _, _, hce, fun w13 e13 => ?_⟩⟩
      refine ((Trk.start w12).alloc e13).setAll 0 rfl (l := mvC m) (by rfl) (by simp [mvC, Value.oneCell']) fun w14 T14 => ?_
      have P14 := P12.later T14.to
      have hx14 := hx12.later T14.to
      have dec : S.left.length - ((j : Int) + 1).toNat < S.left.length - ((j : Nat) : Int).toNat := by omega
      refine ⟨_, _, ⟨T14.cell 0 rfl rfl, T14.cell 0 rfl rfl, trivial⟩, _, _, s9 hx14, _, (pl_eq _ _ m.1 m0.2).1, fun _ w' => ∃ L, Trk w12 w' L ∧ L = [(w12.heap.size, mvC (ren m0.2 sp m))], cnd_of (fun h2 => ?_) (fun h2 => ?_), ?_⟩
      · have h2 := of_decide_eq_true h2
        refine ⟨_, _, s9 P14.hs, ?_⟩
        have hx := T14.has 0 rfl
        refine ⟨hx.sets [.bool sp.1, i64v sp.2] 0 (by simp [mvC]) (by simp [Value.oneCell']), fun w15 e15 => ⟨_, ?_, rfl⟩⟩
        have := Trk.setMany (k := 0) [.bool sp.1, i64v sp.2] 0 w14 _ _ T14 rfl (by simp [mvC])
        rw [e15]
        unfold ren
        rw [if_pos h2]
        exact this
      · have h2 := of_decide_eq_false h2
        refine ⟨_, T14, ?_⟩
        unfold ren
        rw [if_neg h2]
        rfl
      rintro g5 w15 ⟨_, T15, rfl⟩
      have P15 := P12.later T15.to
      have hx15 := hx12.later T15.to
      refine ⟨_, _, _, _, ⟨T15.cell 0 rfl rfl, T15.cell 0 rfl rfl, T15.cell 0 rfl rfl, T15.cell 0 rfl rfl, trivial⟩, ⟨by omega, by omega⟩, Deref_some hae ?_⟩
      obtain ⟨gb, hgb, -⟩ := P15.own.split (by rw [renTo_length]; omega)
      rw [hae] at hgb
      obtain rfl := Option.some.inj hgb
      subst hae
      obtain ⟨q1, q2⟩ := own_setMv P15.own P15.to (show j < (renTo m0.2 sp S.left j).length by rw [renTo_length]; exact hjl) (ren m0.2 sp m)
      refine ⟨q1, fun w16 e16 => ?_⟩
      obtain ⟨o16, l16, k16⟩ := q2 w16 e16
      rw [i64_in (x := (j : Int) + 1) (by omega) (by omega)]
      refine ⟨⟨j + 1, rfl, by omega, ?_, hx15.kept (k16 tb (fun e => htl (by rw [e]; rfl)))⟩, dec⟩
      rw [renTo_succ hmj]
      exact P15.row o16 l16 fun i h1 h2 => ⟨k16 i (fun e => h2 (by rw [e]; rfl)), h2⟩
    · have : j = S.left.length := by have := of_decide_eq_false h; omega
      subst this
      rw [renTo_all] at P12
      rw [i64_in (x := ((S.rings : Nat) : Int) + 1) (by omega) (by omega)]
      refine ⟨⟨k + 1, bo', co', bl, cl, ?_, ?_⟩, ?_⟩
      · rw [hstep, hs1, List.length_map]; rfl
      · rw [hstep, hs1]; exact P12
      · rw [hs1] at ho7
        simp only [List.length_append, List.length_cons, List.length_nil] at ho7 ⊢
        omega
end Go.Proofs.Ytngpkmpbhkbgoaa
