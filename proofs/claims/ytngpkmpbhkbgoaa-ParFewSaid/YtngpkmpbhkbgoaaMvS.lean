/-
The rings do not hang on which place is the spare one.
Conditions: each theorem's hypotheses.
-/
import Derived.Test.YtngpkmpbhkbgoaaMvF
namespace Go.Proofs.Ytngpkmpbhkbgoaa
open Go Go.Vc Go.RowKit
set_option linter.unusedVariables false
set_option linter.unusedSimpArgs false

def sub (sp sp' : Pl) (m : Mv) : Mv := (if m.1 = sp then sp' else m.1, m.2)
theorem sub_to (sp sp' : Pl) (m : Mv) : (sub sp sp' m).2 = m.2 := rfl
structure Twin (sp sp' : Pl) (S T : St) : Prop where
  left : T.left = S.left.map (sub sp sp')
  rings : T.rings = S.rings
  tos : ∀ m ∈ S.left, m.2 ≠ sp ∧ m.2 ≠ sp'
  froms : ∀ m ∈ S.left, m.1 ≠ sp'
theorem Twin.from {sp sp' : Pl} {S T : St} (h : Twin sp sp' S T) {x m : Mv} (hm : m ∈ S.left) : (sub sp sp' x).1 = m.2 ↔ x.1 = m.2 := by
  unfold sub
  have := h.tos m hm
  by_cases hx : x.1 = sp
  · simp only [hx, if_true]
    exact ⟨fun e => absurd e.symm this.2, fun e => absurd e.symm this.1⟩
  · simp only [hx, if_false]
theorem Twin.opn {sp sp' : Pl} {S T : St} (h : Twin sp sp' S T) {m : Mv} (hm : m ∈ S.left) : opn T.left (sub sp sp' m) = opn S.left m := by
  rw [Bool.eq_iff_iff, opn_iff, opn_iff, h.left]
  constructor
  · intro hx x hxl e
    exact hx _ (List.mem_map_of_mem hxl) ((h.from hm).2 e)
  · intro hx x hxl e
    obtain ⟨y, hy, rfl⟩ := List.mem_map.1 hxl
    exact hx y hy ((h.from hm).1 e)
theorem findIdx_congr' {α : Type} {p q : α → Bool} : ∀ {l : List α}, (∀ x ∈ l, p x = q x) → l.findIdx p = l.findIdx q
  | [], _ => rfl
  | x :: l, h => by
    rw [List.findIdx_cons, List.findIdx_cons, h x List.mem_cons_self, findIdx_congr' fun y hy => h y (List.mem_cons_of_mem x hy)]
theorem Twin.idx {sp sp' : Pl} {S T : St} (h : Twin sp sp' S T) : T.left.findIdx (Go.Proofs.Ytngpkmpbhkbgoaa.opn T.left) = S.left.findIdx (Go.Proofs.Ytngpkmpbhkbgoaa.opn S.left) := by
  have e : (S.left.map (sub sp sp')).findIdx (Go.Proofs.Ytngpkmpbhkbgoaa.opn T.left) = S.left.findIdx (fun m => Go.Proofs.Ytngpkmpbhkbgoaa.opn T.left (sub sp sp' m)) := by
    generalize Go.Proofs.Ytngpkmpbhkbgoaa.opn T.left = p
    induction S.left with
    | nil => rfl
    | cons x l ih => rw [List.map_cons, List.findIdx_cons, List.findIdx_cons, ih]
  have e2 : T.left.findIdx (Go.Proofs.Ytngpkmpbhkbgoaa.opn T.left) = (S.left.map (sub sp sp')).findIdx (Go.Proofs.Ytngpkmpbhkbgoaa.opn T.left) := by rw [← h.left]
  rw [e2, e]
  exact findIdx_congr' fun m hm => h.opn hm
theorem eraseIdx_map' {α β : Type} (f : α → β) : ∀ (l : List α) (k : Nat), (l.map f).eraseIdx k = (l.eraseIdx k).map f
  | [], k => by simp
  | x :: l, 0 => by simp
  | x :: l, k + 1 => by simp [eraseIdx_map' f l k]
theorem Twin.step {sp sp' : Pl} {S T : St} (hne : sp ≠ sp') (h : Twin sp sp' S T) : Twin sp sp' (stp sp S) (stp sp' T) := by
  by_cases hl : S.left = []
  · have ht : T.left = [] := by rw [h.left, hl]; rfl
    rw [stp_nil hl, stp_nil ht]
    exact h
  · have hlen : T.left.length = S.left.length := by rw [h.left, List.length_map]
    obtain ⟨m0, h0⟩ : ∃ m0, S.left[0]? = some m0 := ⟨_, List.getElem?_eq_getElem (List.length_pos_iff.2 hl)⟩
    have ht0 : T.left[0]? = some (sub sp sp' m0) := by rw [h.left, List.getElem?_map, h0]; rfl
    by_cases hn : S.left.findIdx (Go.Proofs.Ytngpkmpbhkbgoaa.opn S.left) < S.left.length
    · have hm := List.getElem?_eq_getElem hn
      generalize S.left[S.left.findIdx (Go.Proofs.Ytngpkmpbhkbgoaa.opn S.left)] = m at hm
      have htm : T.left[S.left.findIdx (Go.Proofs.Ytngpkmpbhkbgoaa.opn S.left)]? = some (sub sp sp' m) := by
        rw [h.left, List.getElem?_map, hm]; rfl
      rw [stp_open rfl hm, stp_open h.idx htm]
      refine ⟨?_, h.rings, fun x hx => h.tos x (List.mem_of_mem_eraseIdx hx), fun x hx => h.froms x (List.mem_of_mem_eraseIdx hx)⟩
      simp only
      rw [← eraseIdx_map', h.left]
    · rw [stp_ring h0 hn, stp_ring ht0 (by rw [h.idx, hlen]; exact hn)]
      refine ⟨?_, by simp only [h.rings], fun x hx => ?_, fun x hx => ?_⟩
      · simp only
        rw [h.left, List.map_map, List.map_map]
        apply List.map_congr_left
        intro y hy
        have hf := h.from (x := y) (List.mem_of_getElem? h0)
        simp only [Function.comp, sub_to]
        by_cases hy0 : y.1 = m0.2
        · have e1 : ren m0.2 sp' (sub sp sp' y) = (sp', y.2) := by unfold ren; rw [if_pos (hf.2 hy0)]; rfl
          have e2 : ren m0.2 sp y = (sp, y.2) := by unfold ren; rw [if_pos hy0]
          rw [e1, e2]
          simp [sub]
        · have e1 : ren m0.2 sp' (sub sp sp' y) = sub sp sp' y := by unfold ren; rw [if_neg (fun e => hy0 (hf.1 e))]
          have e2 : ren m0.2 sp y = y := by unfold ren; rw [if_neg hy0]
          rw [e1, e2]
      · obtain ⟨y, hy, rfl⟩ := List.mem_map.1 hx
        rw [ren_to]
        exact h.tos y hy
      · obtain ⟨y, hy, rfl⟩ := List.mem_map.1 hx
        unfold ren
        split
        · exact hne
        · exact h.froms y hy
theorem rings_same {l : List Mv} {sp sp' : Pl} {s s' : St} (hne : sp ≠ sp') (h1 : ∀ m ∈ l, m.1 ≠ sp ∧ m.2 ≠ sp) (h2 : ∀ m ∈ l, m.1 ≠ sp' ∧ m.2 ≠ sp') (hs : EndOf l sp s) (hs' : EndOf l sp' s') : s'.rings = s.rings := by
  have tw : ∀ k, Twin sp sp' (iter sp k (start l)) (iter sp' k (start l)) := by
    intro k
    induction k with
    | zero =>
      refine ⟨?_, rfl, fun m hm => ⟨(h1 m (List.mem_filter.1 hm).1).2, (h2 m (List.mem_filter.1 hm).1).2⟩, fun m hm => (h2 m (List.mem_filter.1 hm).1).1⟩
      show (start l).left = (start l).left.map (sub sp sp')
      symm
      conv => rhs; rw [← List.map_id (start l).left]
      apply List.map_congr_left
      intro m hm
      unfold sub
      rw [if_neg (h1 m (List.mem_filter.1 hm).1).1]
      rfl
    | succ k ih => exact ih.step hne
  obtain ⟨k, rfl, hk⟩ := hs
  have := tw k
  have hT : EndOf l sp' (iter sp' k (start l)) := ⟨k, rfl, by rw [this.left, hk]; rfl⟩
  rw [hs'.same hT, this.rings]
theorem MayP.no {l : List Mv} (h : MayP l) : ∀ m ∈ l, m.1 ≠ (false, -1) ∧ m.2 ≠ (false, -1) := by
  intro m hm
  have := h.pos m hm
  refine ⟨fun e => ?_, fun e => ?_⟩
  · rw [e] at this; exact absurd this.1 (by decide)
  · rw [e] at this; exact absurd this.2 (by decide)
end Go.Proofs.Ytngpkmpbhkbgoaa
