/-
How moves are laid one behind the other, in plain lists: which one is next, or which ring is opened.
Conditions: each theorem's hypotheses.
-/
import Derived.Test.YtngpkmpbhkbgoaaMvA
namespace Go.Proofs.Ytngpkmpbhkbgoaa
open Go Go.Vc Go.RowKit
set_option linter.unusedVariables false
set_option linter.unusedSimpArgs false

/-- How many are asked of a place. -/
def cnt (l : List Mv) (p : Pl) : Nat := l.countP fun x => decide (x.1 = p)
theorem cnt_nil (p : Pl) : cnt [] p = 0 := rfl
theorem cnt_append (l k : List Mv) (p : Pl) : cnt (l ++ k) p = cnt l p + cnt k p := by simp [cnt]
theorem cnt_one (m : Mv) (p : Pl) : cnt [m] p = if p = m.1 then 1 else 0 := by
  simp only [cnt, List.countP_cons, List.countP_nil, Nat.zero_add]
  by_cases h : p = m.1
  · subst h; simp
  · rw [if_neg h, if_neg]; simpa using fun e => h e.symm
theorem cnt_le (l : List Mv) (p : Pl) : cnt l p ≤ l.length := List.countP_le_length
/-- May a move be done now? -/
def opn (l : List Mv) (m : Mv) : Bool := decide (cnt l m.2 = 0)
theorem opn_iff {l : List Mv} {m : Mv} : opn l m = true ↔ ∀ x ∈ l, x.1 ≠ m.2 := by
  unfold opn cnt
  rw [decide_eq_true_iff, List.countP_eq_zero]
  exact ⟨fun h x hx e => h x hx (decide_eq_true e), fun h x hx e => h x hx (of_decide_eq_true e)⟩
def ren (to sp : Pl) (m : Mv) : Mv := if m.1 = to then (sp, m.2) else m
theorem ren_to (to sp : Pl) (m : Mv) : (ren to sp m).2 = m.2 := by unfold ren; split <;> rfl
structure St where
  left : List Mv
  out : List Mv
  rings : Nat
def stp (sp : Pl) (s : St) : St :=
  match s.left with
  | [] => s
  | m0 :: _ => if h : s.left.findIdx (opn s.left) < s.left.length then ⟨s.left.eraseIdx (s.left.findIdx (opn s.left)), s.out ++ [s.left[s.left.findIdx (opn s.left)]], s.rings⟩
    else ⟨s.left.map (ren m0.2 sp), s.out ++ [(m0.2, sp)], s.rings + 1⟩
def iter (sp : Pl) : Nat → St → St
  | 0, s => s
  | k + 1, s => stp sp (iter sp k s)
def start (l : List Mv) : St := ⟨l.filter fun m => decide (m.1 ≠ m.2), [], 0⟩
theorem stp_nil {sp : Pl} {s : St} (h : s.left = []) : stp sp s = s := by unfold stp; rw [h]
theorem stp_open {sp : Pl} {s : St} {k : Nat} {m : Mv} (hk : s.left.findIdx (opn s.left) = k) (hm : s.left[k]? = some m) : stp sp s = ⟨s.left.eraseIdx k, s.out ++ [m], s.rings⟩ := by
  have hl : k < s.left.length := (List.getElem?_eq_some_iff.1 hm).1
  obtain ⟨left, out, rings⟩ := s
  cases left with
  | nil => simp at hl
  | cons m0 l =>
    unfold stp
    simp only at hk hm hl ⊢
    rw [dif_pos (by rw [hk]; exact hl)]
    have he := List.getElem?_eq_some_iff.1 hm
    subst hk
    rw [he.2]
theorem stp_ring {sp : Pl} {s : St} {m0 : Mv} (h0 : s.left[0]? = some m0) (hn : ¬ s.left.findIdx (opn s.left) < s.left.length) : stp sp s = ⟨s.left.map (ren m0.2 sp), s.out ++ [(m0.2, sp)], s.rings + 1⟩ := by
  obtain ⟨left, out, rings⟩ := s
  cases left with
  | nil => simp at h0
  | cons m l =>
    obtain rfl : m = m0 := by simpa using h0
    unfold stp
    simp only at hn ⊢
    rw [dif_neg hn]
/-- What all states have. -/
structure Good (sp : Pl) (s : St) : Prop where
  apart : ∀ m ∈ s.left, m.1 ≠ m.2
  spare : ∀ m ∈ s.left, m.2 ≠ sp
theorem Good.start {sp : Pl} {l : List Mv} (h : ∀ m ∈ l, m.2 ≠ sp) : Good sp (start l) :=
  ⟨fun m hm => by simpa using (List.mem_filter.1 hm).2, fun m hm => h m (List.mem_filter.1 hm).1⟩
theorem Good.step {sp : Pl} {s : St} (h : Good sp s) : Good sp (stp sp s) := by
  by_cases hl : s.left = []
  · rw [stp_nil hl]; exact h
  · obtain ⟨m0, h0⟩ : ∃ m0, s.left[0]? = some m0 := ⟨_, List.getElem?_eq_getElem (List.length_pos_iff.2 hl)⟩
    by_cases hn : s.left.findIdx (opn s.left) < s.left.length
    · rw [stp_open rfl (List.getElem?_eq_getElem hn)]
      exact ⟨fun m hm => h.apart m (List.mem_of_mem_eraseIdx hm), fun m hm => h.spare m (List.mem_of_mem_eraseIdx hm)⟩
    · rw [stp_ring h0 hn]
      refine ⟨fun m hm => ?_, fun m hm => ?_⟩
      · obtain ⟨x, hx, rfl⟩ := List.mem_map.1 hm
        rw [ren_to]
        unfold ren
        split
        · exact fun e => h.spare x hx e.symm
        · exact h.apart x hx
      · obtain ⟨x, hx, rfl⟩ := List.mem_map.1 hm
        rw [ren_to]
        exact h.spare x hx
theorem Good.iter {sp : Pl} {s : St} (h : Good sp s) : ∀ k, Good sp (iter sp k s)
  | 0 => h
  | k + 1 => (Good.iter h k).step
/-- How far from the end. -/
def mu (s : St) : Nat := 2 * s.left.length + if s.left.findIdx (opn s.left) < s.left.length ∨ s.left = [] then 0 else 1
theorem mu_le (s : St) : mu s ≤ 2 * s.left.length + 1 := by unfold mu; split <;> omega
theorem mu_step {sp : Pl} {s : St} (h : Good sp s) (hl : s.left ≠ []) : mu (stp sp s) < mu s := by
  obtain ⟨m0, h0⟩ : ∃ m0, s.left[0]? = some m0 := ⟨_, List.getElem?_eq_getElem (List.length_pos_iff.2 hl)⟩
  have hpos := List.length_pos_iff.2 hl
  by_cases hn : s.left.findIdx (opn s.left) < s.left.length
  · rw [stp_open rfl (List.getElem?_eq_getElem hn)]
    have h1 := mu_le ⟨s.left.eraseIdx (s.left.findIdx (opn s.left)), s.out ++ [s.left[s.left.findIdx (opn s.left)]], s.rings⟩
    simp only [List.length_eraseIdx, if_pos hn] at h1
    have h2 : mu s = 2 * s.left.length := by unfold mu; rw [if_pos (.inl hn)]; omega
    omega
  · rw [stp_ring h0 hn]
    have h2 : mu s = 2 * s.left.length + 1 := by unfold mu; rw [if_neg (fun h => h.elim (fun h => hn h) (fun h => hl h))]
    have h3 : mu ⟨s.left.map (ren m0.2 sp), s.out ++ [(m0.2, sp)], s.rings + 1⟩ = 2 * s.left.length := by
      unfold mu
      simp only [List.length_map]
      rw [if_pos]
      · rfl
      · left
        have : (s.left.map (ren m0.2 sp)).findIdx (opn (s.left.map (ren m0.2 sp))) < (s.left.map (ren m0.2 sp)).length := by
          rw [List.findIdx_lt_length]
          refine ⟨ren m0.2 sp m0, List.mem_map_of_mem (List.mem_of_getElem? h0), ?_⟩
          rw [opn_iff, ren_to]
          intro x hx
          obtain ⟨y, hy, rfl⟩ := List.mem_map.1 hx
          unfold ren
          split
          · exact fun e => h.spare m0 (List.mem_of_getElem? h0) e.symm
          · assumption
        rwa [List.length_map] at this
    omega
theorem out_bound {sp : Pl} {s : St} (h : Good sp s) : ∀ k, (iter sp k s).out.length + mu (iter sp k s) ≤ s.out.length + mu s
  | 0 => Nat.le_refl _
  | k + 1 => by
    have ih := out_bound h k
    have hg := h.iter k
    by_cases hl : (iter sp k s).left = []
    · simp only [iter, stp_nil hl]; exact ih
    · have hm := mu_step hg hl
      have ho : (stp sp (iter sp k s)).out.length = (iter sp k s).out.length + 1 := by
        obtain ⟨m0, h0⟩ : ∃ m0, (iter sp k s).left[0]? = some m0 := ⟨_, List.getElem?_eq_getElem (List.length_pos_iff.2 hl)⟩
        by_cases hn : (iter sp k s).left.findIdx (opn (iter sp k s).left) < (iter sp k s).left.length
        · rw [stp_open rfl (List.getElem?_eq_getElem hn)]; simp
        · rw [stp_ring h0 hn]; simp
      simp only [iter]
      omega
theorem rings_le {sp : Pl} {s : St} (h : s.rings ≤ s.out.length) : ∀ k, (iter sp k s).rings ≤ (iter sp k s).out.length
  | 0 => h
  | k + 1 => by
    have ih := rings_le (sp := sp) h k
    simp only [iter]
    by_cases hl : (iter sp k s).left = []
    · rw [stp_nil hl]; exact ih
    · obtain ⟨m0, h0⟩ : ∃ m0, (iter sp k s).left[0]? = some m0 := ⟨_, List.getElem?_eq_getElem (List.length_pos_iff.2 hl)⟩
      by_cases hn : (iter sp k s).left.findIdx (opn (iter sp k s).left) < (iter sp k s).left.length
      · rw [stp_open rfl (List.getElem?_eq_getElem hn)]; simp; omega
      · rw [stp_ring h0 hn]; simp; omega
theorem left_le {sp : Pl} {s : St} : ∀ k, (iter sp k s).left.length ≤ s.left.length
  | 0 => Nat.le_refl _
  | k + 1 => by
    have ih := left_le (sp := sp) (s := s) k
    simp only [iter]
    by_cases hl : (iter sp k s).left = []
    · rw [stp_nil hl]; exact ih
    · obtain ⟨m0, h0⟩ : ∃ m0, (iter sp k s).left[0]? = some m0 := ⟨_, List.getElem?_eq_getElem (List.length_pos_iff.2 hl)⟩
      by_cases hn : (iter sp k s).left.findIdx (opn (iter sp k s).left) < (iter sp k s).left.length
      · rw [stp_open rfl (List.getElem?_eq_getElem hn)]; simp only [List.length_eraseIdx]; split <;> omega
      · rw [stp_ring h0 hn]; simpa using ih
/-- There is one end. -/
theorem iter_stop {sp : Pl} {s : St} {k : Nat} (h : (iter sp k s).left = []) : ∀ j, iter sp (k + j) s = iter sp k s
  | 0 => rfl
  | j + 1 => by
    show stp sp (iter sp (k + j) s) = _
    rw [iter_stop h j, stp_nil h]
theorem iter_same {sp : Pl} {s : St} {k j : Nat} (hk : (iter sp k s).left = []) (hj : (iter sp j s).left = []) : iter sp k s = iter sp j s := by
  have h1 := iter_stop hk j
  have h2 := iter_stop hj k
  rw [Nat.add_comm] at h2
  exact h1.symm.trans h2
theorem cnt_cons (x : Mv) (l : List Mv) (p : Pl) : cnt (x :: l) p = cnt l p + if p = x.1 then 1 else 0 := by
  rw [show x :: l = [x] ++ l from rfl, cnt_append, cnt_one]; omega
theorem cnt_erase : ∀ {l : List Mv} {k : Nat} {m : Mv}, l[k]? = some m → ∀ p : Pl, cnt (l.eraseIdx k) p + (if p = m.1 then 1 else 0) = cnt l p
  | [], k, m, h, p => by simp at h
  | x :: l, 0, m, h, p => by
    obtain rfl : x = m := by simpa using h
    rw [List.eraseIdx_cons_zero, cnt_cons]
  | x :: l, k + 1, m, h, p => by
    have ih := cnt_erase (l := l) (k := k) (m := m) (by simpa using h) p
    rw [List.eraseIdx_cons_succ, cnt_cons, cnt_cons]
    omega
theorem cnt_ren {sp to : Pl} (hne : sp ≠ to) : ∀ (l : List Mv) (p : Pl), cnt (l.map (ren to sp)) p = if p = to then 0 else if p = sp then cnt l sp + cnt l to else cnt l p
  | [], p => by simp [cnt_nil]
  | x :: l, p => by
    rw [List.map_cons, cnt_cons, cnt_ren hne l p, cnt_cons, cnt_cons, cnt_cons]
    unfold ren
    by_cases h1 : x.1 = to
    · rw [if_pos h1]
      by_cases h2 : p = to
      · subst h2; rw [if_pos rfl, if_pos rfl, if_neg (fun e => hne e.symm)]
      · rw [if_neg h2, if_neg h2]
        by_cases h3 : p = sp
        · subst h3; rw [if_pos rfl, if_pos rfl, if_pos rfl, if_neg (by rw [h1]; exact hne), if_pos h1.symm]; omega
        · rw [if_neg h3, if_neg h3, if_neg h3, if_neg (by rw [h1]; exact h2)]
    · rw [if_neg h1]
      by_cases h2 : p = to
      · subst h2; rw [if_pos rfl, if_pos rfl, if_neg (fun e => h1 e.symm)]
      · rw [if_neg h2, if_neg h2]
        by_cases h3 : p = sp
        · subst h3; rw [if_pos rfl, if_pos rfl, if_neg (fun e : to = x.1 => h1 e.symm)]; omega
        · rw [if_neg h3, if_neg h3]
end Go.Proofs.Ytngpkmpbhkbgoaa
