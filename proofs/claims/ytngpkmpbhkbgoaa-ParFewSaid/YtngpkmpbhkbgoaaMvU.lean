/-
How often the spare place is needed, in plain lists: once for each ring of the moves.
Conditions: each theorem's hypotheses.
-/
import Derived.Test.YtngpkmpbhkbgoaaMvM
namespace Go.Proofs.Ytngpkmpbhkbgoaa
open Go Go.Vc Go.RowKit
set_option linter.unusedVariables false
set_option linter.unusedSimpArgs false

/-- From where the place t is written. -/
def fromOf (L : List Mv) (t : Pl) : Option Pl := (L.find? fun m => decide (m.2 = t)).map (·.1)
theorem fromOf_cons (m : Mv) (L : List Mv) (t : Pl) : fromOf (m :: L) t = if m.2 = t then some m.1 else fromOf L t := by
  unfold fromOf
  rw [List.find?_cons]
  by_cases h : m.2 = t
  · simp [h]
  · simp [h]
theorem fromOf_some : ∀ {L : List Mv} {t f : Pl}, fromOf L t = some f → ∃ m ∈ L, m.2 = t ∧ m.1 = f
  | [], t, f, h => by simp [fromOf] at h
  | m :: L, t, f, h => by
    rw [fromOf_cons] at h
    by_cases hm : m.2 = t
    · rw [if_pos hm] at h
      exact ⟨m, List.mem_cons_self, hm, Option.some.inj h⟩
    · rw [if_neg hm] at h
      obtain ⟨x, hx, h1, h2⟩ := fromOf_some h
      exact ⟨x, List.mem_cons_of_mem _ hx, h1, h2⟩
theorem fromOf_mem : ∀ {L : List Mv}, (L.map (·.2)).Nodup → ∀ m ∈ L, fromOf L m.2 = some m.1
  | [], _, m, h => by cases h
  | x :: L, hn, m, h => by
    obtain ⟨hx, hn'⟩ := List.nodup_cons.1 hn
    rw [fromOf_cons]
    rcases List.mem_cons.1 h with rfl | h
    · rw [if_pos rfl]
    · rw [if_neg (fun e : x.2 = m.2 => hx (by show x.2 ∈ _; rw [e]; exact List.mem_map_of_mem h)), fromOf_mem hn' m h]
/-- Do moves lead from t0 back to it, over none of a lesser rank? -/
def ringW (L : List Mv) (rk : Pl → Nat) (t0 : Pl) : Nat → Pl → Bool
  | 0, _ => false
  | n + 1, cur => match fromOf L cur with
    | none => false
    | some f => if f ∈ L.map (·.2) then (if rk f < rk t0 then false else if f = t0 then true else ringW L rk t0 n f) else false
theorem ringW_none {L : List Mv} {rk : Pl → Nat} {t0 : Pl} (h : ∀ t f, fromOf L t = some f → f ∈ L.map (·.2) → f ≠ t0) : ∀ n cur, ringW L rk t0 n cur = false
  | 0, _ => rfl
  | n + 1, cur => by
    unfold ringW
    cases hf : fromOf L cur with
    | none => rfl
    | some f =>
      simp only
      by_cases hm : f ∈ L.map (·.2)
      · rw [if_pos hm]
        split
        · rfl
        · rw [if_neg (h cur f hf hm)]
          exact ringW_none h n f
      · rw [if_neg hm]
/-- How many rings there are. -/
def ringsOf (L : List Mv) (rk : Pl → Nat) (N : Nat) : Nat := (L.map (·.2)).countP fun t => ringW L rk t N t
theorem fromOf_erase : ∀ {L : List Mv} {k : Nat} {m : Mv} {t : Pl}, L[k]? = some m → m.2 ≠ t → fromOf (L.eraseIdx k) t = fromOf L t
  | [], k, m, t, h, _ => by simp at h
  | x :: L, 0, m, t, h, hne => by
    obtain rfl : x = m := by simpa using h
    rw [List.eraseIdx_cons_zero, fromOf_cons, if_neg hne]
  | x :: L, k + 1, m, t, h, hne => by
    rw [List.eraseIdx_cons_succ, fromOf_cons, fromOf_cons, fromOf_erase (L := L) (k := k) (m := m) (by simpa using h) hne]
theorem mem_erase {L : List Mv} {k : Nat} {m : Mv} {t : Pl} (h : L[k]? = some m) (hne : m.2 ≠ t) : t ∈ (L.eraseIdx k).map (·.2) ↔ t ∈ L.map (·.2) := by
  constructor
  · intro ht
    obtain ⟨x, hx, rfl⟩ := List.mem_map.1 ht
    exact List.mem_map_of_mem (List.mem_of_mem_eraseIdx hx)
  · intro ht
    obtain ⟨x, hx, rfl⟩ := List.mem_map.1 ht
    obtain ⟨j, hj⟩ := List.getElem?_of_mem hx
    refine List.mem_map_of_mem (List.mem_eraseIdx_iff_getElem?.2 ⟨j, ?_, hj⟩)
    rintro rfl
    rw [h] at hj
    exact hne (by rw [Option.some.inj hj])
theorem countP_erase {p : Pl → Bool} : ∀ {L : List Mv} {k : Nat} {m : Mv}, L[k]? = some m → (L.map (·.2)).countP p = ((L.eraseIdx k).map (·.2)).countP p + if p m.2 = true then 1 else 0
  | [], k, m, h => by simp at h
  | x :: L, 0, m, h => by
    obtain rfl : x = m := by simpa using h
    rw [List.eraseIdx_cons_zero, List.map_cons, List.countP_cons]
  | x :: L, k + 1, m, h => by
    have ih := countP_erase (p := p) (L := L) (k := k) (m := m) (by simpa using h)
    rw [List.eraseIdx_cons_succ, List.map_cons, List.map_cons, List.countP_cons, List.countP_cons, ih]
    omega
theorem countP_congr' {p q : Pl → Bool} : ∀ {l : List Pl}, (∀ x ∈ l, p x = q x) → l.countP p = l.countP q
  | [], _ => rfl
  | x :: l, h => by
    rw [List.countP_cons, List.countP_cons, countP_congr' (fun y hy => h y (List.mem_cons_of_mem _ hy)), h x List.mem_cons_self]
/-- One that may be done is on no ring. -/
theorem rings_open {L : List Mv} {rk : Pl → Nat} {N k : Nat} {m : Mv} (hn : (L.map (·.2)).Nodup) (hm : L[k]? = some m) (ho : opn L m = true) : ringsOf (L.eraseIdx k) rk N = ringsOf L rk N := by
  have hno : ∀ t f, fromOf L t = some f → f ≠ m.2 := fun t f h => by
    obtain ⟨x, hx, _, rfl⟩ := fromOf_some h
    exact opn_iff.1 ho x hx
  have hw : ∀ t0, ∀ n cur, cur ≠ m.2 → ringW (L.eraseIdx k) rk t0 n cur = ringW L rk t0 n cur := by
    intro t0 n
    induction n with
    | zero => intro cur _; rfl
    | succ n ih =>
      intro cur hc
      unfold ringW
      rw [fromOf_erase hm (fun e => hc e.symm)]
      cases hf : fromOf L cur with
      | none => rfl
      | some f =>
        simp only
        have hfm := hno cur f hf
        have he := mem_erase hm (fun e : m.2 = f => hfm e.symm)
        by_cases hin : f ∈ L.map (·.2)
        · rw [if_pos hin, if_pos (he.2 hin), ih f hfm]
        · rw [if_neg hin, if_neg (fun h => hin (he.1 h))]
  have hf : ringW L rk m.2 N m.2 = false := ringW_none (fun t f h _ => hno t f h) N m.2
  unfold ringsOf
  rw [countP_erase (p := fun t => ringW L rk t N t) hm, hf]
  simp only [Bool.false_eq_true, if_false, Nat.add_zero]
  refine countP_congr' fun t ht => hw t N t ?_
  obtain ⟨x, hx, rfl⟩ := List.mem_map.1 ht
  obtain ⟨j, hjk, hj⟩ := List.mem_eraseIdx_iff_getElem?.1 hx
  intro e
  have g1 : (L.map (·.2))[j]? = some m.2 := by rw [List.getElem?_map, hj]; simp [e]
  have g2 : (L.map (·.2))[k]? = some m.2 := by rw [List.getElem?_map, hm]; rfl
  exact hjk ((List.getElem?_inj (List.getElem?_eq_some_iff.1 g1).1 hn).1 (g1.trans g2.symm))
theorem fromOf_ren (to sp : Pl) : ∀ (L : List Mv) (t : Pl), fromOf (L.map (ren to sp)) t = (fromOf L t).map fun f => if f = to then sp else f
  | [], t => rfl
  | m :: L, t => by
    rw [List.map_cons, fromOf_cons, fromOf_cons, ren_to, fromOf_ren to sp L t]
    by_cases h : m.2 = t
    · rw [if_pos h, if_pos h]
      unfold ren
      split
      · rename_i h1; simp [h1]
      · rename_i h1; simp [h1]
    · rw [if_neg h, if_neg h]
theorem nodup_len : ∀ {a b : List Pl}, a.Nodup → (∀ x ∈ a, x ∈ b) → a.length ≤ b.length
  | [], b, _, _ => Nat.zero_le _
  | x :: a, b, hn, hs => by
    obtain ⟨hx, hn'⟩ := List.nodup_cons.1 hn
    have hxb := hs x List.mem_cons_self
    have ih := nodup_len (a := a) (b := b.erase x) hn' fun z hz => (List.mem_erase_of_ne (by rintro rfl; exact hx hz)).2 (hs z (List.mem_cons_of_mem _ hz))
    rw [List.length_erase_of_mem hxb] at ih
    have := List.length_pos_of_mem hxb
    simp only [List.length_cons]
    omega
theorem pigeon_nodup : ∀ {a b : List Pl}, a.Nodup → (∀ x ∈ a, x ∈ b) → b.length ≤ a.length → b.Nodup
  | [], b, _, _, hl => by
    have : b = [] := List.length_eq_zero_iff.1 (by simpa using hl)
    rw [this]; exact List.nodup_nil
  | x :: a, b, hn, hs, hl => by
    obtain ⟨hx, hn'⟩ := List.nodup_cons.1 hn
    have hxb := hs x List.mem_cons_self
    have hs' : ∀ z ∈ a, z ∈ b.erase x := fun z hz => (List.mem_erase_of_ne (by rintro rfl; exact hx hz)).2 (hs z (List.mem_cons_of_mem _ hz))
    have hl' : (b.erase x).length ≤ a.length := by
      rw [List.length_erase_of_mem hxb]
      simp only [List.length_cons] at hl
      omega
    have ih := pigeon_nodup hn' hs' hl'
    have hin : x ∉ b.erase x := fun h => hx (pigeon a (b.erase x) hn' hs' hl' x h)
    exact (List.perm_cons_erase hxb).nodup_iff.2 (List.nodup_cons.2 ⟨hin, ih⟩)
/-- Where every place that is written is asked for, the first one is on a ring. -/
theorem ring_there {L : List Mv} {rk : Pl → Nat} {N : Nat} {t0 : Pl} (hn : (L.map (·.2)).Nodup) (hall : ∀ t ∈ L.map (·.2), t ∈ L.map (·.1)) (ht0 : t0 ∈ L.map (·.2)) (hrk : ∀ t ∈ L.map (·.2), rk t0 ≤ rk t) (hN : L.length ≤ N) : ringW L rk t0 N t0 = true := by
  have hback := pigeon (L.map (·.2)) (L.map (·.1)) hn hall (by simp)
  have hfn := pigeon_nodup hn hall (by simp)
  -- the step from a place to where it is written from
  have hstep : ∀ t, t ∈ L.map (·.2) → ∃ f, fromOf L t = some f ∧ f ∈ L.map (·.2) := by
    intro t ht
    obtain ⟨m, hm, rfl⟩ := List.mem_map.1 ht
    exact ⟨m.1, fromOf_mem hn m hm, hback _ (List.mem_map_of_mem hm)⟩
  have hinj : ∀ a b f, fromOf L a = some f → fromOf L b = some f → a = b := by
    intro a b f ha hb
    obtain ⟨x, hx, rfl, hx1⟩ := fromOf_some ha
    obtain ⟨y, hy, rfl, hy1⟩ := fromOf_some hb
    obtain ⟨i, hi⟩ := List.getElem?_of_mem hx
    obtain ⟨j, hj⟩ := List.getElem?_of_mem hy
    have g1 : (L.map (·.1))[i]? = some f := by rw [List.getElem?_map, hi]; simp [hx1]
    have g2 : (L.map (·.1))[j]? = some f := by rw [List.getElem?_map, hj]; simp [hy1]
    have := (List.getElem?_inj (List.getElem?_eq_some_iff.1 g1).1 hfn).1 (g1.trans g2.symm)
    subst this
    rw [hi] at hj
    rw [Option.some.inj hj]
  let g : Pl → Pl := fun t => (fromOf L t).getD t
  let c : Nat → Pl := fun n => Nat.rec t0 (fun _ x => g x) n
  have hc : ∀ n, c n ∈ L.map (·.2) := by
    intro n
    induction n with
    | zero => exact ht0
    | succ n ih =>
      obtain ⟨f, h1, h2⟩ := hstep _ ih
      show g (c n) ∈ _
      simp only [g, h1, Option.getD_some]
      exact h2
  have hcs : ∀ n, fromOf L (c n) = some (c (n + 1)) := by
    intro n
    obtain ⟨f, h1, h2⟩ := hstep _ (hc n)
    show _ = some (g (c n))
    simp only [g, h1, Option.getD_some]
  have hreach : ∃ j, 1 ≤ j ∧ j ≤ N ∧ c j = t0 := by
    apply Classical.byContradiction
    intro hno
    have hne : ∀ a d, a + d ≤ N → 1 ≤ d → c a ≠ c (a + d) := by
      intro a
      induction a with
      | zero => intro d h1 h2 e; exact hno ⟨d, h2, by omega, by rw [Nat.zero_add] at e; exact e.symm⟩
      | succ a ih =>
        intro d h1 h2 e
        refine ih d (by omega) h2 (hinj _ _ (c (a + 1)) (hcs a) ?_)
        rw [hcs (a + d), e, show a + d + 1 = a + 1 + d by omega]
    have hnd : ((List.range (N + 1)).map c).Nodup := by
      unfold List.Nodup
      rw [List.pairwise_map]
      refine List.Pairwise.imp_of_mem (fun {a b} ha hb hab => ?_) (List.pairwise_lt_range (n := N + 1))
      have hb := List.mem_range.1 hb
      have := hne a (b - a) (by omega) (by omega)
      rwa [show a + (b - a) = b by omega] at this
    have := nodup_len hnd (b := L.map (·.2)) fun x hx => by
      obtain ⟨n, _, rfl⟩ := List.mem_map.1 hx
      exact hc n
    simp only [List.length_map, List.length_range] at this
    omega
  have hgo : ∀ n i, (∃ j, i < j ∧ j ≤ i + n ∧ c j = t0) → ringW L rk t0 n (c i) = true := by
    intro n
    induction n with
    | zero => rintro i ⟨j, h1, h2, _⟩; omega
    | succ n ih =>
      rintro i ⟨j, h1, h2, h3⟩
      unfold ringW
      rw [hcs i]
      simp only
      rw [if_pos (hc (i + 1)), if_neg (Nat.not_lt.2 (hrk _ (hc (i + 1))))]
      by_cases he : c (i + 1) = t0
      · rw [if_pos he]
      · rw [if_neg he]
        refine ih (i + 1) ⟨j, ?_, by omega, h3⟩
        rcases Nat.lt_or_ge (i + 1) j with h | h
        · exact h
        · have : j = i + 1 := by omega
          subst this
          exact absurd h3 he
  obtain ⟨j, h1, h2, h3⟩ := hreach
  exact hgo N 0 ⟨j, by omega, by omega, h3⟩
/-- A ring that is opened is one ring less. -/
theorem rings_ring {L : List Mv} {rk : Pl → Nat} {N : Nat} {m0 : Mv} {r : List Mv} {sp : Pl} (hL : L = m0 :: r) (hn : (L.map (·.2)).Nodup) (hall : ∀ t ∈ L.map (·.2), t ∈ L.map (·.1)) (hsp : sp ∉ L.map (·.2)) (hrk : ∀ t ∈ r.map (·.2), rk m0.2 < rk t) (hN : L.length ≤ N) :
    ringsOf L rk N = ringsOf (L.map (ren m0.2 sp)) rk N + 1 := by
  have htos : (L.map (ren m0.2 sp)).map (·.2) = L.map (·.2) := by
    rw [List.map_map]
    apply List.map_congr_left
    intro x _
    exact ren_to _ _ _
  have h0 : ringW L rk m0.2 N m0.2 = true := ring_there hn hall (by rw [hL]; exact List.mem_cons_self) (fun t ht => by
    rw [hL] at ht
    rcases List.mem_cons.1 ht with rfl | ht
    · exact Nat.le_refl _
    · exact Nat.le_of_lt (hrk t ht)) hN
  have h1 : ringW (L.map (ren m0.2 sp)) rk m0.2 N m0.2 = false := by
    refine ringW_none (fun t f h hm e => ?_) N m0.2
    rw [fromOf_ren] at h
    cases hf : fromOf L t with
    | none => rw [hf] at h; cases h
    | some f0 =>
      rw [hf] at h
      simp only [Option.map_some, Option.some.injEq] at h
      by_cases h2 : f0 = m0.2
      · rw [if_pos h2] at h
        subst h
        rw [htos] at hm
        exact hsp hm
      · rw [if_neg h2] at h
        exact h2 (h.trans e)
  have h2 : ∀ t0, rk m0.2 < rk t0 → ∀ n cur, ringW (L.map (ren m0.2 sp)) rk t0 n cur = ringW L rk t0 n cur := by
    intro t0 ht n
    induction n with
    | zero => intro cur; rfl
    | succ n ih =>
      intro cur
      unfold ringW
      rw [fromOf_ren, htos]
      cases hf : fromOf L cur with
      | none => rfl
      | some f =>
        simp only [Option.map_some]
        by_cases hfe : f = m0.2
        · rw [if_pos hfe, if_neg hsp]
          subst hfe
          split
          · first | rfl | rw [if_pos ht]
          · rfl
        · rw [if_neg hfe, ih f]
  unfold ringsOf
  have htl : L.map (·.2) = m0.2 :: r.map (·.2) := by rw [hL]; rfl
  rw [htos, htl, List.countP_cons, List.countP_cons, h0, h1]
  simp only [if_true, Bool.false_eq_true, if_false, Nat.add_zero]
  rw [countP_congr' fun t ht => h2 t (hrk t ht) N t]
end Go.Proofs.Ytngpkmpbhkbgoaa
