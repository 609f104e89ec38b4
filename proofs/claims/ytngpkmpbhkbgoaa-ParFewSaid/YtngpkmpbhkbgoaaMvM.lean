/-
Moves that are done one behind the other, in plain lists: each place has at the end what it would have, had all been done at once.
Conditions: each theorem's hypotheses.
-/
import Derived.Test.YtngpkmpbhkbgoaaMvF
namespace Go.Proofs.Ytngpkmpbhkbgoaa
open Go Go.Vc Go.RowKit
set_option linter.unusedVariables false
set_option linter.unusedSimpArgs false

abbrev Cl := Pl × Int
/-- What a place has at first. -/
def iniP (p : Pl) : Int := if p.1 then IntKind.i64.wrap (IntKind.i64.wrap (2 * p.2) + 1) else IntKind.i64.wrap (2 * p.2)
def getC : List Cl → Pl → Int
  | [], p => iniP p
  | c :: l, p => if c.1 = p then c.2 else getC l p
def offC (l : List Cl) (p : Pl) : List Cl := l.filter fun c => decide (c.1 ≠ p)
def setC (l : List Cl) (p : Pl) (v : Int) : List Cl := offC l p ++ [(p, v)]
theorem offC_cons (c : Cl) (l : List Cl) (p : Pl) : offC (c :: l) p = if c.1 = p then offC l p else c :: offC l p := by
  unfold offC
  rw [List.filter_cons]
  by_cases h : c.1 = p
  · simp [h]
  · simp [h]
theorem getC_setC (t p : Pl) (v : Int) : ∀ l : List Cl, getC (setC l t v) p = if p = t then v else getC l p
  | [] => by
    show (if t = p then v else iniP p) = _
    by_cases h : p = t
    · rw [if_pos h, if_pos h.symm]
    · rw [if_neg h, if_neg (fun e => h e.symm)]; rfl
  | c :: l => by
    have ih := getC_setC t p v l
    unfold setC at ih ⊢
    rw [offC_cons]
    by_cases hc : c.1 = t
    · rw [if_pos hc, ih]
      by_cases h : p = t
      · rw [if_pos h, if_pos h]
      · rw [if_neg h, if_neg h]
        show _ = if c.1 = p then c.2 else getC l p
        rw [if_neg (fun e => h (e.symm.trans hc))]
    · rw [if_neg hc]
      show (if c.1 = p then c.2 else getC (offC l t ++ [(t, v)]) p) = if p = t then v else if c.1 = p then c.2 else getC l p
      rw [ih]
      by_cases h : p = t
      · rw [if_pos h, if_pos h, if_neg (fun e => hc (e.trans h))]
      · rw [if_neg h, if_neg h]
def stepC (now : List Cl) (m : Mv) : List Cl := setC now m.2 (getC now m.1)
def runC (out : List Mv) : List Cl := out.foldl stepC []
theorem runC_snoc (out : List Mv) (m : Mv) : runC (out ++ [m]) = stepC (runC out) m := by simp [runC]
theorem getC_run (out : List Mv) (m : Mv) (p : Pl) : getC (runC (out ++ [m])) p = if p = m.2 then getC (runC out) m.1 else getC (runC out) p := by
  rw [runC_snoc]; unfold stepC; rw [getC_setC]
theorem runC_places : ∀ (out : List Mv) (now : List Cl), ∀ c ∈ out.foldl stepC now, c.1 ∈ out.map (·.2) ∨ c ∈ now
  | [], now, c, h => .inr h
  | m :: out, now, c, h => by
    rcases runC_places out (stepC now m) c h with h | h
    · exact .inl (List.mem_cons_of_mem _ h)
    · unfold stepC setC at h
      rcases List.mem_append.1 h with h | h
      · exact .inr (List.mem_filter.1 h).1
      · obtain rfl := List.mem_singleton.1 h
        exact .inl List.mem_cons_self
theorem runC_len (out : List Mv) : (runC out).length ≤ out.length := by
  have go : ∀ (out : List Mv) (now : List Cl), (out.foldl stepC now).length ≤ now.length + out.length := by
    intro out
    induction out with
    | nil => intro now; simp
    | cons m out ih =>
      intro now
      have h1 := ih (stepC now m)
      have h2 : (stepC now m).length ≤ now.length + 1 := by
        unfold stepC setC offC
        have := List.length_filter_le (fun c : Cl => decide (c.1 ≠ m.2)) now
        simp only [List.length_append, List.length_cons, List.length_nil]
        omega
      simp only [List.foldl_cons, List.length_cons]
      omega
  have := go out []
  simpa [runC] using this
/-- As many, all unlike, among as many: all of them. -/
theorem pigeon : ∀ (a b : List Pl), a.Nodup → (∀ x ∈ a, x ∈ b) → b.length ≤ a.length → ∀ y ∈ b, y ∈ a
  | [], b, _, _, hl, y, hy => by
    have : b = [] := List.length_eq_zero_iff.1 (by simpa using hl)
    rw [this] at hy; cases hy
  | x :: a, b, hn, hs, hl, y, hy => by
    obtain ⟨hx, hn'⟩ := List.nodup_cons.1 hn
    have hxb := hs x List.mem_cons_self
    have hl' : (b.erase x).length ≤ a.length := by
      rw [List.length_erase_of_mem hxb]
      simp only [List.length_cons] at hl
      omega
    have ih := pigeon a (b.erase x) hn' (fun z hz => by
      rw [List.mem_erase_of_ne (by rintro rfl; exact hx hz)]
      exact hs z (List.mem_cons_of_mem _ hz)) hl'
    by_cases hyx : y = x
    · subst hyx; exact List.mem_cons_self
    · exact List.mem_cons_of_mem _ (ih y ((List.mem_erase_of_ne hyx).2 hy))
/-- What the moves lead to, had all been done at once. -/
def wantP : List Mv → Pl → Int
  | [], t => 0
  | m :: l, t => if m.2 = t then iniP m.1 else wantP l t
theorem wantP_at : ∀ {l : List Mv}, (l.map (·.2)).Nodup → ∀ m ∈ l, wantP l m.2 = iniP m.1
  | [], _, m, h => by cases h
  | x :: l, hn, m, h => by
    obtain ⟨hx, hn'⟩ := List.nodup_cons.1 hn
    unfold wantP
    rcases List.mem_cons.1 h with rfl | h
    · rw [if_pos rfl]
    · rw [if_neg (fun e : x.2 = m.2 => hx (by show x.2 ∈ _; rw [e]; exact List.mem_map_of_mem h)), wantP_at hn' m h]
structure Sim (l : List Mv) (sp : Pl) (S : St) : Prop where
  good : Good sp S
  tos : (S.left.map (·.2)).Nodup
  inn : ∀ x ∈ S.left, x.2 ∈ l.map (·.2)
  left : ∀ x ∈ S.left, getC (runC S.out) x.1 = wantP l x.2
  done : ∀ m ∈ l, m.2 ∈ S.left.map (·.2) ∨ getC (runC S.out) m.2 = wantP l m.2
  outs : ∀ x ∈ S.out, x.2 = sp ∨ x.2 ∈ l.map (·.2)
theorem Sim.start {l : List Mv} {sp : Pl} (hn : (l.map (·.2)).Nodup) (hsp : ∀ m ∈ l, m.2 ≠ sp) : Sim l sp (start l) := by
  refine ⟨Good.start hsp, ?_, fun x hx => List.mem_map_of_mem (List.mem_filter.1 hx).1, fun x hx => ?_, fun m hm => ?_, fun x hx => by cases hx⟩
  · exact hn.sublist (List.Sublist.map _ List.filter_sublist)
  · exact (wantP_at hn x (List.mem_filter.1 hx).1).symm
  · by_cases h : m.1 = m.2
    · right
      show iniP m.2 = _
      rw [wantP_at hn m hm, h]
    · left
      exact List.mem_map_of_mem (List.mem_filter.2 ⟨hm, by simpa using h⟩)
theorem Sim.step {l : List Mv} {sp : Pl} {S : St} (hsp : ∀ m ∈ l, m.2 ≠ sp) (h : Sim l sp S) : Sim l sp (stp sp S) := by
  have hg := h.good.step
  by_cases hl : S.left = []
  · rw [stp_nil hl]; exact h
  obtain ⟨m0, h0⟩ : ∃ m0, S.left[0]? = some m0 := ⟨_, List.getElem?_eq_getElem (List.length_pos_iff.2 hl)⟩
  by_cases hn : S.left.findIdx (opn S.left) < S.left.length
  · obtain ⟨k, hk⟩ : ∃ k, S.left.findIdx (opn S.left) = k := ⟨_, rfl⟩
    have hop : opn S.left S.left[S.left.findIdx (opn S.left)] = true := List.findIdx_getElem (w := hn)
    have hm := List.getElem?_eq_getElem hn
    generalize S.left[S.left.findIdx (opn S.left)] = m at hm hop
    rw [hk] at hm
    have hml := List.mem_of_getElem? hm
    rw [stp_open hk hm] at hg ⊢
    refine ⟨hg, h.tos.sublist (List.Sublist.map _ (List.eraseIdx_sublist _ _)), fun x hx => h.inn x (List.mem_of_mem_eraseIdx hx), fun x hx => ?_, fun m' hm' => ?_, fun x hx => ?_⟩
    · have hx' := List.mem_of_mem_eraseIdx hx
      rw [getC_run, if_neg (opn_iff.1 hop x hx')]
      exact h.left x hx'
    · by_cases he : m'.2 = m.2
      · right
        rw [getC_run, if_pos he, he]
        exact h.left m hml
      · rcases h.done m' hm' with hd | hd
        · left
          obtain ⟨y, hy, hye⟩ := List.mem_map.1 hd
          refine List.mem_map.2 ⟨y, ?_, hye⟩
          obtain ⟨j, hj⟩ := List.getElem?_of_mem hy
          rw [List.mem_eraseIdx_iff_getElem?]
          refine ⟨j, ?_, hj⟩
          rintro rfl
          rw [hm] at hj
          exact he (by rw [← hye, Option.some.inj hj])
        · right
          rw [getC_run, if_neg he]; exact hd
    · rcases List.mem_append.1 hx with hx | hx
      · exact h.outs x hx
      · obtain rfl := List.mem_singleton.1 hx
        exact .inr (h.inn x hml)
  · have hno : ∀ m ∈ S.left, ∃ x ∈ S.left, x.1 = m.2 := by
      intro m hm
      apply Classical.byContradiction
      intro hc
      exact hn (List.findIdx_lt_length.2 ⟨m, hm, opn_iff.2 fun x hx e => hc ⟨x, hx, e⟩⟩)
    have hfrom : ∀ y ∈ S.left, y.1 ≠ sp := by
      intro y hy e
      have := pigeon (S.left.map (·.2)) (S.left.map (·.1)) h.tos (fun t ht => by
        obtain ⟨m, hm, rfl⟩ := List.mem_map.1 ht
        obtain ⟨x, hx, hxe⟩ := hno m hm
        exact List.mem_map.2 ⟨x, hx, hxe⟩) (by simp) y.1 (List.mem_map_of_mem hy)
      obtain ⟨m, hm, hme⟩ := List.mem_map.1 this
      exact h.good.spare m hm (hme.trans e)
    have htos : (S.left.map (ren m0.2 sp)).map (·.2) = S.left.map (·.2) := by
      rw [List.map_map]
      apply List.map_congr_left
      intro x _
      exact ren_to _ _ _
    rw [stp_ring h0 hn] at hg ⊢
    refine ⟨hg, by simp only; rw [htos]; exact h.tos, fun x hx => ?_, fun x hx => ?_, fun m' hm' => ?_, fun x hx => ?_⟩
    · obtain ⟨y, hy, rfl⟩ := List.mem_map.1 hx
      rw [ren_to]; exact h.inn y hy
    · obtain ⟨y, hy, rfl⟩ := List.mem_map.1 hx
      rw [ren_to, getC_run]
      unfold ren
      by_cases he : y.1 = m0.2
      · rw [if_pos he]
        simp only [if_true]
        rw [← he]
        exact h.left y hy
      · rw [if_neg he, if_neg (hfrom y hy)]
        exact h.left y hy
    · rcases h.done m' hm' with hd | hd
      · left; simp only; rw [htos]; exact hd
      · right
        rw [getC_run, if_neg (hsp m' hm')]; exact hd
    · rcases List.mem_append.1 hx with hx | hx
      · exact h.outs x hx
      · obtain rfl := List.mem_singleton.1 hx
        exact .inl rfl
theorem sim_end {l : List Mv} {sp : Pl} {s : St} (hM : MayP l) (hS : SpP l sp) (hE : EndOf l sp s) : (∀ m ∈ l, getC (runC s.out) m.2 = iniP m.1) ∧ ∀ c ∈ runC s.out, c.1 = sp ∨ c.1 ∈ l.map (·.2) := by
  have hsp : ∀ m ∈ l, m.2 ≠ sp := fun m hm => (hS.free m hm).2
  have hk : ∀ k, Sim l sp (iter sp k (start l)) := by
    intro k
    induction k with
    | zero => exact Sim.start hM.uniq hsp
    | succ k ih => exact ih.step hsp
  obtain ⟨k, rfl, hl⟩ := hE
  have h := hk k
  refine ⟨fun m hm => ?_, fun c hc => ?_⟩
  · rcases h.done m hm with hd | hd
    · rw [hl] at hd; cases hd
    · rw [hd, wantP_at hM.uniq m hm]
  · rcases runC_places _ [] c hc with h1 | h1
    · obtain ⟨x, hx, hxe⟩ := List.mem_map.1 h1
      rw [← hxe]
      exact h.outs x hx
    · cases h1
/-- How many there are. -/
structure Few (n0 : Nat) (S : St) : Prop where
  sum : S.out.length + S.left.length = n0 + S.rings
  few : S.rings + S.left.length ≤ n0 + if S.left.findIdx (opn S.left) < S.left.length then 1 else 0
theorem Few.step {n0 : Nat} {sp : Pl} {S : St} (hg : Good sp S) (h : Few n0 S) : Few n0 (stp sp S) := by
  by_cases hl : S.left = []
  · rw [stp_nil hl]; exact h
  obtain ⟨m0, h0⟩ : ∃ m0, S.left[0]? = some m0 := ⟨_, List.getElem?_eq_getElem (List.length_pos_iff.2 hl)⟩
  have hpos := List.length_pos_iff.2 hl
  have h1 := h.sum
  have h2 := h.few
  by_cases hn : S.left.findIdx (opn S.left) < S.left.length
  · have hm := List.getElem?_eq_getElem hn
    rw [stp_open rfl hm]
    rw [if_pos hn] at h2
    have he : (S.left.eraseIdx (S.left.findIdx (opn S.left))).length = S.left.length - 1 := by rw [List.length_eraseIdx, if_pos hn]
    refine ⟨?_, ?_⟩
    · simp only [List.length_append, List.length_cons, List.length_nil, he]; omega
    · simp only [he]; split <;> omega
  · rw [stp_ring h0 hn]
    rw [if_neg hn] at h2
    refine ⟨?_, ?_⟩
    · simp only [List.length_append, List.length_cons, List.length_nil, List.length_map]; omega
    · simp only [List.length_map]
      rw [if_pos]
      · omega
      · have : (S.left.map (ren m0.2 sp)).findIdx (opn (S.left.map (ren m0.2 sp))) < (S.left.map (ren m0.2 sp)).length := by
          rw [List.findIdx_lt_length]
          refine ⟨ren m0.2 sp m0, List.mem_map_of_mem (List.mem_of_getElem? h0), ?_⟩
          rw [opn_iff, ren_to]
          intro x hx
          obtain ⟨y, hy, rfl⟩ := List.mem_map.1 hx
          unfold ren
          split
          · exact fun e => hg.spare m0 (List.mem_of_getElem? h0) e.symm
          · assumption
        rwa [List.length_map] at this
theorem few_end {l : List Mv} {sp : Pl} {s : St} (hS : SpP l sp) (hE : EndOf l sp s) : s.out.length = (start l).left.length + s.rings ∧ s.rings ≤ (start l).left.length := by
  have hG : Good sp (start l) := Good.start fun m hm => (hS.free m hm).2
  have hk : ∀ k, Few (start l).left.length (iter sp k (start l)) := by
    intro k
    induction k with
    | zero => exact ⟨by show 0 + (start l).left.length = (start l).left.length + 0; omega, by show 0 + (start l).left.length ≤ _; omega⟩
    | succ k ih => exact ih.step (hG.iter k)
  obtain ⟨k, rfl, hl⟩ := hE
  have h := hk k
  have h1 := h.sum
  have h2 := h.few
  rw [hl] at h1 h2
  simp only [List.length_nil, Nat.not_lt_zero, if_false] at h1 h2
  exact ⟨by omega, by omega⟩
end Go.Proofs.Ytngpkmpbhkbgoaa
