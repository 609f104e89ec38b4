/-
The call's own blocks, tracked through the worlds: what each holds, that nothing old is turned.
Conditions: each theorem's hypotheses; nothing is asked of a program.
-/
import Derived.Test.YtngkifnknlginaaVcOwn
namespace Go.Vc
open Go.RowKit
set_option linter.unusedVariables false
set_option linter.unusedSimpArgs false
set_option linter.unnecessarySimpa false

/-- A block has these cells. -/
def Has (w : World) (b : Nat) (cs : List Value) : Prop := ∃ t, w.heap[b]? = some (.cells cs.toArray t)
theorem Has.cell {w : World} {b : Nat} {cs : List Value} (h : Has w b cs) {i : Nat} {v : Value} (hv : cs[i]? = some v) : w.cell? ⟨b, i, none⟩ = some v := by
  obtain ⟨t, h⟩ := h
  simp only [World.cell?, h]
  simpa using hv
theorem Has.frozen {w : World} {b : Nat} {cs : List Value} (h : Has w b cs) (i : Nat) : w.frozen? ⟨b, i, none⟩ = false := by
  obtain ⟨t, h⟩ := h
  simp [World.frozen?, h]
theorem Has.lt {w : World} {b : Nat} {cs : List Value} (h : Has w b cs) : b < w.heap.size := by
  obtain ⟨t, h⟩ := h
  exact (Array.getElem?_eq_some_iff.1 h).1
theorem Has.later {w w' : World} {b : Nat} {cs : List Value} (h : Has w b cs) (hl : Later w w') : Has w' b cs := by
  have hb := h.lt
  obtain ⟨t, h⟩ := h
  exact ⟨t, by rw [hl.block hb]; exact h⟩
theorem Has.new (w : World) (cs : List Value) (t : TypeId) : Has (w.alloc (.cells cs.toArray t)) w.heap.size cs := ⟨t, heap_alloc_new w _⟩
theorem Has.set {w : World} {b : Nat} {cs : List Value} (h : Has w b cs) (i : Nat) (v : Value) : Has (w.setCell ⟨b, i, none⟩ v) b (cs.set i v) := by
  obtain ⟨t, h⟩ := h
  refine ⟨t, ?_⟩
  simp [World.setCell, Array.getElem?_modify, h]
theorem Has.set_other {w : World} {b b' : Nat} {cs : List Value} (h : Has w b cs) (hb : b ≠ b') (i : Nat) (v : Value) : Has (w.setCell ⟨b', i, none⟩ v) b cs := by
  obtain ⟨t, h⟩ := h
  refine ⟨t, ?_⟩
  have : ¬ b' = b := fun h => hb h.symm
  simp [World.setCell, Array.getElem?_modify, h, this]
theorem Has.kept {w w' : World} {b : Nat} {cs : List Value} (h : Has w b cs) (e : w'.heap[b]? = w.heap[b]?) : Has w' b cs := by
  obtain ⟨t, h⟩ := h
  exact ⟨t, e.trans h⟩
abbrev Blk := Nat × List Value
/-- What is tracked: blocks made since w0, all unlike, and that nothing older is turned. -/
def Trk (w0 w : World) (L : List Blk) : Prop := Later w0 w ∧ (∀ x ∈ L, w0.heap.size ≤ x.1 ∧ Has w x.1 x.2) ∧ (L.map (·.1)).Nodup
theorem Trk.start (w : World) : Trk w w [] := ⟨Later.refl _, by simp, by simp⟩
theorem Trk.here {w0 w : World} (h : Later w0 w) : Trk w0 w [] := ⟨h, by simp, by simp⟩
theorem Trk.to {w0 w : World} {L : List Blk} (h : Trk w0 w L) : Later w0 w := h.1
theorem Trk.alloc {w0 w w' : World} {L : List Blk} (h : Trk w0 w L) {cs : List Value} {t : TypeId} (e : w' = w.alloc (.cells cs.toArray t)) : Trk w0 w' (L ++ [(w.heap.size, cs)]) := by
  subst e
  refine ⟨h.1.alloc _, ?_, ?_⟩
  · intro x hx
    rcases List.mem_append.1 hx with hx | hx
    · exact ⟨(h.2.1 x hx).1, (h.2.1 x hx).2.later (Later.alloc' _ _)⟩
    · obtain rfl : x = (w.heap.size, cs) := by simpa using hx
      exact ⟨h.1.size, Has.new _ _ _⟩
  · rw [List.map_append, List.nodup_append]
    refine ⟨h.2.2, by simp, ?_⟩
    intro a ha b hb
    obtain ⟨x, hx, rfl⟩ := List.mem_map.1 ha
    have := (h.2.1 x hx).2.lt
    simp at hb
    omega
theorem Trk.later {w0 w w' : World} {L : List Blk} (h : Trk w0 w L) (hl : Later w w') : Trk w0 w' L :=
  ⟨h.1.trans hl, fun x hx => ⟨(h.2.1 x hx).1, (h.2.1 x hx).2.later hl⟩, h.2.2⟩
theorem Trk.has {w0 w : World} {L : List Blk} (h : Trk w0 w L) (k : Nat) {b : Nat} {cs : List Value} (hk : L[k]? = some (b, cs)) : Has w b cs := (h.2.1 _ (List.mem_of_getElem? hk)).2
theorem Trk.cell {w0 w : World} {L : List Blk} (h : Trk w0 w L) (k : Nat) {b i : Nat} {cs : List Value} {v : Value} (hk : L[k]? = some (b, cs)) (hv : cs[i]? = some v) : w.cell? ⟨b, i, none⟩ = some v := (h.has k hk).cell hv
theorem Trk.setCell {w0 w : World} {L : List Blk} (h : Trk w0 w L) (k : Nat) {b i : Nat} {cs : List Value} (v : Value) (hk : L[k]? = some (b, cs)) : Trk w0 (w.setCell ⟨b, i, none⟩ v) (L.set k (b, cs.set i v)) := by
  have hm := h.2.1 _ (List.mem_of_getElem? hk)
  refine ⟨h.1.setCell hm.1 v, ?_, ?_⟩
  · intro x hx
    obtain ⟨j, hj⟩ := List.getElem?_of_mem hx
    rw [List.getElem?_set] at hj
    have hkl : k < L.length := (List.getElem?_eq_some_iff.1 hk).1
    by_cases hjk : k = j
    · subst hjk
      rw [if_pos rfl, if_pos hkl] at hj
      obtain rfl := Option.some.inj hj
      exact ⟨hm.1, hm.2.set i v⟩
    · rw [if_neg hjk] at hj
      have hx' := h.2.1 _ (List.mem_of_getElem? hj)
      refine ⟨hx'.1, hx'.2.set_other ?_ i v⟩
      intro e
      have h1 : (L.map (·.1))[j]? = some b := by rw [List.getElem?_map, hj]; simpa using e
      have h2 : (L.map (·.1))[k]? = some b := by rw [List.getElem?_map, hk]; rfl
      have hjl : j < (L.map (·.1)).length := (List.getElem?_eq_some_iff.1 h1).1
      exact hjk ((List.getElem?_inj hjl h.2.2).1 (h1.trans h2.symm)).symm
  · have e : (L.set k (b, cs.set i v)).map (·.1) = L.map (·.1) := by
      rw [List.map_set]
      apply List.ext_getElem?
      intro j
      rw [List.getElem?_set]
      by_cases hjk : k = j
      · subst hjk
        rw [if_pos rfl, List.getElem?_map, hk, if_pos (by simpa using (List.getElem?_eq_some_iff.1 hk).1)]
        rfl
      · simp [hjk]
    rw [e]; exact h.2.2
/-- One cell is written. -/
theorem Trk.set1 {w0 w : World} {L : List Blk} (h : Trk w0 w L) (k : Nat) {b i : Nat} {cs : List Value} {v : Value} (hk : L[k]? = some (b, cs)) (hi : i < cs.length) {K : World → Prop} (hK : ∀ w', Trk w0 w' (L.set k (b, cs.set i v)) → K w') :
    ((w.cell? ⟨b, i, none⟩).isSome = true ∧ w.frozen? ⟨b, i, none⟩ = false) ∧ ∀ w', w' = w.setCell ⟨b, i, none⟩ v → K w' := by
  refine ⟨⟨?_, (h.has k hk).frozen i⟩, fun w' e => hK _ (e ▸ h.setCell k v hk)⟩
  obtain ⟨u, hu⟩ : ∃ u, cs[i]? = some u := ⟨_, List.getElem?_eq_getElem hi⟩
  rw [h.cell k hk hu]; rfl
theorem Has.sets {w : World} {b : Nat} {cs : List Value} (h : Has w b cs) : ∀ (l : List Value) (i : Nat), i + l.length ≤ cs.length → (∀ v ∈ l, v.oneCell' = true) → SetsAt w ⟨b, 0, none⟩ i l := by
  intro l
  induction l with
  | nil => intro i hi ho; trivial
  | cons v l ih =>
    intro i hi ho
    simp only [List.length_cons] at hi
    obtain ⟨u, hu⟩ : ∃ u, cs[i]? = some u := ⟨_, List.getElem?_eq_getElem (by omega)⟩
    refine cnd_true (ho v (by simp)) ⟨⟨?_, ?_⟩, ih (i + 1) (by omega) (fun u hu => ho u (by simp [hu]))⟩
    · rw [add_block, Nat.zero_add, h.cell hu]; rfl
    · rw [add_block, Nat.zero_add]; exact h.frozen i
theorem Trk.setMany {w0 : World} {k b : Nat} : ∀ (l : List Value) (i : Nat) (w : World) (L : List Blk) (cs : List Value), Trk w0 w L → L[k]? = some (b, cs) → i + l.length ≤ cs.length →
    Trk w0 (setCellsAt w ⟨b, 0, none⟩ i l) (L.set k (b, cs.take i ++ l ++ cs.drop (i + l.length))) := by
  intro l
  induction l with
  | nil =>
    intro i w L cs h hk hi
    have e : L.set k (b, cs.take i ++ [] ++ cs.drop (i + ([] : List Value).length)) = L := by
      simp only [List.length_nil, Nat.add_zero, List.append_nil, List.take_append_drop]
      apply List.ext_getElem?
      intro j
      rw [List.getElem?_set]
      by_cases hj : k = j
      · subst hj; rw [if_pos rfl, hk, if_pos (List.getElem?_eq_some_iff.1 hk).1]
      · rw [if_neg hj]
    rw [e]; exact h
  | cons v l ih =>
    intro i w L cs h hk hi
    simp only [List.length_cons] at hi
    have hkl : k < L.length := (List.getElem?_eq_some_iff.1 hk).1
    have h1 := h.setCell k (i := i) v hk
    have hk1 : (L.set k (b, cs.set i v))[k]? = some (b, cs.set i v) := by rw [List.getElem?_set]; simp [hkl]
    have l2 := ih (i + 1) _ _ _ h1 hk1 (by simp; omega)
    rw [List.set_set] at l2
    have e1 : (cs.set i v).take (i + 1) = cs.take i ++ [v] := by
      rw [List.take_add_one, List.take_set_of_le (Nat.le_refl _)]
      simp [List.getElem?_set, show i < cs.length by omega]
    have e2 : (cs.set i v).drop (i + 1 + l.length) = cs.drop (i + (l.length + 1)) := by
      rw [List.drop_set_of_lt (by omega)]
      congr 1; omega
    rw [e1, e2] at l2
    simp only [setCellsAt, add_block, Nat.zero_add, List.length_cons]
    simpa using l2
/-- A whole block is written. -/
theorem Trk.setAll {w0 w : World} {L : List Blk} (h : Trk w0 w L) (k : Nat) {b : Nat} {cs l : List Value} (hk : L[k]? = some (b, cs)) (hl : l.length = cs.length) (ho : ∀ v ∈ l, v.oneCell' = true) {K : World → Prop} (hK : ∀ w', Trk w0 w' (L.set k (b, l)) → K w') :
    SetsAt w ⟨b, 0, none⟩ 0 l ∧ ∀ w', w' = setCellsAt w ⟨b, 0, none⟩ 0 l → K w' := by
  refine ⟨(h.has k hk).sets l 0 (by omega) ho, fun w' e => hK _ ?_⟩
  have := Trk.setMany (k := k) l 0 w L cs h hk (by omega)
  rw [List.drop_of_length_le (by omega)] at this
  simpa [e] using this
theorem Trk.front {w0 w : World} {L M : List Blk} (h : Trk w0 w (L ++ M)) : Trk w0 w L :=
  ⟨h.1, fun x hx => h.2.1 x (List.mem_append_left _ hx), by have := h.2.2; rw [List.map_append, List.nodup_append] at this; exact this.1⟩
/-- One block alone. -/
theorem Trk.one {w0 w : World} {L : List Blk} (h : Trk w0 w L) (k : Nat) {b : Nat} {cs : List Value} (hk : L[k]? = some (b, cs)) : Trk w0 w [(b, cs)] :=
  ⟨h.1, fun x hx => by obtain rfl : x = (b, cs) := by simpa using hx
                       exact h.2.1 _ (List.mem_of_getElem? hk), by simp⟩
theorem Has.same {w : World} {b : Nat} {cs ds : List Value} (h : Has w b cs) (k : Has w b ds) : cs = ds := by
  obtain ⟨t, h⟩ := h
  obtain ⟨u, k⟩ := k
  rw [h] at k
  simp only [Option.some.injEq, Obj.cells.injEq] at k
  simpa using k.1
theorem Has.setsOther {w : World} {b b' : Nat} {cs : List Value} (h : Has w b cs) (hb : b ≠ b') : ∀ (l : List Value) (i : Nat), Has (setCellsAt w ⟨b', 0, none⟩ i l) b cs := by
  intro l
  induction l generalizing w with
  | nil => intro i; exact h
  | cons v l ih =>
    intro i
    refine ih ?_ (i + 1)
    rw [add_block]
    exact h.set_other hb _ v
theorem Has.cellsAt {w : World} {b : Nat} {cs : List Value} (h : Has w b cs) : ∀ (l : List Value) (i : Nat), (∀ j v, l[j]? = some v → cs[i + j]? = some v) → CellsAt w ⟨b, 0, none⟩ i l := by
  intro l
  induction l with
  | nil => intro i _; trivial
  | cons v l ih =>
    intro i hl
    refine ⟨?_, ih (i + 1) fun j u hj => ?_⟩
    · rw [add_block, Nat.zero_add]
      exact h.cell (hl 0 v rfl)
    · have := hl (j + 1) u (by simpa using hj)
      rwa [show i + 1 + j = i + (j + 1) by omega]
/-- A row is grown, and a block beside it stays and stays beside it. -/
theorem RunsV_append_by {P : Program} {w0 w : World} {t e : TypeId} {size bytes : Nat} (ty : TypeId) (hT : RowTy P t e size bytes) {b : Option Addr} {bn bc n : Nat} {xs : List Value} (hown : OwnS w0 w e size (.slice b bn bc) n xs) (hl : Later w0 w)
    {a : Addr} {m c : Nat} {news : List Value} (hlen : news.length = m * size) (hnews : CellsAt w a 0 news) (h1 : ∀ u ∈ news, u.oneCell' = true) (h63 : n + m ≤ maxLen) (hbytes : (n + m) * bytes ≤ 140737488355328)
    {xb : Nat} {cs : List Value} (hx : Has w xb cs) (hne : b.map (·.block) ≠ some xb) (hcs : b = none ∨ cs.length < (n + m) * size)
    {K : Value → World → Prop}
    (hK : ∀ b' bn' bc' w', OwnS w0 w' e size (.slice b' bn' bc') (n + m) (xs ++ news) → Later w0 w' → Has w' xb cs → b'.map (·.block) ≠ some xb → K (.slice b' bn' bc') w') :
    RunsV P (Builtin.append_ #[t, t] ty #[.slice b bn bc, .slice (some a) m c]) w K := by
  obtain ⟨i, z, hi, hz, hs, hby, hzs⟩ := hT.info
  have hnews' : ∀ j u, news[j]? = some u → w.cell? (a.add j) = some u := fun j u hj => by have := CellsAt_get hnews j u hj; rwa [Nat.zero_add] at this
  obtain ⟨v', w', hr, ho, hg, _⟩ := run_append_own (P := P) w w0.heap.size t ty e i z size bytes hT.under hi hz hs hby hzs hT.pos _ n xs hown a m c news hlen hnews' h1 h63 hbytes hl.size
  have hob : (Value.slice b bn bc).ownBlock = b.map (·.block) := by cases b <;> rfl
  have hx' : Has w' xb cs := hx.kept (hg.block xb hx.lt (by rw [hob]; exact fun h => hne h.symm))
  have hap : v'.ownBlock ≠ some xb := by
    intro hv
    rcases hcs with rfl | hcs
    · obtain ⟨hx0, h | ⟨g, cap, cur, h, _⟩⟩ := hown
      · obtain ⟨hb, rfl⟩ := h
        have hnil : w.ownsRow w.heap.size e size (.slice none bn bc) 0 xs := ⟨hx0, .inl ⟨hb, rfl⟩⟩
        obtain ⟨v2, w2, hr2, ho2, _, _⟩ := run_append_own (P := P) w w.heap.size t ty e i z size bytes hT.under hi hz hs hby hzs hT.pos _ 0 xs hnil a m c news hlen hnews' h1 h63 hbytes (Nat.le_refl _)
        rw [hr] at hr2
        cases hr2
        have := (World.ownsRow.lt ho2 xb hv).1
        have := hx.lt
        omega
      · cases h
    · obtain ⟨_, h | ⟨g, cap, cur, rfl, _, hcur, hle, _, hsz, _⟩⟩ := ho
      · obtain ⟨rfl, _⟩ := h; cases hv
      · simp only [Value.ownBlock, Option.some.injEq] at hv
        subst hv
        obtain ⟨t, ht⟩ := hx'
        rw [hcur] at ht
        simp only [Option.some.injEq, Obj.cells.injEq] at ht
        have hcl : cs.length = cur.size := by rw [ht.1]; simp
        have : (n + m) * size ≤ cap * size := Nat.mul_le_mul_right _ hle
        omega
  refine RunsV_of hr ?_
  have hlt := World.ownsRow.lt hown
  have hb : Later w0 w' := Below.grown hl hg hl.size (fun k hk => (hlt k hk).1)
  obtain ⟨hxs, h | ⟨g, cap, cur, h2, h3⟩⟩ := ho
  · obtain ⟨rfl, hn⟩ := h
    exact hK _ _ _ _ ⟨hxs, .inl ⟨rfl, hn⟩⟩ hb hx' (by simp)
  · subst h2
    exact hK _ _ _ _ ⟨hxs, .inr ⟨g, cap, cur, rfl, h3⟩⟩ hb hx' hap
theorem OwnS.beside {w0 w : World} {e : TypeId} {size : Nat} {b : Option Addr} {bn bc n : Nat} {xs : List Value} (h : OwnS w0 w e size (.slice b bn bc) n xs) {k : Nat} (hk : w.heap.size ≤ k) : b.map (·.block) ≠ some k := by
  intro hb
  have hob : (Value.slice b bn bc).ownBlock = b.map (·.block) := by cases b <;> rfl
  have := (World.ownsRow.lt h k (by rw [hob]; exact hb)).2
  omega
theorem OwnS.set_other {w0 w : World} {e : TypeId} {size : Nat} {b : Option Addr} {bn bc n : Nat} {xs : List Value} (h : OwnS w0 w e size (.slice b bn bc) n xs) {k : Nat} (hk : b.map (·.block) ≠ some k) (i : Nat) (v : Value) : OwnS w0 (w.setCell ⟨k, i, none⟩ v) e size (.slice b bn bc) n xs := by
  obtain ⟨h1, h | ⟨g, cap, cur, h2, h3, h4, h5⟩⟩ := h
  · exact ⟨h1, .inl h⟩
  · refine ⟨h1, .inr ⟨g, cap, cur, h2, h3, ?_, h5⟩⟩
    cases h2
    have : ¬ k = g := fun h => hk (by rw [h]; rfl)
    simp only [World.setCell, Array.getElem?_modify]
    rw [if_neg this]; exact h4
theorem OwnS.sets_other {w0 : World} {e : TypeId} {size : Nat} {b : Option Addr} {bn bc n : Nat} {xs : List Value} {k : Nat} (hk : b.map (·.block) ≠ some k) : ∀ (l : List Value) (i : Nat) {w : World}, OwnS w0 w e size (.slice b bn bc) n xs → OwnS w0 (setCellsAt w ⟨k, 0, none⟩ i l) e size (.slice b bn bc) n xs := by
  intro l
  induction l with
  | nil => intro i w h; exact h
  | cons v l ih =>
    intro i w h
    refine ih (i + 1) ?_
    rw [add_block]
    exact h.set_other hk _ v
theorem OwnS.weak {w0 w1 w : World} {e : TypeId} {size : Nat} {v : Value} {n : Nat} {xs : List Value} (h : OwnS w1 w e size v n xs) (hl : w0.heap.size ≤ w1.heap.size) : OwnS w0 w e size v n xs := by
  obtain ⟨h1, h | ⟨g, cap, cur, h2, h3, h4⟩⟩ := h
  · exact ⟨h1, .inl h⟩
  · exact ⟨h1, .inr ⟨g, cap, cur, h2, Nat.le_trans hl h3, h4⟩⟩
/-- A new slice. -/
theorem RunsV_makeSlice {P : Program} {t e : TypeId} {size bytes : Nat} (z : Value) (hu : P.underlying t = some (.slice e)) (hi : (P.info? e).map (fun i => (i.zero, i.size, i.bytes)) = some (some z, size, bytes)) (hs : size = z.cells.size) (hb : bytes ≤ 1024) (hp : 0 < size)
    {k k' : IntKind} {n : Nat} (hn : n ≤ 16777216) {w : World} {K : Value → World → Prop} (hK : ∀ b w', b = w.heap.size → Later w w' → Has w' b (repL z.cells.toList n) → K (.slice (some ⟨b, 0, none⟩) n n) w') :
    RunsV P (Instr.makeSlice t (.int k (n : Nat)) (.int k' (n : Nat))) w K := by
  cases h : P.info? e with
  | none => rw [h] at hi; cases hi
  | some i =>
    rw [h] at hi
    simp only [Option.map_some, Option.some.injEq, Prod.mk.injEq] at hi
    obtain ⟨hz, h1, h2⟩ := hi
    obtain ⟨w', r1, r2, r3⟩ := run_makeSlice_eq (w := w) (k := k) (k' := k') (n := (n : Nat)) hu h hz (by omega) (by omega) (by omega) (by omega) (by omega)
    exact RunsV_of r1 (hK _ _ rfl r2 ⟨e, r3⟩)
/-- One block's cell is written, all else stays. -/
theorem Has.of_fcells {w : World} {b : Nat} {cs ds : List Value} (h : Has w b cs) (e : cs = ds) : Has w b ds := e ▸ h
end Go.Vc
