/-
Own rows beside other blocks: a row is grown, a cell of it is written, elements are taken out; each other block stays and stays another one.
Conditions: each theorem's hypotheses; nothing is asked of a program but closed facts of its types.
-/
import Derived.Test.YtngkifnknlginaaVcLoc
import Derived.Laws.CopyRow
import Derived.Laws.CopyOwn
namespace Go.Vc
open Go.RowKit
set_option linter.unusedVariables false
set_option linter.unusedSimpArgs false
set_option linter.unnecessarySimpa false

/-- The block of a row. -/
abbrev rowB (b : Option Addr) : Option Nat := b.map (·.block)
theorem ownBlock_rowB (b : Option Addr) (n c : Nat) : (Value.slice b n c).ownBlock = rowB b := by cases b <;> rfl
theorem OwnS.kept {w0 w w' : World} {e : TypeId} {size : Nat} {b : Option Addr} {bn bc n : Nat} {xs : List Value} (h : OwnS w0 w e size (.slice b bn bc) n xs) (hk : ∀ k, rowB b = some k → w'.heap[k]? = w.heap[k]?) : OwnS w0 w' e size (.slice b bn bc) n xs := by
  obtain ⟨h1, h | ⟨g, cap, cur, h2, h3, h4, h5⟩⟩ := h
  · exact ⟨h1, .inl h⟩
  · refine ⟨h1, .inr ⟨g, cap, cur, h2, h3, ?_, h5⟩⟩
    cases h2
    rw [hk g rfl]; exact h4
theorem OwnS.lt {w0 w : World} {e : TypeId} {size : Nat} {b : Option Addr} {bn bc n : Nat} {xs : List Value} (h : OwnS w0 w e size (.slice b bn bc) n xs) {k : Nat} (hk : rowB b = some k) : w0.heap.size ≤ k ∧ k < w.heap.size :=
  World.ownsRow.lt h k (by rw [ownBlock_rowB]; exact hk)
/-- A row is grown: each block that was there and is not the row's stays and is not the new row's. -/
theorem RunsV_append_apart {P : Program} {w0 w : World} {t e : TypeId} {size bytes : Nat} (ty : TypeId) (hT : RowTy P t e size bytes) {b : Option Addr} {bn bc n : Nat} {xs : List Value} (hown : OwnS w0 w e size (.slice b bn bc) n xs) (hl : Later w0 w)
    {a : Addr} {m c : Nat} {news : List Value} (hlen : news.length = m * size) (hnews : CellsAt w a 0 news) (h1 : ∀ u ∈ news, u.oneCell' = true) (h63 : n + m ≤ maxLen) (hbytes : (n + m) * bytes ≤ 140737488355328)
    {K : Value → World → Prop}
    (hK : ∀ b' bn' bc' w', OwnS w0 w' e size (.slice b' bn' bc') (n + m) (xs ++ news) → Later w0 w' → (∀ k, k < w.heap.size → rowB b ≠ some k → w'.heap[k]? = w.heap[k]? ∧ rowB b' ≠ some k) → K (.slice b' bn' bc') w') :
    RunsV P (Builtin.append_ #[t, t] ty #[.slice b bn bc, .slice (some a) m c]) w K := by
  obtain ⟨i, z, hi, hz, hs, hby, hzs⟩ := hT.info
  have hnews' : ∀ j u, news[j]? = some u → w.cell? (a.add j) = some u := fun j u hj => by have := CellsAt_get hnews j u hj; rwa [Nat.zero_add] at this
  obtain ⟨v', w', hr, ho, hg, _⟩ := run_append_own (P := P) w w0.heap.size t ty e i z size bytes hT.under hi hz hs hby hzs hT.pos _ n xs hown a m c news hlen hnews' h1 h63 hbytes hl.size
  rw [ownBlock_rowB] at hg
  have hlt := World.ownsRow.lt hown
  have hb : Later w0 w' := Below.grown hl hg hl.size (fun k hk => (hlt k (by rw [ownBlock_rowB]; exact hk)).1)
  -- where the new row is
  have hap : ∀ k, k < w.heap.size → rowB b ≠ some k → v'.ownBlock ≠ some k := by
    intro k hk hbk hv
    have hsm : n + m ≤ 9223372036854775807 := by simp only [maxLen] at h63; omega
    have hw := hown
    obtain ⟨hx0, h | ⟨g, cap, cur, h, hbg, hgb, hnc, hcm, hcs, htk⟩⟩ := hw
    · obtain ⟨hbb, rfl⟩ := h
      have hnil : w.ownsRow w.heap.size e size (.slice b bn bc) 0 xs := ⟨hx0, .inl ⟨hbb, rfl⟩⟩
      obtain ⟨v2, w2, hr2, ho2, _, _⟩ := run_append_own (P := P) w w.heap.size t ty e i z size bytes hT.under hi hz hs hby hzs hT.pos _ 0 xs hnil a m c news hlen hnews' h1 h63 hbytes (Nat.le_refl _)
      rw [hr] at hr2
      cases hr2
      have := (World.ownsRow.lt ho2 k hv).1
      omega
    · cases h
      by_cases hroom : bn + m ≤ bc
      · obtain ⟨w2, hr2, _, _⟩ := run_append_fits (P := P) w w0.heap.size t ty e i size hT.under hi hs g bn bc xs hown a m c news hlen hnews' h1 hroom
        rw [hr] at hr2
        cases hr2
        exact hbk hv
      · have hr2 := run_append_grow (P := P) w t ty e i z hT.under hi hz ⟨g, 0, none⟩ bn bc xs (by rw [hs]; exact hx0) (fun j u hj => World.ownsRow.cells hown (g := g) rfl j u hj) a m c news (by rw [hs]; exact hlen) hnews' (by omega) (by omega) (growslice_fits (by omega) (by rw [hby]; exact hbytes))
        rw [hr] at hr2
        cases hr2
        simp only [Value.ownBlock, Option.some.injEq] at hv
        omega
  refine RunsV_of hr ?_
  obtain ⟨hxs, h | ⟨g, cap, cur, h2, h3⟩⟩ := ho
  · obtain ⟨rfl, hn⟩ := h
    exact hK _ _ _ _ ⟨hxs, .inl ⟨rfl, hn⟩⟩ hb fun k hk hne => ⟨hg.block k hk (fun h => hne h.symm), by simp⟩
  · subst h2
    exact hK _ _ _ _ ⟨hxs, .inr ⟨g, cap, cur, rfl, h3⟩⟩ hb fun k hk hne => ⟨hg.block k hk (fun h => hne h.symm), hap k hk hne⟩
/-- A cell of an own row is written. -/
theorem OwnS.store {w0 w : World} {e : TypeId} {size g n cap : Nat} {xs : List Value} (h : OwnS w0 w e size (.slice (some ⟨g, 0, none⟩) n cap) n xs) (j : Nat) (u : Value) :
    OwnS w0 (w.setCell ⟨g, j, none⟩ u) e size (.slice (some ⟨g, 0, none⟩) n cap) n (xs.set j u) ∧ (∀ k, k ≠ g → (w.setCell ⟨g, j, none⟩ u).heap[k]? = w.heap[k]?) := by
  have h2 := World.ownsRow.stored (h := h) j u
  refine ⟨h2.1, fun k hk => ?_⟩
  simp only [World.setCell, Array.getElem?_modify]
  rw [if_neg (fun e => hk e.symm)]
theorem OwnS.split {w0 w : World} {e : TypeId} {size : Nat} {b : Option Addr} {bn bc n : Nat} {xs : List Value} (h : OwnS w0 w e size (.slice b bn bc) n xs) (hn : 0 < n) : ∃ g, b = some ⟨g, 0, none⟩ ∧ bn = n ∧ n ≤ bc ∧ bc ≤ maxLen ∧ ∃ cur, w.heap[g]? = some (.cells cur e (0, 0)) ∧ cur.size = bc * size ∧ cur.toList.take (n * size) = xs := by
  obtain ⟨h1, h | ⟨g, cap, cur, h2, h3, h4, h5, h6, h7, h8⟩⟩ := h
  · omega
  · cases h2
    exact ⟨g, rfl, rfl, h5, h6, cur, h4, h7, h8⟩
/-- The first elements of an own row are one. -/
theorem OwnS.front {w0 w : World} {e : TypeId} {size g n cap : Nat} {xs : List Value} (h : OwnS w0 w e size (.slice (some ⟨g, 0, none⟩) n cap) n xs) (i : Nat) (hi : i ≤ n) : OwnS w0 w e size (.slice (some ⟨g, 0, none⟩) i cap) i (xs.take (i * size)) := by
  obtain ⟨h1, h | ⟨g', cap', cur, h2, h3, h4, h5, h6, h7, h8⟩⟩ := h
  · cases h.1
  · cases h2
    have hm : i * size ≤ n * size := Nat.mul_le_mul_right _ hi
    refine ⟨by rw [List.length_take, h1]; omega, .inr ⟨g, cap, cur, rfl, h3, h4, by omega, h6, h7, ?_⟩⟩
    rw [← h8, List.take_take]
    congr 1
    omega
theorem zeroCells_length (z : Array Value) (n : Nat) : (Builtin.zeroCells z n).toList.length = n * z.size := by simp [Builtin.zeroCells]
theorem zeroCells_mem (z : Array Value) (n : Nat) (hz : 0 < z.size) (h : ∀ u ∈ z.toList, u.oneCell' = true) : ∀ u ∈ (Builtin.zeroCells z n).toList, u.oneCell' = true := by
  intro u hu
  simp only [Builtin.zeroCells, Array.toList_map, Array.toList_range, List.mem_map, List.mem_range] at hu
  obtain ⟨i, _, rfl⟩ := hu
  have hlt : i % z.size < z.size := Nat.mod_lt _ hz
  rw [getElem!_pos z _ hlt]
  exact h _ (by simp)
/-- What is behind an own row's elements is cleared: the row stays. -/
theorem RunsV_clear_behind {P : Program} {w0 w : World} {t e ty : TypeId} {size g n m cap c k : Nat} {xs : List Value} {z : Value} (ht : P.underlying t = some (.slice e)) (hz : ∀ w : World, (zeroValue e).run P w = .ok z w) (hzs : z.cells.size = size) (hpos : 0 < size) (hz1 : ∀ u ∈ z.cells.toList, u.oneCell' = true)
    (hown : OwnS w0 w e size (.slice (some ⟨g, 0, none⟩) n cap) n xs) (hl : Later w0 w) (hnm : n ≤ k) (hmc : k + m ≤ cap) {K : Value → World → Prop}
    (hK : ∀ w', OwnS w0 w' e size (.slice (some ⟨g, 0, none⟩) n cap) n xs → Later w0 w' → (∀ j, j ≠ g → w'.heap[j]? = w.heap[j]?) → w'.heap.size = w.heap.size → K (.tuple #[]) w') :
    RunsV P (Builtin.clear_ #[t] ty #[.slice (some ⟨g, k * size, none⟩) m c]) w K := by
  cases m with
  | zero =>
    refine RunsV_of (v := .tuple #[]) (w' := w) ?_ (hK w hown hl (fun _ _ => rfl) rfl)
    simp [Builtin.clear_, run_underlying ht]
  | succ m =>
    have hbg := (World.ownsRow.lt hown g rfl).1
    obtain ⟨h1, h | ⟨g', cap', cur, h2, h3, h4, h5, h6, h7, h8⟩⟩ := hown
    · cases h.1
    · cases h2
      have hfit : k * size + 0 + (Builtin.zeroCells z.cells (m + 1)).toList.length ≤ cur.size := by
        rw [zeroCells_length, hzs, h7, Nat.add_zero, ← Nat.add_mul]
        exact Nat.mul_le_mul_right _ hmc
      have hr := run_storeCells_at (P := P) g (k * size) e (Builtin.zeroCells z.cells (m + 1)).toList 0 cur w h4 hfit (zeroCells_mem _ _ (by omega) hz1)
      refine RunsV_of (v := .tuple #[]) (w' := w.setRow g (cur.toList.take (k * size + 0) ++ (Builtin.zeroCells z.cells (m + 1)).toList ++ cur.toList.drop (k * size + 0 + (Builtin.zeroCells z.cells (m + 1)).toList.length)).toArray) ?_ (hK _ ?_ (below_setRow hl hbg _) (fun j hj => setRow_other w g j _ hj) (size_setRow _ _ _))
      · simp only [Builtin.clear_, List.getElem?_toArray, Sem.run_bind, run_underlying ht, hz]
        simp [hz, hr, run_underlying ht, Result.andThen]
      · have hkn : n * size ≤ k * size := Nat.mul_le_mul_right _ hnm
        refine ⟨h1, .inr ⟨g, cap, _, rfl, h3, setRow_heap w g cur _ e _ h4, h5, h6, ?_, ?_⟩⟩
        · simp only [List.size_toArray, List.length_append, List.length_take, List.length_drop, Array.length_toList] at hfit ⊢
          omega
        · simp only [Nat.add_zero, List.append_assoc]
          rw [List.take_append_of_le_length (by simp only [List.length_take, Array.length_toList]; simp only [Nat.add_zero] at hfit; omega), List.take_take, ← h8]
          congr 1
          omega
end Go.Vc
