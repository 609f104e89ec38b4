/-
The contracts of package par, third part: order.
Conditions: each theorem's hypotheses.
-/
import Derived.Test.YtngpkmpbhkbgoaaMvC
namespace Go.Proofs.Ytngpkmpbhkbgoaa
open Go Go.Vc Go.RowKit
set_option linter.unusedVariables false
set_option linter.unusedSimpArgs false
set_option maxRecDepth 100000

theorem mv_push {w0 w w1 : World} {b : Option Addr} {c : Nat} {l : List Mv} (m : Mv) (hown : OwnM w0 w b c l) (hl : Later w0 w) (hb : l.length ≤ 10000) (e1 : w1 = w.alloc (.cells #[.bool m.1.1, i64v m.1.2, .bool m.2.1, i64v m.2.2] mvTy)) {K : Value → World → Prop}
    (hK : ∀ b' c' w', OwnM w0 w' b' c' (l ++ [m]) → Later w0 w' → (∀ k, k < w.heap.size → rowB b ≠ some k → w'.heap[k]? = w.heap[k]? ∧ rowB b' ≠ some k) → K (.slice b' (l ++ [m]).length c') w') :
    RunsV Try.prog (Builtin.append_ #[22, 22] 22 #[.slice b l.length c, .slice (some ⟨w.heap.size, 0, none⟩) 1 1]) w1 K := by
  subst e1
  refine RunsV_append_apart 22 mvTyR (hown.alloc _) (hl.alloc _) (m := 1) (news := mvC m) rfl (CellsAt_new' w _ _ _) (by simp [mvC, Value.oneCell']) (by unfold maxLen; omega) (by omega) ?_
  intro p pn pc w' ho hl' hk
  obtain rfl := ho.len
  have e : mvsC l ++ mvC m = mvsC (l ++ [m]) := by rw [mvsC_append]; simp [mvsC]
  rw [e] at ho
  have hlen : l.length + 1 = (l ++ [m]).length := by simp
  rw [hlen] at ho ⊢
  refine hK _ _ _ ho hl' fun k hk1 hk2 => ?_
  obtain ⟨h1, h2⟩ := hk k (Nat.lt_of_lt_of_le hk1 (Later.size (Later.alloc' w _))) hk2
  exact ⟨h1.trans (Later.block (Later.alloc' w _) hk1), h2⟩
theorem own_setFrom {w0 w : World} {g c : Nat} {l : List Mv} (h : OwnM w0 w (some ⟨g, 0, none⟩) c l) (hl : Later w0 w) {i : Nat} {m : Mv} (hi : l[i]? = some m) (p : Pl) :
    SetsAt w ((Addr.mk g 0 none).add (i * 4)) 0 [.bool p.1, i64v p.2] ∧ ∀ w', w' = setCellsAt w ((Addr.mk g 0 none).add (i * 4)) 0 [.bool p.1, i64v p.2] → OwnM w0 w' (some ⟨g, 0, none⟩) c (l.set i (p, m.2)) ∧ Later w0 w' ∧ ∀ k, k ≠ g → w'.heap[k]? = w.heap[k]? := by
  have hil : i < l.length := (List.getElem?_eq_some_iff.1 hi).1
  have cellAt : ∀ j, j < 4 → ∃ u, w.cell? ⟨g, i * 4 + j, none⟩ = some u := by
    intro j hj
    have hjl : i * 4 + j < (mvsC l).length := by rw [mvsC_length]; omega
    have := CellsAt_get h.cells (i * 4 + j) _ (List.getElem?_eq_getElem hjl)
    rw [Nat.zero_add, add_block, Nat.zero_add] at this
    exact ⟨_, this⟩
  have fr : ∀ j, w.frozen? ⟨g, j, none⟩ = false := fun j => World.ownsRow.frozenAt (h := h) j
  have hg0 := (h.lt rfl).1
  rw [add_block, Nat.zero_add]
  constructor
  · obtain ⟨u0, h0⟩ := cellAt 0 (by omega)
    obtain ⟨u1, h1⟩ := cellAt 1 (by omega)
    refine cnd_true rfl ⟨⟨?_, ?_⟩, cnd_true rfl ⟨⟨?_, ?_⟩, trivial⟩⟩
    · rw [add_block, h0]; rfl
    · rw [add_block]; exact fr _
    · rw [add_block, h1]; rfl
    · rw [add_block]; exact fr _
  · intro w' e
    subst e
    simp only [setCellsAt, add_block, Nat.add_zero]
    obtain ⟨o1, k1⟩ := h.store (i * 4) (.bool p.1)
    have l1 := hl.setCell (p := ⟨g, i * 4, none⟩) hg0 (.bool p.1)
    obtain ⟨o2, k2⟩ := OwnS.store o1 (i * 4 + 1) (i64v p.2)
    have l2 := l1.setCell (p := ⟨g, i * 4 + 1, none⟩) hg0 (i64v p.2)
    rw [mvsC_set l i m p hi] at o2
    refine ⟨?_, l2, fun k hk => by rw [k2 k hk, k1 k hk]⟩
    unfold OwnM
    rw [List.length_set]
    exact o2
/-- The world of order's loops: the spare place, the map, what is left. -/
structure Lp (w0 w : World) (sp : Pl) (sb ab r : Nat) (b : Option Addr) (c : Nat) (left : List Mv) (q : Pl → Int) : Prop where
  to : Later w0 w
  hs : Has w sb [.bool sp.1, i64v sp.2]
  ha : Has w ab [.map (some r)]
  ask : AskG w r q
  ns : w0.heap.size ≤ sb ∧ w0.heap.size ≤ ab ∧ w0.heap.size ≤ r
  ne : sb ≠ r ∧ ab ≠ r
  own : OwnM w0 w b c left
  ap : ∀ k, rowB b = some k → k ≠ sb ∧ k ≠ ab ∧ k ≠ r
section
variable {w0 w w' : World} {sp : Pl} {sb ab r : Nat} {b : Option Addr} {c : Nat} {left : List Mv} {q q' : Pl → Int}
theorem Lp.later (h : Lp w0 w sp sb ab r b c left q) (hl : Later w w') : Lp w0 w' sp sb ab r b c left q :=
  ⟨h.to.trans hl, h.hs.later hl, h.ha.later hl, h.ask.later hl, h.ns, h.ne, OwnS.later h.own hl, h.ap⟩
theorem Lp.turn (h : Lp w0 w sp sb ab r b c left q) (hk : KeptBut w r w') (ha : AskG w' r q') : Lp w0 w' sp sb ab r b c left q' :=
  ⟨hk.later _ h.to h.ns.2.2, hk.has h.ne.1 h.hs, hk.has h.ne.2 h.ha, ha, h.ns, h.ne, OwnS.kept h.own fun k hk' => hk.block k (h.ap k hk').2.2 (h.own.lt hk').2, h.ap⟩
theorem Lp.ask' (h : Lp w0 w sp sb ab r b c left q) (e : ∀ a, q a = q' a) : Lp w0 w sp sb ab r b c left q' := ⟨h.to, h.hs, h.ha, h.ask.congr e, h.ns, h.ne, h.own, h.ap⟩
/-- What is left is another row now. -/
theorem Lp.row (h : Lp w0 w sp sb ab r b c left q) {b' : Option Addr} {c' : Nat} {left' : List Mv} (ho : OwnM w0 w' b' c' left') (hl : Later w0 w') (hk : ∀ k, k < w.heap.size → rowB b ≠ some k → w'.heap[k]? = w.heap[k]? ∧ rowB b' ≠ some k) : Lp w0 w' sp sb ab r b' c' left' q := by
  have a1 := hk sb h.hs.lt (fun e => (h.ap _ e).1 rfl)
  have a2 := hk ab h.ha.lt (fun e => (h.ap _ e).2.1 rfl)
  have a3 := hk r h.ask.lt (fun e => (h.ap _ e).2.2 rfl)
  exact ⟨hl, h.hs.kept a1.1, h.ha.kept a2.1, h.ask.kept a3.1, h.ns, h.ne, ho, fun k e => ⟨fun e1 => a1.2 (e1 ▸ e), fun e1 => a2.2 (e1 ▸ e), fun e1 => a3.2 (e1 ▸ e)⟩⟩
/-- Another row is grown beside. -/
theorem Lp.beside (h : Lp w0 w sp sb ab r b c left q) (hl : Later w0 w') {bo : Option Addr} (hk : ∀ k, k < w.heap.size → rowB bo ≠ some k → w'.heap[k]? = w.heap[k]?) (ho : ∀ k, rowB bo = some k → k ≠ sb ∧ k ≠ ab ∧ k ≠ r ∧ rowB b ≠ some k) : Lp w0 w' sp sb ab r b c left q := by
  have a1 := hk sb h.hs.lt (fun e => (ho _ e).1 rfl)
  have a2 := hk ab h.ha.lt (fun e => (ho _ e).2.1 rfl)
  have a3 := hk r h.ask.lt (fun e => (ho _ e).2.2.1 rfl)
  exact ⟨hl, h.hs.kept a1, h.ha.kept a2, h.ask.kept a3, h.ns, h.ne, OwnS.kept h.own fun k e => hk k (h.own.lt e).2 (fun e2 => (ho k e2).2.2.2 e), h.ap⟩
end
end Go.Proofs.Ytngpkmpbhkbgoaa
