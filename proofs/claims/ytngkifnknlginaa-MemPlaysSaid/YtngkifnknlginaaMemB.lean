/-
The contracts of package mem, second part: the part in which a stretch lies.
Conditions: each theorem's hypotheses.
-/
import Derived.Test.YtngkifnknlginaaMemA
namespace Go.Proofs.Ytngkifnknlginaa
open Go Go.Vc Go.RowKit
set_option linter.unusedVariables false
set_option linter.unusedSimpArgs false
set_option linter.unnecessarySimpa false
set_option maxRecDepth 100000

theorem MA.ptrs {w : World} {a b mb pb : Nat} {q off : Nat → Nat} {bb tb : Nat} {BB TB : List Value} {st : List Pt} (h : MA w a b mb pb q off bb tb BB TB st) : Ptrs w mb pb q st.length := ⟨h.hm, h.ptr⟩
/-- What is answered: the part's pointer, and where in it. -/
def inV (q : Nat → Nat) (st : List Pt) (a n : Int) : Value := match findM st a n with
  | none => .tuple #[.pointer none, i64v 0]
  | some (i, p) => .tuple #[.pointer (some ⟨q i, 0, none⟩), i64v (offR p a : Int)]
theorem inV_none {q : Nat → Nat} {st : List Pt} {a n : Int} (h : findM st a n = none) : inV q st a n = .tuple #[.pointer none, i64v 0] := by rw [inV, h]
theorem inV_some {q : Nat → Nat} {st : List Pt} {a n : Int} {i : Nat} {p : Pt} (h : findM st a n = some (i, p)) : inV q st a n = .tuple #[.pointer (some ⟨q i, 0, none⟩), i64v (offR p a : Int)] := by rw [inV, h]
theorem getFin {st : List Pt} (k : Fin st.length) : st[k.1]? = some (st.get k) := by
  rw [List.getElem?_eq_getElem k.2]
  rfl
set_option maxHeartbeats 3200000 in
theorem mem_in_ok {a b mb pb : Nat} {q off : Nat → Nat} {bb tb : Nat} {BB TB : List Value} {st : List Pt} (hne : 0 < st.length) {x n : Int} (hx : 0 ≤ x ∧ x < 18446744073709551616) {w0 : World} (h : MA w0 a b mb pb q off bb tb BB TB st) :
    Calls Try.prog sacristy_mem_Mem_in.N #[.pointer (some ⟨mb, 0, none⟩), u64v x, i64v n] w0 (Gives (inV q st x n) w0) := by
  refine sacristy_mem_Mem_in.calls ?_
  unfold sacristy_mem_Mem_in.vc
  intro w1 h1 w2 h2 w3 h3 w4 h4
  have L := ((((Trk.start w0).alloc h1).alloc h2).alloc h3).alloc h4
  refine (mem_each_ok _ w4).mono fun e w5 ⟨he, g5, hb⟩ => ⟨_, he, ?_⟩
  have L5 := L.later g5
  have s05 : w0.heap.size ≤ w5.heap.size := L5.to.size
  have h5 := h.later L5.to
  have hst := h.ok
  have hqlt : ∀ i, i < st.length → q i < w0.heap.size := fun i hi => (h.pt i _ (List.getElem?_eq_getElem hi)).lt
  have e1 : w0.heap.size < w2.heap.size := (((Trk.start w0).alloc h1).alloc h2).has 0 rfl |>.lt
  have e2 : w2.heap.size ≤ w3.heap.size := by rw [h3]; simp
  let F : Fin st.length → Bool := fun k => hasR (st.get k).r x n
  refine fn_intro (cnd_true (by kernel_rfl) ⟨rfl, (⟨st.length, fun k => [.pointer (some ⟨q k.1, 0, none⟩)], fun k => k = w4.heap.size ∨ k = mb ∨ k = pb, fun pre W => (∀ y ∈ pre, F y = false) ∧ Later w5 W,
      fun pre W => ∃ p y, pre = p ++ [y] ∧ (∀ z ∈ p, F z = false) ∧ F y = true ∧ Trk w0 W [(w0.heap.size, [u64v x]), (w1.heap.size, [i64v n]), (w2.heap.size, [.pointer (some ⟨q y.1, 0, none⟩)]), (w3.heap.size, [i64v (offR (st.get y) x : Int)])],
      fun y vs W => vs = [.pointer (some ⟨q y.1, 0, none⟩)],
      each_iter ⟨hne, by have := hst.1; omega⟩ _ hb h5.ptrs, fun k hk => ?_,
      fun s W W' h ht => ⟨h.1, ht.later (Nat.le_refl _) h.2⟩,
      fun s W W' ⟨p, y, e1, e2, e3, e4⟩ ht => ⟨p, y, e1, e2, e3, ht.trk s05 e4⟩,
      fun vs y W W' e1 ht => e1,
      ⟨by simp, Later.refl _⟩⟩ : Rounds Try.prog sacristy_mem_Mem_each_1.N #[.pointer (some ⟨w4.heap.size, 0, none⟩)] w5), ?_, ?_, ?_, ?_, ?_⟩)
  · rcases hk with rfl | rfl | rfl
    · exact hb.lt
    · obtain ⟨c, hm⟩ := h5.hm
      exact hm.lt
    · exact lt_of_cell (h5.ptr 0 hne)
  · intro y; rfl
  · rintro s11 pre y W hx' hI
    exact ⟨keepsFrom_later (Later.refl _), fun k _ => rfl, hI, hx'.symm⟩
  · rintro s11 pre y hy hlen g p W ⟨⟨hp, hl⟩, hM⟩
    simp only [List.cons.injEq, Value.pointer.injEq, and_true] at hM
    subst hM
    have LW := L5.later hl
    have hW := h.later LW.to
    have hpt := hW.pt y.1 _ (getFin y)
    refine ⟨_, LW.cell 0 rfl rfl, _, LW.cell 1 rfl rfl, ?_⟩
    refine (mem_has_ok (n := n) (hst.2 _ _ (getFin y)) hx hpt).mono fun e W1 ⟨he, g1⟩ => ⟨_, he, cnd_of (fun hf => ?_) fun hf => ?_⟩
    · refine ⟨fun W' => Has W' w0.heap.size [u64v x] ∧ Has W' (q y.1) (ptC (st.get y) bb tb (off y.1)), fun W' hl' => ⟨((LW.later g1).has 0 rfl).later hl', (hpt.later g1).later hl'⟩, fun W2 g2 => ?_⟩
      refine ⟨x, fun W' hC => hC.1.cell rfl, Deref_some rfl ⟨(st.get y).r.f, fun W' hC => hC.2.cell rfl, ?_⟩⟩
      have L2 := (LW.later g1).later g2
      have hq2 := (hpt.later g1).later g2
      refine L2.set1E 2 rfl (by simp) fun W3 e3 L3 => ⟨⟨L3.has 0 rfl, ?_⟩, ?_⟩
      · rw [e3]
        exact hq2.set_other (by have := hqlt y.1 y.2; omega) _ _
      obtain ⟨f1, f2, f3, f4⟩ := hasR_facts (hst.2 _ _ (getFin y)) hf
      have m := mayR_facts (hst.2 _ _ (getFin y)).may
      rw [u64_in (x := x - (st.get y).r.f) (by omega) (by omega), f2, i64_in (by omega) (by omega)]
      refine L3.set1E 3 rfl (by simp) fun W4 e4 L4 => ⟨?_, pre, y, rfl, hp, hf, L4⟩
      rw [e4, e3]
      exact ((keepsFrom_later (g1.trans g2)).trans (keepsFrom_setCell _ _ _ _)).trans (keepsFrom_setCell _ _ _ _)
    · refine ⟨keepsFrom_later g1, fun k hk => ?_, ?_, hl.trans g1⟩
      · have hk5 : k < w5.heap.size := by
          rcases hk with rfl | rfl | rfl
          · exact hb.lt
          · obtain ⟨c, hm⟩ := h5.hm
            exact hm.lt
          · exact lt_of_cell (h5.ptr 0 hne)
        exact Later.block g1 (Nat.lt_of_lt_of_le hk5 hl.size)
      · intro z hz
        rcases List.mem_append.1 hz with hz | hz
        · exact hp z hz
        · rw [List.mem_singleton.1 hz]
          exact hf
  · rintro D W hD ⟨hp, hl⟩ hd
    have LW := L5.later hl
    refine LW.set1E 2 rfl (by simp) fun W2 e2 M => ?_
    refine M.set1E 3 rfl (by simp) fun W3 e3 M => ?_
    have hd3 : W3.heap[D]? = some (.deferred (some [])) := by
      have k : KeepsFrom w5.heap.size W W3 := by rw [e3, e2]; exact (keepsFrom_setCell _ _ _ _).trans (keepsFrom_setCell _ _ _ _)
      exact k.same D _ hD hd rfl
    refine ⟨hd3, fun W4 e4 => ?_⟩
    have M : Trk w0 W4 _ := (turn_putObj (o' := .deferred none) hd3 rfl hD).trk s05 M |> fun h => e4 ▸ h
    refine ⟨_, M.cell 2 rfl rfl, _, M.cell 3 rfl rfl, ?_, M.to⟩
    rw [inV_none (findM_none fun j p hj => ?_)]
    have hjl : j < st.length := (List.getElem?_eq_some_iff.1 hj).1
    have := hp ⟨j, hjl⟩ (List.mem_finRange _)
    rw [getFin ⟨j, hjl⟩] at hj
    rw [← Option.some.inj hj]
    exact this
  · rintro D pre W hD hpre ⟨p, y, rfl, e1, e2, M⟩ hd
    refine ⟨hd, fun W4 e4 => ?_⟩
    have M : Trk w0 W4 _ := (turn_putObj (o' := .deferred none) hd rfl hD).trk s05 M |> fun h => e4 ▸ h
    refine ⟨_, M.cell 2 rfl rfl, _, M.cell 3 rfl rfl, ?_, M.to⟩
    rw [inV_some (findM_some (getFin y) e2 fun j r hj hr => ?_)]
    have hjl : j < st.length := (List.getElem?_eq_some_iff.1 hr).1
    have hm : (⟨j, hjl⟩ : Fin st.length) ∈ p := by
      obtain ⟨t, ht⟩ := hpre
      have e0 : (List.finRange st.length)[p.length]? = some y := by
        rw [← ht, List.append_assoc, List.getElem?_append_right (Nat.le_refl _)]
        simp
      have hyl : p.length = y.1 := by
        have hl := (List.getElem?_eq_some_iff.1 e0).1
        rw [List.getElem?_eq_getElem hl] at e0
        have := Option.some.inj e0
        rw [← this]
        simp
      have ej : (List.finRange st.length)[j]? = some ⟨j, hjl⟩ := by
        rw [List.getElem?_eq_getElem (by simpa using hjl)]
        simp
      rw [← ht, List.append_assoc, List.getElem?_append_left (by omega)] at ej
      exact List.mem_of_getElem? ej
    have := e1 _ hm
    rw [getFin ⟨j, hjl⟩] at hr
    rw [← Option.some.inj hr]
    exact this
end Go.Proofs.Ytngkifnknlginaa
