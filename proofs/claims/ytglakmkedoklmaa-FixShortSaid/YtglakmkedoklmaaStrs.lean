/-
The contracts of a strings.Builder that the call has made itself: what is written, and what it holds in the end.
Conditions: no more than 2^47 bytes, as each theorem says.
-/
import Derived.Test.YtglakmkedoklmaaVstrs
import Derived.Test.YtglakmkedoklmaaBase
import Derived.Test.YtglakmkedoklmaaVcLoc
import Derived.Lib.Builder
import Derived.Lib.AppendStr
import Derived.Lib.UnsafeStr
import Derived.Laws.Pointers
import Derived.Laws.Externs
namespace Go.Proofs.Ytglakmkedoklmaa
open Go Go.Vc Go.RowKit
set_option linter.unusedVariables false
set_option linter.unusedSimpArgs false
set_option maxRecDepth 100000

abbrev bT : TypeId := 63
abbrev bE : TypeId := 5
abbrev ptrAt (b : Nat) : Value := .pointer (some ⟨b, 0, none⟩)
theorem bT_info : ∃ j, Try.prog.info? bT = some j ∧ j.size = 2 := by
  have h : (Try.prog.info? bT).map (·.size) = some 2 := by kernel_rfl
  obtain ⟨j, hj, hs⟩ := Option.map_eq_some_iff.1 h
  exact ⟨j, hj, hs⟩
theorem byte_info : ∃ i, Try.prog.info? bE = some i ∧ i.zero = some (.int .u8 0) ∧ i.size = 1 ∧ i.bytes = 1 := by
  have h : (Try.prog.info? bE).map (fun i => (i.zero, i.size, i.bytes)) = some (some (.int .u8 0), 1, 1) := by kernel_rfl
  obtain ⟨j, hj, hs⟩ := Option.map_eq_some_iff.1 h
  simp only [Prod.mk.injEq] at hs
  exact ⟨j, hj, hs.1, hs.2.1, hs.2.2⟩
theorem later_builder {w0 w w' : World} {b : Nat} {p : Value} {bs : List Value} (h : Lib.BuilderAt bT bE w0.heap.size b p bs w) (hl : Later w w') : Lib.BuilderAt bT bE w0.heap.size b p bs w' := by
  have hlt := h.lt
  obtain ⟨hB, v, hb, hown, hne⟩ := h
  exact ⟨hB, v, by rw [hl.block hlt]; exact hb, OwnS.later hown hl, hne⟩
/-- The first check of each writing method: behind it the builder holds its own address. -/
theorem bld_copyCheck_ok (w0 : World) (b : Nat) (bs : List Value) (w : World) (h : Lib.IsBuilder bT bE w0.heap.size b bs w) :
    Calls Try.prog strings_Builder_copyCheck.N #[ptrAt b] w fun e w' => e = .returned (.tuple #[]) ∧ Lib.BuilderAt bT bE w0.heap.size b (ptrAt b) bs w' ∧ Below w0.heap.size w w' ∧ w.heap.size ≤ w'.heap.size := by
  have eq1 : ∀ (p : Option Addr) (xo yo : Operand), EqRuns Try.prog .eql 60 xo yo (.pointer p) (.pointer none) p.isNone := by
    intro p xo yo w
    rw [eqGuard_at_pointer]
    simp only [Sem.run_bind, Sem.run_pure, Result.andThen_ok]
    exact run_eql_pointer_nil w _ p (by kernel_rfl)
  obtain ⟨j, hj, hjs⟩ := bT_info
  refine strings_Builder_copyCheck.calls ?_
  unfold strings_Builder_copyCheck.vc
  refine Deref_some rfl ?_
  rcases h with h | h
  · refine ⟨_, h.cell0, _, eq1 _ _ _, cnd_true rfl ?_⟩
    refine RunsV_of (Lib.run_to_unsafe w ⟨b, 0, none⟩ (t := bT) (by kernel_rfl) (by kernel_rfl) hj (by omega) h.shape (Nat.zero_lt_succ 1)) ⟨_, rfl, ?_⟩
    refine RunsC_of (v := ptrAt b) (w' := w) ?_ ⟨_, rfl, ?_⟩
    · rw [run_callFunc_extern (fn := Try.f53) Try.func53 (by kernel_rfl) (by kernel_rfl) (by kernel_rfl) (e := Extern.AbiNoEscape.same) (by kernel_rfl), Lib.run_noEscape]
      rfl
    refine RunsV_of (Lib.run_from_unsafe w ⟨b, 0, none⟩ (u := bT) (by kernel_rfl) (by kernel_rfl) hj h.shape (by kernel_rfl)) ⟨_, rfl, Deref_some rfl ?_⟩
    refine ⟨⟨by rw [h.cell0]; rfl, h.frozen0⟩, fun w1 e1 => ?_⟩
    subst e1
    exact ⟨rfl, h.used _, (Below.refl _ _).setCell h.1 _, by simp [World.setCell]⟩
  · refine ⟨_, h.cell0, _, eq1 _ _ _, cnd_false rfl (Deref_some rfl ⟨_, h.cell0, false, ?_, cnd_false rfl ⟨rfl, h, Below.refl _ _, Nat.le_refl _⟩⟩)⟩
    intro w
    rw [eqGuard_at_pointer]
    simp only [Sem.run_bind, Sem.run_pure, Result.andThen_ok]
    exact Lib.run_neq_ptr_same w ⟨b, 0, none⟩ (te := bT) (by kernel_rfl) hj
theorem bld_WriteString_ok (w0 : World) (b : Nat) (bs : List Value) (s : ByteArray) (w : World) (h : Lib.IsBuilder bT bE w0.heap.size b bs w) (hlen : bs.length + s.size ≤ 140737488355328) :
    Calls Try.prog strings_Builder_WriteString.N #[ptrAt b, .string s] w fun e w' => e = .returned (.tuple #[.int .i64 s.size, .nilIface]) ∧ Lib.BuilderAt bT bE w0.heap.size b (ptrAt b) (bs ++ Lib.strCells s) w' ∧ Below w0.heap.size w w' := by
  refine strings_Builder_WriteString.calls ?_
  unfold strings_Builder_WriteString.vc
  have hwB : w0.heap.size ≤ w.heap.size := by
    rcases h with h | h <;> exact Nat.le_of_lt (Nat.lt_of_le_of_lt h.1 h.lt)
  refine (bld_copyCheck_ok w0 b bs w h).mono fun e w1 ⟨he, h1, hb1, hsz⟩ => ⟨he, Deref_some rfl ?_⟩
  have hlt := h1.lt
  obtain ⟨hB, v, hbk, hown, hne⟩ := h1
  obtain ⟨i, hi, hz, hs1, hs2⟩ := byte_info
  obtain ⟨p, n, c, rfl⟩ : ∃ p n c, v = .slice p n c := by
    rcases hown.2 with ⟨hv, _⟩ | ⟨g, cap, cur, hv, _⟩
    · exact ⟨_, _, _, hv⟩
    · exact ⟨_, _, _, hv⟩
  refine ⟨p, n, c, by rw [add_block]; rw [Lib.cell_of_heap hbk]; rfl, ?_⟩
  obtain ⟨v', w2, hr, hown', hgrow, _⟩ := Lib.run_append_own_string (P := Try.prog) w1 w0.heap.size 61 9 61 bE i (by kernel_rfl) (by kernel_rfl) hi hz hs1 hs2 _ bs.length bs hown s (by unfold maxLen; omega) hlen (by omega)
  obtain ⟨p', n', c', rfl⟩ : ∃ p n c, v' = .slice p n c := by
    rcases hown'.2 with ⟨hv, _⟩ | ⟨g, cap, cur, hv, _⟩
    · exact ⟨_, _, _, hv⟩
    · exact ⟨_, _, _, hv⟩
  have hb2 : w2.heap[b]? = some (.cells #[ptrAt b, .slice p n c] bT (0, 0)) := by
    rw [hgrow.block b hlt (fun e => hne e.symm)]
    exact hbk
  refine RunsV_of hr ⟨p', n', c', rfl, Deref_some rfl ?_⟩
  rw [add_block]
  refine ⟨⟨by rw [Lib.cell_of_heap hb2]; rfl, Lib.frozen_of_heap hb2 1⟩, fun w3 e3 => ⟨rfl, ?_, ?_⟩⟩
  · subst e3
    exact Lib.BuilderAt.put hB hb2 (bs' := bs ++ Lib.strCells s) (by simpa [Lib.strCells_length] using hown') (by decide)
  · subst e3
    exact (hb1.grown hgrow (by omega) (fun k hk => (World.ownsRow.lt hown k hk).1)).setCell (p := ⟨b, 1, none⟩) hB _
/-- What a builder holds, nil its buffer as long as nothing was written. -/
def BldI (w0 : World) (b : Nat) (l : List UInt8) (w : World) : Prop :=
  w0.heap.size ≤ b ∧ ((l = [] ∧ w.heap[b]? = some (.cells #[.pointer none, .slice none 0 0] bT (0, 0))) ∨ (l ≠ [] ∧ Lib.IsBuilder bT bE w0.heap.size b (Lib.byteCells l) w))
theorem BldI.later {w0 w w' : World} {b : Nat} {l : List UInt8} (h : BldI w0 b l w) (hl : Later w w') : BldI w0 b l w' := by
  obtain ⟨h0, ⟨h1, h2⟩ | ⟨h1, h2⟩⟩ := h
  · exact ⟨h0, .inl ⟨h1, by rw [hl.block (Array.getElem?_eq_some_iff.1 h2).1]; exact h2⟩⟩
  · refine ⟨h0, .inr ⟨h1, ?_⟩⟩
    rcases h2 with h2 | h2
    · exact .inl (later_builder h2 hl)
    · exact .inr (later_builder h2 hl)
theorem BldI.start (w : World) : BldI w w.heap.size [] (w.alloc (.cells #[.pointer none, .slice none 0 0] bT)) := ⟨Nat.le_refl _, .inl ⟨rfl, heap_alloc_new w _⟩⟩
theorem BldI.is {w0 w : World} {b : Nat} {l : List UInt8} (h : BldI w0 b l w) : Lib.IsBuilder bT bE w0.heap.size b (Lib.byteCells l) w := by
  obtain ⟨h0, ⟨rfl, h2⟩ | ⟨h1, h2⟩⟩ := h
  · exact .inl ⟨h0, _, h2, World.ownsRow_nil _ _ _ _, by simp [Value.ownBlock]⟩
  · exact h2
theorem bld_write (w0 : World) (b : Nat) (l t : List UInt8) (w : World) (h : BldI w0 b l w) (ht : t ≠ []) (hlen : l.length + t.length ≤ 140737488355328) :
    Calls Try.prog strings_Builder_WriteString.N #[ptrAt b, .string ⟨t.toArray⟩] w fun e w' => e = .returned (.tuple #[.int .i64 t.length, .nilIface]) ∧ BldI w0 b (l ++ t) w' ∧ Below w0.heap.size w w' := by
  have hB := h.1
  refine (bld_WriteString_ok w0 b _ ⟨t.toArray⟩ w h.is (by rw [Lib.byteCells_length]; simpa [ByteArray.size] using hlen)).mono fun e w' ⟨he, h1, h2⟩ => ⟨?_, ⟨hB, .inr ⟨by simp [ht], .inr ?_⟩⟩, h2⟩
  · rw [he]
    simp [ByteArray.size]
  · have e : Lib.byteCells (l ++ t) = Lib.byteCells l ++ Lib.strCells ⟨t.toArray⟩ := by
      rw [Lib.strCells_eq]
      simp [Lib.byteCells]
    rw [e]
    exact h1
theorem bld_String_ok (w0 : World) (b : Nat) (l : List UInt8) (w : World) (h : BldI w0 b l w) (hl63 : l.length ≤ 140737488355328) (hw : Later w0 w) :
    Calls Try.prog strings_Builder_String.N #[ptrAt b] w fun e w' => e = .returned (.string ⟨l.toArray⟩) ∧ Later w0 w' := by
  refine strings_Builder_String.calls ?_
  unfold strings_Builder_String.vc
  refine Deref_some rfl ?_
  obtain ⟨hB, ⟨rfl, h2⟩ | ⟨h1, h2⟩⟩ := h
  · have hlt : b < w.heap.size := (Array.getElem?_eq_some_iff.1 h2).1
    have c1 : ∀ w', Later w w' → w'.cell? ((Addr.mk b 0 none).add 1) = some (.slice none 0 0) := by
      intro w' h'
      have : w'.heap[b]? = some (.cells #[.pointer none, .slice none 0 0] bT (0, 0)) := by rw [h'.block hlt]; exact h2
      rw [add_block, Lib.cell_of_heap this]; rfl
    refine ⟨_, _, _, c1, _, fun w' h' => Lib.run_unsafeSliceData_nil w' _ _ _ _, Deref_some rfl ⟨_, _, _, c1, fun w' h' => ?_⟩⟩
    exact RunsV_of (Lib.run_unsafeString_none w' _ _ _ _) ⟨_, rfl, rfl, hw.trans h'⟩
  · obtain ⟨p, hat⟩ : ∃ p, Lib.BuilderAt bT bE w0.heap.size b p (Lib.byteCells l) w := by
      rcases h2 with h | h
      · exact ⟨_, h⟩
      · exact ⟨_, h⟩
    have hlt := hat.lt
    obtain ⟨_, v, hbk, hown, hne⟩ := hat
    rw [Lib.byteCells_length] at hown
    have hl0 : l.length ≠ 0 := by simpa using h1
    obtain ⟨g, cap, cur, rfl, hbg, hg, hnc, hcm, hcs, htake⟩ : ∃ g cap cur, v = .slice (some ⟨g, 0, none⟩) l.length cap ∧ w0.heap.size ≤ g ∧ w.heap[g]? = some (.cells cur bE (0, 0)) ∧ l.length ≤ cap ∧ cap ≤ maxLen ∧ cur.size = cap * 1 ∧ cur.toList.take (l.length * 1) = Lib.byteCells l := by
      rcases hown.2 with ⟨_, hz⟩ | ⟨g, cap, cur, hv, r⟩
      · exact absurd hz hl0
      · exact ⟨g, cap, cur, hv, r⟩
    have hglt : g < w.heap.size := (Array.getElem?_eq_some_iff.1 hg).1
    have c1 : ∀ w', Later w w' → w'.cell? ((Addr.mk b 0 none).add 1) = some (.slice (some ⟨g, 0, none⟩) l.length cap) := by
      intro w' h'
      have : w'.heap[b]? = some (.cells #[p, .slice (some ⟨g, 0, none⟩) l.length cap] bT (0, 0)) := by rw [h'.block hlt]; exact hbk
      rw [add_block, Lib.cell_of_heap this]; rfl
    refine ⟨_, _, _, c1, _, fun w' h' => Lib.run_unsafeSliceData_row w' _ _ _ _ _ (by omega), Deref_some rfl ⟨_, _, _, c1, fun w' h' => ?_⟩⟩
    have hg' : w'.heap[g]? = some (.cells cur bE (0, 0)) := by rw [h'.block hglt]; exact hg
    refine RunsV_of (Lib.run_unsafeString_row w' _ _ _ bE (by kernel_rfl) (by kernel_rfl) g cur.size (by simp [World.shape?, hg']) l h1 (by omega) (by omega) ?_) ⟨_, rfl, rfl, ?_⟩
    · intro j x hj
      rw [add_block, Nat.zero_add, Lib.cell_of_heap hg']
      have hjl : j < l.length := (List.getElem?_eq_some_iff.1 hj).1
      have e1 : (Lib.byteCells l)[j]? = some (.int .u8 x.toNat) := by simp [Lib.byteCells, hj]
      rw [← htake, List.getElem?_take, Nat.mul_one, if_pos hjl] at e1
      simpa using e1
    · exact Lib.below_freeze (hw.trans h') (p := ⟨g, 0, none⟩) hbg l.length
end Go.Proofs.Ytglakmkedoklmaa
