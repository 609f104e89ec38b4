/-
The contracts of package mem, fifth part: Bytes, Regions.
Conditions: each theorem's hypotheses.
-/
import Derived.Test.YtngkifnknlginaaMemD
namespace Go.Proofs.Ytngkifnknlginaa
open Go Go.Vc Go.RowKit
set_option linter.unusedVariables false
set_option linter.unusedSimpArgs false
set_option linter.unnecessarySimpa false
set_option maxRecDepth 100000

def boT : ElT Bool := ⟨1, by decide, fun a => [.bool a], fun _ => rfl, fun a u hu => by rw [List.mem_singleton.1 hu]; rfl⟩
theorem rtBo : RowTy Try.prog 43 4 1 1 := RowTy.of (.bool false) (by kernel_rfl) (by kernel_rfl) rfl (by decide)
theorem rtReg : RowTy Try.prog 22 42 3 24 := RowTy.of (.agg #[u64v 0, u64v 0, .int .u8 0]) (by kernel_rfl) (by kernel_rfl) rfl (by decide)
theorem slice_nil {t e : TypeId} (h : Try.prog.underlying t = some (.slice e)) (p : Option Addr) (n c : Nat) (xo yo : Operand) : EqRuns Try.prog .eql t xo yo (.slice p n c) (.slice none 0 0) p.isNone := by
  intro w
  rw [eqGuard_at_slice]
  simp only [Sem.run_bind, Sem.run_pure, Result.andThen_ok]
  simp only [binOp]
  simp [run_equal_slice_nil w t e p n c h]
theorem mem_Clone_ok {ad : Addr} {c : Nat} {l : List Bool} {w : World} (hr : ERow boT w (some ad) l) (hn : l.length ≤ 16777216) : Calls Try.prog slices_Clone.N #[.slice (some ad) l.length c] w fun e w' => ∃ b c', e = .returned (.slice b l.length c') ∧ Later w w' ∧ OwnE boT w w' 4 b c' l := by
  refine slices_Clone.calls ?_
  unfold slices_Clone.vc
  refine ⟨_, slice_nil (e := 4) (by kernel_rfl) _ _ _ _ _, cnd_false rfl fun w1 h1 => ?_⟩
  have L := (Trk.start w).alloc h1
  cases hl : l with
  | nil =>
    obtain ⟨i, z, hi, hz, hs, hby, hzs⟩ := rtBo.info
    refine RunsV_of (v := .slice (some ⟨w.heap.size, 0, none⟩) 0 0) (w' := w1) ?_ ⟨_, _, _, rfl, _, _, rfl, L.to, ?_⟩
    · exact run_append_nothing w1 _ _ _ _ i rtBo.under hi _ 0 0 (Nat.le_refl 0) (.slice (some ad) 0 c) ⟨.inl ⟨_, rtBo.under⟩, fun w' => by simp [Builtin.lenOf], by simp [Builtin.firstCells, loadCells, loadCellsFrom], by simp [Builtin.firstCells, loadCells, loadCellsFrom], by simp, by simp⟩
    · exact OwnE.new (T := boT) (l := []) (Later.refl w) h1 rfl (by decide)
  | cons x r =>
    rw [← hl]
    have hpos : 0 < l.length := by rw [hl]; simp
    refine OwnE.grow (T := boT) (w0 := w1) (l := []) (news := l) 43 rtBo (Later.refl w1) (show CellsAt w1 _ 0 [] from trivial) (hr.later L.to).all (by simpa using hpos) (by simp [maxLen]; omega) (by simp; omega) fun b c' w' ho hl' => ?_
    rw [List.nil_append] at ho ⊢
    exact ⟨_, _, _, rfl, _, _, rfl, L.to.trans hl', ho.weak (Later.size L.to)⟩
/-- What Bytes gives. -/
def BytesR (st : List Pt) (x n : Int) (w : World) (e : Ending) (w' : World) : Prop := Later w w' ∧ ∃ b c, e = .returned (.tuple #[.string (strOf (bytesM st x n).1), .slice b (bytesM st x n).2.1.length c, i64v (bytesM st x n).2.2]) ∧ OwnE boT w w' 4 b c (bytesM st x n).2.1
theorem bytes_none {st : List Pt} {x n : Int} {w w' : World} {k : Int} (h : bytesM st x n = ([], [], k)) (hl : Later w w') : BytesR st x n w (.returned (.tuple #[.string (ByteArray.mk #[]), .slice none 0 0, i64v k])) w' := by
  refine ⟨hl, none, 0, ?_, ?_⟩
  · rw [h]
    rfl
  · rw [h]
    exact OwnE.nil _ _ _
section
variable {w : World} {a b mb pb : Nat} {q off : Nat → Nat} {bb tb : Nat} {BB TB : List Value} {st : List Pt} (h : MA w a b mb pb q off bb tb BB TB st) {i : Nat} {p : Pt} (hi : st[i]? = some p)
include h hi
theorem MA.taintsAt (k n : Nat) : ERow boT w (some ⟨tb, off i + k, none⟩) ((p.ts.drop k).take n) := by
  intro j m hj
  refine ⟨_, rfl, fun x v hv => ?_⟩
  have hx : x < 1 := (List.getElem?_eq_some_iff.1 hv).1
  obtain rfl : x = 0 := by omega
  have hv : v = .bool m := by simpa [boT] using hv.symm
  rw [hv, addr_add_add, add_block, show off i + k + (j * boT.sz + 0) = off i + (k + j) by show off i + k + (j * 1 + 0) = _; omega]
  exact h.taint hi (drop_get hj)
end
set_option maxHeartbeats 1600000 in
theorem mem_Bytes_ok {a b mb : Nat} {st : List Pt} (hne : 0 < st.length) {x n : Int} (hx : 0 ≤ x ∧ x < 18446744073709551616) {w : World} (hM : MemAt w a b mb st) :
    Calls Try.prog sacristy_mem_Mem_Bytes.N #[.pointer (some ⟨mb, 0, none⟩), u64v x, i64v n] w (BytesR st x n w) := by
  obtain ⟨pb, q, off, bb, tb, BB, TB, h⟩ := hM
  refine sacristy_mem_Mem_Bytes.calls ?_
  unfold sacristy_mem_Mem_Bytes.vc
  refine ⟨_, ptr_nil (by kernel_rfl) _ _ _, cnd_false rfl (cnd_of (fun h1 => bytes_none ?_ (Later.refl _)) fun h1 => cnd_of (fun h2 => bytes_none ?_ (Later.refl _)) fun h2 => ?_)⟩
  · rw [bytesM, if_pos (.inl (by simpa using h1))]
  · rw [bytesM, if_pos (.inr (by simpa using h2))]
  have hn : ¬ (n < 0 ∨ 1048576 < n) := by simp only [decide_eq_false_iff_not] at h1 h2; omega
  refine (mem_in_ok (n := n) hne hx h).mono fun e w2 ⟨he, g2⟩ => ?_
  have h2 := h.later g2
  have eL : bytesM st x n = match findM st x n with
    | none => ([], [], 40)
    | some (_, p) => ((p.bs.drop (offR p x)).take n.toNat, (p.ts.drop (offR p x)).take n.toNat, 0) := by rw [bytesM, if_neg hn]; rfl
  cases hf : findM st x n with
  | none =>
    rw [inV_none hf] at he
    rw [hf] at eL
    exact ⟨_, _, he, _, ptr_nil (by kernel_rfl) _ _ _, cnd_true rfl (bytes_none eL g2)⟩
  | some y =>
    obtain ⟨i, p⟩ := y
    rw [inV_some hf] at he
    rw [hf] at eL
    simp only at eL
    obtain ⟨hi, hh⟩ := findM_get hf
    have hp := h.ok.2 i p hi
    obtain ⟨f1, f2, f3, f4⟩ := hasR_facts hp hh
    have m := mayR_facts hp.may
    have hn64 : n % 18446744073709551616 = n := by omega
    rw [hn64] at f4
    have hk : offR p x + n.toNat ≤ p.r.s.toNat := by omega
    have hq := h2.pt i p hi
    obtain ⟨lb, lt⟩ := h.len hi
    have hw : IntKind.i64.wrap ((offR p x : Int) + n) = ((offR p x + n.toNat : Nat) : Int) := by rw [i64_in (by omega) (by omega)]; omega
    refine ⟨_, _, he, _, ptr_nil (by kernel_rfl) _ _ _, cnd_false rfl (Deref_some rfl ⟨_, _, _, hq.cell (i := 3) rfl, ?_⟩)⟩
    rw [hw, Int.toNat_natCast, Int.toNat_natCast, reslice_at (by omega), show offR p x + n.toNat - offR p x = n.toNat by omega]
    refine ⟨by omega, by omega, by omega, h2.text hi hk ⟨_, rfl, Deref_some rfl ⟨_, _, _, hq.cell (i := 4) rfl, by omega, by omega, by omega, ?_⟩⟩⟩
    have lts : ((p.ts.drop (offR p x)).take n.toNat).length = n.toNat := by rw [List.length_take, List.length_drop]; omega
    have hrow : ∃ ad, (if offR p x + n.toNat = offR p x then some ⟨tb, off i, none⟩ else some ⟨tb, off i + offR p x, none⟩ : Option Addr) = some ad ∧ ERow boT w2 (some ad) ((p.ts.drop (offR p x)).take n.toNat) := by
      by_cases h0 : n.toNat = 0
      · refine ⟨⟨tb, off i, none⟩, by rw [if_pos (by omega)], ?_⟩
        rw [h0, List.take_zero]
        exact ERow.nil _ _
      · exact ⟨⟨tb, off i + offR p x, none⟩, by rw [if_neg (by omega)], h2.taintsAt hi _ _⟩
    rw [reslice_at (by omega)]
    obtain ⟨ad, ea, hrow⟩ := hrow
    rw [ea]
    have := mem_Clone_ok (c := n.toNat) hrow (by rw [lts]; omega)
    rw [lts] at this
    refine this.mono fun e w3 ⟨b, c', he, g3, ho⟩ => ⟨_, _, _, he, g2.trans g3, b, c', ?_, ?_⟩
    · rw [eL]
      show _ = Ending.returned (.tuple #[_, .slice b ((p.ts.drop (offR p x)).take n.toNat).length c', _])
      rw [lts]
    · rw [eL]
      exact ho.weak (Later.size g2)
/-! ### Regions -/
theorem cell_heap {w : World} {a : Addr} {v : Value} {b : Nat} (h : a.block ≠ b) : (w.setCell a v).heap[b]? = w.heap[b]? := by
  simp [World.setCell, Array.getElem?_modify, h]
theorem OwnS.turn {B : Nat} {w0 w w' : World} {e : TypeId} {size : Nat} {b : Option Addr} {bn bc n : Nat} {xs : List Value} (h : OwnS w0 w e size (.slice b bn bc) n xs) (ht : Turn B w w') : OwnS w0 w' e size (.slice b bn bc) n xs := by
  refine h.kept fun k hk => ?_
  obtain ⟨_, h | ⟨g, cap, cur, h2, h3, h4, h5⟩⟩ := h
  · obtain ⟨hb, _⟩ := h
    cases hb
    cases hk
  · cases h2
    simp only [rowB, Option.map_some, Option.some.injEq] at hk
    subst hk
    rw [h4]
    exact ht.keep _ _ h4 (.inr rfl)
set_option maxHeartbeats 3200000 in
theorem mem_Regions_ok {a b mb : Nat} {st : List Pt} (hne : 0 < st.length) {w0 : World} (hM : MemAt w0 a b mb st) :
    Calls Try.prog sacristy_mem_Mem_Regions.N #[.pointer (some ⟨mb, 0, none⟩)] w0 fun e w' => ∃ B c, e = .returned (.slice B st.length c) ∧ Later w0 w' ∧ OwnE regT w0 w' 42 B c (st.map (·.r)) := by
  obtain ⟨pb, q, off, bb, tb, BB, TB, h⟩ := hM
  refine sacristy_mem_Mem_Regions.calls ?_
  unfold sacristy_mem_Mem_Regions.vc
  intro w1 h1
  have L := (Trk.start w0).alloc h1
  refine (mem_each_ok _ w1).mono fun e w5 ⟨he, g5, hb⟩ => ⟨_, he, ?_⟩
  have L5 := L.later g5
  have s05 : w0.heap.size ≤ w5.heap.size := L5.to.size
  have h5 := h.later L5.to
  have hst := h.ok
  have hqlt : ∀ i, i < st.length → q i < w0.heap.size := fun i hi => (h.pt i _ (List.getElem?_eq_getElem hi)).lt
  have hml : mb < w0.heap.size := by obtain ⟨c, hm⟩ := h.hm; exact hm.lt
  have hpl : pb < w0.heap.size := lt_of_cell (h.ptr 0 hne)
  have e01 : w0.heap.size < w1.heap.size := by rw [h1]; simp
  let I : List (Fin st.length) → World → Prop := fun pre W => w5.heap.size ≤ W.heap.size ∧ ∃ B c, Trk w0 W [(w0.heap.size, [.slice B pre.length c])] ∧ OwnE regT w5 W 42 B c (pre.map fun k => (st.get k).r) ∧ Has W w1.heap.size [.pointer (some ⟨mb, 0, none⟩)]
  refine fn_intro (cnd_true (by kernel_rfl) ⟨rfl, (⟨st.length, fun k => [.pointer (some ⟨q k.1, 0, none⟩)], fun k => k = w1.heap.size ∨ k = mb ∨ k = pb, I,
      fun pre W => False, fun y vs W => vs = [.pointer (some ⟨q y.1, 0, none⟩)],
      each_iter ⟨hne, by have := hst.1; omega⟩ _ hb h5.ptrs, fun k hk => ?_,
      fun s W W' ⟨e0, B, c, e1, e2, e3⟩ ht => ⟨Nat.le_trans e0 ht.size, B, c, ht.trk s05 e1, OwnS.turn e2 ht, ht.has e3⟩,
      fun s W W' h ht => h,
      fun vs y W W' e1 ht => e1,
      ⟨Nat.le_refl _, none, 0, L5, OwnE.nil _ _ _, hb⟩⟩ : Rounds Try.prog sacristy_mem_Mem_each_1.N #[.pointer (some ⟨w1.heap.size, 0, none⟩)] w5), ?_, ?_, ?_, ?_, ?_⟩)
  · rcases hk with rfl | rfl | rfl
    · exact hb.lt
    · exact Nat.lt_of_lt_of_le hml s05
    · exact Nat.lt_of_lt_of_le hpl s05
  · intro y; rfl
  · rintro s11 pre y W hx' hI
    exact ⟨keepsFrom_later (Later.refl _), fun k _ => rfl, hI, hx'.symm⟩
  · rintro s11 pre y hy hlen g p W ⟨⟨s5W, B, c, LW, oW, hcW⟩, hMd⟩
    simp only [List.cons.injEq, Value.pointer.injEq, and_true] at hMd
    subst hMd
    have hW := h.later LW.to
    have hpt := hW.pt y.1 _ (getFin y)
    have hpre : pre.length < st.length := hlen
    have hBne : rowB B ≠ some w0.heap.size := fun hk => by have := (oW.lt hk).1; have := hb.lt; omega
    have hql := hqlt y.1 y.2
    have hBq : rowB B ≠ some (q y.1) := fun hk => by have := (oW.lt hk).1; omega
    refine ⟨fun W' => Has W' w0.heap.size [.slice B pre.length c] ∧ Has W' (q y.1) (ptC (st.get y) bb tb (off y.1)), fun W' hl' => ⟨(LW.has 0 rfl).later hl', hpt.later hl'⟩, fun W2 g2 => ?_⟩
    refine ⟨B, pre.length, c, fun W' hC => hC.1.cell rfl, Deref_some rfl ⟨(st.get y).r.f, (st.get y).r.s, (st.get y).r.k, fun W' hC => ⟨hC.2.cell rfl, hC.2.cell (i := 1) rfl, hC.2.cell (i := 2) rfl, trivial⟩, fun W3 e3 => ?_⟩⟩
    have g3 : Later W2 W3 := e3 ▸ Later.alloc' _ _
    refine ⟨⟨(LW.has 0 rfl).later (g2.trans g3), hpt.later (g2.trans g3)⟩, ?_⟩
    have hlm : (pre.map fun k => (st.get k).r).length = pre.length := by simp
    have hn16 := hst.1
    have s52 : w5.heap.size ≤ W2.heap.size := Nat.le_trans s5W (Later.size g2)
    have push := fun (K : Value → World → Prop) => OwnE.pushG (K := K) (P := Try.prog) (T := regT) (t := 22) (e := 42) (bytes := 24) (w0 := w5) (w := W2) (w1 := W3) (b := B) (c := c) (l := pre.map fun k => (st.get k).r) 22 rtReg (st.get y).r (OwnS.later oW g2) s52 (by rw [hlm]; simp [maxLen]; omega) (by rw [hlm]; omega) (cs := #[.int .u64 (st.get y).r.f, .int .u64 (st.get y).r.s, .int .u8 (st.get y).r.k]) e3 rfl
    rw [hlm] at push
    have hB2 := (LW.has 0 rfl).later g2
    have hq2 := hpt.later g2
    refine push _ fun b' c' W4 ho hbut hne4 => ⟨_, _, _, rfl, ⟨hbut.has hB2 hBne, hbut.has hq2 hBq⟩, ?_⟩
    have hlen' : ((pre.map fun k => (st.get k).r) ++ [(st.get y).r]).length = (pre ++ [y]).length := by simp
    have L2 := LW.later g2
    have L4 : Trk w0 W4 [(w0.heap.size, [.slice B pre.length c])] := ⟨⟨hbut.os.trans (show Below _ _ _ from L2.to).os, hbut.tape.trans (show Below _ _ _ from L2.to).tape, hbut.output.trans (show Below _ _ _ from L2.to).output, Nat.le_trans (Later.size L2.to) hbut.size, fun k hk => by
        rw [hbut.keep k (Nat.lt_of_lt_of_le hk (Later.size L2.to)) fun hBk => by have := (oW.lt hBk).1; omega]
        exact Later.block L2.to hk⟩, fun x hx => by
      obtain rfl : x = (w0.heap.size, [.slice B pre.length c]) := by simpa using hx
      exact ⟨Nat.le_refl _, hbut.has hB2 hBne⟩, by simp⟩
    refine L4.set1E 0 rfl (by simp) fun W5 e5 L5 => ⟨?_, ?_, Nat.le_trans s52 (Nat.le_trans hbut.size (by rw [e5]; simp [World.setCell])), b', c', ?_, ?_, ?_⟩
    · have k4 : KeepsFrom w5.heap.size W2 W4 := ⟨hbut.size, fun k o hk hko hoc => by
        rw [hbut.keep k (Array.getElem?_eq_some_iff.1 hko).1 fun hBk => by have := OwnE.isCells (OwnS.later oW g2) hBk hko; rw [hoc] at this; cases this]
        exact hko⟩
      rw [e5]
      exact ((keepsFrom_later g2).trans k4).trans (keepsFrom_setCell _ _ _ _)
    · intro k hk
      have hk5 : k < w5.heap.size ∧ k ≠ w0.heap.size := by
        have := hb.lt
        rcases hk with rfl | rfl | rfl <;> omega
      have hk1 : k < W.heap.size := Nat.lt_of_lt_of_le hk5.1 s5W
      rw [e5]
      have e1 : (W4.setCell ⟨w0.heap.size, 0, none⟩ (.slice b' ((pre.map fun k => (st.get k).r) ++ [(st.get y).r]).length c')).heap[k]? = W4.heap[k]? := cell_heap fun e => hk5.2 e.symm
      rw [e1, hbut.keep k (Nat.lt_of_lt_of_le hk1 (Later.size g2)) fun hBk => by have := (oW.lt hBk).1; omega]
      exact Later.block g2 hk1
    · rw [← hlen']
      exact L5
    · rw [List.map_append]
      refine OwnS.kept ho fun k hk => ?_
      rw [e5]
      exact cell_heap fun e => hne4 _ hB2.lt hBne (by rw [hk]; exact congrArg some e.symm)
    · rw [e5]
      exact (hbut.has (hcW.later g2) fun hBk => by have := (oW.lt hBk).1; have := hb.lt; omega).set_other (by omega) _ _
  · rintro D W hD ⟨s5W, B, c, LW, oW, hcW⟩ hd
    have hBne : rowB B ≠ some w0.heap.size := fun hk => by have := (oW.lt hk).1; have := hb.lt; omega
    refine ⟨_, _, _, LW.cell 0 rfl rfl, LW.set1E 0 rfl (by simp) fun W2 e2 M => ?_⟩
    have hd3 : W2.heap[D]? = some (.deferred (some [])) := by
      have k : KeepsFrom w5.heap.size W W2 := by rw [e2]; exact keepsFrom_setCell _ _ _ _
      exact k.same D _ hD hd rfl
    refine ⟨hd3, fun W4 e4 => ?_⟩
    have ht := turn_putObj (o' := .deferred none) hd3 rfl hD
    have M : Trk w0 W4 _ := ht.trk s05 M |> fun h => e4 ▸ h
    refine ⟨_, _, _, M.cell 0 rfl rfl, B, c, ?_, M.to, ?_⟩
    · rw [List.length_finRange]
    · have o2 : OwnE regT w5 W2 42 B c ((List.finRange st.length).map fun k => (st.get k).r) := OwnS.kept oW fun k hk => by rw [e2]; exact cell_heap fun e => hBne (by rw [hk]; exact congrArg some e.symm)
      have o4 := OwnS.turn o2 ht
      rw [← e4] at o4
      have em : (List.finRange st.length).map (fun k => (st.get k).r) = st.map (·.r) := by
        apply List.ext_getElem?
        intro j
        rw [List.getElem?_map, List.getElem?_map]
        by_cases hj : j < st.length
        · rw [List.getElem?_eq_getElem (by simpa using hj), List.getElem?_eq_getElem hj]
          simp
        · rw [List.getElem?_eq_none (by simpa using hj), List.getElem?_eq_none (by omega)]
          rfl
      have hlen : (st.map (·.r)).length = st.length := by simp
      rw [em] at o4
      exact o4.weak s05
  · rintro D pre W hD hpre hF hd
    exact hF.elim
end Go.Proofs.Ytngkifnknlginaa
