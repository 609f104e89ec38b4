/-
The contracts of package mem, sixth part: New.
Conditions: each theorem's hypotheses.
-/
import Derived.Test.YtngkifnknlginaaMemE
namespace Go.Proofs.Ytngkifnknlginaa
open Go Go.Vc Go.RowKit
set_option linter.unusedVariables false
set_option linter.unusedSimpArgs false
set_option linter.unnecessarySimpa false
set_option maxRecDepth 100000

def sumS : List Reg → Nat
  | [] => 0
  | x :: l => x.s.toNat + sumS l
theorem sumS_append : ∀ a b : List Reg, sumS (a ++ b) = sumS a + sumS b
  | [], b => by simp [sumS]
  | x :: a, b => by simp only [List.cons_append, sumS, sumS_append a b]; omega
theorem sumS_take {l : List Reg} {k : Nat} {x : Reg} (h : l[k]? = some x) : sumS (l.take (k + 1)) = sumS (l.take k) + x.s.toNat := by
  rw [List.take_add_one, h, sumS_append]
  simp [sumS]
theorem sumS_bound : ∀ {l : List Reg}, (∀ x ∈ l, x.s.toNat ≤ 1048576) → sumS l ≤ l.length * 1048576
  | [], _ => by simp [sumS]
  | x :: l, h => by
    have h1 := h x List.mem_cons_self
    have h2 := sumS_bound (l := l) fun y hy => h y (List.mem_cons_of_mem x hy)
    simp only [sumS, List.length_cons]
    omega
theorem sumS_le {l : List Reg} {i j : Nat} (h : i ≤ j) : sumS (l.take i) ≤ sumS (l.take j) := by
  have : l.take j = l.take i ++ (l.take j).drop i := by
    have := (List.take_append_drop i (l.take j)).symm
    rwa [List.take_take, Nat.min_eq_left h] at this
  rw [this, sumS_append]
  omega
theorem sumS_all (l : List Reg) (i : Nat) : sumS (l.take i) ≤ sumS l := by
  rcases Nat.le_total i l.length with h | h
  · have := sumS_le (l := l) h
    rwa [List.take_length] at this
  · rw [List.take_of_length_le h]
    exact Nat.le_refl _
def ptrT : ElT Nat := ⟨1, by decide, fun q => [.pointer (some ⟨q, 0, none⟩)], fun _ => rfl, fun a u hu => by rw [List.mem_singleton.1 hu]; rfl⟩
theorem rtPtr : RowTy Try.prog 61 64 1 8 := RowTy.of (.pointer none) (by kernel_rfl) (by kernel_rfl) rfl (by decide)
def newP (x : Reg) : Pt := ⟨x, List.replicate x.s.toNat 0, List.replicate x.s.toNat false⟩
/-- What New leaves. -/
def NewR (l : List Reg) (w : World) (e : Ending) (w' : World) : Prop := Later w w' ∧ ((mayL l = true ∧ ∃ mb, e = .returned (.tuple #[.pointer (some ⟨mb, 0, none⟩), i64v 0]) ∧ MemAt w' w.heap.size w'.heap.size mb (newM l)) ∨ (mayL l = false ∧ e = .returned (.tuple #[.pointer none, i64v 2])))
theorem new_none {l : List Reg} {w w' : World} (h : mayL l = false) (hl : Later w w') : NewR l w (.returned (.tuple #[.pointer none, i64v 2])) w' := ⟨hl, .inr ⟨h, rfl⟩⟩
/-- While parts are laid. -/
structure Bld (w w2 : World) (l : List Reg) (bb tb mb : Nat) (W : World) (i : Nat) (P : Option Addr) (c : Nat) (qs : List Nat) : Prop where
  trk : Trk w W [(bb, List.replicate (sumS l) (.int .u8 0)), (tb, List.replicate (sumS l) (.bool false)), (mb, [.slice P i c])]
  own : OwnE ptrT w2 W 64 P c qs
  len : qs.length = i
  prt : ∀ (j qj : Nat) (x : Reg), qs[j]? = some qj → l[j]? = some x → Has W qj (ptC (newP x) bb tb (sumS (l.take j)))
  qge : ∀ (j qj : Nat), qs[j]? = some qj → w2.heap.size ≤ qj ∧ rowB P ≠ some qj
  le2 : w2.heap.size ≤ W.heap.size
theorem Bld.done {w w2 : World} {l : List Reg} {bb tb mb : Nat} {W : World} {P : Option Addr} {c : Nat} {qs : List Nat} (h : Bld w w2 l bb tb mb W l.length P c qs) (hl : RegsIn l) (hm : mayL l = true) (hlt : bb < w2.heap.size ∧ tb < w2.heap.size ∧ mb < w2.heap.size) (hw2 : w.heap.size ≤ w2.heap.size) : MemAt W w.heap.size W.heap.size mb (newM l) := by
  have hm' := hm
  simp only [mayL, Bool.and_eq_true, decide_eq_true_eq] at hm'
  obtain ⟨⟨n1, n16⟩, hok⟩ := hm'
  have hlen := h.len
  obtain ⟨g, rfl, -⟩ := h.own.split (by omega)
  have hg := h.own.lt (k := g) rfl
  have hnl : (newM l).length = l.length := by simp [newM]
  have hget : ∀ (i : Nat) (p : Pt), (newM l)[i]? = some p → ∃ x, l[i]? = some x ∧ p = newP x := by
    intro i p hi
    simp only [newM, List.getElem?_map, Option.map_eq_some_iff] at hi
    obtain ⟨x, hx, rfl⟩ := hi
    exact ⟨x, hx, rfl⟩
  have hq : ∀ i, i < l.length → ∃ qi, qs[i]? = some qi ∧ qs.getD i 0 = qi := by
    intro i hi
    have : i < qs.length := by omega
    exact ⟨qs[i], List.getElem?_eq_getElem this, by rw [List.getD_eq_getElem?_getD, List.getElem?_eq_getElem this]; rfl⟩
  have hb := h.trk.has 0 rfl
  have ht := h.trk.has 1 rfl
  have hmh := h.trk.has 2 rfl
  have gb := (h.trk.2.1 _ (List.mem_of_getElem? (i := 0) rfl)).1
  have gt := (h.trk.2.1 _ (List.mem_of_getElem? (i := 1) rfl)).1
  have gm := (h.trk.2.1 _ (List.mem_of_getElem? (i := 2) rfl)).1
  have nd := h.trk.2.2
  simp only [List.map_cons, List.map_nil, List.nodup_cons, List.mem_cons, List.not_mem_nil, or_false, not_or] at nd
  have hsum : ∀ (i : Nat) (x : Reg), l[i]? = some x → sumS (l.take i) + x.s.toNat ≤ sumS l := by
    intro i x hx
    have := sumS_all l (i + 1)
    rwa [sumS_take hx] at this
  refine ⟨g, fun i => qs.getD i 0, fun i => sumS (l.take i), bb, tb, _, _, ⟨newM_ok hl hm, ⟨gm, hmh.lt⟩, ⟨by omega, hg.2⟩, ⟨gb, hb.lt⟩, ⟨gt, ht.lt⟩, ?_, ⟨c, by rw [hnl]; exact hmh⟩, ?_, ?_, hb, ht, ?_, ?_, ?_, ⟨nd.1.1, nd.1.2, by omega⟩, ⟨nd.2.1, by omega⟩, ?_⟩⟩
  · intro i hi
    rw [hnl] at hi
    obtain ⟨qi, h1, h2⟩ := hq i hi
    rw [h2]
    obtain ⟨x, hx⟩ : ∃ x, l[i]? = some x := ⟨_, List.getElem?_eq_getElem hi⟩
    exact ⟨Nat.le_trans hw2 (h.qge i qi h1).1, (h.prt i qi x h1 hx).lt⟩
  · intro i hi
    rw [hnl] at hi
    obtain ⟨qi, h1, h2⟩ := hq i hi
    obtain ⟨ad, ha, hc⟩ := h.own.row i qi h1
    obtain rfl := Option.some.inj ha
    have := hc 0 _ rfl
    rw [addr_add_zero, add_block, Nat.zero_add] at this
    rw [h2]
    have e : i * ptrT.sz = i := Nat.mul_one i
    rw [e] at this
    exact this
  · intro i p hi
    obtain ⟨x, hx, rfl⟩ := hget i p hi
    obtain ⟨qi, h1, h2⟩ := hq i (List.getElem?_eq_some_iff.1 hx).1
    rw [h2]
    exact h.prt i qi x h1 hx
  · intro i p hi
    obtain ⟨x, hx, rfl⟩ := hget i p hi
    have hs := hsum i x hx
    have hlp : (newP x).bs.length = x.s.toNat := by simp [newP]
    refine ⟨fun j v hj => ?_, by rw [hlp, List.length_replicate]; exact hs⟩
    have hjl := (List.getElem?_eq_some_iff.1 hj).1
    rw [u8c_length, hlp] at hjl
    rw [List.getElem?_replicate, if_pos (by omega)]
    have : (u8c (newP x).bs)[j]? = some (.int .u8 0) := u8c_get (by simp [newP, List.getElem?_replicate, hjl])
    rw [← this, hj]
  · intro i p hi
    obtain ⟨x, hx, rfl⟩ := hget i p hi
    have hs := hsum i x hx
    have hlp : (newP x).ts.length = x.s.toNat := by simp [newP]
    refine ⟨fun j v hj => ?_, by rw [hlp, List.length_replicate]; exact hs⟩
    have hjl := (List.getElem?_eq_some_iff.1 hj).1
    rw [boc_length, hlp] at hjl
    rw [List.getElem?_replicate, if_pos (by omega)]
    have : (boc (newP x).ts)[j]? = some (.bool false) := boc_get (by simp [newP, List.getElem?_replicate, hjl])
    rw [← this, hj]
  · intro i j p p' hij hi hj
    obtain ⟨x, hx, rfl⟩ := hget i p hi
    have hlp : (newP x).bs.length = x.s.toNat := by simp [newP]
    rw [hlp]
    have := sumS_le (l := l) (show i + 1 ≤ j by omega)
    rw [sumS_take hx] at this
    exact this
  · intro i hi
    rw [hnl] at hi
    obtain ⟨qi, h1, h2⟩ := hq i hi
    rw [h2]
    have := (h.qge i qi h1).1
    omega
set_option maxHeartbeats 6400000 in
theorem mem_New_ok {l : List Reg} (hl : RegsIn l) {A : Option Addr} {c : Nat} (hc : l.length ≤ c) (hc2 : c < 9223372036854775808) {w : World} (hr : ERow regT w A l) : Calls Try.prog mem_New.N #[.slice A l.length c] w (NewR l w) := by
  refine mem_New.calls ?_
  unfold mem_New.vc
  refine cnd_of (fun h => new_none ?_ (Later.refl _)) fun h1 => cnd_of (fun h => new_none ?_ (Later.refl _)) fun h16 => ?_
  · have : l.length < 1 := by simp only [decide_eq_true_eq] at h; omega
    rw [mayL, decide_eq_false (by omega)]
    rfl
  · have : 16 < l.length := by simp only [decide_eq_true_eq] at h; omega
    rw [mayL, decide_eq_false (by omega)]
    rfl
  have n1 : 1 ≤ l.length := by simp only [decide_eq_false_iff_not] at h1; omega
  have n16 : l.length ≤ 16 := by simp only [decide_eq_false_iff_not] at h16; omega
  have bad : okUpto [] l = false → mayL l = false := fun h => by rw [mayL, h]; simp
  refine ⟨fun vs w' => ∃ k : Nat, k ≤ l.length ∧ vs = [u64v (sumS (l.take k) : Int), i64v k] ∧ okUpto [] (l.take k) = true ∧ Later w w', fun vs _ => match vs with | [_, .int _ n] => l.length - n.toNat | _ => 0, ⟨0, by omega, rfl, rfl, Later.refl _⟩, ?_⟩
  rintro g all s23 w1 ⟨k, hk, hs, hok, g1⟩
  simp only [List.cons.injEq, Value.int.injEq, true_and, and_true] at hs
  obtain ⟨rfl, rfl⟩ := hs
  have each : ∀ (i : Nat) (y : Reg), (l.take k)[i]? = some y → mayR y = true := fun i y hy => (okUpto_all hok hy).1
  have hsz : sumS (l.take k) ≤ 16777216 := by
    have := sumS_bound (l := l.take k) fun x hx => by
      obtain ⟨i, hi⟩ := List.getElem?_of_mem hx
      have := mayR_facts (each i x hi)
      omega
    rw [List.length_take] at this
    omega
  refine cnd_of (fun h => ?_) fun h => ?_
  · have hlt : k < l.length := by simp only [decide_eq_true_eq] at h; omega
    have hg := List.getElem?_eq_getElem hlt
    generalize l[k] = x at hg
    have hx := hl k x hg
    obtain ⟨ad, rfl, hcell⟩ := reg_cells (hr.later g1) hg
    refine ⟨by omega, Deref_some rfl ⟨_, _, _, hcell, fun w2 h2 => ?_⟩⟩
    have M := (Trk.start w1).alloc h2
    refine M.setAll (l := regC x) 0 rfl rfl (by simp [Value.oneCell', regC]) fun w3 M => ?_
    refine ⟨_, _, _, ⟨M.cell 0 rfl rfl, M.cell 0 rfl rfl, M.cell 0 rfl rfl, trivial⟩, ?_⟩
    refine (mem_may_ok hx w3).mono fun e w4 ⟨he, g4⟩ => ⟨_, he, ?_⟩
    have M := M.later g4
    refine cnd_of (fun hm => new_none (bad (okUpto_bad hg (.inl (by simpa using hm)))) (g1.trans M.to)) fun hm => ⟨by omega, ?_⟩
    have hm : mayR x = true := by simpa using hm
    have m := mayR_facts hm
    have hkl : (l.take k).length = k := by rw [List.length_take]; omega
    rw [reslice_zero, show ((k : Int).toNat - 0) = (l.take k).length by rw [hkl]; omega]
    refine (mem_contains_ok (l := l.take k) hx (fun i y hy => hl i y (by rw [List.getElem?_take] at hy; split at hy; exact hy; cases hy)) hm each (by omega) (M.has 0 rfl) (fun i y hy => ?_)).mono fun e w5 ⟨he, g5⟩ => ⟨_, he, ?_⟩
    · rw [List.getElem?_take] at hy
      split at hy
      · exact (hr.later (g1.trans M.to)) i y hy
      · cases hy
    have M := M.later g5
    refine cnd_of (fun ht => new_none (bad (okUpto_bad hg (.inr ht))) (g1.trans M.to)) fun ht => ⟨_, M.cell 0 rfl rfl, ?_⟩
    have hw1 : IntKind.u64.wrap ((sumS (l.take k) : Int) + x.s) = (sumS (l.take (k + 1)) : Int) := by rw [sumS_take hg, u64_in (by omega) (by omega)]; omega
    have hw2 : IntKind.i64.wrap ((k : Int) + 1) = ((k + 1 : Nat) : Int) := by rw [i64_in (by omega) (by omega)]; omega
    show Goes _ _ _ _ [u64v (IntKind.u64.wrap ((sumS (l.take k) : Int) + x.s)), _] _
    rw [hw1, hw2]
    refine ⟨⟨k + 1, by omega, rfl, ?_, g1.trans M.to⟩, by show l.length - ((k + 1 : Nat) : Int).toNat < l.length - ((k : Nat) : Int).toNat; omega⟩
    rw [okUpto_step hg, hok, hm, ht]
    rfl
  have hkl : k = l.length := by simp only [decide_eq_false_iff_not] at h; omega
  subst hkl
  rw [List.take_length] at hok hsz each ⊢
  have hmay : mayL l = true := by rw [mayL, decide_eq_true ⟨n1, n16⟩, hok]; rfl
  refine ⟨⟨by omega, rfl, by omega, by decide, rfl, by decide⟩, fun bb hbb => ⟨⟨by omega, rfl, by omega, by decide, rfl, by decide⟩, fun tb htb w2 hG w3 h3 => ?_⟩⟩
  rw [Int.toNat_natCast, repL_one, repL_one] at hG
  obtain ⟨gG, hin, hnd⟩ := hG
  have hT := hin _ List.mem_cons_self
  have hB := hin _ (List.mem_cons_of_mem _ List.mem_cons_self)
  have hBw : Has w2 bb (List.replicate (sumS l) (.int .u8 0)) := ⟨_, hB.2⟩
  have hTw : Has w2 tb (List.replicate (sumS l) (.bool false)) := ⟨_, hT.2⟩
  simp only [List.map_cons, List.map_nil, List.nodup_cons, List.mem_cons, List.not_mem_nil, or_false, not_false_iff, List.nodup_nil, and_true] at hnd
  have s1 := Later.size g1
  have L2 : Trk w w2 [(bb, List.replicate (sumS l) (.int .u8 0)), (tb, List.replicate (sumS l) (.bool false))] := by
    refine ⟨g1.trans gG, fun x hx => ?_, by simp; exact fun e => hnd e.symm⟩
    simp only [List.mem_cons, List.not_mem_nil, or_false] at hx
    rcases hx with rfl | rfl
    · exact ⟨by show w.heap.size ≤ bb; omega, hBw⟩
    · exact ⟨by show w.heap.size ≤ tb; omega, hTw⟩
  have L3 := L2.alloc h3
  have s23 : w2.heap.size < w3.heap.size := (L3.has 2 rfl).lt
  have B0 : Bld w w3 l bb tb w2.heap.size w3 0 none 0 [] := ⟨L3, OwnE.nil _ _ _, rfl, by simp, by simp, Nat.le_refl _⟩
  have hlt3 : bb < w3.heap.size ∧ tb < w3.heap.size ∧ w2.heap.size < w3.heap.size := ⟨(L3.has 0 rfl).lt, (L3.has 1 rfl).lt, s23⟩
  refine ⟨fun vs W => ∃ (i : Nat) (a1 a2 : Addr) (P : Option Addr) (cc : Nat) (qs : List Nat), i ≤ l.length ∧ vs = [.slice (some a1) (sumS l - sumS (l.take i)) (sumS l - sumS (l.take i)), .slice (some a2) (sumS l - sumS (l.take i)) (sumS l - sumS (l.take i)), i64v i] ∧
      (sumS (l.take i) < sumS l → a1 = ⟨bb, sumS (l.take i), none⟩ ∧ a2 = ⟨tb, sumS (l.take i), none⟩) ∧ Bld w w3 l bb tb w2.heap.size W i P cc qs, fun vs _ => match vs with | [_, _, .int _ n] => l.length - n.toNat | _ => 0,
    ⟨0, _, _, none, 0, [], by omega, rfl, fun _ => ⟨rfl, rfl⟩, B0⟩, ?_⟩
  rintro g' bytes bytesn bytesc taints taintsn taintsc s51 W ⟨i, a1, a2, P, cc, qs, hi, hvs, had, B⟩
  obtain rfl : qs.length = i := B.len
  simp only [List.cons.injEq, Value.slice.injEq, Value.int.injEq, true_and, and_true] at hvs
  obtain ⟨⟨rfl, rfl, rfl⟩, ⟨rfl, rfl, rfl⟩, rfl⟩ := hvs
  refine cnd_of (fun h => ?_) fun h => ?_
  · have hlt : qs.length < l.length := by simp only [decide_eq_true_eq] at h; omega
    have hg := List.getElem?_eq_getElem hlt
    generalize l[qs.length] = x at hg
    have hx := hl _ x hg
    have m := mayR_facts (each _ x hg)
    have hst := sumS_take hg
    have hall := sumS_all l (qs.length + 1)
    obtain ⟨rfl, rfl⟩ := had (by omega)
    obtain ⟨ad, rfl, hcell⟩ := reg_cells (hr.later B.trk.to) hg
    refine ⟨by omega, Deref_some rfl ⟨_, _, _, hcell, fun W2 e2 => ?_⟩⟩
    have M := B.trk.alloc e2
    have sW := B.le2
    obtain ⟨_, hLW⟩ := ((Trk.start W).alloc e2).setAllE (K := fun w2 => Later W w2) (l := regC x) 0 rfl rfl (by simp [Value.oneCell', regC]) (fun w2 _ t => t.to)
    refine M.setAllE (l := regC x) 3 rfl rfl (by simp [Value.oneCell', regC]) fun W3 e3 M => ⟨x.s, M.cell 3 rfl rfl, ?_⟩
    have gW3 := hLW W3 e3
    refine ⟨fun W' => Has W' w2.heap.size [.slice P qs.length cc] ∧ Has W' W.heap.size (regC x), fun W' hl' => ⟨(M.has 2 rfl).later hl', (M.has 3 rfl).later hl'⟩, fun W4 g4 => ?_⟩
    have M4 := M.later g4
    refine ⟨P, qs.length, cc, fun W' hC => hC.1.cell rfl, x.f, x.s, x.k, fun W' hC => ⟨hC.2.cell rfl, hC.2.cell (i := 1) rfl, hC.2.cell (i := 2) rfl, trivial⟩, by omega, by omega, by omega, by omega, fun W5 e5 => ?_⟩
    have M5 := M4.alloc e5
    have g5 : Later W4 W5 := e5 ▸ Later.alloc' _ _
    have gW5 : Later W W5 := (gW3.trans g4).trans g5
    refine ⟨⟨M5.has 2 rfl, M5.has 3 rfl⟩, fun W6 e6 => ?_⟩
    have M6 := M5.alloc e6
    refine ⟨⟨M6.has 2 rfl, M6.has 3 rfl⟩, ?_⟩
    have sP : ∀ k, rowB P = some k → w3.heap.size ≤ k ∧ k < W.heap.size := fun k hk => B.own.lt hk
    have s4 : W.heap.size ≤ W4.heap.size := Later.size (gW3.trans g4)
    have s45 : W4.heap.size < W5.heap.size := (M5.has 4 rfl).lt
    have sw3 : w.heap.size ≤ w3.heap.size := Later.size L3.to
    refine OwnE.pushG (T := ptrT) (w0 := w3) (w := W5) (w1 := W6) (l := qs) 61 rtPtr W4.heap.size (OwnS.later B.own gW5) (by omega) (by simp [maxLen]; omega) (by omega) (cs := #[.pointer (some ⟨W4.heap.size, 0, none⟩)]) e6 rfl fun b' c' W7 ho hbut hne4 => ?_
    have M5 : Trk w W5 [(bb, _), (tb, _), (w2.heap.size, _), (W.heap.size, _), (W4.heap.size, _)] := M5
    have L7 : Trk w W7 _ := M5.but hbut (fun k hk => by have := sP k hk; omega) (fun y hy => by
      simp only [List.mem_cons, List.not_mem_nil, or_false] at hy
      intro hk
      have := sP _ hk
      rcases hy with rfl | rfl | rfl | rfl | rfl <;> simp only at this <;> omega)
    refine ⟨_, _, _, rfl, ⟨L7.has 2 rfl, L7.has 3 rfl⟩, L7.set1E 2 rfl (by simp) fun W8 e8 L8 => ⟨by omega, by omega, fun W9 g9 => ?_⟩⟩
    have hb' : ∀ k, rowB b' = some k → w3.heap.size ≤ k := fun k hk => (ho.lt hk).1
    have ho8 : OwnE ptrT w3 W8 64 b' c' (qs ++ [W4.heap.size]) := OwnS.kept ho fun k hk => by rw [e8]; exact cell_heap fun e => by have := hb' k hk; simp only at e; omega
    have s57 := hbut.size
    have e87 : W8.heap.size = W7.heap.size := by rw [e8]; simp [World.setCell]
    have hw2 : IntKind.i64.wrap ((qs.length : Int) + 1) = ((qs.length + 1 : Nat) : Int) := by rw [i64_in (by omega) (by omega)]; omega
    rw [reslice_at (by omega), reslice_at (by omega), hw2]
    have rem : sumS l - sumS (l.take qs.length) - x.s.toNat = sumS l - sumS (l.take (qs.length + 1)) := by omega
    rw [rem]
    refine ⟨⟨qs.length + 1, if sumS l - sumS (l.take qs.length) = x.s.toNat then ⟨bb, sumS (l.take qs.length), none⟩ else ⟨bb, sumS (l.take qs.length) + x.s.toNat, none⟩, if sumS l - sumS (l.take qs.length) = x.s.toNat then ⟨tb, sumS (l.take qs.length), none⟩ else ⟨tb, sumS (l.take qs.length) + x.s.toNat, none⟩, b', c', qs ++ [W4.heap.size], by omega, ?_, ?_, ?_⟩, by show l.length - ((qs.length + 1 : Nat) : Int).toNat < l.length - ((qs.length : Nat) : Int).toNat; omega⟩
    · split <;> rfl
    · intro hpos
      rw [hst] at hpos
      rw [if_neg (by omega), if_neg (by omega), hst]
      exact ⟨rfl, rfl⟩
    · have hlen' : (qs ++ [W4.heap.size]).length = qs.length + 1 := by simp
      have hxp : regC x ++ [.slice (reslice (some ⟨bb, sumS (l.take qs.length), none⟩) 0 x.s.toNat 1) (x.s.toNat - 0) (x.s.toNat - 0), .slice (reslice (some ⟨tb, sumS (l.take qs.length), none⟩) 0 x.s.toNat 1) (x.s.toNat - 0) (x.s.toNat - 0)] = ptC (newP x) bb tb (sumS (l.take qs.length)) := by
        simp [reslice_zero, ptC, newP, regC]
      refine ⟨?_, OwnS.later ho8 g9, hlen', ?_, ?_, ?_⟩
      · rw [← hlen']
        exact (Trk.front (L := [(bb, _), (tb, _), (w2.heap.size, _)]) (M := [(W.heap.size, _), (W4.heap.size, _)]) L8).later g9
      · intro j qj y hj hy
        rw [List.getElem?_append] at hj
        split at hj
        · rename_i hjl
          have q1 := B.qge j qj hj
          have p1 := (B.prt j qj y hj hy).later gW5
          have p2 := hbut.has p1 q1.2
          have p3 : Has W8 qj (ptC (newP y) bb tb (sumS (l.take j))) := p2.kept (by rw [e8]; exact cell_heap fun e => by simp only at e; omega)
          exact p3.later g9
        · rename_i hjl
          have hjj : j = qs.length := by
            have := (List.getElem?_eq_some_iff.1 hj).1
            simp at this
            omega
          subst hjj
          rw [hg] at hy
          obtain rfl := Option.some.inj hy
          obtain rfl : W4.heap.size = qj := by simpa using hj
          rw [← hxp]
          exact (L8.has 4 rfl).later g9
      · intro j qj hj
        rw [List.getElem?_append] at hj
        split at hj
        · rename_i hjl
          have q1 := B.qge j qj hj
          obtain ⟨y, hy⟩ : ∃ y, l[j]? = some y := ⟨_, List.getElem?_eq_getElem (by omega)⟩
          have := (B.prt j qj y hj hy).lt
          exact ⟨q1.1, hne4 qj (by omega) q1.2⟩
        · have hjj : j = qs.length := by
            have := (List.getElem?_eq_some_iff.1 hj).1
            simp at this
            omega
          subst hjj
          obtain rfl : W4.heap.size = qj := by simpa using hj
          exact ⟨by omega, hne4 _ s45 fun hk => by have := sP _ hk; omega⟩
      · have := Later.size g9
        omega
  · have : qs.length = l.length := by simp only [decide_eq_false_iff_not] at h; omega
    rw [this] at B
    exact ⟨B.trk.to, .inl ⟨hmay, _, rfl, B.done hl hmay hlt3 (Later.size L3.to)⟩⟩
end Go.Proofs.Ytngkifnknlginaa
