/-
The reference's memory: New.
Conditions: each theorem's hypotheses.
-/
import Derived.Test.YtngkifnknlginaaRefC
namespace Go.Proofs.Ytngkifnknlginaa
open Go Go.Vc Go.RowKit
set_option linter.unusedVariables false
set_option linter.unusedSimpArgs false
set_option linter.unnecessarySimpa false
set_option linter.unusedSectionVars false
set_option maxRecDepth 100000

def slT : ElT (Nat × Nat) := ⟨1, by decide, fun e => [.slice (some ⟨e.1, 0, none⟩) e.2 e.2], fun _ => rfl, fun a u hu => by rw [List.mem_singleton.1 hu]; rfl⟩
theorem rtBB : RowTy Try.prog 76 60 1 24 := RowTy.of (.slice none 0 0) (by kernel_rfl) (by kernel_rfl) rfl (by decide)
theorem rtTT : RowTy Try.prog 77 43 1 24 := RowTy.of (.slice none 0 0) (by kernel_rfl) (by kernel_rfl) rfl (by decide)
structure RBld (w w3 : World) (l : List Reg) (rb lb cL : Nat) (W : World) (iB iT : Nat) (PB : Option Addr) (cB : Nat) (PT : Option Addr) (cT : Nat) (eB eT : List (Nat × Nat)) : Prop where
  trk : Trk w W [(rb, [.slice (some ⟨lb, 0, none⟩) l.length cL, .slice PB iB cB, .slice PT iT cT])]
  L : ERow regT W (some ⟨lb, 0, none⟩) l
  lbr : w.heap.size ≤ lb ∧ lb < w3.heap.size ∧ lb ≠ rb ∧ rb < w3.heap.size
  ownB : OwnE slT w3 W 60 PB cB eB
  ownT : OwnE slT w3 W 43 PT cT eT
  lenB : eB.length = iB
  lenT : eT.length = iT
  prtB : ∀ (j : Nat) (e : Nat × Nat) (x : Reg), eB[j]? = some e → l[j]? = some x → e.2 = x.s.toNat ∧ Has W e.1 (u8c (List.replicate x.s.toNat 0))
  prtT : ∀ (j : Nat) (e : Nat × Nat) (x : Reg), eT[j]? = some e → l[j]? = some x → e.2 = x.s.toNat ∧ Has W e.1 (boc (List.replicate x.s.toNat false))
  ltB : ∀ e ∈ eB, e.1 < W.heap.size
  ltT : ∀ e ∈ eT, e.1 < W.heap.size
  nod : (eB.map (·.1) ++ eT.map (·.1)).Nodup
  geB : ∀ e ∈ eB, w3.heap.size ≤ e.1 ∧ rowB PB ≠ some e.1 ∧ rowB PT ≠ some e.1
  geT : ∀ e ∈ eT, w3.heap.size ≤ e.1 ∧ rowB PB ≠ some e.1 ∧ rowB PT ≠ some e.1
  ne : ∀ k, rowB PB = some k → rowB PT = some k → False
  le : w3.heap.size ≤ W.heap.size
theorem RBld.stepB {w w3 : World} {l : List Reg} {rb lb cL : Nat} {W : World} {iB iT : Nat} {PB : Option Addr} {cB : Nat} {PT : Option Addr} {cT : Nat} {eB eT : List (Nat × Nat)} (h : RBld w w3 l rb lb cL W iB iT PB cB PT cT eB eT) {x : Reg} (hx : l[eB.length]? = some x)
    {W4 W6 W7 : World} {b : Nat} (g4 : Later W W4) (hb : Has W4 b (u8c (List.replicate x.s.toNat 0))) (hbW : W.heap.size ≤ b) {P' : Option Addr} {c' : Nat} (ho : OwnE slT w3 W6 60 P' c' (eB ++ [(b, x.s.toNat)])) (hbut : But (fun k => rowB PB = some k) W4 W6) (hne : ∀ k, k < W4.heap.size → rowB PB ≠ some k → rowB P' ≠ some k)
    (e7 : W7 = W6.setCell ⟨rb, 1, none⟩ (.slice P' (eB ++ [(b, x.s.toNat)]).length c')) : RBld w w3 l rb lb cL W7 (eB ++ [(b, x.s.toNat)]).length iT P' c' PT cT (eB ++ [(b, x.s.toNat)]) eT := by
  have hw3 : w.heap.size ≤ w3.heap.size := by have := h.lbr; omega
  have sB : ∀ k, rowB PB = some k → w3.heap.size ≤ k ∧ k < W.heap.size := fun k hk => h.ownB.lt hk
  have sT : ∀ k, rowB PT = some k → w3.heap.size ≤ k ∧ k < W.heap.size := fun k hk => h.ownT.lt hk
  have sP : ∀ k, rowB P' = some k → w3.heap.size ≤ k := fun k hk => (ho.lt hk).1
  have s4 := Later.size g4
  have s6 := hbut.size
  have e67 : W7.heap.size = W6.heap.size := by rw [e7]; simp [World.setCell]
  have hrb := h.lbr.2.2.2
  -- a block that is neither the row's nor rb's
  have keep : ∀ {k : Nat} {cs : List Value}, Has W4 k cs → rowB PB ≠ some k → k ≠ rb → Has W7 k cs := fun hk hn hr => Has.setE (hbut.has hk hn) hr e7
  have L4 := h.trk.later g4
  have L6 : Trk w W6 _ := L4.but hbut (fun k hk => by have := sB k hk; omega) (fun y hy => by
    obtain rfl : y = _ := by simpa using hy
    intro hk
    have := sB _ hk
    omega)
  have L7 := L6.setCell (i := 1) 0 (.slice P' (eB ++ [(b, x.s.toNat)]).length c') rfl
  rw [← e7] at L7
  refine ⟨L7, ?_, h.lbr, ?_, ?_, rfl, h.lenT, ?_, ?_, ?_, ?_, ?_, ?_, ?_, ?_, by have := h.le; omega⟩
  · refine erow_kept h.L fun hl => ?_
    rw [e7, cell_heap (by show rb ≠ lb; exact fun e => h.lbr.2.2.1 e.symm), hbut.keep lb (by omega) fun hk => by have := sB _ hk; have := h.lbr; omega]
    exact Later.block g4 hl
  · exact OwnS.kept ho fun k hk => by rw [e7]; exact cell_heap (by have := sP k hk; show rb ≠ k; omega)
  · refine OwnS.kept (OwnS.later h.ownT g4) fun k hk => ?_
    rw [e7, cell_heap (by have := sT k hk; show rb ≠ k; omega)]
    exact hbut.keep k (by have := sT k hk; omega) fun hk2 => h.ne k hk2 hk
  · intro j e y hj hy
    rw [List.getElem?_append] at hj
    split at hj
    · obtain ⟨q1, q2⟩ := h.prtB j e y hj hy
      have ge := h.geB e (List.mem_of_getElem? hj)
      exact ⟨q1, keep (q2.later g4) ge.2.1 (by omega)⟩
    · have hjj : j = eB.length := by
        have := (List.getElem?_eq_some_iff.1 hj).1
        simp at this
        omega
      subst hjj
      rw [hx] at hy
      obtain rfl := Option.some.inj hy
      obtain rfl : (b, x.s.toNat) = e := by simpa using hj
      exact ⟨rfl, keep hb (fun hk => by have := sB _ hk; omega) (by show b ≠ rb; have := h.le; omega)⟩
  · intro j e y hj hy
    obtain ⟨q1, q2⟩ := h.prtT j e y hj hy
    have ge := h.geT e (List.mem_of_getElem? hj)
    exact ⟨q1, keep (q2.later g4) ge.2.1 (by omega)⟩
  · intro e he
    rcases List.mem_append.1 he with he | he
    · have := h.ltB e he
      omega
    · obtain rfl : e = (b, x.s.toNat) := by simpa using he
      have := hb.lt
      show b < _
      omega
  · intro e he
    have := h.ltT e he
    omega
  · have hn := h.nod
    rw [List.map_append, List.map_cons, List.map_nil, List.append_assoc]
    rw [List.nodup_append] at hn ⊢
    obtain ⟨n1, n2, n3⟩ := hn
    refine ⟨n1, ?_, ?_⟩
    · rw [List.cons_append, List.nil_append, List.nodup_cons]
      refine ⟨fun hm => ?_, n2⟩
      obtain ⟨e, he, e1⟩ := List.mem_map.1 hm
      have := h.ltT e he
      omega
    · intro y hy z hz
      rcases List.mem_cons.1 hz with rfl | hz
      · obtain ⟨e, he, rfl⟩ := List.mem_map.1 hy
        have := h.ltB e he
        omega
      · exact n3 y hy z hz
  · intro e he
    rcases List.mem_append.1 he with he | he
    · have ge := h.geB e he
      have lt := h.ltB e he
      exact ⟨ge.1, hne _ (by omega) ge.2.1, ge.2.2⟩
    · obtain rfl : e = (b, x.s.toNat) := by simpa using he
      exact ⟨by have := h.le; show _ ≤ b; omega, hne b hb.lt fun hk => by have := sB _ hk; omega, fun hk => by have := sT _ hk; simp only at this; omega⟩
  · intro e he
    have ge := h.geT e he
    have lt := h.ltT e he
    exact ⟨ge.1, hne _ (by omega) ge.2.1, ge.2.2⟩
  · intro k h1 h2
    have := sT k h2
    exact hne k (by omega) (fun hk => h.ne k hk h2) h1
theorem RBld.stepT {w w3 : World} {l : List Reg} {rb lb cL : Nat} {W : World} {iB iT : Nat} {PB : Option Addr} {cB : Nat} {PT : Option Addr} {cT : Nat} {eB eT : List (Nat × Nat)} (h : RBld w w3 l rb lb cL W iB iT PB cB PT cT eB eT) {x : Reg} (hx : l[eT.length]? = some x)
    {W4 W6 W7 : World} {b : Nat} (g4 : Later W W4) (hb : Has W4 b (boc (List.replicate x.s.toNat false))) (hbW : W.heap.size ≤ b) {P' : Option Addr} {c' : Nat} (ho : OwnE slT w3 W6 43 P' c' (eT ++ [(b, x.s.toNat)])) (hbut : But (fun k => rowB PT = some k) W4 W6) (hne : ∀ k, k < W4.heap.size → rowB PT ≠ some k → rowB P' ≠ some k)
    (e7 : W7 = W6.setCell ⟨rb, 2, none⟩ (.slice P' (eT ++ [(b, x.s.toNat)]).length c')) : RBld w w3 l rb lb cL W7 iB (eT ++ [(b, x.s.toNat)]).length PB cB P' c' eB (eT ++ [(b, x.s.toNat)]) := by
  have hw3 : w.heap.size ≤ w3.heap.size := by have := h.lbr; omega
  have sB : ∀ k, rowB PB = some k → w3.heap.size ≤ k ∧ k < W.heap.size := fun k hk => h.ownB.lt hk
  have sT : ∀ k, rowB PT = some k → w3.heap.size ≤ k ∧ k < W.heap.size := fun k hk => h.ownT.lt hk
  have sP : ∀ k, rowB P' = some k → w3.heap.size ≤ k := fun k hk => (ho.lt hk).1
  have s4 := Later.size g4
  have s6 := hbut.size
  have e67 : W7.heap.size = W6.heap.size := by rw [e7]; simp [World.setCell]
  have hrb := h.lbr.2.2.2
  have keep : ∀ {k : Nat} {cs : List Value}, Has W4 k cs → rowB PT ≠ some k → k ≠ rb → Has W7 k cs := fun hk hn hr => Has.setE (hbut.has hk hn) hr e7
  have L4 := h.trk.later g4
  have L6 : Trk w W6 _ := L4.but hbut (fun k hk => by have := sT k hk; omega) (fun y hy => by
    obtain rfl : y = _ := by simpa using hy
    intro hk
    have := sT _ hk
    omega)
  have L7 := L6.setCell (i := 2) 0 (.slice P' (eT ++ [(b, x.s.toNat)]).length c') rfl
  rw [← e7] at L7
  refine ⟨L7, ?_, h.lbr, ?_, ?_, h.lenB, rfl, ?_, ?_, ?_, ?_, ?_, ?_, ?_, ?_, by have := h.le; omega⟩
  · refine erow_kept h.L fun hl => ?_
    rw [e7, cell_heap (by show rb ≠ lb; exact fun e => h.lbr.2.2.1 e.symm), hbut.keep lb (by omega) fun hk => by have := sT _ hk; have := h.lbr; omega]
    exact Later.block g4 hl
  · refine OwnS.kept (OwnS.later h.ownB g4) fun k hk => ?_
    rw [e7, cell_heap (by have := sB k hk; show rb ≠ k; omega)]
    exact hbut.keep k (by have := sB k hk; omega) fun hk2 => h.ne k hk hk2
  · exact OwnS.kept ho fun k hk => by rw [e7]; exact cell_heap (by have := sP k hk; show rb ≠ k; omega)
  · intro j e y hj hy
    obtain ⟨q1, q2⟩ := h.prtB j e y hj hy
    have ge := h.geB e (List.mem_of_getElem? hj)
    exact ⟨q1, keep (q2.later g4) ge.2.2 (by omega)⟩
  · intro j e y hj hy
    rw [List.getElem?_append] at hj
    split at hj
    · obtain ⟨q1, q2⟩ := h.prtT j e y hj hy
      have ge := h.geT e (List.mem_of_getElem? hj)
      exact ⟨q1, keep (q2.later g4) ge.2.2 (by omega)⟩
    · have hjj : j = eT.length := by
        have := (List.getElem?_eq_some_iff.1 hj).1
        simp at this
        omega
      subst hjj
      rw [hx] at hy
      obtain rfl := Option.some.inj hy
      obtain rfl : (b, x.s.toNat) = e := by simpa using hj
      exact ⟨rfl, keep hb (fun hk => by have := sT _ hk; omega) (by show b ≠ rb; have := h.le; omega)⟩
  · intro e he
    have := h.ltB e he
    omega
  · intro e he
    rcases List.mem_append.1 he with he | he
    · have := h.ltT e he
      omega
    · obtain rfl : e = (b, x.s.toNat) := by simpa using he
      have := hb.lt
      show b < _
      omega
  · have hn := h.nod
    rw [List.map_append, List.map_cons, List.map_nil]
    rw [List.nodup_append] at hn ⊢
    obtain ⟨n1, n2, n3⟩ := hn
    refine ⟨n1, ?_, ?_⟩
    · rw [List.nodup_append]
      refine ⟨n2, by simp, fun y hy z hz => ?_⟩
      obtain rfl : z = b := by simpa using hz
      obtain ⟨e, he, rfl⟩ := List.mem_map.1 hy
      have := h.ltT e he
      omega
    · intro y hy z hz
      rcases List.mem_append.1 hz with hz | hz
      · exact n3 y hy z hz
      · obtain rfl : z = b := by simpa using hz
        obtain ⟨e, he, rfl⟩ := List.mem_map.1 hy
        have := h.ltB e he
        omega
  · intro e he
    have ge := h.geB e he
    have lt := h.ltB e he
    exact ⟨ge.1, ge.2.1, hne _ (by omega) ge.2.2⟩
  · intro e he
    rcases List.mem_append.1 he with he | he
    · have ge := h.geT e he
      have lt := h.ltT e he
      exact ⟨ge.1, ge.2.1, hne _ (by omega) ge.2.2⟩
    · obtain rfl : e = (b, x.s.toNat) := by simpa using he
      exact ⟨by have := h.le; show _ ≤ b; omega, fun hk => by have := sB _ hk; simp only at this; omega, hne b hb.lt fun hk => by have := sT _ hk; omega⟩
  · intro k h1 h2
    have := sB k h1
    exact hne k (by omega) (fun hk => h.ne k h1 hk) h2
theorem RBld.done {w w3 : World} {l : List Reg} {rb lb cL : Nat} {W : World} {PB : Option Addr} {cB : Nat} {PT : Option Addr} {cT : Nat} {eB eT : List (Nat × Nat)} (h : RBld w w3 l rb lb cL W l.length l.length PB cB PT cT eB eT) (hl : RegsIn l) (hm : mayL l = true) : RefAt W w.heap.size W.heap.size rb (newM l) := by
  have hm' := hm
  simp only [mayL, Bool.and_eq_true, decide_eq_true_eq] at hm'
  obtain ⟨⟨n1, n16⟩, hok⟩ := hm'
  have lB := h.lenB
  have lT := h.lenT
  obtain ⟨gB, rfl, -⟩ := h.ownB.split (by omega)
  obtain ⟨gT, rfl, -⟩ := h.ownT.split (by omega)
  have hgB := h.ownB.lt (k := gB) rfl
  have hgT := h.ownT.lt (k := gT) rfl
  have hnl : (newM l).length = l.length := by simp [newM]
  have hget : ∀ (i : Nat) (p : Pt), (newM l)[i]? = some p → ∃ x, l[i]? = some x ∧ p = newP x := by
    intro i p hi
    simp only [newM, List.getElem?_map, Option.map_eq_some_iff] at hi
    obtain ⟨x, hx, rfl⟩ := hi
    exact ⟨x, hx, rfl⟩
  have qB : ∀ i, i < l.length → ∃ e, eB[i]? = some e ∧ eB.getD i (0, 0) = e := by
    intro i hi
    have : i < eB.length := by omega
    exact ⟨eB[i], List.getElem?_eq_getElem this, by rw [List.getD_eq_getElem?_getD, List.getElem?_eq_getElem this]; rfl⟩
  have qT : ∀ i, i < l.length → ∃ e, eT[i]? = some e ∧ eT.getD i (0, 0) = e := by
    intro i hi
    have : i < eT.length := by omega
    exact ⟨eT[i], List.getElem?_eq_getElem this, by rw [List.getD_eq_getElem?_getD, List.getElem?_eq_getElem this]; rfl⟩
  have hrb := h.trk.has 0 rfl
  have grb := (h.trk.2.1 _ (List.mem_of_getElem? (i := 0) rfl)).1
  have hlb := h.lbr
  have hle := h.le
  have hn := h.nod
  rw [List.nodup_append] at hn
  obtain ⟨nB, nT, nX⟩ := hn
  refine ⟨lb, gB, gT, fun i => (eB.getD i (0, 0)).1, fun i => (eT.getD i (0, 0)).1, ⟨newM_ok hl hm, ⟨grb, hrb.lt⟩, ⟨hlb.1, by omega⟩, ⟨by omega, hgB.2⟩, ⟨by omega, hgT.2⟩, ?_, ⟨cL, cB, cT, by rw [hnl]; exact hrb⟩, ?_, ?_, ?_, ?_, ?_, ?_, ?_, ?_⟩⟩
  · intro i hi
    rw [hnl] at hi
    obtain ⟨e, h1, h2⟩ := qB i hi
    obtain ⟨f, h3, h4⟩ := qT i hi
    rw [h2, h4]
    have m1 := List.mem_of_getElem? h1
    have m2 := List.mem_of_getElem? h3
    have a1 := h.geB e m1
    have a2 := h.ltB e m1
    have a3 := h.geT f m2
    have a4 := h.ltT f m2
    omega
  · have : (newM l).map (·.r) = l := by
      simp only [newM, List.map_map]
      conv => rhs; rw [← List.map_id l]
      rfl
    rw [this]
    exact h.L
  · intro i p hi
    obtain ⟨x, hx, rfl⟩ := hget i p hi
    obtain ⟨e, h1, h2⟩ := qB i (List.getElem?_eq_some_iff.1 hx).1
    obtain ⟨ad, ha, hc⟩ := h.ownB.row i e h1
    obtain rfl := Option.some.inj ha
    have := hc 0 _ rfl
    rw [addr_add_zero, add_block, Nat.zero_add] at this
    have e1 : i * slT.sz = i := Nat.mul_one i
    rw [e1] at this
    rw [h2]
    have e2 := (h.prtB i e x h1 hx).1
    have e3 : (newP x).bs.length = x.s.toNat := by simp [newP]
    rw [e3, ← e2]
    exact this
  · intro i p hi
    obtain ⟨x, hx, rfl⟩ := hget i p hi
    obtain ⟨e, h1, h2⟩ := qT i (List.getElem?_eq_some_iff.1 hx).1
    obtain ⟨ad, ha, hc⟩ := h.ownT.row i e h1
    obtain rfl := Option.some.inj ha
    have := hc 0 _ rfl
    rw [addr_add_zero, add_block, Nat.zero_add] at this
    have e1 : i * slT.sz = i := Nat.mul_one i
    rw [e1] at this
    rw [h2]
    have e2 := (h.prtT i e x h1 hx).1
    have e3 : (newP x).ts.length = x.s.toNat := by simp [newP]
    rw [e3, ← e2]
    exact this
  · intro i p hi
    obtain ⟨x, hx, rfl⟩ := hget i p hi
    obtain ⟨e, h1, h2⟩ := qB i (List.getElem?_eq_some_iff.1 hx).1
    rw [h2]
    exact (h.prtB i e x h1 hx).2
  · intro i p hi
    obtain ⟨x, hx, rfl⟩ := hget i p hi
    obtain ⟨e, h1, h2⟩ := qT i (List.getElem?_eq_some_iff.1 hx).1
    rw [h2]
    exact (h.prtT i e x h1 hx).2
  · intro i j hi hj hij
    rw [hnl] at hi hj
    obtain ⟨e, h1, h2⟩ := qB i hi
    obtain ⟨f, h3, h4⟩ := qB j hj
    obtain ⟨e', h1', h2'⟩ := qT i hi
    obtain ⟨f', h3', h4'⟩ := qT j hj
    rw [h2, h4, h2', h4']
    refine ⟨fun he => hij ?_, fun he => hij ?_⟩
    · have a1 : (eB.map (·.1))[i]? = some e.1 := by rw [List.getElem?_map, h1]; rfl
      have a2 : (eB.map (·.1))[j]? = some e.1 := by rw [List.getElem?_map, h3, he]; rfl
      exact (List.getElem?_inj (List.getElem?_eq_some_iff.1 a1).1 nB).1 (a1.trans a2.symm)
    · have a1 : (eT.map (·.1))[i]? = some e'.1 := by rw [List.getElem?_map, h1']; rfl
      have a2 : (eT.map (·.1))[j]? = some e'.1 := by rw [List.getElem?_map, h3', he]; rfl
      exact (List.getElem?_inj (List.getElem?_eq_some_iff.1 a1).1 nT).1 (a1.trans a2.symm)
  · intro i j hi hj
    rw [hnl] at hi hj
    obtain ⟨e, h1, h2⟩ := qB i hi
    obtain ⟨f, h3, h4⟩ := qT j hj
    rw [h2, h4]
    exact nX _ (List.mem_map_of_mem (List.mem_of_getElem? h1)) _ (List.mem_map_of_mem (List.mem_of_getElem? h3))
  · intro i hi
    rw [hnl] at hi
    obtain ⟨e, h1, h2⟩ := qB i hi
    obtain ⟨f, h3, h4⟩ := qT i hi
    rw [h2, h4]
    have a1 := h.geB e (List.mem_of_getElem? h1)
    have a3 := h.geT f (List.mem_of_getElem? h3)
    refine ⟨⟨by omega, by omega, fun he => a1.2.1 (by rw [he]; rfl), fun he => a1.2.2 (by rw [he]; rfl)⟩, ⟨by omega, by omega, fun he => a3.2.1 (by rw [he]; rfl), fun he => a3.2.2 (by rw [he]; rfl)⟩⟩
/-- What the reference's New leaves. -/
def RNewR (l : List Reg) (w : World) (e : Ending) (w' : World) : Prop := Later w w' ∧ ((mayL l = true ∧ ∃ rb, e = .returned (.tuple #[.pointer (some ⟨rb, 0, none⟩), i64v 0]) ∧ RefAt w' w.heap.size w'.heap.size rb (newM l)) ∨ (mayL l = false ∧ e = .returned (.tuple #[.pointer none, i64v 2])))
set_option maxHeartbeats 6400000 in
theorem ref_New_ok {l : List Reg} (hl : RegsIn l) {A : Option Addr} {c : Nat} (hlen : l.length < 9223372036854775808) {w : World} (hr : ERow regT w A l) : Calls Try.prog ref04_New.N #[.slice A l.length c] w (RNewR l w) := by
  refine ref04_New.calls ?_
  unfold ref04_New.vc
  refine (ref04_May_ok hl hlen hr).mono fun e w1 ⟨he, g1⟩ => ⟨_, he, cnd_of (fun hb => ?_) fun hb => ?_⟩
  · exact ⟨g1, .inr ⟨by simpa using hb, rfl⟩⟩
  have hmay : mayL l = true := by simpa using hb
  have hm' := hmay
  simp only [mayL, Bool.and_eq_true, decide_eq_true_eq] at hm'
  obtain ⟨⟨n1, n16⟩, hok⟩ := hm'
  have each : ∀ (i : Nat) (y : Reg), l[i]? = some y → mayR y = true := fun i y hy => (okUpto_all hok hy).1
  refine ERow.copy (T := regT) 22 rtReg (by simp only [maxLen]; omega) (by omega) (hr.later g1) fun PL cL w2 hL g2 => ⟨_, _, _, rfl, fun w3 h3 => ?_⟩
  obtain ⟨lb, rfl, -⟩ := hL.split (by omega)
  have hlb := hL.lt (k := lb) rfl
  have s1 := Later.size g1
  have L3 := (Trk.here (g1.trans g2)).alloc h3
  have s23 : w2.heap.size < w3.heap.size := (L3.has 0 rfl).lt
  have B0 : RBld w w3 l w2.heap.size lb cL w3 0 0 none 0 none 0 [] [] := ⟨L3, (hL.row).later (h3 ▸ Later.alloc' _ _), ⟨by omega, by omega, by omega, s23⟩, OwnE.nil _ _ _, OwnE.nil _ _ _, rfl, rfl, by simp, by simp, by simp, by simp, by simp, by simp, by simp, by simp, Nat.le_refl _⟩
  refine ⟨fun vs W => ∃ (PB : Option Addr) (cB : Nat) (PT : Option Addr) (cT : Nat) (eB eT : List (Nat × Nat)), eB.length ≤ l.length ∧ eB.length = eT.length ∧ vs = [i64v eB.length] ∧ RBld w w3 l w2.heap.size lb cL W eB.length eT.length PB cB PT cT eB eT, fun vs _ => match vs with | [.int _ m] => l.length - m.toNat | _ => 0,
    ⟨none, 0, none, 0, [], [], by simp, rfl, rfl, B0⟩, ?_⟩
  rintro g i W ⟨PB, cB, PT, cT, eB, eT, hk, heq, hvs, B⟩
  simp only [List.cons.injEq, Value.int.injEq, true_and, and_true] at hvs
  subst hvs
  refine cnd_of (fun h => ?_) fun h => ?_
  · have hlt : eB.length < l.length := by simp only [decide_eq_true_eq] at h; omega
    have hg := List.getElem?_eq_getElem hlt
    generalize l[eB.length] = x at hg
    have m := mayR_facts (each _ x hg)
    have hgT : l[eT.length]? = some x := by rw [← heq]; exact hg
    have sB : ∀ k, rowB PB = some k → w3.heap.size ≤ k ∧ k < W.heap.size := fun k hk => B.ownB.lt hk
    have sT : ∀ k, rowB PT = some k → w3.heap.size ≤ k ∧ k < W.heap.size := fun k hk => B.ownT.lt hk
    have hle := B.le
    have sww : w.heap.size ≤ w3.heap.size := Later.size L3.to
    obtain ⟨ad, rfl, c0, c1, c2, -⟩ := reg_cells hr hg
    have hw1 : IntKind.i64.wrap x.s = ((x.s.toNat : Nat) : Int) := by rw [i64_in (by omega) (by omega)]; omega
    refine ⟨fun W' => Has W' w2.heap.size [.slice (some ⟨lb, 0, none⟩) l.length cL, .slice PB eB.length cB, .slice PT eT.length cT] ∧ Later w W', fun W' hl' => ⟨(B.trk.has 0 rfl).later hl', B.trk.to.trans hl'⟩, fun W3 g3 => ?_⟩
    refine ⟨PB, eB.length, cB, fun W' hC => hC.1.cell (i := 1) rfl, by omega, Deref_some rfl ⟨x.s, fun W' hC => hC.2.cell_some c1, ?_⟩⟩
    rw [hw1]
    refine RunsV_makeSlice (e := 5) (size := 1) (bytes := 1) (.int .u8 0) (by kernel_rfl) (by kernel_rfl) rfl (by decide) (by decide) (by omega) fun b W4 eb g4 hb => ⟨_, _, _, rfl, ⟨(B.trk.has 0 rfl).later (g3.trans g4), (B.trk.to.trans g3).trans g4⟩, fun W5 h5 => ⟨⟨(B.trk.has 0 rfl).later ((g3.trans g4).trans (h5 ▸ Later.alloc' _ _)), ((B.trk.to.trans g3).trans g4).trans (h5 ▸ Later.alloc' _ _)⟩, ?_⟩⟩
    have hb' : Has W4 b (u8c (List.replicate x.s.toNat 0)) := by
      have e : repL (Value.int .u8 0).cells.toList x.s.toNat = u8c (List.replicate x.s.toNat 0) := by
        show repL [Value.int .u8 0] _ = _
        rw [repL_one]
        simp [u8c]
      rw [← e]
      exact hb
    refine OwnE.pushG (T := slT) (w0 := w3) (w := W4) (w1 := W5) (l := eB) 76 rtBB (b, x.s.toNat) (OwnS.later B.ownB (g3.trans g4)) (by have := Later.size (g3.trans g4); omega) (by simp [maxLen]; omega) (by omega) (cs := #[.slice (some ⟨b, 0, none⟩) x.s.toNat x.s.toNat]) h5 rfl fun P' c' W6 ho hbut hne => ⟨_, _, _, rfl, ?_⟩
    have hrb6 : Has W6 w2.heap.size [.slice (some ⟨lb, 0, none⟩) l.length cL, .slice PB eB.length cB, .slice PT eT.length cT] := hbut.has ((B.trk.has 0 rfl).later (g3.trans g4)) fun hk => by have := sB _ hk; omega
    refine ⟨⟨hrb6, hbut.later ((B.trk.to.trans g3).trans g4) fun k hk => by have := sB k hk; omega⟩, ⟨by rw [hrb6.cell (i := 1) rfl]; rfl, hrb6.frozen _⟩, fun W7 h7 => ?_⟩
    have B7 := B.stepB hg (g3.trans g4) hb' (by rw [eb]; exact Later.size g3) ho hbut hne h7
    have hL7 : (eB ++ [(b, x.s.toNat)]).length = eB.length + 1 := by simp
    have sB7 : ∀ k, rowB P' = some k → w3.heap.size ≤ k ∧ k < W7.heap.size := fun k hk => B7.ownB.lt hk
    have sT7 : ∀ k, rowB PT = some k → w3.heap.size ≤ k ∧ k < W7.heap.size := fun k hk => B7.ownT.lt hk
    refine ⟨fun W' => Has W' w2.heap.size [.slice (some ⟨lb, 0, none⟩) l.length cL, .slice P' (eB ++ [(b, x.s.toNat)]).length c', .slice PT eT.length cT] ∧ Later w W', fun W' hl' => ⟨(B7.trk.has 0 rfl).later hl', B7.trk.to.trans hl'⟩, fun W8 g8 => ?_⟩
    refine ⟨PT, eT.length, cT, fun W' hC => hC.1.cell (i := 2) rfl, by omega, Deref_some rfl ⟨x.s, fun W' hC => hC.2.cell_some c1, ?_⟩⟩
    rw [hw1]
    refine RunsV_makeSlice (e := 4) (size := 1) (bytes := 1) (.bool false) (by kernel_rfl) (by kernel_rfl) rfl (by decide) (by decide) (by omega) fun b2 W9 eb2 g9 hb2 => ⟨_, _, _, rfl, ⟨(B7.trk.has 0 rfl).later (g8.trans g9), (B7.trk.to.trans g8).trans g9⟩, fun W10 h10 => ⟨⟨(B7.trk.has 0 rfl).later ((g8.trans g9).trans (h10 ▸ Later.alloc' _ _)), ((B7.trk.to.trans g8).trans g9).trans (h10 ▸ Later.alloc' _ _)⟩, ?_⟩⟩
    have hb2' : Has W9 b2 (boc (List.replicate x.s.toNat false)) := by
      have e : repL (Value.bool false).cells.toList x.s.toNat = boc (List.replicate x.s.toNat false) := by
        show repL [Value.bool false] _ = _
        rw [repL_one]
        simp [boc]
      rw [← e]
      exact hb2
    have hle7 := B7.le
    refine OwnE.pushG (T := slT) (w0 := w3) (w := W9) (w1 := W10) (l := eT) 77 rtTT (b2, x.s.toNat) (OwnS.later B7.ownT (g8.trans g9)) (by have := Later.size (g8.trans g9); omega) (by simp [maxLen]; omega) (by omega) (cs := #[.slice (some ⟨b2, 0, none⟩) x.s.toNat x.s.toNat]) h10 rfl fun P2 c2' W11 ho2 hbut2 hne2 => ⟨_, _, _, rfl, ?_⟩
    have hrb11 : Has W11 w2.heap.size [.slice (some ⟨lb, 0, none⟩) l.length cL, .slice P' (eB ++ [(b, x.s.toNat)]).length c', .slice PT eT.length cT] := hbut2.has ((B7.trk.has 0 rfl).later (g8.trans g9)) fun hk => by have := sT7 _ hk; omega
    refine ⟨⟨hrb11, hbut2.later ((B7.trk.to.trans g8).trans g9) fun k hk => by have := sT7 k hk; omega⟩, ⟨by rw [hrb11.cell (i := 2) rfl]; rfl, hrb11.frozen _⟩, fun W12 h12 => ?_⟩
    have B12 := B7.stepT hgT (g8.trans g9) hb2' (by rw [eb2]; exact Later.size g8) ho2 hbut2 hne2 h12
    have hw2 : IntKind.i64.wrap ((eB.length : Int) + 1) = ((eB.length + 1 : Nat) : Int) := by rw [i64_in (by omega) (by omega)]; omega
    rw [hw2]
    refine ⟨⟨P', c', P2, c2', eB ++ [(b, x.s.toNat)], eT ++ [(b2, x.s.toNat)], by rw [hL7]; omega, by simp [heq], by rw [hL7], B12⟩, by show l.length - ((eB.length + 1 : Nat) : Int).toNat < l.length - ((eB.length : Nat) : Int).toNat; omega⟩
  · have : eB.length = l.length := by simp only [decide_eq_false_iff_not] at h; omega
    rw [← heq, this] at B
    exact ⟨B.trk.to, .inl ⟨hmay, _, rfl, B.done hl hmay⟩⟩
end Go.Proofs.Ytngkifnknlginaa
