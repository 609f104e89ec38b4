/-
Memories in a world: how the program's memory lies there, how the reference's does.
Conditions: each theorem's hypotheses.
-/
import Derived.Test.YtngkifnknlginaaMemP
import Derived.Test.YtngkifnknlginaaBase
namespace Go.Proofs.Ytngkifnknlginaa
open Go Go.Vc Go.RowKit
set_option linter.unusedVariables false
set_option linter.unusedSimpArgs false
set_option linter.unnecessarySimpa false
set_option maxRecDepth 100000

def u8c (l : List Int) : List Value := l.map (Value.int .u8)
def boc (l : List Bool) : List Value := l.map Value.bool
theorem u8c_length (l : List Int) : (u8c l).length = l.length := by simp [u8c]
theorem boc_length (l : List Bool) : (boc l).length = l.length := by simp [boc]
theorem u8c_get {l : List Int} {j : Nat} {x : Int} (h : l[j]? = some x) : (u8c l)[j]? = some (.int .u8 x) := by simp [u8c, h]
theorem boc_get {l : List Bool} {j : Nat} {x : Bool} (h : l[j]? = some x) : (boc l)[j]? = some (.bool x) := by simp [boc, h]
theorem u8c_putL (B : List Int) (o : Nat) (l : List Int) : u8c (putL B o l) = putL (u8c B) o (u8c l) := by simp [u8c, putL, List.map_drop, List.map_take]
theorem boc_putL (B : List Bool) (o : Nat) (l : List Bool) : boc (putL B o l) = putL (boc B) o (boc l) := by simp [boc, putL, List.map_drop, List.map_take]
theorem boc_replicate (n : Nat) (t : Bool) : boc (List.replicate n t) = List.replicate n (.bool t) := by simp [boc]
def regC (r : Reg) : List Value := [u64v r.f, u64v r.s, .int .u8 r.k]
def ptC (p : Pt) (bb tb o : Nat) : List Value := [u64v p.r.f, u64v p.r.s, .int .u8 p.r.k, .slice (some ⟨bb, o, none⟩) p.bs.length p.bs.length, .slice (some ⟨tb, o, none⟩) p.ts.length p.ts.length]
/-- The program's memory. -/
structure MA (w : World) (a b mb pb : Nat) (q off : Nat → Nat) (bb tb : Nat) (BB TB : List Value) (st : List Pt) : Prop where
  ok : StOk st
  rm : a ≤ mb ∧ mb < b
  rp : a ≤ pb ∧ pb < b
  rB : a ≤ bb ∧ bb < b
  rT : a ≤ tb ∧ tb < b
  rq : ∀ i, i < st.length → a ≤ q i ∧ q i < b
  hm : ∃ c, Has w mb [.slice (some ⟨pb, 0, none⟩) st.length c]
  ptr : ∀ i, i < st.length → w.cell? ⟨pb, i, none⟩ = some (.pointer (some ⟨q i, 0, none⟩))
  pt : ∀ (i : Nat) (p : Pt), st[i]? = some p → Has w (q i) (ptC p bb tb (off i))
  hB : Has w bb BB
  hT : Has w tb TB
  sB : ∀ (i : Nat) (p : Pt), st[i]? = some p → Seg BB (off i) (u8c p.bs) ∧ off i + p.bs.length ≤ BB.length
  sT : ∀ (i : Nat) (p : Pt), st[i]? = some p → Seg TB (off i) (boc p.ts) ∧ off i + p.ts.length ≤ TB.length
  ap : ∀ (i j : Nat) (p q : Pt), i < j → st[i]? = some p → st[j]? = some q → off i + p.bs.length ≤ off j
  nB : bb ≠ tb ∧ bb ≠ mb ∧ bb ≠ pb
  nT : tb ≠ mb ∧ tb ≠ pb
  nq : ∀ i, i < st.length → q i ≠ bb ∧ q i ≠ tb
theorem MA.len {w : World} {a b mb pb : Nat} {q off : Nat → Nat} {bb tb : Nat} {BB TB : List Value} {st : List Pt} (h : MA w a b mb pb q off bb tb BB TB st) {i : Nat} {p : Pt} (hi : st[i]? = some p) : p.bs.length = p.r.s.toNat ∧ p.ts.length = p.r.s.toNat := ⟨(h.ok.2 i p hi).bl, (h.ok.2 i p hi).tl⟩
/-- It stays where none of its blocks is turned. -/
theorem MA.kept {w w' : World} {a b mb pb : Nat} {q off : Nat → Nat} {bb tb : Nat} {BB TB : List Value} {st : List Pt} (h : MA w a b mb pb q off bb tb BB TB st) (hk : ∀ k, a ≤ k → k < b → k < w.heap.size → w'.heap[k]? = w.heap[k]?) : MA w' a b mb pb q off bb tb BB TB st := by
  have kh : ∀ {k : Nat} {cs : List Value}, a ≤ k ∧ k < b → Has w k cs → Has w' k cs := fun r hx => hx.kept (hk _ r.1 r.2 hx.lt)
  obtain ⟨c, hm⟩ := h.hm
  exact ⟨h.ok, h.rm, h.rp, h.rB, h.rT, h.rq, ⟨c, kh h.rm hm⟩, fun i hi => by
    have hc := h.ptr i hi
    have hl := lt_of_cell hc
    simpa [World.cell?, hk _ h.rp.1 h.rp.2 hl] using hc, fun i p hi => kh (h.rq i (List.getElem?_eq_some_iff.1 hi).1) (h.pt i p hi), kh h.rB h.hB, kh h.rT h.hT, h.sB, h.sT, h.ap, h.nB, h.nT, h.nq⟩
theorem MA.later {w w' : World} {a b mb pb : Nat} {q off : Nat → Nat} {bb tb : Nat} {BB TB : List Value} {st : List Pt} (h : MA w a b mb pb q off bb tb BB TB st) (hl : Later w w') : MA w' a b mb pb q off bb tb BB TB st := h.kept fun k _ _ hk => hl.block hk
/-- A stretch of one part is written, its taints too. -/
theorem MA.lay {w w' : World} {a b mb pb : Nat} {q off : Nat → Nat} {bb tb : Nat} {BB TB : List Value} {st : List Pt} (h : MA w a b mb pb q off bb tb BB TB st) (hk : But (fun k => k = bb ∨ k = tb) w w') {i : Nat} {p : Pt} (hi : st[i]? = some p) {k : Nat} {l : List Int} {t : Bool} (hkl : k + l.length ≤ p.r.s.toNat) (hl : ∀ b ∈ l, 0 ≤ b ∧ b < 256)
    (hB : Has w' bb (putL BB (off i + k) (u8c l))) (hT : Has w' tb (putL TB (off i + k) (List.replicate l.length (.bool t)))) :
    MA w' a b mb pb q off bb tb (putL BB (off i + k) (u8c l)) (putL TB (off i + k) (List.replicate l.length (.bool t))) (layM st i p k l t) := by
  have hil : i < st.length := (List.getElem?_eq_some_iff.1 hi).1
  have hlen : (layM st i p k l t).length = st.length := by simp [layM]
  have hget : ∀ (j : Nat) (x : Pt), (layM st i p k l t)[j]? = some x → (j = i ∧ x = layP p k l t) ∨ (j ≠ i ∧ st[j]? = some x) := by
    intro j x hj
    simp only [layM, List.getElem?_set] at hj
    split at hj
    · rename_i e
      exact .inl ⟨e.symm, by simpa [hil] using hj.symm⟩
    · rename_i e
      exact .inr ⟨fun e' => e e'.symm, hj⟩
  obtain ⟨lb, lt⟩ := h.len hi
  have bl : (layP p k l t).bs.length = p.bs.length := putL_length (by rw [lb]; exact hkl)
  have tl : (layP p k l t).ts.length = p.ts.length := putL_length (by rw [lt, List.length_replicate]; exact hkl)
  have hsz : ∀ (j : Nat) (x : Pt), (layM st i p k l t)[j]? = some x → ∃ y, st[j]? = some y ∧ x.r = y.r ∧ x.bs.length = y.bs.length ∧ x.ts.length = y.ts.length := by
    intro j x hj
    rcases hget j x hj with ⟨rfl, rfl⟩ | ⟨_, hj⟩
    · exact ⟨p, hi, rfl, bl, tl⟩
    · exact ⟨x, hj, rfl, rfl, rfl⟩
  have sBi := h.sB i p hi
  have sTi := h.sT i p hi
  have fB : off i + k + (u8c l).length ≤ BB.length := by rw [u8c_length]; omega
  have fT : off i + k + (List.replicate l.length (Value.bool t)).length ≤ TB.length := by rw [List.length_replicate]; omega
  obtain ⟨c, hm⟩ := h.hm
  refine ⟨layM_ok h.ok hi hkl hl, h.rm, h.rp, h.rB, h.rT, by rw [hlen]; exact h.rq, ⟨c, ?_⟩, ?_, ?_, hB, hT, ?_, ?_, ?_, h.nB, h.nT, by rw [hlen]; exact h.nq⟩
  · rw [hlen]
    exact hk.has hm (by have := h.nB; have := h.nT; omega)
  · rw [hlen]
    intro j hj
    exact hk.cell (h.ptr j hj) (by have := h.nB; have := h.nT; show ¬ (pb = bb ∨ pb = tb); omega)
  · intro j x hj
    obtain ⟨y, hy, e1, e2, e3⟩ := hsz j x hj
    have := h.pt j y hy
    have hn := h.nq j (List.getElem?_eq_some_iff.1 hy).1
    have e : ptC x bb tb (off j) = ptC y bb tb (off j) := by simp only [ptC, e1, e2, e3]
    rw [e]
    exact hk.has this (by omega)
  · intro j x hj
    rcases hget j x hj with ⟨rfl, rfl⟩ | ⟨hne, hj⟩
    · refine ⟨?_, by rw [bl, putL_length fB]; exact sBi.2⟩
      show Seg _ _ (u8c (putL p.bs k l))
      rw [u8c_putL]
      exact sBi.1.put (by rw [u8c_length, u8c_length]; omega) (by rw [u8c_length]; exact sBi.2)
    · have sj := h.sB j x hj
      refine ⟨sj.1.other ?_ fB, by rw [putL_length fB]; exact sj.2⟩
      rw [u8c_length, u8c_length]
      rcases Nat.lt_or_ge j i with hji | hji
      · have := h.ap j i x p hji hj hi
        omega
      · have := h.ap i j p x (by omega) hi hj
        omega
  · intro j x hj
    rcases hget j x hj with ⟨rfl, rfl⟩ | ⟨hne, hj⟩
    · refine ⟨?_, by rw [tl, putL_length fT]; exact sTi.2⟩
      show Seg _ _ (boc (putL p.ts k _))
      rw [boc_putL, boc_replicate]
      exact sTi.1.put (by rw [boc_length, List.length_replicate]; omega) (by rw [boc_length]; exact sTi.2)
    · have sj := h.sT j x hj
      have lj := h.len hj
      refine ⟨sj.1.other ?_ fT, by rw [putL_length fT]; exact sj.2⟩
      rw [boc_length, List.length_replicate]
      rcases Nat.lt_or_ge j i with hji | hji
      · have := h.ap j i x p hji hj hi
        omega
      · have := h.ap i j p x (by omega) hi hj
        omega
  · intro j1 j2 x y h12 hx hy
    obtain ⟨x', hx', _, e2, _⟩ := hsz j1 x hx
    obtain ⟨y', hy', _, _, _⟩ := hsz j2 y hy
    rw [e2]
    exact h.ap j1 j2 x' y' h12 hx' hy'
/-- Where it lies, however. -/
def MemAt (w : World) (a b mb : Nat) (st : List Pt) : Prop := ∃ pb q off bb tb BB TB, MA w a b mb pb q off bb tb BB TB st
theorem MemAt.kept {w w' : World} {a b mb : Nat} {st : List Pt} (h : MemAt w a b mb st) (hk : ∀ k, a ≤ k → k < b → k < w.heap.size → w'.heap[k]? = w.heap[k]?) : MemAt w' a b mb st := by
  obtain ⟨pb, q, off, bb, tb, BB, TB, h⟩ := h
  exact ⟨pb, q, off, bb, tb, BB, TB, h.kept hk⟩
theorem MemAt.later {w w' : World} {a b mb : Nat} {st : List Pt} (h : MemAt w a b mb st) (hl : Later w w') : MemAt w' a b mb st := h.kept fun k _ _ hk => hl.block hk
theorem MemAt.ok {w : World} {a b mb : Nat} {st : List Pt} (h : MemAt w a b mb st) : StOk st := by
  obtain ⟨pb, q, off, bb, tb, BB, TB, h⟩ := h
  exact h.ok
theorem MemAt.beside {w w' : World} {a b c d mb : Nat} {st : List Pt} (h : MemAt w a b mb st) (hk : Kept c d w w') (hd : b ≤ c ∨ d ≤ a) : MemAt w' a b mb st := h.kept fun k h1 h2 h3 => hk.keep k h3 (by omega)
end Go.Proofs.Ytngkifnknlginaa
