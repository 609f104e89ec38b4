/-
Rows of elements of some cells each, whatever they are: handed in, or own; grown, copied, written.
Conditions: each theorem's hypotheses.
-/
import Derived.Test.YtngkifnknlginaaVcGrow
import Derived.Deep.Upon
namespace Go.Vc
open Go.RowKit
set_option linter.unusedVariables false
set_option linter.unusedSimpArgs false
set_option linter.unnecessarySimpa false

theorem addr_add_add (a : Addr) (i j : Nat) : (a.add i).add j = a.add (i + j) := by
  unfold Addr.add
  by_cases hi : i = 0
  · subst hi; simp
  · by_cases hj : j = 0
    · subst hj; simp
    · rw [if_neg hi, if_neg hj, if_neg (by omega)]
      simp only [Nat.add_assoc]
theorem addr_add_zero (a : Addr) : a.add 0 = a := by simp [Addr.add]
/-- What an element is in cells. -/
structure ElT (α : Type) where
  sz : Nat
  pos : 0 < sz
  enc : α → List Value
  len : ∀ a, (enc a).length = sz
  one : ∀ a, ∀ u ∈ enc a, u.oneCell' = true
section
variable {α : Type} (T : ElT α)
def rowC (l : List α) : List Value := l.flatMap T.enc
theorem rowC_cons (m : α) (l : List α) : rowC T (m :: l) = T.enc m ++ rowC T l := by simp [rowC]
theorem rowC_append (l k : List α) : rowC T (l ++ k) = rowC T l ++ rowC T k := by simp [rowC]
theorem rowC_one (m : α) : rowC T [m] = T.enc m := by simp [rowC]
theorem rowC_length : ∀ l : List α, (rowC T l).length = l.length * T.sz
  | [] => by simp [rowC]
  | m :: l => by rw [rowC_cons, List.length_append, rowC_length l, T.len, List.length_cons, Nat.add_mul]; omega
theorem rowC_get : ∀ (l : List α) (i j : Nat) (m : α), l[i]? = some m → j < T.sz → (rowC T l)[i * T.sz + j]? = (T.enc m)[j]?
  | [], i, j, m, h, _ => by simp at h
  | x :: l, 0, j, m, h, hj => by
    obtain rfl : x = m := by simpa using h
    rw [rowC_cons, List.getElem?_append_left (by rw [T.len]; omega)]
    congr 1; omega
  | x :: l, i + 1, j, m, h, hj => by
    have e : (i + 1) * T.sz + j = T.sz + (i * T.sz + j) := by rw [Nat.add_mul]; omega
    rw [rowC_cons, e, List.getElem?_append_right (by rw [T.len]; omega), T.len, show T.sz + (i * T.sz + j) - T.sz = i * T.sz + j by omega]
    exact rowC_get l i j m (by simpa using h) hj
theorem rowC_all (l : List α) : ∀ u ∈ rowC T l, u.oneCell' = true := by
  intro u hu
  obtain ⟨m, _, hm⟩ := List.mem_flatMap.1 hu
  exact T.one m u hm
/-- A row's elements stand there. -/
def ERow (w : World) (A : Option Addr) (l : List α) : Prop := ∀ i m, l[i]? = some m → ∃ ad, A = some ad ∧ ∀ j v, (T.enc m)[j]? = some v → w.cell? ((ad.add (i * T.sz)).add j) = some v
variable {T}
theorem ERow.later {w w' : World} {A : Option Addr} {l : List α} (h : ERow T w A l) (hl : Later w w') : ERow T w' A l := by
  intro i m hi
  obtain ⟨ad, h1, h2⟩ := h i m hi
  exact ⟨ad, h1, fun j v hv => hl.cell_some (h2 j v hv)⟩
theorem ERow.nil (w : World) (A : Option Addr) : ERow T w A [] := fun i m h => by simp at h
theorem ERow.addr {w : World} {A : Option Addr} {l : List α} (h : ERow T w A l) (hl : 0 < l.length) : ∃ ad, A = some ad := by
  obtain ⟨ad, h1, _⟩ := h 0 _ (List.getElem?_eq_getElem hl)
  exact ⟨ad, h1⟩
theorem ERow.front {w : World} {ad : Addr} {l : List α} (h : ERow T w (some ad) l) (k : Nat) : CellsAt w ad 0 (rowC T (l.take k)) := by
  have hp := T.pos
  refine CellsAt_of_get fun j u hj => ?_
  have hjl : j < (rowC T (l.take k)).length := (List.getElem?_eq_some_iff.1 hj).1
  rw [rowC_length] at hjl
  have hq : j / T.sz < (l.take k).length := (Nat.div_lt_iff_lt_mul hp).2 hjl
  have e1 := List.getElem?_eq_getElem hq
  have e2 := rowC_get T (l.take k) (j / T.sz) (j % T.sz) _ e1 (Nat.mod_lt _ hp)
  rw [show j / T.sz * T.sz + j % T.sz = j by rw [Nat.mul_comm]; exact Nat.div_add_mod j T.sz, hj] at e2
  have e3 : l[j / T.sz]? = some (l.take k)[j / T.sz] := by
    rw [List.getElem?_take] at e1
    split at e1
    · exact e1
    · cases e1
  obtain ⟨ae, hae, hc⟩ := h _ _ e3
  obtain rfl := Option.some.inj hae
  have := hc (j % T.sz) u e2.symm
  rw [addr_add_add, show j / T.sz * T.sz + j % T.sz = j by rw [Nat.mul_comm]; exact Nat.div_add_mod j T.sz] at this
  rw [Nat.zero_add]; exact this
theorem ERow.drop {w : World} {ad : Addr} {l : List α} (h : ERow T w (some ad) l) (k : Nat) : ERow T w (some (ad.add (k * T.sz))) (l.drop k) := by
  intro i m hi
  rw [List.getElem?_drop] at hi
  obtain ⟨ae, hae, hc⟩ := h _ _ hi
  obtain rfl := Option.some.inj hae
  refine ⟨_, rfl, fun j v hv => ?_⟩
  have := hc j v hv
  rw [Nat.add_mul, addr_add_add, Nat.add_assoc] at this
  rw [addr_add_add, addr_add_add]
  exact this
theorem ERow.all {w : World} {ad : Addr} {l : List α} (h : ERow T w (some ad) l) : CellsAt w ad 0 (rowC T l) := by
  have := h.front l.length
  rwa [List.take_length] at this
theorem Has.erow {w : World} {k : Nat} {l : List α} (h : Has w k (rowC T l)) : ERow T w (some ⟨k, 0, none⟩) l := by
  intro i m hi
  refine ⟨_, rfl, fun j v hv => ?_⟩
  have hj : j < T.sz := by rw [← T.len m]; exact (List.getElem?_eq_some_iff.1 hv).1
  rw [addr_add_add, add_block, Nat.zero_add]
  exact h.cell (by rw [rowC_get T l i j m hi hj]; exact hv)
/-- A row that the call made. -/
abbrev OwnE (T : ElT α) (w0 w : World) (e : TypeId) (b : Option Addr) (c : Nat) (l : List α) : Prop := OwnS w0 w e T.sz (.slice b l.length c) l.length (rowC T l)
theorem OwnE.row {w0 w : World} {e : TypeId} {b : Option Addr} {c : Nat} {l : List α} (h : OwnE T w0 w e b c l) : ERow T w b l := by
  intro i m hi
  have hil : i < l.length := (List.getElem?_eq_some_iff.1 hi).1
  obtain ⟨g, rfl, -⟩ := h.split (by omega)
  refine ⟨_, rfl, fun j v hv => ?_⟩
  have hj : j < T.sz := by rw [← T.len m]; exact (List.getElem?_eq_some_iff.1 hv).1
  have hc := CellsAt_get h.cells (i * T.sz + j) v (by rw [rowC_get T l i j m hi hj]; exact hv)
  rw [Nat.zero_add] at hc
  rw [addr_add_add]; exact hc
theorem OwnE.nil (w0 w : World) (e : TypeId) : OwnE T w0 w e none 0 [] := ⟨by simp [rowC], .inl ⟨rfl, rfl⟩⟩
theorem OwnE.cap {w0 w : World} {e : TypeId} {b : Option Addr} {c : Nat} {l : List α} (h : OwnE T w0 w e b c l) : l.length ≤ c := by
  obtain ⟨_, h | ⟨g, cap, cur, h2, h3, h4, h5, _⟩⟩ := h
  · omega
  · cases h2; exact h5
/-- Some are appended. -/
theorem OwnE.append {P : Program} {t e : TypeId} {bytes : Nat} (ty : TypeId) (hT : RowTy P t e T.sz bytes) {w0 w : World} {b : Option Addr} {c : Nat} {l news : List α} {a : Addr} {c2 : Nat} (hown : OwnE T w0 w e b c l) (hl : Later w0 w) (hb : l.length + news.length ≤ maxLen) (hby : (l.length + news.length) * bytes ≤ 140737488355328)
    (hc : CellsAt w a 0 (rowC T news)) {K : Value → World → Prop}
    (hK : ∀ b' c' w', OwnE T w0 w' e b' c' (l ++ news) → Later w0 w' → (∀ k, k < w.heap.size → rowB b ≠ some k → w'.heap[k]? = w.heap[k]? ∧ rowB b' ≠ some k) → K (.slice b' (l ++ news).length c') w') :
    RunsV P (Builtin.append_ #[t, t] ty #[.slice b l.length c, .slice (some a) news.length c2]) w K := by
  refine RunsV_append_apart ty hT hown hl (m := news.length) (news := rowC T news) (rowC_length T _) hc (rowC_all T _) hb hby ?_
  intro p pn pc w' ho hl' hk
  obtain rfl := ho.len
  rw [← rowC_append, ← List.length_append] at ho
  rw [← List.length_append]
  exact hK _ _ _ ho hl' hk
/-- One is appended, that was laid as a block. -/
theorem OwnE.push {P : Program} {t e : TypeId} {bytes : Nat} (ty : TypeId) (hT : RowTy P t e T.sz bytes) {w0 w w1 : World} {b : Option Addr} {c : Nat} {l : List α} (m : α) (hown : OwnE T w0 w e b c l) (hl : Later w0 w) (hb : l.length + 1 ≤ maxLen) (hby : (l.length + 1) * bytes ≤ 140737488355328)
    {cs : Array Value} (e1 : w1 = w.alloc (.cells cs e)) (hcs : cs.toList = T.enc m) {K : Value → World → Prop}
    (hK : ∀ b' c' w', OwnE T w0 w' e b' c' (l ++ [m]) → Later w0 w' → (∀ k, k < w.heap.size → rowB b ≠ some k → w'.heap[k]? = w.heap[k]? ∧ rowB b' ≠ some k) → K (.slice b' (l ++ [m]).length c') w') :
    RunsV P (Builtin.append_ #[t, t] ty #[.slice b l.length c, .slice (some ⟨w.heap.size, 0, none⟩) 1 1]) w1 K := by
  subst e1
  have hcells : CellsAt (w.alloc (.cells cs e)) ⟨w.heap.size, 0, none⟩ 0 (rowC T [m]) := by
    rw [rowC_one, ← hcs]
    exact CellsAt_new' w e (0, 0) cs
  have := OwnE.append (news := [m]) (c2 := 1) ty hT (hown.alloc (.cells cs e)) (hl.alloc _) hb hby hcells (K := K) fun b' c' w' ho hl' hk => hK b' c' w' ho hl' fun k hk1 hk2 => by
    obtain ⟨h1, h2⟩ := hk k (Nat.lt_of_lt_of_le hk1 (Later.size (Later.alloc' w _))) hk2
    exact ⟨h1.trans (Later.block (Later.alloc' w _) hk1), h2⟩
  exact this
/-- A copy of what is there. -/
theorem ERow.copy {P : Program} {t e : TypeId} {bytes : Nat} (ty : TypeId) (hT : RowTy P t e T.sz bytes) {A : Option Addr} {cap : Nat} {l : List α} {w : World} (hn : l.length ≤ maxLen) (hby : l.length * bytes ≤ 140737488355328) (hR : ERow T w A l) {K : Value → World → Prop}
    (hK : ∀ b c w', OwnE T w w' e b c l → Later w w' → K (.slice b l.length c) w') :
    RunsV P (Builtin.append_ #[t, t] ty #[.slice none 0 0, .slice A l.length cap]) w K := by
  cases A with
  | none =>
    have : l = [] := by
      cases l with
      | nil => rfl
      | cons m l => obtain ⟨ad, he, _⟩ := hR 0 m rfl; cases he
    subst this
    obtain ⟨i, z, hi, hz, hs, hby, hzs⟩ := hT.info
    refine RunsV_of (v := .slice none 0 0) (w' := w) ?_ (hK none 0 w (OwnE.nil _ _ _) (Below.refl _ _))
    exact run_append_nothing w _ _ _ _ i hT.under hi none 0 0 (Nat.le_refl 0) (.slice none 0 cap) ⟨.inl ⟨_, hT.under⟩, fun w' => by simp [Builtin.lenOf], by simp [Builtin.firstCells], by simp [Builtin.firstCells], by simp, by simp⟩
  | some ad =>
    refine OwnE.append (w0 := w) (b := none) (c := 0) (l := []) ty hT (OwnE.nil _ _ _) (Later.refl w) (by simpa using hn) (by simpa using hby) hR.all fun b c w' ho hl _ => ?_
    rw [List.nil_append] at ho ⊢
    exact hK b c w' ho hl
/-- A full row that lies anywhere is grown: a new one. -/
theorem OwnE.grow {P : Program} {t e : TypeId} {bytes : Nat} (ty : TypeId) (hT : RowTy P t e T.sz bytes) {w0 w : World} (hl : Later w0 w) {a b : Addr} {l news : List α} {sCap c2 : Nat} (ho : CellsAt w b 0 (rowC T l)) (hc : CellsAt w a 0 (rowC T news)) (hg : sCap < l.length + news.length)
    (hb : l.length + news.length ≤ maxLen) (hby : (l.length + news.length) * bytes ≤ 140737488355328) {K : Value → World → Prop}
    (hK : ∀ b' c' w', OwnE T w0 w' e b' c' (l ++ news) → Later w w' → K (.slice b' (l ++ news).length c') w') :
    RunsV P (Builtin.append_ #[t, t] ty #[.slice (some b) l.length sCap, .slice (some a) news.length c2]) w K := by
  obtain ⟨i, z, hi, hz, hs, hby', hzs⟩ := hT.info
  have hge := grownCap_ge w (l.length + news.length) sCap e
  have hcm : grownCap w (l.length + news.length) sCap e ≤ maxLen := grownCap_le_maxLen w _ sCap e hb
  have hfit : Builtin.nextslicecap (l.length + news.length) sCap * i.bytes ≤ 281474976710656 := by
    have h1 := Nat.mul_le_mul_right i.bytes (nextslicecap_le hg)
    rw [hby'] at h1 ⊢
    rw [Nat.mul_assoc] at h1
    omega
  have hrun := run_append_grow w t ty e i z hT.under hi hz b l.length sCap (rowC T l) (by rw [rowC_length, hs]) (fun j v hv => by have := CellsAt_get ho j v hv; rwa [Nat.zero_add] at this)
    a news.length c2 (rowC T news) (by rw [rowC_length, hs]) (fun j v hv => by have := CellsAt_get hc j v hv; rwa [Nat.zero_add] at this) hg (by simp only [maxLen] at hb; omega) hfit
  have hlw : Later w (w.drew.alloc (.cells ((rowC T l).toArray ++ (rowC T news).toArray ++ Builtin.zeroCells z.cells (grownCap w (l.length + news.length) sCap e - (l.length + news.length))) e)) := ((Below.refl _ w).drew).alloc (Nat.le_refl _) _
  refine RunsV_of hrun ?_
  rw [← List.length_append] at hge hcm hlw ⊢
  have hlen : (rowC T (l ++ news)).length = (l ++ news).length * T.sz := rowC_length T _
  refine hK _ _ _ ⟨hlen, .inr ⟨w.heap.size, _, _, rfl, Later.size hl, heap_alloc_new w.drew _, hge, hcm, ?_, ?_⟩⟩ hlw
  · simp only [Array.size_append, List.size_toArray, size_zeroCells, hzs, rowC_length]
    rw [← Nat.add_mul, ← Nat.add_mul, ← List.length_append]
    congr 1
    omega
  · simp only [Array.toList_append]
    rw [rowC_append] at hlen ⊢
    rw [← hlen]
    exact List.take_left' rfl
/-- A block that was laid just now is a row. -/
theorem OwnE.new {w0 w w1 : World} {e : TypeId} (hl : Later w0 w) {cs : Array Value} (e1 : w1 = w.alloc (.cells cs e)) {l : List α} (hcs : cs.toList = rowC T l) (hb : l.length ≤ maxLen) : OwnE T w0 w1 e (some ⟨w.heap.size, 0, none⟩) l.length l := by
  subst e1
  refine ⟨rowC_length T _, .inr ⟨w.heap.size, l.length, cs, rfl, Later.size hl, heap_alloc_new w _, Nat.le_refl _, hb, ?_, ?_⟩⟩
  · have := congrArg List.length hcs
    rw [rowC_length] at this
    simpa using this
  · rw [hcs, List.take_of_length_le (by rw [rowC_length]; omega)]
end
end Go.Vc
