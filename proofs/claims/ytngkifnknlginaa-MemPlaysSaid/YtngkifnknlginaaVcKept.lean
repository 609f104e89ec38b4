/-
What lies outside a stretch of blocks stays: for calls that write into blocks of their own kind.
Conditions: each theorem's hypotheses; nothing is asked of a program.
-/
import Derived.Test.YtngkifnknlginaaVcRows
import Derived.Lib.BufferWrite
namespace Go.Vc
open Go.RowKit
set_option linter.unusedVariables false
set_option linter.unusedSimpArgs false
set_option linter.unnecessarySimpa false

/-- Of the older blocks those within [a, b) alone may be turned. -/
structure Kept (a b : Nat) (w w' : World) : Prop where
  os : w'.os = w.os
  tape : w'.tape = w.tape
  output : w'.output = w.output
  size : w.heap.size ≤ w'.heap.size
  keep : ∀ k, k < w.heap.size → (k < a ∨ b ≤ k) → w'.heap[k]? = w.heap[k]?
theorem Kept.refl (a b : Nat) (w : World) : Kept a b w w := ⟨rfl, rfl, rfl, Nat.le_refl _, fun _ _ _ => rfl⟩
theorem Kept.trans {a b : Nat} {w w1 w2 : World} (h : Kept a b w w1) (k : Kept a b w1 w2) : Kept a b w w2 :=
  ⟨k.os.trans h.os, k.tape.trans h.tape, k.output.trans h.output, Nat.le_trans h.size k.size, fun i hi hn => (k.keep i (Nat.lt_of_lt_of_le hi h.size) hn).trans (h.keep i hi hn)⟩
theorem Later.kept {w w' : World} (h : Later w w') (a b : Nat) : Kept a b w w' :=
  ⟨(show Below _ _ _ from h).os, (show Below _ _ _ from h).tape, (show Below _ _ _ from h).output, (show Below _ _ _ from h).size, fun k hk _ => (show Below _ _ _ from h).block k hk⟩
theorem Kept.later {a b : Nat} {w0 w w' : World} (h : Kept a b w w') (hl : Later w0 w) (ha : w0.heap.size ≤ a) : Later w0 w' :=
  Below.trans hl ⟨h.os, h.tape, h.output, h.size, fun k hk => h.keep k (Nat.lt_of_lt_of_le hk (Later.size hl)) (.inl (Nat.lt_of_lt_of_le hk ha))⟩
theorem Kept.has {a b : Nat} {w w' : World} (h : Kept a b w w') {k : Nat} {cs : List Value} (hx : Has w k cs) (hn : k < a ∨ b ≤ k) : Has w' k cs := hx.kept (h.keep k hx.lt hn)
theorem Kept.trk {a b : Nat} {w0 w w' : World} {L : List Blk} (h : Kept a b w w') (hL : Trk w0 w L) (ha : w0.heap.size ≤ a) (hn : ∀ x ∈ L, x.1 < a ∨ b ≤ x.1) : Trk w0 w' L :=
  ⟨h.later hL.1 ha, fun x hx => ⟨(hL.2.1 x hx).1, h.has (hL.2.1 x hx).2 (hn x hx)⟩, hL.2.2⟩
theorem Kept.cell {a b : Nat} {w w' : World} (h : Kept a b w w') {p : Addr} {v : Value} (hv : w.cell? p = some v) (hn : p.block < a ∨ b ≤ p.block) : w'.cell? p = some v := by
  have hl : p.block < w.heap.size := by
    by_cases hl : p.block < w.heap.size
    · exact hl
    · have : w.heap[p.block]? = none := by simp [Nat.le_of_not_lt hl]
      simp [World.cell?, this] at hv
  simpa [World.cell?, h.keep _ hl hn] using hv
theorem Kept.setCell {a b x i : Nat} (w : World) (v : Value) (hx : a ≤ x ∧ x < b) : Kept a b w (w.setCell ⟨x, i, none⟩ v) :=
  ⟨rfl, rfl, rfl, by simp [World.setCell], fun k hk hn => by
    have : ¬ x = k := by omega
    simp [World.setCell, Array.getElem?_modify, this]⟩
theorem Kept.setRow {a b x : Nat} (w : World) (cs : Array Value) (hx : a ≤ x ∧ x < b) : Kept a b w (w.setRow x cs) :=
  ⟨rfl, rfl, rfl, by simp [World.setRow], fun k hk hn => setRow_other w x k cs (by omega)⟩
theorem Kept.wide {a b c d : Nat} {w w' : World} (h : Kept a b w w') (h1 : c ≤ a) (h2 : b ≤ d) : Kept c d w w' :=
  ⟨h.os, h.tape, h.output, h.size, fun k hk hn => h.keep k hk (by omega)⟩
theorem Has.setRow {w : World} {b : Nat} {cs : List Value} (h : Has w b cs) (ds : List Value) : Has (w.setRow b ds.toArray) b ds := by
  obtain ⟨t, h⟩ := h
  exact ⟨t, setRow_heap w b _ _ t _ h⟩

/-- Of the older blocks those of S alone may be turned. -/
structure But (S : Nat → Prop) (w w' : World) : Prop where
  os : w'.os = w.os
  tape : w'.tape = w.tape
  output : w'.output = w.output
  size : w.heap.size ≤ w'.heap.size
  keep : ∀ k, k < w.heap.size → ¬ S k → w'.heap[k]? = w.heap[k]?
theorem But.refl (S : Nat → Prop) (w : World) : But S w w := ⟨rfl, rfl, rfl, Nat.le_refl _, fun _ _ _ => rfl⟩
theorem But.trans {S : Nat → Prop} {w w1 w2 : World} (h : But S w w1) (k : But S w1 w2) : But S w w2 :=
  ⟨k.os.trans h.os, k.tape.trans h.tape, k.output.trans h.output, Nat.le_trans h.size k.size, fun i hi hn => (k.keep i (Nat.lt_of_lt_of_le hi h.size) hn).trans (h.keep i hi hn)⟩
theorem Later.but {w w' : World} (h : Later w w') (S : Nat → Prop) : But S w w' :=
  ⟨(show Below _ _ _ from h).os, (show Below _ _ _ from h).tape, (show Below _ _ _ from h).output, (show Below _ _ _ from h).size, fun k hk _ => (show Below _ _ _ from h).block k hk⟩
theorem But.kept {S : Nat → Prop} {w w' : World} (h : But S w w') {a b : Nat} (hS : ∀ k, S k → a ≤ k ∧ k < b) : Kept a b w w' :=
  ⟨h.os, h.tape, h.output, h.size, fun k hk hn => h.keep k hk fun hs => by have := hS k hs; omega⟩
theorem But.has {S : Nat → Prop} {w w' : World} (h : But S w w') {k : Nat} {cs : List Value} (hx : Has w k cs) (hn : ¬ S k) : Has w' k cs := hx.kept (h.keep k hx.lt hn)
theorem But.cell {S : Nat → Prop} {w w' : World} (h : But S w w') {p : Addr} {v : Value} (hv : w.cell? p = some v) (hn : ¬ S p.block) : w'.cell? p = some v := by
  have hl : p.block < w.heap.size := by
    by_cases hl : p.block < w.heap.size
    · exact hl
    · have : w.heap[p.block]? = none := by simp [Nat.le_of_not_lt hl]
      simp [World.cell?, this] at hv
  simpa [World.cell?, h.keep _ hl hn] using hv
theorem But.setCell {S : Nat → Prop} {x i : Nat} (w : World) (v : Value) (hx : S x) : But S w (w.setCell ⟨x, i, none⟩ v) :=
  ⟨rfl, rfl, rfl, by simp [World.setCell], fun k hk hn => by
    have : ¬ x = k := fun e => hn (e ▸ hx)
    simp [World.setCell, Array.getElem?_modify, this]⟩
theorem But.setRow {S : Nat → Prop} {x : Nat} (w : World) (cs : Array Value) (hx : S x) : But S w (w.setRow x cs) :=
  ⟨rfl, rfl, rfl, by simp [World.setRow], fun k hk hn => setRow_other w x k cs fun e => hn (e ▸ hx)⟩
theorem Later.setKept {w0 w w' : World} {a b : Nat} (hl : Later w0 w) (h : Kept a b w w') (ha : w0.heap.size ≤ a) : Later w0 w' := h.later hl ha
theorem lt_of_cell {w : World} {p : Addr} {v : Value} (hv : w.cell? p = some v) : p.block < w.heap.size := by
  by_cases hl : p.block < w.heap.size
  · exact hl
  · have : w.heap[p.block]? = none := by simp [Nat.le_of_not_lt hl]
    simp [World.cell?, this] at hv

theorem fn_intro {f : FuncId} {fi ca : Array Value} {L : FuncId → Array Value → Array Value → Prop} (h : L f fi ca) : AsFn (.func (.func f) fi ca) L := h
theorem yield_intro {l : Nat} {L : Nat → Prop} (h : L l) : AsYield (.func (.yield l) #[] #[]) L := by simpa [AsYield] using h

/-! ### a stretch of a block -/
/-- From o on these cells stand. -/
def Seg (B : List Value) (o : Nat) (l : List Value) : Prop := ∀ j v, l[j]? = some v → B[o + j]? = some v
/-- A stretch of a list, written over. -/
def putL {α : Type} (B : List α) (o : Nat) (vs : List α) : List α := B.take o ++ vs ++ B.drop (o + vs.length)
theorem putL_get {α : Type} {B : List α} {o : Nat} {vs : List α} (h : o + vs.length ≤ B.length) (x : Nat) : (putL B o vs)[x]? = if o ≤ x ∧ x < o + vs.length then vs[x - o]? else B[x]? := by
  unfold putL
  rw [List.append_assoc, List.getElem?_append]
  have ht : (B.take o).length = o := by rw [List.length_take]; omega
  rw [ht]
  by_cases h1 : x < o
  · rw [if_pos h1, if_neg (by omega), List.getElem?_take, if_pos h1]
  · rw [if_neg h1, List.getElem?_append]
    by_cases h2 : x - o < vs.length
    · rw [if_pos h2, if_pos (by omega)]
    · rw [if_neg h2, if_neg (by omega), List.getElem?_drop]
      congr 1
      omega
theorem putL_length {α : Type} {B : List α} {o : Nat} {vs : List α} (h : o + vs.length ≤ B.length) : (putL B o vs).length = B.length := by
  simp [putL]
  omega
theorem putL_nil {α : Type} (B : List α) (o : Nat) : putL B o [] = B := by simp [putL]
theorem putL_one {α : Type} {B : List α} {o : Nat} {v : α} (h : o < B.length) : putL B o [v] = B.set o v := by
  apply List.ext_getElem?
  intro x
  rw [putL_get (by simp; omega), List.getElem?_set]
  by_cases hx : o = x
  · subst hx
    rw [if_pos (by simp), if_pos rfl, if_pos h]
    simp
  · rw [if_neg (by simp; omega), if_neg hx]
theorem putL_snoc {α : Type} {B : List α} {o : Nat} {vs : List α} {v : α} (h : o + vs.length < B.length) : putL (putL B o vs) (o + vs.length) [v] = putL B o (vs ++ [v]) := by
  apply List.ext_getElem?
  intro x
  rw [putL_get (by rw [putL_length (by omega)]; simp; omega), putL_get (by omega), putL_get (by simp; omega)]
  simp only [List.length_cons, List.length_nil, List.length_append]
  by_cases h1 : o + vs.length ≤ x ∧ x < o + vs.length + (0 + 1)
  · rw [if_pos h1, if_pos (by omega), List.getElem?_append_right (by omega)]
    congr 1
    omega
  · rw [if_neg h1]
    by_cases h2 : o ≤ x ∧ x < o + vs.length
    · rw [if_pos h2, if_pos (by omega), List.getElem?_append_left (by omega)]
    · rw [if_neg h2, if_neg (by omega)]
theorem Seg.put {B : List Value} {o k : Nat} {l vs : List Value} (h : Seg B o l) (hk : k + vs.length ≤ l.length) (hB : o + l.length ≤ B.length) : Seg (putL B (o + k) vs) o (putL l k vs) := by
  intro j v hj
  rw [putL_get hk] at hj
  rw [putL_get (by omega)]
  by_cases h1 : k ≤ j ∧ j < k + vs.length
  · rw [if_pos h1] at hj
    rw [if_pos (by omega), show o + j - (o + k) = j - k by omega]
    exact hj
  · rw [if_neg h1] at hj
    rw [if_neg (by omega)]
    exact h j v hj
theorem Seg.other {B : List Value} {o k : Nat} {l vs : List Value} (h : Seg B o l) (hd : o + l.length ≤ k ∨ k + vs.length ≤ o) (hB : k + vs.length ≤ B.length) : Seg (putL B k vs) o l := by
  intro j v hj
  have hjl : j < l.length := (List.getElem?_eq_some_iff.1 hj).1
  rw [putL_get hB, if_neg (by omega)]
  exact h j v hj
/-! ### a row that grows, whatever else was turned -/
theorem RunsV_and {P : Program} {s : Sem Value} {w : World} {K1 K2 : Value → World → Prop} (h1 : RunsV P s w K1) (h2 : RunsV P s w K2) : RunsV P s w fun v w' => K1 v w' ∧ K2 v w' := by
  obtain ⟨v, w', hr, k1⟩ := RunsV_elim h1
  obtain ⟨v2, w2, hr2, k2⟩ := RunsV_elim h2
  rw [hr] at hr2
  cases hr2
  exact RunsV_of hr ⟨k1, k2⟩
/-- A world's first blocks. -/
def frontW (w : World) (n : Nat) : World := { w with heap := w.heap.extract 0 n }
theorem frontW_size {w : World} {n : Nat} (h : n ≤ w.heap.size) : (frontW w n).heap.size = n := by
  simp [frontW]
  omega
theorem frontW_later {w : World} {n : Nat} (h : n ≤ w.heap.size) : Later (frontW w n) w := by
  show Below (frontW w n).heap.size _ _
  rw [frontW_size h]
  refine ⟨rfl, rfl, rfl, by rw [frontW_size h]; exact h, fun k hk => ?_⟩
  simp [frontW, Array.getElem?_extract]
  omega
theorem OwnE.pushG {α : Type} {T : ElT α} {P : Program} {t e : TypeId} {bytes : Nat} (ty : TypeId) (hT : RowTy P t e T.sz bytes) {w0 w w1 : World} {b : Option Addr} {c : Nat} {l : List α} (m : α) (hown : OwnE T w0 w e b c l) (hs : w0.heap.size ≤ w.heap.size) (hb : l.length + 1 ≤ maxLen) (hby : (l.length + 1) * bytes ≤ 140737488355328)
    {cs : Array Value} (e1 : w1 = w.alloc (.cells cs e)) (hcs : cs.toList = T.enc m) {K : Value → World → Prop}
    (hK : ∀ b' c' w', OwnE T w0 w' e b' c' (l ++ [m]) → But (fun k => rowB b = some k) w w' → (∀ k, k < w.heap.size → rowB b ≠ some k → rowB b' ≠ some k) → K (.slice b' (l ++ [m]).length c') w') :
    RunsV P (Builtin.append_ #[t, t] ty #[.slice b l.length c, .slice (some ⟨w.heap.size, 0, none⟩) 1 1]) w1 K := by
  have hf := frontW_size hs
  have hown' : OwnE T (frontW w w0.heap.size) w e b c l := by
    show w.ownsRow (frontW w w0.heap.size).heap.size _ _ _ _ _
    rw [hf]
    exact hown
  have h1 := OwnE.push (K := fun v w' => ∃ b' c', v = .slice b' (l ++ [m]).length c' ∧ OwnE T w0 w' e b' c' (l ++ [m]) ∧ (∀ k, k < w.heap.size → rowB b ≠ some k → w'.heap[k]? = w.heap[k]? ∧ rowB b' ≠ some k)) ty hT m hown' (frontW_later hs) hb hby e1 hcs fun b' c' w' ho _ hk => ⟨b', c', rfl, by
      have : w'.ownsRow (frontW w w0.heap.size).heap.size e T.sz (.slice b' (l ++ [m]).length c') (l ++ [m]).length (rowC T (l ++ [m])) := ho
      rw [hf] at this
      exact this, hk⟩
  subst e1
  have hcells : CellsAt (w.alloc (.cells cs e)) ⟨w.heap.size, 0, none⟩ 0 (rowC T [m]) := by
    rw [rowC_one, ← hcs]
    exact CellsAt_new' w e (0, 0) cs
  have h2 := RunsV_append (K := fun v w' => (w.alloc (.cells cs e)).grownBy w' (rowB b)) ty hT (OwnS.alloc hown' (.cells cs e)) ((frontW_later hs).alloc _) (news := rowC T [m]) (m := 1) (c := 1) (by rw [rowC_length]; simp) hcells (rowC_all T _) hb hby fun b' bn' bc' w' _ _ hg => by rw [ownBlock_rowB] at hg; exact hg
  refine RunsV_mono ?_ (RunsV_and h1 h2)
  rintro v w' ⟨⟨b', c', rfl, ho, hk⟩, hg⟩
  refine hK b' c' w' ho ⟨hg.os, hg.tape, hg.output, Nat.le_trans (Later.size (Later.alloc' w _)) hg.size, fun k hk1 hk2 => (hk k hk1 hk2).1⟩ fun k hk1 hk2 => (hk k hk1 hk2).2
theorem OwnE.isCells {α : Type} {T : ElT α} {w0 w : World} {e : TypeId} {b : Option Addr} {c : Nat} {l : List α} (h : OwnE T w0 w e b c l) {k : Nat} (hk : rowB b = some k) {o : Obj} (ho : w.heap[k]? = some o) : o.isCells = true := by
  obtain ⟨_, h' | ⟨g, cap, cur, h2', h3', h4', h5'⟩⟩ := h
  · obtain ⟨hb', _⟩ := h'
    simp only [Value.slice.injEq] at hb'
    rw [hb'.1] at hk
    cases hk
  · simp only [Value.slice.injEq] at h2'
    rw [h2'.1] at hk
    simp only [rowB, Option.map_some, Option.some.injEq] at hk
    subst hk
    rw [ho] at h4'
    cases h4'
    rfl
theorem OwnE.but {α : Type} {T : ElT α} {w0 w w' : World} {e : TypeId} {b : Option Addr} {c : Nat} {l : List α} {S : Nat → Prop} (h : OwnE T w0 w e b c l) (hb : But S w w') (hn : ∀ k, rowB b = some k → ¬ S k) : OwnE T w0 w' e b c l :=
  OwnS.kept h fun k hk => hb.keep k (OwnS.lt h hk).2 (hn k hk)
theorem But.later {S : Nat → Prop} {w0 w w' : World} (h : But S w w') (hl : Later w0 w) (hS : ∀ k, S k → w0.heap.size ≤ k) : Later w0 w' :=
  Below.trans hl ⟨h.os, h.tape, h.output, h.size, fun k hk => h.keep k (Nat.lt_of_lt_of_le hk (Later.size hl)) fun hs => by have := hS k hs; omega⟩
theorem Trk.but {S : Nat → Prop} {w0 w w' : World} {L : List Blk} (hL : Trk w0 w L) (h : But S w w') (hS : ∀ k, S k → w0.heap.size ≤ k) (hn : ∀ x ∈ L, ¬ S x.1) : Trk w0 w' L :=
  ⟨h.later hL.1 hS, fun x hx => ⟨(hL.2.1 x hx).1, h.has (hL.2.1 x hx).2 (hn x hx)⟩, hL.2.2⟩
theorem repL_one (v : Value) : ∀ n, repL [v] n = List.replicate n v
  | 0 => rfl
  | n + 1 => by rw [repL, repL_one v n]; rfl
theorem reslice_zero (A : Option Addr) (m s : Nat) : reslice A 0 m s = A := by
  unfold reslice
  split
  · rfl
  · cases A with
    | none => rfl
    | some a => simp [addr_add_zero]
end Go.Vc
