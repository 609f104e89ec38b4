/-
Slices that the call owns: grown by 'append', read and written, over the kit's own laws of such rows.
Conditions: each theorem's hypotheses; nothing is asked of a program but closed facts of its types.
-/
import Derived.Test.YtngkifnknlginaaVcLib
import Derived.Laws.AppendOwn
import Derived.Laws.OwnMore
namespace Go.Vc
open Go.RowKit
set_option linter.unusedVariables false
set_option linter.unusedSimpArgs false
set_option linter.unnecessarySimpa false

/-- What is asked of a slice's type and of its elements' type: closed facts. -/
structure RowTy (P : Program) (t e : TypeId) (size bytes : Nat) : Prop where
  under : P.underlying t = some (.slice e)
  info : ∃ i z, P.info? e = some i ∧ i.zero = some z ∧ i.size = size ∧ i.bytes = bytes ∧ z.cells.size = size
  pos : 0 < size
theorem RowTy.of {P : Program} {t e : TypeId} {size bytes : Nat} (z : Value) (hu : P.underlying t = some (.slice e)) (hi : (P.info? e).map (fun i => (i.zero, i.size, i.bytes)) = some (some z, size, bytes)) (hz : z.cells.size = size) (hp : 0 < size) : RowTy P t e size bytes := by
  refine ⟨hu, ?_, hp⟩
  cases h : P.info? e with
  | none => rw [h] at hi; cases hi
  | some i =>
    rw [h] at hi
    simp only [Option.map_some, Option.some.injEq, Prod.mk.injEq] at hi
    exact ⟨i, z, rfl, hi.1, hi.2.1, hi.2.2, hz⟩
theorem CellsAt_get {w : World} {a : Addr} : ∀ {l : List Value} {i : Nat}, CellsAt w a i l → ∀ j u, l[j]? = some u → w.cell? (a.add (i + j)) = some u := by
  intro l
  induction l with
  | nil => intro i h j u hj; simp at hj
  | cons v l ih =>
    intro i h j u hj
    cases j with
    | zero => simp at hj; subst hj; exact h.1
    | succ j =>
      have := ih h.2 j u (by simpa using hj)
      rwa [show i + 1 + j = i + (j + 1) by omega] at this
theorem CellsAt_of_get {w : World} {a : Addr} : ∀ {l : List Value} {i : Nat}, (∀ j u, l[j]? = some u → w.cell? (a.add (i + j)) = some u) → CellsAt w a i l := by
  intro l
  induction l with
  | nil => intro i h; trivial
  | cons v l ih =>
    intro i h
    refine ⟨h 0 v rfl, ih fun j u hj => ?_⟩
    have := h (j + 1) u (by simpa using hj)
    rwa [show i + 1 + j = i + (j + 1) by omega]
/-- A slice that was made since w0: n elements, of these cells. -/
abbrev OwnS (w0 w : World) (e : TypeId) (size : Nat) (v : Value) (n : Nat) (xs : List Value) : Prop := w.ownsRow w0.heap.size e size v n xs
theorem OwnS_nil (w0 w : World) (e : TypeId) (size : Nat) : OwnS w0 w e size (.slice none 0 0) 0 [] := World.ownsRow_nil _ _ _ _
theorem OwnS.alloc {w0 w : World} {e : TypeId} {size : Nat} {v : Value} {n : Nat} {xs : List Value} (h : OwnS w0 w e size v n xs) (o : Obj) : OwnS w0 (w.alloc o) e size v n xs := World.ownsRow.alloc h o
theorem OwnS.len {w0 w : World} {e : TypeId} {size : Nat} {b : Option Addr} {bn bc n : Nat} {xs : List Value} (h : OwnS w0 w e size (.slice b bn bc) n xs) : bn = n := by
  obtain ⟨_, h | ⟨g, cap, cur, h, _⟩⟩ := h
  · cases h.1; exact h.2.symm
  · cases h; rfl
theorem OwnS.later {w0 w w' : World} {e : TypeId} {size : Nat} {v : Value} {n : Nat} {xs : List Value} (h : OwnS w0 w e size v n xs) (hl : Later w w') : OwnS w0 w' e size v n xs := by
  obtain ⟨h1, h | ⟨g, cap, cur, h2, h3, h4, h5⟩⟩ := h
  · exact ⟨h1, .inl h⟩
  · refine ⟨h1, .inr ⟨g, cap, cur, h2, h3, ?_, h5⟩⟩
    have hg : g < w.heap.size := (Array.getElem?_eq_some_iff.1 h4).1
    rw [hl.block hg]; exact h4
theorem OwnS.cells {w0 w : World} {e : TypeId} {size : Nat} {a : Addr} {bn bc n : Nat} {xs : List Value} (h : OwnS w0 w e size (.slice (some a) bn bc) n xs) : CellsAt w a 0 xs := by
  have := World.ownsRow.cells h (g := a.block) rfl
  obtain ⟨_, h | ⟨g, cap, cur, h2, _⟩⟩ := h
  · cases h.1
  · cases h2
    exact CellsAt_of_get fun j u hj => by rw [Nat.zero_add]; exact this j u hj
/-- One more block is grown: what is appended is a new row's, or the old one's. -/
theorem RunsV_append {P : Program} {w0 w : World} {t e : TypeId} {size bytes : Nat} (ty : TypeId) (hT : RowTy P t e size bytes) {b : Option Addr} {bn bc n : Nat} {xs : List Value} (hown : OwnS w0 w e size (.slice b bn bc) n xs) (hl : Later w0 w)
    {a : Addr} {m c : Nat} {news : List Value} (hlen : news.length = m * size) (hnews : CellsAt w a 0 news) (h1 : ∀ u ∈ news, u.oneCell' = true) (h63 : n + m ≤ maxLen) (hbytes : (n + m) * bytes ≤ 140737488355328)
    {K : Value → World → Prop}
    (hK : ∀ b' bn' bc' w', OwnS w0 w' e size (.slice b' bn' bc') (n + m) (xs ++ news) → Later w0 w' → w.grownBy w' (Value.slice b bn bc).ownBlock → K (.slice b' bn' bc') w') :
    RunsV P (Builtin.append_ #[t, t] ty #[.slice b bn bc, .slice (some a) m c]) w K := by
  obtain ⟨i, z, hi, hz, hs, hby, hzs⟩ := hT.info
  obtain ⟨v', w', hr, ho, hg, _⟩ := run_append_own (P := P) w w0.heap.size t ty e i z size bytes hT.under hi hz hs hby hzs hT.pos _ n xs hown a m c news hlen (fun j u hj => by have := CellsAt_get hnews j u hj; rwa [Nat.zero_add] at this) h1 h63 hbytes hl.size
  refine RunsV_of hr ?_
  have hlt := World.ownsRow.lt hown
  have hb : Later w0 w' := Below.grown hl hg hl.size (fun k hk => (hlt k hk).1)
  obtain ⟨hx, h | ⟨g, cap, cur, h2, h3⟩⟩ := ho
  · obtain ⟨rfl, hn⟩ := h
    exact hK _ _ _ _ ⟨hx, .inl ⟨rfl, hn⟩⟩ hb hg
  · subst h2
    exact hK _ _ _ _ ⟨hx, .inr ⟨g, cap, cur, rfl, h3⟩⟩ hb hg
theorem strOf_size (ns : List Int) : (strOf ns).size = ns.length := by simp [strOf, ByteArray.size]
/-- The text of an own slice of bytes. -/
theorem RunsV_own_string {P : Program} {w0 w : World} {src dst e : TypeId} {b : Option Addr} {bn bc n : Nat} {ns : List Int} {K : Value → World → Prop} (hs : P.underlying src = some (.slice e)) (he : P.underlying e = some (.int .u8)) (hd : P.underlying dst = some .string)
    (hown : OwnS w0 w e 1 (.slice b bn bc) n (ns.map (Value.int .u8))) (hn : 0 < n) (hK : K (.string (strOf ns)) w) : RunsV P (convert src dst (.slice b bn bc)) w K := by
  have hb := hown.len
  have hln : ns.length = n := by have := hown.1; simpa using this
  cases b with
  | none =>
    obtain ⟨_, h | ⟨g, cap, cur, h2, _⟩⟩ := hown
    · omega
    · cases h2
  | some a => exact runs_bytes_string hs he hd (by omega) hown.cells hK
end Go.Vc
