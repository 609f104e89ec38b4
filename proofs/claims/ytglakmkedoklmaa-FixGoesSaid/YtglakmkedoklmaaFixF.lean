/-
The contracts of package fix, third part: the instructions, the places.
Conditions: at most 3000 lines; each number is of its kind.
-/
import Derived.Test.YtglakmkedoklmaaFixL
import Derived.Test.YtglakmkedoklmaaInsR
namespace Go.Proofs.Ytglakmkedoklmaa
open Go Go.Vc Go.RowKit
set_option linter.unusedVariables false
set_option linter.unusedSimpArgs false
set_option maxRecDepth 100000

theorem RunsV_makeMap {P : Program} {t : TypeId} {w : World} {K : Value → World → Prop} (hK : ∀ w', w' = w.alloc (.map #[] 0) → K (.map (some w.heap.size)) w') : RunsV P (Instr.makeMap t none) w K :=
  RunsV_of (v := .map (some w.heap.size)) (w' := w.alloc (.map #[] 0)) (by simp [Instr.makeMap, newObj]; rfl) (hK _ rfl)
def oppv (op : Int) : Int := if op = 28 then 29 else if op = 29 then 28 else if op = 30 then 31 else 30
theorem oppv_u8 (op : Int) : U8 (oppv op) := by unfold oppv; repeat' split
                                                all_goals exact ⟨by omega, by omega⟩
theorem fix_opposite_ok (op : Int) (h0 : 28 ≤ op) (h1 : op ≤ 31) (w : World) : Calls Try.prog fix_opposite.N #[u8v op] w (Gives (u8v (oppv op)) w) := by
  refine fix_opposite.calls ?_
  unfold fix_opposite.vc
  refine RunsV_makeMap fun w1 e1 => ⟨_, rfl, ?_⟩
  have U := @MapI.insert Try.prog
  have m1 : MapI w1 w.heap.size .u8 fun _ => none := MapI.empty .u8 (e1 ▸ heap_alloc_new w _)
  have l1 : Later w w1 := e1 ▸ Later.alloc' w _
  refine MapI.insert Try.underlying75 Try.underlying5 m1 rfl fun w2 m2 hl2 _ => ?_
  refine MapI.insert Try.underlying75 Try.underlying5 m2 (by decide) fun w3 m3 hl3 _ => ?_
  refine MapI.insert Try.underlying75 Try.underlying5 m3 (by decide) fun w4 m4 hl4 _ => ?_
  refine MapI.insert Try.underlying75 Try.underlying5 m4 (by decide) fun w5 m5 hl5 _ => ?_
  have l5 : Later w w5 := hl5 w (hl4 w (hl3 w (hl2 w l1 (Nat.le_refl _)) (Nat.le_refl _)) (Nat.le_refl _)) (Nat.le_refl _)
  refine RunsV_of (v := u8v (oppv op)) (w' := w5) ?_ ⟨_, rfl, rfl, l5⟩
  rw [MapI.run_lookup (z := u8v 0) Try.underlying75 Try.underlying5 (fun w => by kernel_rfl) m5]
  have : op = 28 ∨ op = 29 ∨ op = 30 ∨ op = 31 := by omega
  rcases this with rfl | rfl | rfl | rfl <;> rfl

/-! ### instructions, one behind the other -/
abbrev I5 := Int × Int × Int × Int × Int
abbrev i5c (x : I5) : List Value := [u8v x.1, u8v x.2.1, u8v x.2.2.1, u8v x.2.2.2.1, i64v x.2.2.2.2]
def codeC (l : List I5) : List Value := l.flatMap i5c
theorem codeC_append (l m : List I5) : codeC (l ++ m) = codeC l ++ codeC m := by simp [codeC]
theorem codeC_one (x : I5) : codeC [x] = i5c x := by simp [codeC]
theorem codeC_length (l : List I5) : (codeC l).length = l.length * 5 := by
  induction l with
  | nil => rfl
  | cons x l ih => rw [show x :: l = [x] ++ l from rfl, codeC_append, codeC_one, List.length_append, ih]; simp; omega
def i5f (x : I5) (j : Nat) : Int := match j with | 0 => x.1 | 1 => x.2.1 | 2 => x.2.2.1 | 3 => x.2.2.2.1 | _ => x.2.2.2.2
def codeF (l : List I5) (i j : Nat) : Int := match l[i]? with | some x => i5f x j | none => 0
theorem insCells_congr {F G : Nat → Nat → Int} : ∀ {n : Nat}, (∀ i, i < n → ∀ j, j < 5 → F i j = G i j) → insCells F n = insCells G n
  | 0, _ => rfl
  | n + 1, h => by
    rw [insCells, insCells, insCells_congr (n := n) (fun i hi => h i (by omega)), h n (by omega) 0 (by omega), h n (by omega) 1 (by omega), h n (by omega) 2 (by omega), h n (by omega) 3 (by omega), h n (by omega) 4 (by omega)]
theorem codeC_cells (l : List I5) : codeC l = insCells (codeF l) l.length := by
  have go : ∀ n, n ≤ l.length → codeC (l.take n) = insCells (codeF l) n := by
    intro n
    induction n with
    | zero => intro _; rfl
    | succ n ih =>
      intro h
      have hx : l[n]? = some l[n] := List.getElem?_eq_getElem (by omega)
      rw [List.take_add_one, hx, Option.toList_some, codeC_append, ih (by omega), codeC_one, insCells]
      have : ∀ j, codeF l n j = i5f l[n] j := fun j => by unfold codeF; rw [hx]
      rw [this, this, this, this, this]
      rfl
  have := go l.length (Nat.le_refl _)
  rwa [List.take_length] at this
/-- What one line becomes. -/
def lineX (F : Nat → Nat → Int) (k : Nat) : I5 := (F k 1, F k 2, F k 3, F k 4, F k 5)
def lineOut (F : Nat → Nat → Int) (n : Nat) (L : Nat → Bool) (k : Nat) : List I5 :=
  if F k 6 < 0 then [lineX F k] else
    if L k then [(oppv (F k 1), 0, F k 3, F k 4, 8), (32, 0, 0, 0, wayL F n L k - 4)] else [(F k 1, F k 2, F k 3, F k 4, wayL F n L k)]
def outs (F : Nat → Nat → Int) (n : Nat) (L : Nat → Bool) : Nat → List I5
  | 0 => []
  | k + 1 => outs F n L k ++ lineOut F n L k
theorem lineOut_length {F : Nat → Nat → Int} {n k : Nat} {L : Nat → Bool} (h : L k = true → 0 ≤ F k 6) : (lineOut F n L k).length = 1 + (if L k then 1 else 0) := by
  unfold lineOut
  cases hL : L k with
  | true => rw [if_neg (by have := h hL; omega)]; rfl
  | false => split <;> rfl
theorem fin_tgt {F : Nat → Nat → Int} {n : Nat} {L : Nat → Bool} (h : isFin F n L) {k : Nat} (hk : L k = true) : 0 ≤ F k 6 ∧ F k 1 ≠ 32 := by
  obtain ⟨⟨j, rfl⟩, _⟩ := h
  exact iter_tgt hk
theorem outs_length {F : Nat → Nat → Int} {n : Nat} {L : Nat → Bool} (h : isFin F n L) : ∀ k, 4 * ((outs F n L k).length : Int) = plc L k
  | 0 => rfl
  | k + 1 => by
    have ih := outs_length h k
    rw [outs, List.length_append, lineOut_length (fun hk => (fin_tgt h hk).1), plc]
    cases L k <;> simp <;> omega
theorem outs_le {F : Nat → Nat → Int} {n : Nat} {L : Nat → Bool} (h : isFin F n L) (k : Nat) : (outs F n L k).length ≤ 2 * k ∧ k ≤ (outs F n L k).length := by
  have h1 := outs_length h k
  have h2 := plc_range L k
  omega
theorem own_code {w0 w : World} {b : Option Addr} {bn c : Nat} {l : List I5} (h : OwnS w0 w 35 5 (.slice b bn c) l.length (codeC l)) : OwnS w0 w 35 5 (.slice b bn c) l.length (insCells (codeF l) l.length) := by rw [← codeC_cells]; exact h
def CodeOk (l : List I5) : Prop := ∀ x ∈ l, U8 x.1 ∧ U8 x.2.1 ∧ U8 x.2.2.1 ∧ U8 x.2.2.2.1 ∧ I64 x.2.2.2.2
theorem code_row {w0 w : World} {b : Option Addr} {bn c : Nat} {l : List I5} (h : OwnS w0 w 35 5 (.slice b bn c) l.length (codeC l)) (hl : CodeOk l) : IntRow w b l.length insK (codeF l) := by
  refine own_row (own_code h) fun i hi => ?_
  have hx : l[i]? = some l[i] := List.getElem?_eq_getElem hi
  have : ∀ j, codeF l i j = i5f l[i] j := fun j => by unfold codeF; rw [hx]
  rw [this, this, this, this, this]
  exact hl _ (List.getElem_mem hi)
end Go.Proofs.Ytglakmkedoklmaa
