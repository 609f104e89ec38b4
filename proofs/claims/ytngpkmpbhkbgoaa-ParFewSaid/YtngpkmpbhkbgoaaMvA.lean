/-
Rows of moves: places, moves, rows that are handed in or own; what is taken out of an own row.
Conditions: each theorem's hypotheses.
-/
import Derived.Test.YtngpkmpbhkbgoaaBase
import Derived.Test.YtngpkmpbhkbgoaaVcMapG
import Derived.Test.YtngpkmpbhkbgoaaVcLoc
import Derived.Test.YtngpkmpbhkbgoaaProg
namespace Go.Proofs.Ytngpkmpbhkbgoaa
open Go Go.Vc Go.RowKit
set_option linter.unusedVariables false
set_option linter.unusedSimpArgs false
set_option maxRecDepth 100000

abbrev Pl := Bool × Int
abbrev Mv := Pl × Pl
abbrev plv (p : Pl) : Value := .agg #[.bool p.1, .int .i64 p.2]
abbrev mvv (m : Mv) : Value := .agg #[.bool m.1.1, i64v m.1.2, .bool m.2.1, i64v m.2.2]
def mvC (m : Mv) : List Value := [.bool m.1.1, i64v m.1.2, .bool m.2.1, i64v m.2.2]
def mvsC (l : List Mv) : List Value := l.flatMap mvC
theorem mvC_length (m : Mv) : (mvC m).length = 4 := rfl
theorem mvsC_cons (m : Mv) (l : List Mv) : mvsC (m :: l) = mvC m ++ mvsC l := by simp [mvsC]
theorem mvsC_nil : mvsC [] = [] := rfl
theorem mvsC_append (l k : List Mv) : mvsC (l ++ k) = mvsC l ++ mvsC k := by simp [mvsC]
theorem mvsC_length : ∀ l : List Mv, (mvsC l).length = l.length * 4
  | [] => rfl
  | m :: l => by rw [mvsC_cons, List.length_append, mvsC_length l, mvC_length, List.length_cons]; omega
theorem mvsC_get : ∀ (l : List Mv) (i j : Nat) (m : Mv), l[i]? = some m → j < 4 → (mvsC l)[i * 4 + j]? = (mvC m)[j]?
  | [], i, j, m, h, _ => by simp at h
  | x :: l, 0, j, m, h, hj => by
    obtain rfl : x = m := by simpa using h
    rw [mvsC_cons, List.getElem?_append_left (by rw [mvC_length]; omega)]
    congr 1; omega
  | x :: l, i + 1, j, m, h, hj => by
    rw [mvsC_cons, List.getElem?_append_right (by rw [mvC_length]; omega), mvC_length, show (i + 1) * 4 + j - 4 = i * 4 + j by omega]
    exact mvsC_get l i j m (by simpa using h) hj
theorem mvsC_take : ∀ (l : List Mv) (i : Nat), (mvsC l).take (i * 4) = mvsC (l.take i)
  | [], i => by simp [mvsC]
  | x :: l, 0 => by simp [mvsC]
  | x :: l, i + 1 => by
    rw [mvsC_cons, List.take_succ_cons, mvsC_cons, ← mvsC_take l i, List.take_append, mvC_length, show (i + 1) * 4 - 4 = i * 4 by omega, List.take_of_length_le (by rw [mvC_length]; omega)]
theorem mvsC_drop : ∀ (l : List Mv) (i : Nat), (mvsC l).drop (i * 4) = mvsC (l.drop i)
  | [], i => by simp [mvsC]
  | x :: l, 0 => by simp [mvsC]
  | x :: l, i + 1 => by
    rw [mvsC_cons, List.drop_succ_cons, ← mvsC_drop l i, List.drop_append, mvC_length, show (i + 1) * 4 - 4 = i * 4 by omega, List.drop_of_length_le (by rw [mvC_length]; omega), List.nil_append]
theorem mvsC_one (l : List Mv) : ∀ u ∈ mvsC l, u.oneCell' = true := by
  intro u hu
  obtain ⟨m, _, hm⟩ := List.mem_flatMap.1 hu
  have : ∀ u ∈ mvC m, u.oneCell' = true := by simp [mvC, Value.oneCell']
  exact this u hm
theorem mvsC_set (l : List Mv) (i : Nat) (m : Mv) (p : Pl) (h : l[i]? = some m) : ((mvsC l).set (i * 4) (.bool p.1)).set (i * 4 + 1) (i64v p.2) = mvsC (l.set i (p, m.2)) := by
  have hi : i < l.length := (List.getElem?_eq_some_iff.1 h).1
  apply List.ext_getElem?
  intro k
  by_cases hk : k < l.length * 4
  · obtain ⟨q, j, hj, rfl⟩ : ∃ q j, j < 4 ∧ k = q * 4 + j := ⟨k / 4, k % 4, by omega, by omega⟩
    have hq : q < l.length := by omega
    have e1 := List.getElem?_eq_getElem hq
    rw [List.getElem?_set, List.getElem?_set, mvsC_get l q j l[q] e1 hj]
    by_cases hqi : i = q
    · subst hqi
      obtain rfl : l[i] = m := Option.some.inj (e1.symm.trans h)
      rw [mvsC_get (l.set i (p, l[i].2)) i j (p, l[i].2) (by simp [hi]) hj]
      simp only [List.length_set, mvsC_length]
      match j, hj with
      | 0, _ => simp [mvC]; omega
      | 1, _ => simp [mvC]; omega
      | 2, _ => simp [mvC]
      | 3, _ => simp [mvC]
    · rw [mvsC_get (l.set i (p, m.2)) q j l[q] (by rw [List.getElem?_set_ne hqi, e1]) hj, if_neg (by omega), if_neg (by omega)]
  · rw [List.getElem?_eq_none (by simp [mvsC_length]; omega), List.getElem?_eq_none (by rw [mvsC_length]; simp; omega)]
/-- A row of moves. -/
def MvAt (w : World) (a : Addr) (m : Mv) : Prop := w.cell? a = some (.bool m.1.1) ∧ w.cell? (a.add 1) = some (i64v m.1.2) ∧ w.cell? (a.add 2) = some (.bool m.2.1) ∧ w.cell? (a.add 3) = some (i64v m.2.2) ∧ True
def MRow (w : World) (A : Option Addr) (l : List Mv) : Prop := ∀ i m, l[i]? = some m → ∃ ad, A = some ad ∧ ∀ j v, (mvC m)[j]? = some v → w.cell? ((ad.add (i * 4)).add j) = some v
theorem MRow.later {w w' : World} {A : Option Addr} {l : List Mv} (h : MRow w A l) (hl : Later w w') : MRow w' A l := by
  intro i m hi
  obtain ⟨ad, h1, h2⟩ := h i m hi
  exact ⟨ad, h1, fun j v hv => hl.cell_some (h2 j v hv)⟩
theorem add_zero_nn (a : Addr) : a.add 0 = a := by simp [Addr.add]
theorem MRow.at {w : World} {A : Option Addr} {l : List Mv} (h : MRow w A l) {i : Nat} {m : Mv} (hi : l[i]? = some m) : ∃ ad, A = some ad ∧ MvAt w (ad.add (i * 4)) m := by
  obtain ⟨ad, h1, h2⟩ := h i m hi
  have h0 := h2 0 _ rfl
  rw [add_zero_nn] at h0
  exact ⟨ad, h1, h0, h2 1 _ rfl, h2 2 _ rfl, h2 3 _ rfl, trivial⟩
theorem MRow.nil (w : World) (A : Option Addr) : MRow w A [] := fun i m h => by simp at h
abbrev mvTy : TypeId := 39
abbrev OwnM (w0 w : World) (b : Option Addr) (c : Nat) (l : List Mv) : Prop := OwnS w0 w mvTy 4 (.slice b l.length c) l.length (mvsC l)
theorem OwnM.row {w0 w : World} {b : Option Addr} {c : Nat} {l : List Mv} (h : OwnM w0 w b c l) : MRow w b l := by
  intro i m hi
  have hil : i < l.length := (List.getElem?_eq_some_iff.1 hi).1
  cases b with
  | none =>
    exfalso
    obtain ⟨_, h | ⟨g, cap, cur, h2, _⟩⟩ := h
    · omega
    · cases h2
  | some a =>
    refine ⟨a, rfl, fun j v hv => ?_⟩
    have hj : j < 4 := (List.getElem?_eq_some_iff.1 hv).1
    have hc := CellsAt_get h.cells (i * 4 + j) v (by rw [mvsC_get l i j m hi hj]; exact hv)
    rw [Nat.zero_add] at hc
    obtain ⟨_, h | ⟨g, cap, cur, h2, _⟩⟩ := h
    · cases h.1
    · cases h2
      rw [Addr_add_add _ _ _ rfl]; exact hc
theorem mvTyR : RowTy Try.prog 22 mvTy 4 32 := RowTy.of (.agg #[.bool false, .int .i64 0, .bool false, .int .i64 0]) Try.underlying22 (by kernel_rfl) rfl (by decide)
theorem plTy : ∃ f0 f1, PairTy Try.prog 24 f0 f1 := ⟨_, _, Try.underlying24, by decide, by decide, rfl, rfl, by kernel_rfl, by kernel_rfl, by kernel_rfl, by kernel_rfl⟩
theorem plLaw : KeyLaw Try.prog 24 encBI := by obtain ⟨f0, f1, h⟩ := plTy; exact h.law
theorem pl_eq (xo yo : Operand) (a b : Pl) : EqRuns Try.prog .eql 24 xo yo (plv a) (plv b) (decide (a = b)) ∧ EqRuns Try.prog .neq 24 xo yo (plv a) (plv b) (!decide (a = b)) := by
  obtain ⟨f0, f1, h⟩ := plTy
  exact h.eq xo yo a b
theorem pl_eq' (xo yo : Operand) (b0 b1 : Bool) (n0 n1 : Int) : EqRuns Try.prog .eql 24 xo yo (.agg #[.bool b0, i64v n0]) (.agg #[.bool b1, i64v n1]) (decide ((b0, n0) = (b1, n1))) := (pl_eq xo yo (b0, n0) (b1, n1)).1
theorem pl_ne' (xo yo : Operand) (b0 b1 : Bool) (n0 n1 : Int) : EqRuns Try.prog .neq 24 xo yo (.agg #[.bool b0, i64v n0]) (.agg #[.bool b1, i64v n1]) (!decide ((b0, n0) = (b1, n1))) := (pl_eq xo yo (b0, n0) (b1, n1)).2
/-! ### a map that counts places -/
abbrev mpTy : TypeId := 51
theorem mpU : Try.prog.underlying mpTy = some (.map 24 3) := Try.underlying51
theorem intZero (w : World) : (zeroValue 3).run Try.prog w = .ok (i64v 0) w := by kernel_rfl
/-- What the map says of each place. -/
def AskG (w : World) (r : Nat) (c : Pl → Int) : Prop := ∃ m : Pl → Option Value, MapG w r encBI m ∧ ∀ a, (m a).getD (i64v 0) = i64v (c a)
theorem AskG.later {w w' : World} {r : Nat} {c : Pl → Int} (h : AskG w r c) (hl : Later w w') : AskG w' r c := by
  obtain ⟨m, h1, h2⟩ := h
  exact ⟨m, h1.later hl, h2⟩
theorem AskG.kept {w w' : World} {r : Nat} {c : Pl → Int} (h : AskG w r c) (e : w'.heap[r]? = w.heap[r]?) : AskG w' r c := by
  obtain ⟨m, h1, h2⟩ := h
  exact ⟨m, h1.kept e, h2⟩
theorem AskG.lt {w : World} {r : Nat} {c : Pl → Int} (h : AskG w r c) : r < w.heap.size := by
  obtain ⟨m, h1, h2⟩ := h
  exact h1.lt
theorem AskG.congr {w : World} {r : Nat} {c d : Pl → Int} (h : AskG w r c) (e : ∀ a, c a = d a) : AskG w r d := by
  have : c = d := funext e
  exact this ▸ h
theorem AskG.run {w : World} {r : Nat} {c : Pl → Int} (h : AskG w r c) (b : Bool) (n : Int) : (Instr.lookup mpTy (.map (some r)) (.agg #[.bool b, i64v n]) false).run Try.prog w = .ok (i64v (c (b, n))) w := by
  obtain ⟨m, h1, h2⟩ := h
  have := h1.run_lookup plLaw mpU intZero (b, n) false
  rw [show encBI (b, n) = .agg #[.bool b, i64v n] from rfl] at this
  rw [this]
  simp only [Bool.false_eq_true, if_false]
  rw [h2]
theorem AskG.look {w : World} {r : Nat} {c : Pl → Int} (h : AskG w r c) (b : Bool) (n : Int) {K : Value → World → Prop} (hK : K (i64v (c (b, n))) w) : RunsV Try.prog (Instr.lookup mpTy (.map (some r)) (.agg #[.bool b, i64v n]) false) w K := RunsV_of (h.run b n) hK
def upd (c : Pl → Int) (a : Pl) (v : Int) : Pl → Int := fun x => if x = a then v else c x
/-- A region that turns up an entry, stores it, and turns a second one. -/
theorem AskG.turn {w : World} {r : Nat} {c : Pl → Int} (h : AskG w r c) (a a2 : Pl) (v v2 : Int) :
    ∃ (C : Nat → World → Prop) (x : Value) (st : Int), ((∀ p, Closed (C p)) ∧ C 0 w) ∧ (∀ p w', C p w' → KeptBut w r w') ∧ (∀ w', PhC C 0 1 w' → AskG w' r c) ∧
      (∀ w', C 0 w' → ∃ w2, (Instr.mapEntry mpTy (.map (some r)) (plv a)).run Try.prog w' = .ok (.tuple #[x, i64v st]) w2 ∧ C 1 w2) ∧
      (∀ w', C 1 w' → ∃ w2, (do Instr.entryStore mpTy (.map (some r)) (i64v st) (i64v v); pure (Value.tuple #[]) : Sem Value).run Try.prog w' = .ok (.tuple #[]) w2 ∧ C 2 w2) ∧
      (∀ w', C 2 w' → AskG w' r (upd c a v)) ∧
      (∀ w', C 2 w' → ∃ w2, (do Instr.mapUpdate mpTy (.map (some r)) (plv a2) (i64v v2); pure (Value.tuple #[]) : Sem Value).run Try.prog w' = .ok (.tuple #[]) w2 ∧ C 3 w2) ∧
      (∀ w', C 3 w' → AskG w' r (upd (upd c a v) a2 v2)) := by
  obtain ⟨m, h1, h2⟩ := h
  obtain ⟨s, hs⟩ := h1.entryAt plLaw mpU intZero a
  have hr := h1.lt
  let m1 : Pl → Option Value := fun x => if x = a then some ((m a).getD (i64v 0)) else m x
  let m2 : Pl → Option Value := fun x => if x = a then some (i64v v) else m1 x
  let m3 : Pl → Option Value := fun x => if x = a2 then some (i64v v2) else m2 x
  have e2 : ∀ x, (m2 x).getD (i64v 0) = i64v (upd c a v x) := by
    intro x
    simp only [m2, m1, upd]
    by_cases hx : x = a
    · simp [hx]
    · simp only [if_neg hx]; exact h2 x
  have e3 : ∀ x, (m3 x).getD (i64v 0) = i64v (upd (upd c a v) a2 v2 x) := by
    intro x
    show (if x = a2 then some (i64v v2) else m2 x).getD (i64v 0) = i64v (if x = a2 then v2 else upd c a v x)
    by_cases hx : x = a2
    · simp [hx]
    · simp only [if_neg hx]; exact e2 x
  refine ⟨Phases w r encBI m1 m2 m3 s a, (m a).getD (i64v 0), s, ⟨Phases.closed hr, KeptBut.refl w r, rfl⟩, fun p w' h => h.kept, fun w' hw' => ?_, fun w' hw' => ?_, fun w' hw' => ?_, fun w' hw' => ⟨m2, hw'.2, e2⟩, fun w' hw' => ?_, fun w' hw' => ⟨m3, hw'.2, e3⟩⟩
  · obtain ⟨m', g1, g2⟩ := PhC.says (m2 := m2) (m3 := m3) h1 hw'
    exact ⟨m', g1, fun x => (g2 x).trans (h2 x)⟩
  · obtain ⟨w2, g1, g2, g3, g4⟩ := hs w' hw'.2
    exact ⟨w2, g1, hw'.1.step g4, g2, g3⟩
  · have := MapG.store (P := Try.prog) (t := mpTy) (K := fun v w2 => v = .tuple #[] ∧ Phases w r encBI m1 m2 m3 s a 2 w2) plLaw.inj hw'.2.1 hw'.2.2 (i64v v) fun w2 g1 g2 => ⟨rfl, hw'.1.step g2, g1⟩
    obtain ⟨u, w2, q1, rfl, q2⟩ := RunsV_iff this
    exact ⟨w2, q1, q2⟩
  · have := MapG.update (P := Try.prog) (t := mpTy) (K := fun v w2 => v = .tuple #[] ∧ Phases w r encBI m1 m2 m3 s a 3 w2) plLaw mpU hw'.2 a2 (i64v v2) fun w2 g1 g2 => ⟨rfl, hw'.1.step g2, g1⟩
    obtain ⟨u, w2, q1, rfl, q2⟩ := RunsV_iff this
    exact ⟨w2, q1, q2⟩
end Go.Proofs.Ytngpkmpbhkbgoaa
