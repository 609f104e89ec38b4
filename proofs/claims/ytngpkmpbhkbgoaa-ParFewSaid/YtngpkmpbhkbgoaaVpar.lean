/-
The explicit conditions of some functions of the program, printed by this repo's own program over VcTop: what is proved is that each is the condition.
Conditions: none.
-/
import Derived.Test.YtngpkmpbhkbgoaaVcTop
import Derived.Test.YtngpkmpbhkbgoaaProg
namespace Go.Proofs.Ytngpkmpbhkbgoaa
open Go Go.Vc Go.RowKit
set_option linter.unusedVariables false
set_option maxRecDepth 100000

/- function 17: sacristy/par.may -/
abbrev par_may.N : FuncId := 17
def par_may.H : Hints := { loops := [(6, [(12, .one (.int .i64))])], floats := [(11, 5)] }
def par_may.vc (l' : Option Addr) (l'n : Nat) (l'c : Nat) (w : World) (R : Ending → World → Prop) : Prop :=
  cnd (decide ((↑l'n : Int) > 64)) (R (Ending.returned (Value.bool false)) w)
  (RunsV Proofs.Try.prog
  (Instr.makeMap 51
  (Option.map
  (ev
  [Value.slice l' l'n l'c, Value.tuple #[], Value.bool false, Value.tuple #[], Value.tuple #[], Value.tuple #[],
  Value.slice l' l'n l'c, Value.int IntKind.i64 (↑l'n : Int), Value.bool (decide ((↑l'n : Int) > 64)),
  Value.tuple #[], Value.tuple #[], Value.tuple #[], Value.tuple #[], Value.tuple #[], Value.tuple #[],
  Value.tuple #[], Value.tuple #[], Value.tuple #[], Value.tuple #[], Value.tuple #[], Value.tuple #[],
  Value.tuple #[], Value.tuple #[], Value.tuple #[], Value.tuple #[], Value.tuple #[], Value.tuple #[],
  Value.tuple #[], Value.tuple #[], Value.tuple #[], Value.tuple #[], Value.tuple #[], Value.tuple #[],
  Value.tuple #[], Value.tuple #[], Value.tuple #[], Value.tuple #[], Value.tuple #[], Value.tuple #[]])
  none))
  w fun (v : Value) (w' : World) =>
  ∃ (r : Option Nat),
  v = Value.map r ∧
  ∃ (I : List Value → World → Prop),
  ∃ (μ : List Value → World → Nat),
  I [Value.int IntKind.i64 0] w' ∧
  ∀ (g : Nat → Value) (s12 : Int) (w' : World),
  I [Value.int IntKind.i64 s12] w' →
  cnd (decide (s12 < (↑l'n : Int)))
  ((0 ≤ s12 ∧ s12 < (↑l'n : Int)) ∧
  Deref l' fun (a : Addr) =>
  ∃ (b : Bool),
  ∃ (n : Int),
  ∃ (b_1 : Bool),
  ∃ (n_1 : Int),
  (w'.cell? (a.add (s12.toNat * 4)) = some (Value.bool b) ∧
  w'.cell? ((a.add (s12.toNat * 4)).add 1) = some (Value.int IntKind.i64 n) ∧
  w'.cell? ((a.add (s12.toNat * 4)).add 2) = some (Value.bool b_1) ∧
  w'.cell? ((a.add (s12.toNat * 4)).add 3) = some (Value.int IntKind.i64 n_1) ∧
  True) ∧
  ∀ (w'_1 : World),
  w'_1 =
  w'.alloc
  (Obj.cells
  #[Value.bool false, Value.int IntKind.i64 0, Value.bool false,
  Value.int IntKind.i64 0]
  39) →
  SetsAt w'_1 (Addr.mk w'.heap.size 0 none) 0
  [Value.bool b, Value.int IntKind.i64 n, Value.bool b_1,
  Value.int IntKind.i64 n_1] ∧
  ∀ (w'_2 : World),
  w'_2 =
  setCellsAt w'_1 (Addr.mk w'.heap.size 0 none) 0
  [Value.bool b, Value.int IntKind.i64 n, Value.bool b_1,
  Value.int IntKind.i64 n_1] →
  ∃ (n : Int),
  w'_2.cell? (Addr.mk w'.heap.size 1 none) =
  some (Value.int IntKind.i64 n) ∧
  cnd (decide (n < 0)) (R (Ending.returned (Value.bool false)) w'_2)
  (∃ (n : Int),
  w'_2.cell? (Addr.mk w'.heap.size 3 none) =
  some (Value.int IntKind.i64 n) ∧
  cnd (decide (n < 0)) (R (Ending.returned (Value.bool false)) w'_2)
  (∃ (b : Bool),
  ∃ (n : Int),
  (w'_2.cell? (Addr.mk w'.heap.size 2 none) =
  some (Value.bool b) ∧
  w'_2.cell? (Addr.mk w'.heap.size 3 none) =
  some (Value.int IntKind.i64 n) ∧
  True) ∧
  RunsV Proofs.Try.prog
  (Instr.lookup 51 (Value.map r)
  (Value.agg #[Value.bool b, Value.int IntKind.i64 n])
  false)
  w'_2 fun (v : Value) (w'_3 : World) =>
  ∃ (n : Int),
  v = Value.int IntKind.i64 n ∧
  cnd (decide (n > 0))
  (R (Ending.returned (Value.bool false)) w'_3)
  (∃ (C : Nat → World → Prop),
  ((∀ (p : Nat) (w w' : World),
  C p w → Later w w' → C p w') ∧
  C 0 w'_3) ∧
  ∃ (b : Bool),
  ∃ (n : Int),
  (∀ (w'_4 : World),
  PhC C 0 0 w'_4 →
  w'_4.cell?
  (Addr.mk w'.heap.size 2
  none) =
  some (Value.bool b) ∧
  w'_4.cell?
  (Addr.mk w'.heap.size 3
  none) =
  some
  (Value.int IntKind.i64 n) ∧
  True) ∧
  ∃ (n_2 : Int),
  (∀ (w' : World),
  PhC C 0 1 w' →
  Sem.run Proofs.Try.prog
  (Instr.lookup 51
  (Value.map r)
  (Value.agg
  #[Value.bool b,
  Value.int IntKind.i64
  n])
  false)
  w' =
  Result.ok
  (Value.int IntKind.i64 n_2)
  w') ∧
  ∃ (x : Value),
  ∃ (st : Int),
  (∀ (w : World),
  C 0 w →
  ∃ (w' : World),
  Sem.run Proofs.Try.prog
  (Instr.mapEntry 51
  (Value.map r)
  (Value.agg
  #[Value.bool
  b,
  Value.int
  IntKind.i64
  n]))
  w =
  Result.ok
  (Value.tuple
  #[x,
  Value.int
  IntKind.i64
  st])
  w' ∧
  C 1 w') ∧
  (∀ (w : World),
  C 1 w →
  ∃ (w' : World),
  Sem.run
  Proofs.Try.prog
  (do Instr.entryStore 51 (Value.map r) (Value.int IntKind.i64 st) (Value.int IntKind.i64 (IntKind.i64.wrap (n_2 + 1))); pure (Value.tuple #[]))
  w =
  Result.ok
  (Value.tuple
  #[])
  w' ∧
  C 2 w') ∧
  ∀ (w'_4 : World),
  C 2 w'_4 →
  Goes I μ
  [Value.int IntKind.i64
  s12]
  w'
  [Value.int IntKind.i64
  (IntKind.i64.wrap
  (s12 + 1))]
  w'_4))))
  (R (Ending.returned (Value.bool true)) w'))
theorem par_may.vc_eq (l' : Option Addr) (l'n : Nat) (l'c : Nat) (w : World) (R : Ending → World → Prop) : fnV Try.prog par_may.H 17 [Value.slice l' l'n l'c] w R = par_may.vc l' l'n l'c w R := by kernel_rfl
theorem par_may.calls {l' : Option Addr} {l'n : Nat} {l'c : Nat} {w : World} {R : Ending → World → Prop} (h : par_may.vc l' l'n l'c w R) : Calls Try.prog 17 ([Value.slice l' l'n l'c] : List Value).toArray w R := calls_of_eq (par_may.vc_eq l' l'n l'c w R) h

/- function 18: slices.ContainsFunc[[]sacristy/api.Move,sacristy/api.Move] -/
abbrev slices_ContainsFunc.N : FuncId := 18
def slices_ContainsFunc.H : Hints := {  }
def slices_ContainsFunc.vc (s' : Option Addr) (s'n : Nat) (s'c : Nat) (f' : Value) (w : World) (R : Ending → World → Prop) : Prop :=
  Calls Proofs.Try.prog 23 #[Value.slice s' s'n s'c, f'] w fun (e : Ending) (w' : World) =>
  ∃ (n : Int), e = Ending.returned (Value.int IntKind.i64 n) ∧ R (Ending.returned (Value.bool (decide (n ≥ 0)))) w'
theorem slices_ContainsFunc.vc_eq (s' : Option Addr) (s'n : Nat) (s'c : Nat) (f' : Value) (w : World) (R : Ending → World → Prop) : fnV Try.prog slices_ContainsFunc.H 18 [Value.slice s' s'n s'c, f'] w R = slices_ContainsFunc.vc s' s'n s'c f' w R := by kernel_rfl
theorem slices_ContainsFunc.calls {s' : Option Addr} {s'n : Nat} {s'c : Nat} {f' : Value} {w : World} {R : Ending → World → Prop} (h : slices_ContainsFunc.vc s' s'n s'c f' w R) : Calls Try.prog 18 ([Value.slice s' s'n s'c, f'] : List Value).toArray w R := calls_of_eq (slices_ContainsFunc.vc_eq s' s'n s'c f' w R) h

/- function 19: sacristy/par.Order$1 -/
abbrev par_Order_1.N : FuncId := 19
def par_Order_1.H : Hints := {  }
def par_Order_1.vc (m'_0 : Bool) (m'_1 : Int) (m'_2 : Bool) (m'_3 : Int) (c0 : Option Addr) (w : World) (R : Ending → World → Prop) : Prop :=
  ∀ (w' : World),
  w' =
  w.alloc
  (Obj.cells #[Value.bool m'_0, Value.int IntKind.i64 m'_1, Value.bool m'_2, Value.int IntKind.i64 m'_3] 39) →
  ∃ (b : Bool),
  ∃ (n : Int),
  (w'.cell? (Addr.mk w.heap.size 0 none) = some (Value.bool b) ∧
  w'.cell? (Addr.mk w.heap.size 1 none) = some (Value.int IntKind.i64 n) ∧ True) ∧
  Deref c0 fun (ad : Addr) =>
  ∃ (b_1 : Bool),
  ∃ (n_1 : Int),
  (w'.cell? ad = some (Value.bool b_1) ∧ w'.cell? (ad.add 1) = some (Value.int IntKind.i64 n_1) ∧ True) ∧
  ∃ (b_2 : Bool),
  EqRuns Proofs.Try.prog BinOp.eql 24 (Operand.tmp 5) (Operand.tmp 6)
  (Value.agg #[Value.bool b, Value.int IntKind.i64 n])
  (Value.agg #[Value.bool b_1, Value.int IntKind.i64 n_1]) b_2 ∧
  cnd b_2 (R (Ending.returned (Value.bool true)) w')
  (∃ (b : Bool),
  ∃ (n : Int),
  (w'.cell? (Addr.mk w.heap.size 2 none) = some (Value.bool b) ∧
  w'.cell? (Addr.mk w.heap.size 3 none) = some (Value.int IntKind.i64 n) ∧ True) ∧
  Deref c0 fun (ad : Addr) =>
  ∃ (b_3 : Bool),
  ∃ (n_2 : Int),
  (w'.cell? ad = some (Value.bool b_3) ∧
  w'.cell? (ad.add 1) = some (Value.int IntKind.i64 n_2) ∧ True) ∧
  ∃ (b_4 : Bool),
  EqRuns Proofs.Try.prog BinOp.eql 24 (Operand.tmp 10) (Operand.tmp 11)
  (Value.agg #[Value.bool b, Value.int IntKind.i64 n])
  (Value.agg #[Value.bool b_3, Value.int IntKind.i64 n_2]) b_4 ∧
  R (Ending.returned (Value.bool b_4)) w')
theorem par_Order_1.vc_eq (m'_0 : Bool) (m'_1 : Int) (m'_2 : Bool) (m'_3 : Int) (c0 : Option Addr) (w : World) (R : Ending → World → Prop) : fnV Try.prog par_Order_1.H 19 [Value.agg #[Value.bool m'_0, Value.int IntKind.i64 m'_1, Value.bool m'_2, Value.int IntKind.i64 m'_3],
  Value.pointer c0] w R = par_Order_1.vc m'_0 m'_1 m'_2 m'_3 c0 w R := by kernel_rfl
theorem par_Order_1.calls {m'_0 : Bool} {m'_1 : Int} {m'_2 : Bool} {m'_3 : Int} {c0 : Option Addr} {w : World} {R : Ending → World → Prop} (h : par_Order_1.vc m'_0 m'_1 m'_2 m'_3 c0 w R) : Calls Try.prog 19 ([Value.agg #[Value.bool m'_0, Value.int IntKind.i64 m'_1, Value.bool m'_2, Value.int IntKind.i64 m'_3],
  Value.pointer c0] : List Value).toArray w R := calls_of_eq (par_Order_1.vc_eq m'_0 m'_1 m'_2 m'_3 c0 w R) h

/- function 20: sacristy/par.order -/
abbrev par_order.N : FuncId := 20
def par_order.H : Hints := { loops := [(5, [(6, .one .slice), (19, .one (.int .i64))]), (12, [(4, .one .slice), (5, .one (.int .i64)), (6, .one .slice)]), (21, [(81, .one (.int .i64))])], floats := [(8, 5), (15, 5), (25, 11)] }
def par_order.vc (l' : Option Addr) (l'n : Nat) (l'c : Nat) (spare'_0 : Bool) (spare'_1 : Int) (w : World) (R : Ending → World → Prop) : Prop :=
  ∀ (w' : World),
  w' = w.alloc (Obj.cells #[Value.bool spare'_0, Value.int IntKind.i64 spare'_1] 24) →
  RunsV Proofs.Try.prog
  (Instr.makeMap 51
  (Option.map
  (ev
  [Value.slice l' l'n l'c, Value.agg #[Value.bool spare'_0, Value.int IntKind.i64 spare'_1], Value.tuple #[],
  Value.pointer (some (Addr.mk w.heap.size 0 none)), Value.slice none 0 0, Value.int IntKind.i64 0,
  Value.slice none 0 0, Value.tuple #[], Value.tuple #[], Value.tuple #[], Value.tuple #[], Value.tuple #[],
  Value.tuple #[], Value.tuple #[], Value.tuple #[], Value.tuple #[], Value.tuple #[], Value.tuple #[],
  Value.tuple #[], Value.tuple #[], Value.tuple #[], Value.tuple #[], Value.tuple #[], Value.tuple #[],
  Value.tuple #[], Value.tuple #[], Value.tuple #[], Value.tuple #[], Value.tuple #[], Value.tuple #[],
  Value.tuple #[], Value.tuple #[], Value.tuple #[], Value.tuple #[], Value.tuple #[], Value.tuple #[],
  Value.tuple #[], Value.tuple #[], Value.tuple #[], Value.tuple #[], Value.tuple #[], Value.tuple #[],
  Value.tuple #[], Value.tuple #[], Value.tuple #[], Value.tuple #[], Value.tuple #[], Value.tuple #[],
  Value.tuple #[], Value.tuple #[], Value.tuple #[], Value.tuple #[], Value.tuple #[], Value.tuple #[],
  Value.tuple #[], Value.tuple #[], Value.tuple #[], Value.tuple #[], Value.tuple #[], Value.tuple #[],
  Value.tuple #[], Value.tuple #[], Value.tuple #[], Value.tuple #[], Value.tuple #[], Value.tuple #[],
  Value.tuple #[], Value.tuple #[], Value.tuple #[], Value.tuple #[], Value.tuple #[], Value.tuple #[],
  Value.tuple #[], Value.tuple #[], Value.tuple #[], Value.tuple #[], Value.tuple #[], Value.tuple #[],
  Value.tuple #[], Value.tuple #[], Value.tuple #[], Value.tuple #[], Value.tuple #[], Value.tuple #[],
  Value.tuple #[], Value.tuple #[], Value.tuple #[], Value.tuple #[], Value.tuple #[], Value.tuple #[],
  Value.tuple #[], Value.tuple #[], Value.tuple #[], Value.tuple #[], Value.tuple #[], Value.tuple #[],
  Value.tuple #[], Value.tuple #[], Value.tuple #[], Value.tuple #[], Value.tuple #[], Value.tuple #[],
  Value.tuple #[], Value.tuple #[], Value.tuple #[], Value.tuple #[], Value.tuple #[], Value.tuple #[],
  Value.tuple #[], Value.tuple #[], Value.tuple #[], Value.tuple #[], Value.tuple #[]])
  none))
  w' fun (v : Value) (w' : World) =>
  ∃ (r : Option Nat),
  v = Value.map r ∧
  ∀ (w'_1 : World),
  w'_1 = w'.alloc (Obj.cells #[Value.map none] 51) →
  ((w'_1.cell? (Addr.mk w'.heap.size 0 none)).isSome = true ∧
  w'_1.frozen? (Addr.mk w'.heap.size 0 none) = false) ∧
  ∀ (w'_2 : World),
  w'_2 = w'_1.setCell (Addr.mk w'.heap.size 0 none) (Value.map r) →
  ∃ (I : List Value → World → Prop),
  ∃ (μ : List Value → World → Nat),
  I [Value.slice none 0 0, Value.int IntKind.i64 0] w'_2 ∧
  ∀ (g : Nat → Value) (left : Option Addr) (leftn leftc : Nat) (s19 : Int) (w'_3 : World),
  I [Value.slice left leftn leftc, Value.int IntKind.i64 s19] w'_3 →
  cnd (decide (s19 < (↑l'n : Int)))
  ((0 ≤ s19 ∧ s19 < (↑l'n : Int)) ∧
  Deref l' fun (a : Addr) =>
  ∃ (b : Bool),
  ∃ (n : Int),
  ∃ (b_1 : Bool),
  ∃ (n_1 : Int),
  (w'_3.cell? (a.add (s19.toNat * 4)) = some (Value.bool b) ∧
  w'_3.cell? ((a.add (s19.toNat * 4)).add 1) =
  some (Value.int IntKind.i64 n) ∧
  w'_3.cell? ((a.add (s19.toNat * 4)).add 2) = some (Value.bool b_1) ∧
  w'_3.cell? ((a.add (s19.toNat * 4)).add 3) =
  some (Value.int IntKind.i64 n_1) ∧
  True) ∧
  ∀ (w'_4 : World),
  w'_4 =
  w'_3.alloc
  (Obj.cells
  #[Value.bool false, Value.int IntKind.i64 0, Value.bool false,
  Value.int IntKind.i64 0]
  39) →
  SetsAt w'_4 (Addr.mk w'_3.heap.size 0 none) 0
  [Value.bool b, Value.int IntKind.i64 n, Value.bool b_1,
  Value.int IntKind.i64 n_1] ∧
  ∀ (w'_5 : World),
  w'_5 =
  setCellsAt w'_4 (Addr.mk w'_3.heap.size 0 none) 0
  [Value.bool b, Value.int IntKind.i64 n, Value.bool b_1,
  Value.int IntKind.i64 n_1] →
  ∃ (b : Bool),
  ∃ (n : Int),
  (w'_5.cell? (Addr.mk w'_3.heap.size 0 none) =
  some (Value.bool b) ∧
  w'_5.cell? (Addr.mk w'_3.heap.size 1 none) =
  some (Value.int IntKind.i64 n) ∧
  True) ∧
  ∃ (b_2 : Bool),
  ∃ (n_2 : Int),
  (w'_5.cell? (Addr.mk w'_3.heap.size 2 none) =
  some (Value.bool b_2) ∧
  w'_5.cell? (Addr.mk w'_3.heap.size 3 none) =
  some (Value.int IntKind.i64 n_2) ∧
  True) ∧
  ∃ (b_3 : Bool),
  EqRuns Proofs.Try.prog BinOp.neq 24
  (Operand.tmp 24) (Operand.tmp 26)
  (Value.agg
  #[Value.bool b, Value.int IntKind.i64 n])
  (Value.agg
  #[Value.bool b_2,
  Value.int IntKind.i64 n_2])
  b_3 ∧
  cnd b_3
  (∃ (b : Bool),
  ∃ (n : Int),
  ∃ (b_4 : Bool),
  ∃ (n_3 : Int),
  (w'_5.cell?
  (Addr.mk w'_3.heap.size 0
  none) =
  some (Value.bool b) ∧
  w'_5.cell?
  (Addr.mk w'_3.heap.size 1
  none) =
  some
  (Value.int IntKind.i64 n) ∧
  w'_5.cell?
  (Addr.mk w'_3.heap.size 2
  none) =
  some (Value.bool b_4) ∧
  w'_5.cell?
  (Addr.mk w'_3.heap.size
  3 none) =
  some
  (Value.int IntKind.i64
  n_3) ∧
  True) ∧
  ∀ (w'_6 : World),
  w'_6 =
  w'_5.alloc
  (Obj.cells
  #[Value.bool b,
  Value.int IntKind.i64 n,
  Value.bool b_4,
  Value.int IntKind.i64
  n_3]
  39) →
  RunsV Proofs.Try.prog
  (Builtin.append_ #[22, 22] 22
  #[Value.slice left leftn
  leftc,
  Value.slice
  (some
  (Addr.mk
  w'_5.heap.size 0
  none))
  1 1])
  w'_6
  fun (v : Value)
  (w'_7 : World) =>
  ∃ (p : Option Addr),
  ∃ (n : Nat),
  ∃ (c : Nat),
  v = Value.slice p n c ∧
  ∃ (C :
  Nat → World → Prop),
  ((∀ (p : Nat)
  (w w' :
  World),
  C p w →
  Later w w' →
  C p w') ∧
  C 0 w'_7) ∧
  ∃ (r :
  Option Nat),
  (∀
  (w'_8 :
  World),
  PhC C 0 0
  w'_8 →
  w'_8.cell?
  (Addr.mk
  w'.heap.size
  0
  none) =
  some
  (Value.map
  r)) ∧
  ∃ (b : Bool),
  ∃ (n_4 :
  Int),
  (∀
  (w' :
  World),
  PhC C
  0
  0
  w' →
  w'.cell?
  (Addr.mk
  w'_3.heap.size
  0
  none) =
  some
  (Value.bool
  b) ∧
  w'.cell?
  (Addr.mk
  w'_3.heap.size
  1
  none) =
  some
  (Value.int
  IntKind.i64
  n_4) ∧
  True) ∧
  ∃ (n_5 :
  Int),
  (∀
  (w' :
  World),
  PhC
  C
  0
  1
  w' →
  Sem.run
  Proofs.Try.prog
  (Instr.lookup
  51
  (Value.map
  r)
  (Value.agg
  #[Value.bool
  b,
  Value.int
  IntKind.i64
  n_4])
  false)
  w' =
  Result.ok
  (Value.int
  IntKind.i64
  n_5)
  w') ∧
  ∃ (x
  :
  Value),
  ∃
  (st
  :
  Int),
  (∀
  (w :
  World),
  C
  0
  w →
  ∃
  (w'
  :
  World),
  Sem.run
  Proofs.Try.prog
  (Instr.mapEntry
  51
  (Value.map
  r)
  (Value.agg
  #[Value.bool
  b,
  Value.int
  IntKind.i64
  n_4]))
  w =
  Result.ok
  (Value.tuple
  #[x,
  Value.int
  IntKind.i64
  st])
  w' ∧
  C
  1
  w') ∧
  (∀
  (w :
  World),
  C
  1
  w →
  ∃
  (w'
  :
  World),
  Sem.run
  Proofs.Try.prog
  (do Instr.entryStore 51 (Value.map r) (Value.int IntKind.i64 st) (Value.int IntKind.i64 (IntKind.i64.wrap (n_5 + 1))); pure (Value.tuple #[]))
  w =
  Result.ok
  (Value.tuple
  #[])
  w' ∧
  C
  2
  w') ∧
  ∀
  (w' :
  World),
  C
  2
  w' →
  Goes
  I
  μ
  [Value.slice
  left
  leftn
  leftc,
  Value.int
  IntKind.i64
  s19]
  w'_3
  [Value.slice
  p
  n
  c,
  Value.int
  IntKind.i64
  (IntKind.i64.wrap
  (s19 +
  1))]
  w')
  (Goes I μ
  [Value.slice left leftn leftc,
  Value.int IntKind.i64 s19]
  w'_3
  [Value.slice left leftn leftc,
  Value.int IntKind.i64
  (IntKind.i64.wrap (s19 + 1))]
  w'_5))
  (∃ (I : List Value → World → Prop),
  ∃ (μ : List Value → World → Nat),
  I [Value.slice none 0 0, Value.int IntKind.i64 0, Value.slice left leftn leftc]
  w'_3 ∧
  ∀ (g : Nat → Value) (out : Option Addr) (outn outc : Nat) (rings : Int)
  (left : Option Addr) (leftn leftc : Nat) (w'_4 : World),
  I
  [Value.slice out outn outc, Value.int IntKind.i64 rings,
  Value.slice left leftn leftc]
  w'_4 →
  cnd (decide ((↑leftn : Int) > 0))
  (Calls Proofs.Try.prog 23
  #[Value.slice left leftn leftc,
  Value.func (Fn.func 24) #[]
  #[Value.pointer (some (Addr.mk w'.heap.size 0 none))]]
  w'_4 fun (e : Ending) (w'_5 : World) =>
  ∃ (n : Int),
  e = Ending.returned (Value.int IntKind.i64 n) ∧
  cnd (decide (n ≥ 0))
  ((0 ≤ n ∧ n < (↑leftn : Int)) ∧
  Deref left fun (a : Addr) =>
  ∃ (b : Bool),
  ∃ (n_1 : Int),
  ∃ (b_1 : Bool),
  ∃ (n_2 : Int),
  (w'_5.cell? (a.add (n.toNat * 4)) =
  some (Value.bool b) ∧
  w'_5.cell? ((a.add (n.toNat * 4)).add 1) =
  some (Value.int IntKind.i64 n_1) ∧
  w'_5.cell? ((a.add (n.toNat * 4)).add 2) =
  some (Value.bool b_1) ∧
  w'_5.cell? ((a.add (n.toNat * 4)).add 3) =
  some (Value.int IntKind.i64 n_2) ∧
  True) ∧
  ∀ (w'_6 : World),
  w'_6 =
  w'_5.alloc
  (Obj.cells
  #[Value.bool false, Value.int IntKind.i64 0,
  Value.bool false, Value.int IntKind.i64 0]
  39) →
  SetsAt w'_6 (Addr.mk w'_5.heap.size 0 none) 0
  [Value.bool b, Value.int IntKind.i64 n_1,
  Value.bool b_1, Value.int IntKind.i64 n_2] ∧
  ∀ (w'_7 : World),
  w'_7 =
  setCellsAt w'_6
  (Addr.mk w'_5.heap.size 0 none) 0
  [Value.bool b,
  Value.int IntKind.i64 n_1,
  Value.bool b_1,
  Value.int IntKind.i64 n_2] →
  ∃ (C : Nat → World → Prop),
  ((∀ (p : Nat) (w w' : World),
  C p w → Later w w' → C p w') ∧
  C 0 w'_7) ∧
  ∃ (r : Option Nat),
  (∀ (w'_8 : World),
  PhC C 0 0 w'_8 →
  w'_8.cell?
  (Addr.mk w'.heap.size 0
  none) =
  some (Value.map r)) ∧
  ∃ (b : Bool),
  ∃ (n_3 : Int),
  (∀ (w' : World),
  PhC C 0 0 w' →
  w'.cell?
  (Addr.mk
  w'_5.heap.size 0
  none) =
  some (Value.bool b) ∧
  w'.cell?
  (Addr.mk
  w'_5.heap.size 1
  none) =
  some
  (Value.int
  IntKind.i64
  n_3) ∧
  True) ∧
  ∃ (n_4 : Int),
  (∀ (w' : World),
  PhC C 0 1 w' →
  Sem.run
  Proofs.Try.prog
  (Instr.lookup 51
  (Value.map r)
  (Value.agg
  #[Value.bool
  b,
  Value.int
  IntKind.i64
  n_3])
  false)
  w' =
  Result.ok
  (Value.int
  IntKind.i64 n_4)
  w') ∧
  ∃ (x : Value),
  ∃ (st : Int),
  (∀ (w : World),
  C 0 w →
  ∃ (w' : World),
  Sem.run
  Proofs.Try.prog
  (Instr.mapEntry
  51
  (Value.map
  r)
  (Value.agg
  #[Value.bool
  b,
  Value.int
  IntKind.i64
  n_3]))
  w =
  Result.ok
  (Value.tuple
  #[x,
  Value.int
  IntKind.i64
  st])
  w' ∧
  C 1 w') ∧
  (∀ (w : World),
  C 1 w →
  ∃ (w' :
  World),
  Sem.run
  Proofs.Try.prog
  (do Instr.entryStore 51 (Value.map r) (Value.int IntKind.i64 st) (Value.int IntKind.i64 (IntKind.i64.wrap (n_4 - 1))); pure (Value.tuple #[]))
  w =
  Result.ok
  (Value.tuple
  #[])
  w' ∧
  C 2 w') ∧
  ∀ (w' : World),
  C 2 w' →
  ∃ (b : Bool),
  ∃ (n_5 :
  Int),
  ∃ (b_2 :
  Bool),
  ∃ (n_6 :
  Int),
  (w'.cell?
  (Addr.mk
  w'_5.heap.size
  0
  none) =
  some
  (Value.bool
  b) ∧
  w'.cell?
  (Addr.mk
  w'_5.heap.size
  1
  none) =
  some
  (Value.int
  IntKind.i64
  n_5) ∧
  w'.cell?
  (Addr.mk
  w'_5.heap.size
  2
  none) =
  some
  (Value.bool
  b_2) ∧
  w'.cell?
  (Addr.mk
  w'_5.heap.size
  3
  none) =
  some
  (Value.int
  IntKind.i64
  n_6) ∧
  True) ∧
  ∀
  (w'_8 :
  World),
  w'_8 =
  w'.alloc
  (Obj.cells
  #[Value.bool
  b,
  Value.int
  IntKind.i64
  n_5,
  Value.bool
  b_2,
  Value.int
  IntKind.i64
  n_6]
  39) →
  RunsV
  Proofs.Try.prog
  (Builtin.append_
  #[22,
  22]
  22
  #[Value.slice
  out
  outn
  outc,
  Value.slice
  (some
  (Addr.mk
  w'.heap.size
  0
  none))
  1
  1])
  w'_8
  fun
  (v :
  Value)
  (w' :
  World) =>
  ∃
  (p
  :
  Option
  Addr),
  ∃
  (n_7
  :
  Nat),
  ∃
  (c
  :
  Nat),
  v =
  Value.slice
  p
  n_7
  c ∧
  Calls
  Proofs.Try.prog
  25
  #[Value.slice
  left
  leftn
  leftc,
  Value.int
  IntKind.i64
  n,
  Value.int
  IntKind.i64
  (IntKind.i64.wrap
  (n +
  1))]
  w'
  fun
  (e :
  Ending)
  (w' :
  World) =>
  ∃
  (p_1
  :
  Option
  Addr),
  ∃
  (n
  :
  Nat),
  ∃
  (c_1
  :
  Nat),
  e =
  Ending.returned
  (Value.slice
  p_1
  n
  c_1) ∧
  Goes
  I
  μ
  [Value.slice
  out
  outn
  outc,
  Value.int
  IntKind.i64
  rings,
  Value.slice
  left
  leftn
  leftc]
  w'_4
  [Value.slice
  p
  n_7
  c,
  Value.int
  IntKind.i64
  rings,
  Value.slice
  p_1
  n
  c_1]
  w')
  ((Int.le 0 0 ∧ 0 < (↑leftn : Int)) ∧
  Deref left fun (a : Addr) =>
  ∃ (b : Bool),
  ∃ (n : Int),
  (w'_5.cell? (a.add 2) = some (Value.bool b) ∧
  w'_5.cell? ((a.add 2).add 1) =
  some (Value.int IntKind.i64 n) ∧
  True) ∧
  ∀ (w'_6 : World),
  w'_6 =
  w'_5.alloc
  (Obj.cells
  #[Value.bool false, Value.int IntKind.i64 0]
  24) →
  SetsAt w'_6 (Addr.mk w'_5.heap.size 0 none) 0
  [Value.bool b, Value.int IntKind.i64 n] ∧
  ∀ (w'_7 : World),
  w'_7 =
  setCellsAt w'_6
  (Addr.mk w'_5.heap.size 0 none) 0
  [Value.bool b, Value.int IntKind.i64 n] →
  ∃ (b : Bool),
  ∃ (n : Int),
  (w'_7.cell?
  (Addr.mk w'_5.heap.size 0 none) =
  some (Value.bool b) ∧
  w'_7.cell?
  (Addr.mk w'_5.heap.size 1 none) =
  some (Value.int IntKind.i64 n) ∧
  True) ∧
  ∃ (b_1 : Bool),
  ∃ (n_1 : Int),
  (w'_7.cell?
  (Addr.mk w.heap.size 0 none) =
  some (Value.bool b_1) ∧
  w'_7.cell?
  (Addr.mk w.heap.size 1
  none) =
  some
  (Value.int IntKind.i64
  n_1) ∧
  True) ∧
  ∀ (w'_8 : World),
  w'_8 =
  w'_7.alloc
  (Obj.cells
  #[Value.bool b,
  Value.int IntKind.i64 n,
  Value.bool b_1,
  Value.int IntKind.i64
  n_1]
  39) →
  RunsV Proofs.Try.prog
  (Builtin.append_ #[22, 22] 22
  #[Value.slice out outn outc,
  Value.slice
  (some
  (Addr.mk
  w'_7.heap.size 0
  none))
  1 1])
  w'_8
  fun (v : Value)
  (w'_9 : World) =>
  ∃ (p : Option Addr),
  ∃ (n : Nat),
  ∃ (c : Nat),
  v = Value.slice p n c ∧
  ∃ (I_1 :
  List Value →
  World → Prop),
  ∃ (μ_1 :
  List Value →
  World → Nat),
  I_1
  [Value.int
  IntKind.i64
  0]
  w'_9 ∧
  ∀
  (g :
  Nat → Value)
  (s81 : Int)
  (w'_10 :
  World),
  I_1
  [Value.int
  IntKind.i64
  s81]
  w'_10 →
  cnd
  (decide
  (s81 <
  (↑leftn :
  Int)))
  ((0 ≤
  s81 ∧
  s81 <
  (↑leftn :
  Int)) ∧
  Deref
  left
  fun
  (a :
  Addr) =>
  ∃ (b :
  Bool),
  ∃ (n
  :
  Int),
  ∃
  (b_2
  :
  Bool),
  ∃
  (n_2
  :
  Int),
  (w'_10.cell?
  (a.add
  (s81.toNat *
  4)) =
  some
  (Value.bool
  b) ∧
  w'_10.cell?
  ((a.add
  (s81.toNat *
  4)).add
  1) =
  some
  (Value.int
  IntKind.i64
  n) ∧
  w'_10.cell?
  ((a.add
  (s81.toNat *
  4)).add
  2) =
  some
  (Value.bool
  b_2) ∧
  w'_10.cell?
  ((a.add
  (s81.toNat *
  4)).add
  3) =
  some
  (Value.int
  IntKind.i64
  n_2) ∧
  True) ∧
  ∀
  (w' :
  World),
  w' =
  w'_10.alloc
  (Obj.cells
  #[Value.bool
  false,
  Value.int
  IntKind.i64
  0,
  Value.bool
  false,
  Value.int
  IntKind.i64
  0]
  39) →
  SetsAt
  w'
  (Addr.mk
  w'_10.heap.size
  0
  none)
  0
  [Value.bool
  b,
  Value.int
  IntKind.i64
  n,
  Value.bool
  b_2,
  Value.int
  IntKind.i64
  n_2] ∧
  ∀
  (w'_11 :
  World),
  w'_11 =
  setCellsAt
  w'
  (Addr.mk
  w'_10.heap.size
  0
  none)
  0
  [Value.bool
  b,
  Value.int
  IntKind.i64
  n,
  Value.bool
  b_2,
  Value.int
  IntKind.i64
  n_2] →
  ∃
  (b
  :
  Bool),
  ∃
  (n
  :
  Int),
  (w'_11.cell?
  (Addr.mk
  w'_10.heap.size
  0
  none) =
  some
  (Value.bool
  b) ∧
  w'_11.cell?
  (Addr.mk
  w'_10.heap.size
  1
  none) =
  some
  (Value.int
  IntKind.i64
  n) ∧
  True) ∧
  ∃
  (b_3
  :
  Bool),
  ∃
  (n_3
  :
  Int),
  (w'_11.cell?
  (Addr.mk
  w'_5.heap.size
  0
  none) =
  some
  (Value.bool
  b_3) ∧
  w'_11.cell?
  (Addr.mk
  w'_5.heap.size
  1
  none) =
  some
  (Value.int
  IntKind.i64
  n_3) ∧
  True) ∧
  ∃
  (b_4
  :
  Bool),
  EqRuns
  Proofs.Try.prog
  BinOp.eql
  24
  (Operand.tmp
  87)
  (Operand.tmp
  88)
  (Value.agg
  #[Value.bool
  b,
  Value.int
  IntKind.i64
  n])
  (Value.agg
  #[Value.bool
  b_3,
  Value.int
  IntKind.i64
  n_3])
  b_4 ∧
  cnd
  b_4
  (∃
  (b
  :
  Bool),
  ∃
  (n
  :
  Int),
  (w'_11.cell?
  (Addr.mk
  w.heap.size
  0
  none) =
  some
  (Value.bool
  b) ∧
  w'_11.cell?
  (Addr.mk
  w.heap.size
  1
  none) =
  some
  (Value.int
  IntKind.i64
  n) ∧
  True) ∧
  (0 ≤
  s81 ∧
  s81 <
  (↑leftn :
  Int)) ∧
  Deref
  left
  fun
  (a :
  Addr) =>
  SetsAt
  w'_11
  (a.add
  (s81.toNat *
  4))
  0
  [Value.bool
  b,
  Value.int
  IntKind.i64
  n] ∧
  ∀
  (w' :
  World),
  w' =
  setCellsAt
  w'_11
  (a.add
  (s81.toNat *
  4))
  0
  [Value.bool
  b,
  Value.int
  IntKind.i64
  n] →
  Goes
  I_1
  μ_1
  [Value.int
  IntKind.i64
  s81]
  w'_10
  [Value.int
  IntKind.i64
  (IntKind.i64.wrap
  (s81 +
  1))]
  w')
  (Goes
  I_1
  μ_1
  [Value.int
  IntKind.i64
  s81]
  w'_10
  [Value.int
  IntKind.i64
  (IntKind.i64.wrap
  (s81 +
  1))]
  w'_11))
  (∃ (C :
  Nat →
  World →
  Prop),
  ((∀
  (p :
  Nat)
  (w
  w' :
  World),
  C
  p
  w →
  Later
  w
  w' →
  C
  p
  w') ∧
  C 0
  w'_10) ∧
  ∃ (r :
  Option
  Nat),
  (∀
  (w'_11 :
  World),
  PhC
  C
  0
  0
  w'_11 →
  w'_11.cell?
  (Addr.mk
  w'.heap.size
  0
  none) =
  some
  (Value.map
  r)) ∧
  ∃
  (b
  :
  Bool),
  ∃
  (n_2
  :
  Int),
  (∀
  (w' :
  World),
  PhC
  C
  0
  0
  w' →
  w'.cell?
  (Addr.mk
  w.heap.size
  0
  none) =
  some
  (Value.bool
  b) ∧
  w'.cell?
  (Addr.mk
  w.heap.size
  1
  none) =
  some
  (Value.int
  IntKind.i64
  n_2) ∧
  True) ∧
  ∃
  (r_1
  :
  Option
  Nat),
  (∀
  (w'_11 :
  World),
  PhC
  C
  0
  2
  w'_11 →
  w'_11.cell?
  (Addr.mk
  w'.heap.size
  0
  none) =
  some
  (Value.map
  r_1)) ∧
  ∃
  (b_2
  :
  Bool),
  ∃
  (n_3
  :
  Int),
  (∀
  (w' :
  World),
  PhC
  C
  0
  2
  w' →
  w'.cell?
  (Addr.mk
  w'_5.heap.size
  0
  none) =
  some
  (Value.bool
  b_2) ∧
  w'.cell?
  (Addr.mk
  w'_5.heap.size
  1
  none) =
  some
  (Value.int
  IntKind.i64
  n_3) ∧
  True) ∧
  ∃
  (r_2
  :
  Option
  Nat),
  (∀
  (w'_11 :
  World),
  PhC
  C
  0
  1
  w'_11 →
  w'_11.cell?
  (Addr.mk
  w'.heap.size
  0
  none) =
  some
  (Value.map
  r_2)) ∧
  ∃
  (b_3
  :
  Bool),
  ∃
  (n_4
  :
  Int),
  (∀
  (w' :
  World),
  PhC
  C
  0
  1
  w' →
  w'.cell?
  (Addr.mk
  w.heap.size
  0
  none) =
  some
  (Value.bool
  b_3) ∧
  w'.cell?
  (Addr.mk
  w.heap.size
  1
  none) =
  some
  (Value.int
  IntKind.i64
  n_4) ∧
  True) ∧
  ∃
  (n_5
  :
  Int),
  (∀
  (w' :
  World),
  PhC
  C
  0
  1
  w' →
  Sem.run
  Proofs.Try.prog
  (Instr.lookup
  51
  (Value.map
  r_2)
  (Value.agg
  #[Value.bool
  b_3,
  Value.int
  IntKind.i64
  n_4])
  false)
  w' =
  Result.ok
  (Value.int
  IntKind.i64
  n_5)
  w') ∧
  ∃
  (r_3
  :
  Option
  Nat),
  (∀
  (w'_11 :
  World),
  PhC
  C
  0
  1
  w'_11 →
  w'_11.cell?
  (Addr.mk
  w'.heap.size
  0
  none) =
  some
  (Value.map
  r_3)) ∧
  ∃
  (b_4
  :
  Bool),
  ∃
  (n_6
  :
  Int),
  (∀
  (w' :
  World),
  PhC
  C
  0
  1
  w' →
  w'.cell?
  (Addr.mk
  w'_5.heap.size
  0
  none) =
  some
  (Value.bool
  b_4) ∧
  w'.cell?
  (Addr.mk
  w'_5.heap.size
  1
  none) =
  some
  (Value.int
  IntKind.i64
  n_6) ∧
  True) ∧
  ∃
  (n_7
  :
  Int),
  (∀
  (w' :
  World),
  PhC
  C
  0
  1
  w' →
  Sem.run
  Proofs.Try.prog
  (Instr.lookup
  51
  (Value.map
  r_3)
  (Value.agg
  #[Value.bool
  b_4,
  Value.int
  IntKind.i64
  n_6])
  false)
  w' =
  Result.ok
  (Value.int
  IntKind.i64
  n_7)
  w') ∧
  ∃
  (x
  :
  Value),
  ∃
  (st
  :
  Int),
  (∀
  (w :
  World),
  C
  0
  w →
  ∃
  (w'
  :
  World),
  Sem.run
  Proofs.Try.prog
  (Instr.mapEntry
  51
  (Value.map
  r)
  (Value.agg
  #[Value.bool
  b,
  Value.int
  IntKind.i64
  n_2]))
  w =
  Result.ok
  (Value.tuple
  #[x,
  Value.int
  IntKind.i64
  st])
  w' ∧
  C
  1
  w') ∧
  (∀
  (w :
  World),
  C
  1
  w →
  ∃
  (w'
  :
  World),
  Sem.run
  Proofs.Try.prog
  (do Instr.entryStore 51 (Value.map r) (Value.int IntKind.i64 st) (Value.int IntKind.i64 (IntKind.i64.wrap (n_5 + n_7))); pure (Value.tuple #[]))
  w =
  Result.ok
  (Value.tuple
  #[])
  w' ∧
  C
  2
  w') ∧
  (∀
  (w :
  World),
  C
  2
  w →
  ∃
  (w'
  :
  World),
  Sem.run
  Proofs.Try.prog
  (do Instr.mapUpdate 51 (Value.map r_1) (Value.agg #[Value.bool b_2, Value.int IntKind.i64 n_3]) (Value.int IntKind.i64 0); pure (Value.tuple #[]))
  w =
  Result.ok
  (Value.tuple
  #[])
  w' ∧
  C
  3
  w') ∧
  ∀
  (w' :
  World),
  C
  3
  w' →
  Goes
  I
  μ
  [Value.slice
  out
  outn
  outc,
  Value.int
  IntKind.i64
  rings,
  Value.slice
  left
  leftn
  leftc]
  w'_4
  [Value.slice
  p
  n
  c,
  Value.int
  IntKind.i64
  (IntKind.i64.wrap
  (rings +
  1)),
  Value.slice
  left
  leftn
  leftc]
  w')))
  (R
  (Ending.returned
  (Value.tuple #[Value.slice out outn outc, Value.int IntKind.i64 rings]))
  w'_4))
theorem par_order.vc_eq (l' : Option Addr) (l'n : Nat) (l'c : Nat) (spare'_0 : Bool) (spare'_1 : Int) (w : World) (R : Ending → World → Prop) : fnV Try.prog par_order.H 20 [Value.slice l' l'n l'c, Value.agg #[Value.bool spare'_0, Value.int IntKind.i64 spare'_1]] w R = par_order.vc l' l'n l'c spare'_0 spare'_1 w R := by kernel_rfl
theorem par_order.calls {l' : Option Addr} {l'n : Nat} {l'c : Nat} {spare'_0 : Bool} {spare'_1 : Int} {w : World} {R : Ending → World → Prop} (h : par_order.vc l' l'n l'c spare'_0 spare'_1 w R) : Calls Try.prog 20 ([Value.slice l' l'n l'c, Value.agg #[Value.bool spare'_0, Value.int IntKind.i64 spare'_1]] : List Value).toArray w R := calls_of_eq (par_order.vc_eq l' l'n l'c spare'_0 spare'_1 w R) h

/- function 23: slices.IndexFunc[[]sacristy/api.Move,sacristy/api.Move] -/
abbrev slices_IndexFunc.N : FuncId := 23
def slices_IndexFunc.H : Hints := { loops := [(3, [(8, .one (.int .i64))])] }
def slices_IndexFunc.vc (s' : Option Addr) (s'n : Nat) (s'c : Nat) (f' : Value) (w : World) (R : Ending → World → Prop) : Prop :=
  ∃ (I : List Value → World → Prop),
  ∃ (μ : List Value → World → Nat),
  I [Value.int IntKind.i64 0] w ∧
  ∀ (g : Nat → Value) (s8 : Int) (w' : World),
  I [Value.int IntKind.i64 s8] w' →
  cnd (decide (s8 < (↑s'n : Int)))
  ((0 ≤ s8 ∧ s8 < (↑s'n : Int)) ∧
  Deref s' fun (a : Addr) =>
  ∃ (b : Bool),
  ∃ (n : Int),
  ∃ (b_1 : Bool),
  ∃ (n_1 : Int),
  (w'.cell? (a.add (s8.toNat * 4)) = some (Value.bool b) ∧
  w'.cell? ((a.add (s8.toNat * 4)).add 1) = some (Value.int IntKind.i64 n) ∧
  w'.cell? ((a.add (s8.toNat * 4)).add 2) = some (Value.bool b_1) ∧
  w'.cell? ((a.add (s8.toNat * 4)).add 3) = some (Value.int IntKind.i64 n_1) ∧ True) ∧
  AsFn f' fun (f : FuncId) (fi ca : Array Value) =>
  cnd (entersB Proofs.Try.prog f)
  (Calls Proofs.Try.prog f
  (fi ++
  #[Value.agg
  #[Value.bool b, Value.int IntKind.i64 n, Value.bool b_1,
  Value.int IntKind.i64 n_1]] ++
  ca)
  w' fun (e : Ending) (w'_1 : World) =>
  ∃ (b : Bool),
  e = Ending.returned (Value.bool b) ∧
  cnd b (R (Ending.returned (Value.int IntKind.i64 s8)) w'_1)
  (Goes I μ [Value.int IntKind.i64 s8] w'
  [Value.int IntKind.i64 (IntKind.i64.wrap (s8 + 1))] w'_1))
  (RunsC Proofs.Try.prog f
  (fi ++
  #[Value.agg
  #[Value.bool b, Value.int IntKind.i64 n, Value.bool b_1,
  Value.int IntKind.i64 n_1]] ++
  ca)
  w' fun (v : Value) (w'_1 : World) =>
  ∃ (b : Bool),
  v = Value.bool b ∧
  cnd b (R (Ending.returned (Value.int IntKind.i64 s8)) w'_1)
  (Goes I μ [Value.int IntKind.i64 s8] w'
  [Value.int IntKind.i64 (IntKind.i64.wrap (s8 + 1))] w'_1)))
  (R (Ending.returned (Value.int IntKind.i64 (-1))) w')
theorem slices_IndexFunc.vc_eq (s' : Option Addr) (s'n : Nat) (s'c : Nat) (f' : Value) (w : World) (R : Ending → World → Prop) : fnV Try.prog slices_IndexFunc.H 23 [Value.slice s' s'n s'c, f'] w R = slices_IndexFunc.vc s' s'n s'c f' w R := by kernel_rfl
theorem slices_IndexFunc.calls {s' : Option Addr} {s'n : Nat} {s'c : Nat} {f' : Value} {w : World} {R : Ending → World → Prop} (h : slices_IndexFunc.vc s' s'n s'c f' w R) : Calls Try.prog 23 ([Value.slice s' s'n s'c, f'] : List Value).toArray w R := calls_of_eq (slices_IndexFunc.vc_eq s' s'n s'c f' w R) h

/- function 24: sacristy/par.order$1 -/
abbrev par_order_1.N : FuncId := 24
def par_order_1.H : Hints := {  }
def par_order_1.vc (m'_0 : Bool) (m'_1 : Int) (m'_2 : Bool) (m'_3 : Int) (c0 : Option Addr) (w : World) (R : Ending → World → Prop) : Prop :=
  ∀ (w' : World),
  w' =
  w.alloc
  (Obj.cells #[Value.bool m'_0, Value.int IntKind.i64 m'_1, Value.bool m'_2, Value.int IntKind.i64 m'_3] 39) →
  Deref c0 fun (ad : Addr) =>
  ∃ (r : Option Nat),
  w'.cell? ad = some (Value.map r) ∧
  ∃ (b : Bool),
  ∃ (n : Int),
  (w'.cell? (Addr.mk w.heap.size 2 none) = some (Value.bool b) ∧
  w'.cell? (Addr.mk w.heap.size 3 none) = some (Value.int IntKind.i64 n) ∧ True) ∧
  RunsV Proofs.Try.prog
  (Instr.lookup 51 (Value.map r) (Value.agg #[Value.bool b, Value.int IntKind.i64 n]) false) w'
  fun (v : Value) (w' : World) =>
  ∃ (n : Int), v = Value.int IntKind.i64 n ∧ R (Ending.returned (Value.bool (n == 0))) w'
theorem par_order_1.vc_eq (m'_0 : Bool) (m'_1 : Int) (m'_2 : Bool) (m'_3 : Int) (c0 : Option Addr) (w : World) (R : Ending → World → Prop) : fnV Try.prog par_order_1.H 24 [Value.agg #[Value.bool m'_0, Value.int IntKind.i64 m'_1, Value.bool m'_2, Value.int IntKind.i64 m'_3],
  Value.pointer c0] w R = par_order_1.vc m'_0 m'_1 m'_2 m'_3 c0 w R := by kernel_rfl
theorem par_order_1.calls {m'_0 : Bool} {m'_1 : Int} {m'_2 : Bool} {m'_3 : Int} {c0 : Option Addr} {w : World} {R : Ending → World → Prop} (h : par_order_1.vc m'_0 m'_1 m'_2 m'_3 c0 w R) : Calls Try.prog 24 ([Value.agg #[Value.bool m'_0, Value.int IntKind.i64 m'_1, Value.bool m'_2, Value.int IntKind.i64 m'_3],
  Value.pointer c0] : List Value).toArray w R := calls_of_eq (par_order_1.vc_eq m'_0 m'_1 m'_2 m'_3 c0 w R) h

/- function 25: slices.Delete[[]sacristy/api.Move,sacristy/api.Move] -/
abbrev slices_Delete.N : FuncId := 25
def slices_Delete.H : Hints := { tails := [(5, 6)] }
def slices_Delete.vc (s' : Option Addr) (s'n : Nat) (s'c : Nat) (i' : Int) (j' : Int) (w : World) (R : Ending → World → Prop) : Prop :=
  (0 ≤ (↑s'n : Int) ∧ (↑s'n : Int) ≤ (↑s'c : Int)) ∧
  (0 ≤ j' ∧ j' ≤ (↑(↑s'n : Int).toNat : Int)) ∧
  (0 ≤ i' ∧ i' ≤ (↑j'.toNat : Int)) ∧
  cnd (i' == j') (R (Ending.returned (Value.slice s' s'n s'c)) w)
  ((0 ≤ i' ∧ i' ≤ (↑s'c : Int)) ∧
  (0 ≤ j' ∧ j' ≤ (↑s'n : Int)) ∧
  ∀ (w' : World),
  Later w w' →
  RunsV Proofs.Try.prog
  (Builtin.append_ #[22, 22] 22
  #[Value.slice (reslice s' 0 s'c 4) (i'.toNat - 0) (s'c - 0),
  Value.slice (reslice s' j'.toNat s'c 4) (s'n - j'.toNat) (s'c - j'.toNat)])
  w' fun (v : Value) (w' : World) =>
  ∃ (p : Option Addr),
  ∃ (n : Nat),
  ∃ (c : Nat),
  v = Value.slice p n c ∧
  (0 ≤ (↑s'n : Int) ∧ (↑s'n : Int) ≤ (↑c : Int)) ∧
  (0 ≤ (↑n : Int) ∧ (↑n : Int) ≤ (↑(↑s'n : Int).toNat : Int)) ∧
  RunsV Proofs.Try.prog
  (Builtin.clear_ #[22] 0
  #[Value.slice (reslice p (↑n : Int).toNat c 4) ((↑s'n : Int).toNat - (↑n : Int).toNat)
  (c - (↑n : Int).toNat)])
  w' fun (v : Value) (w' : World) =>
  ∃ (v_1 : Value), v = v_1 ∧ R (Ending.returned (Value.slice p n c)) w')
theorem slices_Delete.vc_eq (s' : Option Addr) (s'n : Nat) (s'c : Nat) (i' : Int) (j' : Int) (w : World) (R : Ending → World → Prop) : fnV Try.prog slices_Delete.H 25 [Value.slice s' s'n s'c, Value.int IntKind.i64 i', Value.int IntKind.i64 j'] w R = slices_Delete.vc s' s'n s'c i' j' w R := by kernel_rfl
theorem slices_Delete.calls {s' : Option Addr} {s'n : Nat} {s'c : Nat} {i' : Int} {j' : Int} {w : World} {R : Ending → World → Prop} (h : slices_Delete.vc s' s'n s'c i' j' w R) : Calls Try.prog 25 ([Value.slice s' s'n s'c, Value.int IntKind.i64 i', Value.int IntKind.i64 j'] : List Value).toArray w R := calls_of_eq (slices_Delete.vc_eq s' s'n s'c i' j' w R) h

/- function 7: sacristy/par.Order -/
abbrev par_Order.N : FuncId := 7
def par_Order.H : Hints := {  }
def par_Order.vc (l' : Option Addr) (l'n : Nat) (l'c : Nat) (spare'_0 : Bool) (spare'_1 : Int) (w : World) (R : Ending → World → Prop) : Prop :=
  ∀ (w' : World),
  w' = w.alloc (Obj.cells #[Value.bool spare'_0, Value.int IntKind.i64 spare'_1] 24) →
  Calls Proofs.Try.prog 17 #[Value.slice l' l'n l'c] w' fun (e : Ending) (w' : World) =>
  ∃ (b : Bool),
  e = Ending.returned (Value.bool b) ∧
  cnd (!b) (R (Ending.returned (Value.tuple #[Value.slice none 0 0, Value.int IntKind.i64 2])) w')
  (∃ (n : Int),
  w'.cell? (Addr.mk w.heap.size 1 none) = some (Value.int IntKind.i64 n) ∧
  cnd (decide (n < 0))
  (R (Ending.returned (Value.tuple #[Value.slice none 0 0, Value.int IntKind.i64 2])) w')
  (Calls Proofs.Try.prog 18
  #[Value.slice l' l'n l'c,
  Value.func (Fn.func 19) #[] #[Value.pointer (some (Addr.mk w.heap.size 0 none))]]
  w' fun (e : Ending) (w' : World) =>
  ∃ (b : Bool),
  e = Ending.returned (Value.bool b) ∧
  cnd b (R (Ending.returned (Value.tuple #[Value.slice none 0 0, Value.int IntKind.i64 2])) w')
  (∃ (b : Bool),
  ∃ (n : Int),
  (w'.cell? (Addr.mk w.heap.size 0 none) = some (Value.bool b) ∧
  w'.cell? (Addr.mk w.heap.size 1 none) = some (Value.int IntKind.i64 n) ∧ True) ∧
  Calls Proofs.Try.prog 20
  #[Value.slice l' l'n l'c, Value.agg #[Value.bool b, Value.int IntKind.i64 n]] w'
  fun (e : Ending) (w' : World) =>
  ∃ (p : Option Addr),
  ∃ (n : Nat),
  ∃ (c : Nat),
  ∃ (n_1 : Int),
  e =
  Ending.returned
  (Value.tuple #[Value.slice p n c, Value.int IntKind.i64 n_1]) ∧
  R
  (Ending.returned
  (Value.tuple #[Value.slice p n c, Value.int IntKind.i64 0]))
  w')))
theorem par_Order.vc_eq (l' : Option Addr) (l'n : Nat) (l'c : Nat) (spare'_0 : Bool) (spare'_1 : Int) (w : World) (R : Ending → World → Prop) : fnV Try.prog par_Order.H 7 [Value.slice l' l'n l'c, Value.agg #[Value.bool spare'_0, Value.int IntKind.i64 spare'_1]] w R = par_Order.vc l' l'n l'c spare'_0 spare'_1 w R := by kernel_rfl
theorem par_Order.calls {l' : Option Addr} {l'n : Nat} {l'c : Nat} {spare'_0 : Bool} {spare'_1 : Int} {w : World} {R : Ending → World → Prop} (h : par_Order.vc l' l'n l'c spare'_0 spare'_1 w R) : Calls Try.prog 7 ([Value.slice l' l'n l'c, Value.agg #[Value.bool spare'_0, Value.int IntKind.i64 spare'_1]] : List Value).toArray w R := calls_of_eq (par_Order.vc_eq l' l'n l'c spare'_0 spare'_1 w R) h

/- function 10: sacristy/par.Rings -/
abbrev par_Rings.N : FuncId := 10
def par_Rings.H : Hints := {  }
def par_Rings.vc (l' : Option Addr) (l'n : Nat) (l'c : Nat) (w : World) (R : Ending → World → Prop) : Prop :=
  Calls Proofs.Try.prog 17 #[Value.slice l' l'n l'c] w fun (e : Ending) (w' : World) =>
  ∃ (b : Bool),
  e = Ending.returned (Value.bool b) ∧
  cnd (!b) (R (Ending.returned (Value.tuple #[Value.int IntKind.i64 0, Value.int IntKind.i64 2])) w')
  (Calls Proofs.Try.prog 20 #[Value.slice l' l'n l'c, Value.agg #[Value.bool false, Value.int IntKind.i64 (-1)]]
  w' fun (e : Ending) (w' : World) =>
  ∃ (p : Option Addr),
  ∃ (n : Nat),
  ∃ (c : Nat),
  ∃ (n_1 : Int),
  e = Ending.returned (Value.tuple #[Value.slice p n c, Value.int IntKind.i64 n_1]) ∧
  R (Ending.returned (Value.tuple #[Value.int IntKind.i64 n_1, Value.int IntKind.i64 0])) w')
theorem par_Rings.vc_eq (l' : Option Addr) (l'n : Nat) (l'c : Nat) (w : World) (R : Ending → World → Prop) : fnV Try.prog par_Rings.H 10 [Value.slice l' l'n l'c] w R = par_Rings.vc l' l'n l'c w R := by kernel_rfl
theorem par_Rings.calls {l' : Option Addr} {l'n : Nat} {l'c : Nat} {w : World} {R : Ending → World → Prop} (h : par_Rings.vc l' l'n l'c w R) : Calls Try.prog 10 ([Value.slice l' l'n l'c] : List Value).toArray w R := calls_of_eq (par_Rings.vc_eq l' l'n l'c w R) h

end Go.Proofs.Ytngpkmpbhkbgoaa
