/-
The explicit conditions of some functions of the program, printed by this repo's own program over VcTop: what is proved is that each is the condition.
Conditions: none.
-/
import Derived.Test.YtngpkmpbhkbgoaaVcTop
import Derived.Test.YtngpkmpbhkbgoaaProg
namespace Go.Proofs.Ytngpkmpbhkbgoaa
open Go Go.Vc Go.RowKit
set_option linter.unusedVariables false
set_option maxRecDepth 100000

/- function 6: sacristy/sacristylaw27.alive -/
abbrev law27_alive.N : FuncId := 6
def law27_alive.H : Hints := { mixes := [(2, 1000), (3, 1000), (5, 1000), (6, 1000)] }
def law27_alive.vc (w : World) (R : Ending → World → Prop) : Prop :=
  ∀ (w' : World),
  w' = w.alloc (Obj.cells #[Value.bool false, Value.int IntKind.i64 0] 24) →
  SetsAt w' (Addr.mk w.heap.size 0 none) 0 [Value.bool true, Value.int IntKind.i64 0] ∧
  ∀ (w'_1 : World),
  w'_1 = setCellsAt w' (Addr.mk w.heap.size 0 none) 0 [Value.bool true, Value.int IntKind.i64 0] →
  ∀ (w' : World),
  Later w'_1 w' →
  ∃ (b : Bool),
  ∃ (n : Int),
  (∀ (w' : World),
  Later w'_1 w' →
  w'.cell? (Addr.mk w.heap.size 0 none) = some (Value.bool b) ∧
  w'.cell? (Addr.mk w.heap.size 1 none) = some (Value.int IntKind.i64 n) ∧ True) ∧
  Calls Proofs.Try.prog 16 #[Value.int IntKind.i64 0, Value.int IntKind.i64 1] w'
  fun (e : Ending) (w' : World) =>
  ∃ (b_1 : Bool),
  ∃ (n_1 : Int),
  ∃ (b_2 : Bool),
  ∃ (n_2 : Int),
  e =
  Ending.returned
  (Value.agg
  #[Value.bool b_1, Value.int IntKind.i64 n_1, Value.bool b_2,
  Value.int IntKind.i64 n_2]) ∧
  Later w'_1 w' ∧
  Calls Proofs.Try.prog 16 #[Value.int IntKind.i64 1, Value.int IntKind.i64 2] w'
  fun (e : Ending) (w' : World) =>
  ∃ (b_3 : Bool),
  ∃ (n_3 : Int),
  ∃ (b_4 : Bool),
  ∃ (n_4 : Int),
  e =
  Ending.returned
  (Value.agg
  #[Value.bool b_3, Value.int IntKind.i64 n_3, Value.bool b_4,
  Value.int IntKind.i64 n_4]) ∧
  Later w'_1 w' ∧
  ∀ (w'_2 : World),
  w'_2 =
  w'.alloc
  (Obj.cells
  #[Value.bool b_1, Value.int IntKind.i64 n_1, Value.bool b_2,
  Value.int IntKind.i64 n_2, Value.bool b_3,
  Value.int IntKind.i64 n_3, Value.bool b_4,
  Value.int IntKind.i64 n_4]
  39) →
  Later w'_1 w'_2 ∧
  Calls Proofs.Try.prog 7
  #[Value.slice (some (Addr.mk w'.heap.size 0 none)) 2 2,
  Value.agg #[Value.bool b, Value.int IntKind.i64 n]]
  w'_2 fun (e : Ending) (w' : World) =>
  ∃ (p : Option Addr),
  ∃ (n : Nat),
  ∃ (c : Nat),
  ∃ (n_5 : Int),
  e =
  Ending.returned
  (Value.tuple
  #[Value.slice p n c,
  Value.int IntKind.i64 n_5]) ∧
  Later w'_1 w' ∧
  ∀ (w'_3 : World),
  Later w' w'_3 →
  ∃ (b : Bool),
  ∃ (n_6 : Int),
  (∀ (w'_4 : World),
  Later w' w'_4 →
  w'_4.cell?
  (Addr.mk w.heap.size 0 none) =
  some (Value.bool b) ∧
  w'_4.cell?
  (Addr.mk w.heap.size 1 none) =
  some
  (Value.int IntKind.i64 n_6) ∧
  True) ∧
  Calls Proofs.Try.prog 16
  #[Value.int IntKind.i64 0,
  Value.int IntKind.i64 1]
  w'_3 fun (e : Ending) (w'_4 : World) =>
  ∃ (b_5 : Bool),
  ∃ (n_7 : Int),
  ∃ (b_6 : Bool),
  ∃ (n_8 : Int),
  e =
  Ending.returned
  (Value.agg
  #[Value.bool b_5,
  Value.int IntKind.i64
  n_7,
  Value.bool b_6,
  Value.int IntKind.i64
  n_8]) ∧
  Later w' w'_4 ∧
  Calls Proofs.Try.prog 16
  #[Value.int IntKind.i64 1,
  Value.int IntKind.i64 0]
  w'_4
  fun (e : Ending)
  (w'_5 : World) =>
  ∃ (b_7 : Bool),
  ∃ (n_9 : Int),
  ∃ (b_8 : Bool),
  ∃ (n_10 : Int),
  e =
  Ending.returned
  (Value.agg
  #[Value.bool
  b_7,
  Value.int
  IntKind.i64
  n_9,
  Value.bool
  b_8,
  Value.int
  IntKind.i64
  n_10]) ∧
  Later w' w'_5 ∧
  ∀
  (w'_6 :
  World),
  w'_6 =
  w'_5.alloc
  (Obj.cells
  #[Value.bool
  b_5,
  Value.int
  IntKind.i64
  n_7,
  Value.bool
  b_6,
  Value.int
  IntKind.i64
  n_8,
  Value.bool
  b_7,
  Value.int
  IntKind.i64
  n_9,
  Value.bool
  b_8,
  Value.int
  IntKind.i64
  n_10]
  39) →
  Later w'
  w'_6 ∧
  Calls
  Proofs.Try.prog
  7
  #[Value.slice
  (some
  (Addr.mk
  w'_5.heap.size
  0
  none))
  2
  2,
  Value.agg
  #[Value.bool
  b,
  Value.int
  IntKind.i64
  n_6]]
  w'_6
  fun
  (e :
  Ending)
  (w'_7 :
  World) =>
  ∃ (p_1
  :
  Option
  Addr),
  ∃
  (n_11
  :
  Nat),
  ∃
  (c_1
  :
  Nat),
  ∃
  (n_12
  :
  Int),
  e =
  Ending.returned
  (Value.tuple
  #[Value.slice
  p_1
  n_11
  c_1,
  Value.int
  IntKind.i64
  n_12]) ∧
  Later
  w'
  w'_7 ∧
  Calls
  Proofs.Try.prog
  16
  #[Value.int
  IntKind.i64
  0,
  Value.int
  IntKind.i64
  1]
  w'_7
  fun
  (e :
  Ending)
  (w' :
  World) =>
  ∃
  (b
  :
  Bool),
  ∃
  (n_13
  :
  Int),
  ∃
  (b_9
  :
  Bool),
  ∃
  (n_14
  :
  Int),
  e =
  Ending.returned
  (Value.agg
  #[Value.bool
  b,
  Value.int
  IntKind.i64
  n_13,
  Value.bool
  b_9,
  Value.int
  IntKind.i64
  n_14]) ∧
  Calls
  Proofs.Try.prog
  16
  #[Value.int
  IntKind.i64
  1,
  Value.int
  IntKind.i64
  0]
  w'
  fun
  (e :
  Ending)
  (w' :
  World) =>
  ∃
  (b_10
  :
  Bool),
  ∃
  (n_15
  :
  Int),
  ∃
  (b_11
  :
  Bool),
  ∃
  (n_16
  :
  Int),
  e =
  Ending.returned
  (Value.agg
  #[Value.bool
  b_10,
  Value.int
  IntKind.i64
  n_15,
  Value.bool
  b_11,
  Value.int
  IntKind.i64
  n_16]) ∧
  Calls
  Proofs.Try.prog
  16
  #[Value.int
  IntKind.i64
  2,
  Value.int
  IntKind.i64
  2]
  w'
  fun
  (e :
  Ending)
  (w' :
  World) =>
  ∃
  (b_12
  :
  Bool),
  ∃
  (n_17
  :
  Int),
  ∃
  (b_13
  :
  Bool),
  ∃
  (n_18
  :
  Int),
  e =
  Ending.returned
  (Value.agg
  #[Value.bool
  b_12,
  Value.int
  IntKind.i64
  n_17,
  Value.bool
  b_13,
  Value.int
  IntKind.i64
  n_18]) ∧
  ∀
  (w'_8 :
  World),
  w'_8 =
  w'.alloc
  (Obj.cells
  #[Value.bool
  b,
  Value.int
  IntKind.i64
  n_13,
  Value.bool
  b_9,
  Value.int
  IntKind.i64
  n_14,
  Value.bool
  b_10,
  Value.int
  IntKind.i64
  n_15,
  Value.bool
  b_11,
  Value.int
  IntKind.i64
  n_16,
  Value.bool
  b_12,
  Value.int
  IntKind.i64
  n_17,
  Value.bool
  b_13,
  Value.int
  IntKind.i64
  n_18]
  39) →
  Calls
  Proofs.Try.prog
  10
  #[Value.slice
  (some
  (Addr.mk
  w'.heap.size
  0
  none))
  3
  3]
  w'_8
  fun
  (e :
  Ending)
  (w' :
  World) =>
  ∃
  (n_19
  :
  Int),
  ∃
  (n_20
  :
  Int),
  e =
  Ending.returned
  (Value.tuple
  #[Value.int
  IntKind.i64
  n_19,
  Value.int
  IntKind.i64
  n_20]) ∧
  ∀
  (w'_9 :
  World),
  Later
  w'
  w'_9 →
  ∃
  (b
  :
  Bool),
  ∃
  (n_21
  :
  Int),
  (∀
  (w'_10 :
  World),
  Later
  w'
  w'_10 →
  w'_10.cell?
  (Addr.mk
  w.heap.size
  0
  none) =
  some
  (Value.bool
  b) ∧
  w'_10.cell?
  (Addr.mk
  w.heap.size
  1
  none) =
  some
  (Value.int
  IntKind.i64
  n_21) ∧
  True) ∧
  Calls
  Proofs.Try.prog
  16
  #[Value.int
  IntKind.i64
  0,
  Value.int
  IntKind.i64
  1]
  w'_9
  fun
  (e :
  Ending)
  (w'_10 :
  World) =>
  ∃
  (b_14
  :
  Bool),
  ∃
  (n_22
  :
  Int),
  ∃
  (b_15
  :
  Bool),
  ∃
  (n_23
  :
  Int),
  e =
  Ending.returned
  (Value.agg
  #[Value.bool
  b_14,
  Value.int
  IntKind.i64
  n_22,
  Value.bool
  b_15,
  Value.int
  IntKind.i64
  n_23]) ∧
  Later
  w'
  w'_10 ∧
  Calls
  Proofs.Try.prog
  16
  #[Value.int
  IntKind.i64
  2,
  Value.int
  IntKind.i64
  1]
  w'_10
  fun
  (e :
  Ending)
  (w'_11 :
  World) =>
  ∃
  (b_16
  :
  Bool),
  ∃
  (n_24
  :
  Int),
  ∃
  (b_17
  :
  Bool),
  ∃
  (n_25
  :
  Int),
  e =
  Ending.returned
  (Value.agg
  #[Value.bool
  b_16,
  Value.int
  IntKind.i64
  n_24,
  Value.bool
  b_17,
  Value.int
  IntKind.i64
  n_25]) ∧
  Later
  w'
  w'_11 ∧
  ∀
  (w'_12 :
  World),
  w'_12 =
  w'_11.alloc
  (Obj.cells
  #[Value.bool
  b_14,
  Value.int
  IntKind.i64
  n_22,
  Value.bool
  b_15,
  Value.int
  IntKind.i64
  n_23,
  Value.bool
  b_16,
  Value.int
  IntKind.i64
  n_24,
  Value.bool
  b_17,
  Value.int
  IntKind.i64
  n_25]
  39) →
  Later
  w'
  w'_12 ∧
  Calls
  Proofs.Try.prog
  7
  #[Value.slice
  (some
  (Addr.mk
  w'_11.heap.size
  0
  none))
  2
  2,
  Value.agg
  #[Value.bool
  b,
  Value.int
  IntKind.i64
  n_21]]
  w'_12
  fun
  (e :
  Ending)
  (w'_13 :
  World) =>
  ∃
  (p_2
  :
  Option
  Addr),
  ∃
  (n_26
  :
  Nat),
  ∃
  (c_2
  :
  Nat),
  ∃
  (n_27
  :
  Int),
  e =
  Ending.returned
  (Value.tuple
  #[Value.slice
  p_2
  n_26
  c_2,
  Value.int
  IntKind.i64
  n_27]) ∧
  Later
  w'
  w'_13 ∧
  ∀
  (w' :
  World),
  Later
  w'_13
  w' →
  cnd
  (n_5 ==
  0)
  (Calls
  Proofs.Try.prog
  16
  #[Value.int
  IntKind.i64
  1,
  Value.int
  IntKind.i64
  2]
  w'
  fun
  (e :
  Ending)
  (w' :
  World) =>
  ∃
  (b
  :
  Bool),
  ∃
  (n_28
  :
  Int),
  ∃
  (b_18
  :
  Bool),
  ∃
  (n_29
  :
  Int),
  e =
  Ending.returned
  (Value.agg
  #[Value.bool
  b,
  Value.int
  IntKind.i64
  n_28,
  Value.bool
  b_18,
  Value.int
  IntKind.i64
  n_29]) ∧
  Later
  w'_13
  w' ∧
  Calls
  Proofs.Try.prog
  16
  #[Value.int
  IntKind.i64
  0,
  Value.int
  IntKind.i64
  1]
  w'
  fun
  (e :
  Ending)
  (w' :
  World) =>
  ∃
  (b_19
  :
  Bool),
  ∃
  (n_30
  :
  Int),
  ∃
  (b_20
  :
  Bool),
  ∃
  (n_31
  :
  Int),
  e =
  Ending.returned
  (Value.agg
  #[Value.bool
  b_19,
  Value.int
  IntKind.i64
  n_30,
  Value.bool
  b_20,
  Value.int
  IntKind.i64
  n_31]) ∧
  Later
  w'_13
  w' ∧
  ∀
  (w'_14 :
  World),
  w'_14 =
  w'.alloc
  (Obj.cells
  #[Value.bool
  b,
  Value.int
  IntKind.i64
  n_28,
  Value.bool
  b_18,
  Value.int
  IntKind.i64
  n_29,
  Value.bool
  b_19,
  Value.int
  IntKind.i64
  n_30,
  Value.bool
  b_20,
  Value.int
  IntKind.i64
  n_31]
  39) →
  Later
  w'_13
  w'_14 ∧
  Calls
  Proofs.Try.prog
  9
  #[Value.slice
  p
  n
  c,
  Value.slice
  (some
  (Addr.mk
  w'.heap.size
  0
  none))
  2
  2]
  w'_14
  fun
  (e :
  Ending)
  (w' :
  World) =>
  ∃
  (b
  :
  Bool),
  e =
  Ending.returned
  (Value.bool
  b) ∧
  Later
  w'_13
  w' ∧
  cnd
  b
  (cnd
  (n_12 ==
  0)
  (∃
  (b
  :
  Bool),
  ∃
  (n
  :
  Int),
  (∀
  (w' :
  World),
  Later
  w'_13
  w' →
  w'.cell?
  (Addr.mk
  w.heap.size
  0
  none) =
  some
  (Value.bool
  b) ∧
  w'.cell?
  (Addr.mk
  w.heap.size
  1
  none) =
  some
  (Value.int
  IntKind.i64
  n) ∧
  True) ∧
  ∃
  (b_21
  :
  Bool),
  ∃
  (n_32
  :
  Int),
  (∀
  (w' :
  World),
  Later
  w'_13
  w' →
  w'.cell?
  (Addr.mk
  w.heap.size
  0
  none) =
  some
  (Value.bool
  b_21) ∧
  w'.cell?
  (Addr.mk
  w.heap.size
  1
  none) =
  some
  (Value.int
  IntKind.i64
  n_32) ∧
  True) ∧
  Calls
  Proofs.Try.prog
  16
  #[Value.int
  IntKind.i64
  0,
  Value.int
  IntKind.i64
  1]
  w'
  fun
  (e :
  Ending)
  (w' :
  World) =>
  ∃
  (b_22
  :
  Bool),
  ∃
  (n_33
  :
  Int),
  ∃
  (b_23
  :
  Bool),
  ∃
  (n_34
  :
  Int),
  e =
  Ending.returned
  (Value.agg
  #[Value.bool
  b_22,
  Value.int
  IntKind.i64
  n_33,
  Value.bool
  b_23,
  Value.int
  IntKind.i64
  n_34]) ∧
  Later
  w'_13
  w' ∧
  ∀
  (w'_15 :
  World),
  w'_15 =
  w'.alloc
  (Obj.cells
  #[Value.bool
  false,
  Value.int
  IntKind.i64
  1,
  Value.bool
  b,
  Value.int
  IntKind.i64
  n,
  Value.bool
  b_22,
  Value.int
  IntKind.i64
  n_33,
  Value.bool
  b_23,
  Value.int
  IntKind.i64
  n_34,
  Value.bool
  b_21,
  Value.int
  IntKind.i64
  n_32,
  Value.bool
  false,
  Value.int
  IntKind.i64
  0]
  39) →
  Later
  w'_13
  w'_15 ∧
  Calls
  Proofs.Try.prog
  9
  #[Value.slice
  p_1
  n_11
  c_1,
  Value.slice
  (some
  (Addr.mk
  w'.heap.size
  0
  none))
  3
  3]
  w'_15
  fun
  (e :
  Ending)
  (w' :
  World) =>
  ∃
  (b
  :
  Bool),
  e =
  Ending.returned
  (Value.bool
  b) ∧
  Later
  w'_13
  w' ∧
  cnd
  b
  (cnd
  (n_19 ==
  1)
  (cnd
  (n_20 ==
  0)
  (R
  (Ending.returned
  (Value.bool
  (n_27 ==
  2)))
  w')
  (R
  (Ending.returned
  (Value.bool
  false))
  w'))
  (R
  (Ending.returned
  (Value.bool
  false))
  w'))
  (R
  (Ending.returned
  (Value.bool
  false))
  w'))
  (R
  (Ending.returned
  (Value.bool
  false))
  w'))
  (R
  (Ending.returned
  (Value.bool
  false))
  w'))
  (R
  (Ending.returned
  (Value.bool
  false))
  w')
theorem law27_alive.vc_eq (w : World) (R : Ending → World → Prop) : fnV Try.prog law27_alive.H 6 [] w R = law27_alive.vc w R := by kernel_rfl
theorem law27_alive.calls {w : World} {R : Ending → World → Prop} (h : law27_alive.vc w R) : Calls Try.prog 6 ([] : List Value).toArray w R := calls_of_eq (law27_alive.vc_eq w R) h

/- function 16: sacristy/sacristylaw27.move -/
abbrev law27_move.N : FuncId := 16
def law27_move.H : Hints := {  }
def law27_move.vc (from' : Int) (to' : Int) (w : World) (R : Ending → World → Prop) : Prop :=
  ∀ (w' : World),
  w' = w.alloc (Obj.cells #[Value.bool false, Value.int IntKind.i64 0, Value.bool false, Value.int IntKind.i64 0] 39) →
  SetsAt w' (Addr.mk w.heap.size 0 none) 0
  [Value.bool false, Value.int IntKind.i64 from', Value.bool false, Value.int IntKind.i64 to'] ∧
  ∀ (w'_1 : World),
  w'_1 =
  setCellsAt w' (Addr.mk w.heap.size 0 none) 0
  [Value.bool false, Value.int IntKind.i64 from', Value.bool false, Value.int IntKind.i64 to'] →
  ∃ (b : Bool),
  ∃ (n : Int),
  ∃ (b_1 : Bool),
  ∃ (n_1 : Int),
  (w'_1.cell? (Addr.mk w.heap.size 0 none) = some (Value.bool b) ∧
  w'_1.cell? (Addr.mk w.heap.size 1 none) = some (Value.int IntKind.i64 n) ∧
  w'_1.cell? (Addr.mk w.heap.size 2 none) = some (Value.bool b_1) ∧
  w'_1.cell? (Addr.mk w.heap.size 3 none) = some (Value.int IntKind.i64 n_1) ∧ True) ∧
  R
  (Ending.returned
  (Value.agg #[Value.bool b, Value.int IntKind.i64 n, Value.bool b_1, Value.int IntKind.i64 n_1]))
  w'_1
theorem law27_move.vc_eq (from' : Int) (to' : Int) (w : World) (R : Ending → World → Prop) : fnV Try.prog law27_move.H 16 [Value.int IntKind.i64 from', Value.int IntKind.i64 to'] w R = law27_move.vc from' to' w R := by kernel_rfl
theorem law27_move.calls {from' : Int} {to' : Int} {w : World} {R : Ending → World → Prop} (h : law27_move.vc from' to' w R) : Calls Try.prog 16 ([Value.int IntKind.i64 from', Value.int IntKind.i64 to'] : List Value).toArray w R := calls_of_eq (law27_move.vc_eq from' to' w R) h

/- function 3: sacristy/sacristylaw27.ParTells -/
abbrev law27_ParTells.N : FuncId := 3
def law27_ParTells.H : Hints := {  }
def law27_ParTells.vc (l' : Option Addr) (l'n : Nat) (l'c : Nat) (spare'_0 : Bool) (spare'_1 : Int) (w : World) (R : Ending → World → Prop) : Prop :=
  ∀ (w' : World),
  w' = w.alloc (Obj.cells #[Value.bool spare'_0, Value.int IntKind.i64 spare'_1] 24) →
  cnd (decide ((↑l'n : Int) > 100))
  (Calls Proofs.Try.prog 6 #[] w' fun (e : Ending) (w' : World) =>
  ∃ (b : Bool), e = Ending.returned (Value.bool b) ∧ R (Ending.returned (Value.bool b)) w')
  (RunsV Proofs.Try.prog (Builtin.append_ #[22, 22] 22 #[Value.slice none 0 0, Value.slice l' l'n l'c]) w'
  fun (v : Value) (w' : World) =>
  ∃ (p : Option Addr),
  ∃ (n : Nat),
  ∃ (c : Nat),
  v = Value.slice p n c ∧
  ∃ (b : Bool),
  ∃ (n_1 : Int),
  (w'.cell? (Addr.mk w.heap.size 0 none) = some (Value.bool b) ∧
  w'.cell? (Addr.mk w.heap.size 1 none) = some (Value.int IntKind.i64 n_1) ∧ True) ∧
  Calls Proofs.Try.prog 7 #[Value.slice p n c, Value.agg #[Value.bool b, Value.int IntKind.i64 n_1]]
  w' fun (e : Ending) (w' : World) =>
  ∃ (p_1 : Option Addr),
  ∃ (n_2 : Nat),
  ∃ (c_1 : Nat),
  ∃ (n_3 : Int),
  e =
  Ending.returned
  (Value.tuple #[Value.slice p_1 n_2 c_1, Value.int IntKind.i64 n_3]) ∧
  ∃ (b : Bool),
  ∃ (n_4 : Int),
  (w'.cell? (Addr.mk w.heap.size 0 none) = some (Value.bool b) ∧
  w'.cell? (Addr.mk w.heap.size 1 none) = some (Value.int IntKind.i64 n_4) ∧
  True) ∧
  Calls Proofs.Try.prog 8
  #[Value.slice l' l'n l'c,
  Value.agg #[Value.bool b, Value.int IntKind.i64 n_4]]
  w' fun (e : Ending) (w' : World) =>
  ∃ (p_2 : Option Addr),
  ∃ (n_5 : Nat),
  ∃ (c_2 : Nat),
  ∃ (n_6 : Int),
  ∃ (n_7 : Int),
  e =
  Ending.returned
  (Value.tuple
  #[Value.slice p_2 n_5 c_2, Value.int IntKind.i64 n_6,
  Value.int IntKind.i64 n_7]) ∧
  Calls Proofs.Try.prog 9
  #[Value.slice p_1 n_2 c_1, Value.slice p_2 n_5 c_2] w'
  fun (e : Ending) (w' : World) =>
  ∃ (b : Bool),
  e = Ending.returned (Value.bool b) ∧
  cnd (!b) (R (Ending.returned (Value.bool false)) w')
  (cnd (n_3 != n_7)
  (R (Ending.returned (Value.bool false)) w')
  (Calls Proofs.Try.prog 9
  #[Value.slice p n c, Value.slice l' l'n l'c] w'
  fun (e : Ending) (w' : World) =>
  ∃ (b : Bool),
  e = Ending.returned (Value.bool b) ∧
  cnd (!b)
  (R (Ending.returned (Value.bool false)) w')
  (Calls Proofs.Try.prog 10 #[Value.slice p n c]
  w' fun (e : Ending) (w' : World) =>
  ∃ (n_8 : Int),
  ∃ (n_9 : Int),
  e =
  Ending.returned
  (Value.tuple
  #[Value.int IntKind.i64 n_8,
  Value.int IntKind.i64 n_9]) ∧
  Calls Proofs.Try.prog 11
  #[Value.slice l' l'n l'c] w'
  fun (e : Ending) (w' : World) =>
  ∃ (b : Bool),
  e = Ending.returned (Value.bool b) ∧
  cnd (!b)
  (cnd (n_8 == 0)
  (cnd (n_9 == 2)
  (Calls Proofs.Try.prog 6 #[]
  w'
  fun (e : Ending)
  (w' : World) =>
  ∃ (b : Bool),
  e =
  Ending.returned
  (Value.bool b) ∧
  R
  (Ending.returned
  (Value.bool b))
  w')
  (R
  (Ending.returned
  (Value.bool false))
  w'))
  (R
  (Ending.returned
  (Value.bool false))
  w'))
  (cnd (n_9 == 0)
  (cnd (n_3 != 0)
  (Calls Proofs.Try.prog 9
  #[Value.slice p n c,
  Value.slice l' l'n l'c]
  w'
  fun (e : Ending)
  (w' : World) =>
  ∃ (b : Bool),
  e =
  Ending.returned
  (Value.bool b) ∧
  cnd b
  (Calls
  Proofs.Try.prog 6
  #[] w'
  fun (e : Ending)
  (w' : World) =>
  ∃ (b : Bool),
  e =
  Ending.returned
  (Value.bool
  b) ∧
  R
  (Ending.returned
  (Value.bool
  b))
  w')
  (R
  (Ending.returned
  (Value.bool
  false))
  w'))
  (cnd (n_8 == n_6)
  (Calls Proofs.Try.prog 9
  #[Value.slice p n c,
  Value.slice l' l'n
  l'c]
  w'
  fun (e : Ending)
  (w' : World) =>
  ∃ (b : Bool),
  e =
  Ending.returned
  (Value.bool b) ∧
  cnd b
  (Calls
  Proofs.Try.prog
  6 #[] w'
  fun (e : Ending)
  (w' :
  World) =>
  ∃ (b : Bool),
  e =
  Ending.returned
  (Value.bool
  b) ∧
  R
  (Ending.returned
  (Value.bool
  b))
  w')
  (R
  (Ending.returned
  (Value.bool
  false))
  w'))
  (R
  (Ending.returned
  (Value.bool false))
  w')))
  (R
  (Ending.returned
  (Value.bool false))
  w'))))))
theorem law27_ParTells.vc_eq (l' : Option Addr) (l'n : Nat) (l'c : Nat) (spare'_0 : Bool) (spare'_1 : Int) (w : World) (R : Ending → World → Prop) : fnV Try.prog law27_ParTells.H 3 [Value.slice l' l'n l'c, Value.agg #[Value.bool spare'_0, Value.int IntKind.i64 spare'_1]] w R = law27_ParTells.vc l' l'n l'c spare'_0 spare'_1 w R := by kernel_rfl
theorem law27_ParTells.calls {l' : Option Addr} {l'n : Nat} {l'c : Nat} {spare'_0 : Bool} {spare'_1 : Int} {w : World} {R : Ending → World → Prop} (h : law27_ParTells.vc l' l'n l'c spare'_0 spare'_1 w R) : Calls Try.prog 3 ([Value.slice l' l'n l'c, Value.agg #[Value.bool spare'_0, Value.int IntKind.i64 spare'_1]] : List Value).toArray w R := calls_of_eq (law27_ParTells.vc_eq l' l'n l'c spare'_0 spare'_1 w R) h

end Go.Proofs.Ytngpkmpbhkbgoaa
