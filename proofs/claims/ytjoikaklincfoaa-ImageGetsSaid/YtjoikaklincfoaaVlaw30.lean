/-
The explicit conditions of some functions of the program, printed by this repo's own program over VcTop: what is proved is that each is the condition.
Conditions: none.
-/
import Derived.Test.YtjoikaklincfoaaVcTop
import Derived.Test.YtjoikaklincfoaaProg
namespace Go.Proofs.Ytjoikaklincfoaa
open Go Go.Vc Go.RowKit
set_option linter.unusedVariables false
set_option maxRecDepth 100000

/- function 7: sacristy/sacristylaw30.alive -/
abbrev law30_alive.N : FuncId := 7
def law30_alive.H : Hints := {  }
def law30_alive.vc (w : World) (R : Ending → World → Prop) : Prop :=
  ∀ (w' : World),
  w' = w.alloc (Obj.cells #[Value.int IntKind.u32 115] 42) →
  ∀ (w'_1 : World),
  w'_1 =
  w'.alloc
  (Obj.cells
  #[Value.int IntKind.i64 0, Value.slice none 0 0, Value.bool false, Value.bool false, Value.slice none 0 0]
  25) →
  SetsAt w'_1 (Addr.mk w'.heap.size 0 none) 0
  [Value.int IntKind.i64 0, Value.slice none 0 0, Value.bool false, Value.bool false,
  Value.slice (some (Addr.mk w.heap.size 0 none)) 1 1] ∧
  ∀ (w'_2 : World),
  w'_2 =
  setCellsAt w'_1 (Addr.mk w'.heap.size 0 none) 0
  [Value.int IntKind.i64 0, Value.slice none 0 0, Value.bool false, Value.bool false,
  Value.slice (some (Addr.mk w.heap.size 0 none)) 1 1] →
  ∃ (n : Int),
  ∃ (p : Option Addr),
  ∃ (n_1 : Nat),
  ∃ (c : Nat),
  ∃ (b : Bool),
  ∃ (b_1 : Bool),
  ∃ (p_1 : Option Addr),
  ∃ (n_2 : Nat),
  ∃ (c_1 : Nat),
  (w'_2.cell? (Addr.mk w'.heap.size 0 none) = some (Value.int IntKind.i64 n) ∧
  w'_2.cell? (Addr.mk w'.heap.size 1 none) = some (Value.slice p n_1 c) ∧
  w'_2.cell? (Addr.mk w'.heap.size 2 none) = some (Value.bool b) ∧
  w'_2.cell? (Addr.mk w'.heap.size 3 none) = some (Value.bool b_1) ∧
  w'_2.cell? (Addr.mk w'.heap.size 4 none) = some (Value.slice p_1 n_2 c_1) ∧
  True) ∧
  Calls Proofs.Try.prog 10
  #[Value.agg
  #[Value.int IntKind.i64 n, Value.slice p n_1 c, Value.bool b, Value.bool b_1,
  Value.slice p_1 n_2 c_1]]
  w'_2 fun (e : Ending) (w'_3 : World) =>
  ∃ (s : ByteArray),
  ∃ (n : Int),
  e = Ending.returned (Value.tuple #[Value.string s, Value.int IntKind.i64 n]) ∧
  Calls Proofs.Try.prog 16
  #[Value.string
  (ByteArray.mk #[83, 67, 82, 49, 0, 0, 0, 1, 0, 0, 0, 115, 0, 0, 0])]
  w'_3 fun (e : Ending) (w'_4 : World) =>
  ∃ (n_3 : Int),
  ∃ (p : Option Addr),
  ∃ (n_4 : Nat),
  ∃ (c : Nat),
  ∃ (b : Bool),
  ∃ (b_2 : Bool),
  ∃ (p_2 : Option Addr),
  ∃ (n_5 : Nat),
  ∃ (c_2 : Nat),
  ∃ (n_6 : Int),
  e =
  Ending.returned
  (Value.tuple
  #[Value.agg
  #[Value.int IntKind.i64 n_3,
  Value.slice p n_4 c, Value.bool b,
  Value.bool b_2, Value.slice p_2 n_5 c_2],
  Value.int IntKind.i64 n_6]) ∧
  ∀ (w'_5 : World),
  w'_5 =
  w'_4.alloc
  (Obj.cells
  #[Value.int IntKind.i64 0,
  Value.slice none 0 0, Value.bool false,
  Value.bool false, Value.slice none 0 0]
  25) →
  SetsAt w'_5 (Addr.mk w'_4.heap.size 0 none) 0
  [Value.int IntKind.i64 n_3,
  Value.slice p n_4 c, Value.bool b,
  Value.bool b_2, Value.slice p_2 n_5 c_2] ∧
  ∀ (w'_6 : World),
  w'_6 =
  setCellsAt w'_5
  (Addr.mk w'_4.heap.size 0 none) 0
  [Value.int IntKind.i64 n_3,
  Value.slice p n_4 c, Value.bool b,
  Value.bool b_2,
  Value.slice p_2 n_5 c_2] →
  ∃ (n_7 : Int),
  ∃ (p : Option Addr),
  ∃ (n_8 : Nat),
  ∃ (c : Nat),
  ∃ (b : Bool),
  ∃ (b_3 : Bool),
  ∃ (p_3 : Option Addr),
  ∃ (n_9 : Nat),
  ∃ (c_3 : Nat),
  (w'_6.cell?
  (Addr.mk
  w'.heap.size 0
  none) =
  some
  (Value.int
  IntKind.i64
  n_7) ∧
  w'_6.cell?
  (Addr.mk
  w'.heap.size 1
  none) =
  some
  (Value.slice p
  n_8 c) ∧
  w'_6.cell?
  (Addr.mk
  w'.heap.size
  2 none) =
  some
  (Value.bool
  b) ∧
  w'_6.cell?
  (Addr.mk
  w'.heap.size
  3 none) =
  some
  (Value.bool
  b_3) ∧
  w'_6.cell?
  (Addr.mk
  w'.heap.size
  4
  none) =
  some
  (Value.slice
  p_3 n_9
  c_3) ∧
  True) ∧
  Calls Proofs.Try.prog 11
  #[Value.agg
  #[Value.int
  IntKind.i64
  n_7,
  Value.slice p
  n_8 c,
  Value.bool b,
  Value.bool b_3,
  Value.slice p_3
  n_9 c_3]]
  w'_6
  fun (e : Ending)
  (w'_7 : World) =>
  ∃ (p : Option Addr),
  ∃ (n_10 : Nat),
  ∃ (c : Nat),
  ∃ (n_11 : Int),
  e =
  Ending.returned
  (Value.tuple
  #[Value.slice
  p
  n_10
  c,
  Value.int
  IntKind.i64
  n_11]) ∧
  Calls
  Proofs.Try.prog
  16
  #[Value.string
  (ByteArray.mk
  #[83,
  67,
  82,
  50])]
  w'_7
  fun
  (e :
  Ending)
  (w'_8 :
  World) =>
  ∃ (n_12 :
  Int),
  ∃ (p_4 :
  Option
  Addr),
  ∃
  (n_13
  :
  Nat),
  ∃ (c
  :
  Nat),
  ∃
  (b
  :
  Bool),
  ∃
  (b_4
  :
  Bool),
  ∃
  (p_5
  :
  Option
  Addr),
  ∃
  (n_14
  :
  Nat),
  ∃
  (c_4
  :
  Nat),
  ∃
  (n_15
  :
  Int),
  e =
  Ending.returned
  (Value.tuple
  #[Value.agg
  #[Value.int
  IntKind.i64
  n_12,
  Value.slice
  p_4
  n_13
  c,
  Value.bool
  b,
  Value.bool
  b_4,
  Value.slice
  p_5
  n_14
  c_4],
  Value.int
  IntKind.i64
  n_15]) ∧
  ∀
  (w'_9 :
  World),
  w'_9 =
  w'_8.alloc
  (Obj.cells
  #[Value.int
  IntKind.i64
  0,
  Value.slice
  none
  0
  0,
  Value.bool
  false,
  Value.bool
  false,
  Value.slice
  none
  0
  0]
  25) →
  SetsAt
  w'_9
  (Addr.mk
  w'_8.heap.size
  0
  none)
  0
  [Value.int
  IntKind.i64
  n_12,
  Value.slice
  p_4
  n_13
  c,
  Value.bool
  b,
  Value.bool
  b_4,
  Value.slice
  p_5
  n_14
  c_4] ∧
  ∀
  (w'_10 :
  World),
  w'_10 =
  setCellsAt
  w'_9
  (Addr.mk
  w'_8.heap.size
  0
  none)
  0
  [Value.int
  IntKind.i64
  n_12,
  Value.slice
  p_4
  n_13
  c,
  Value.bool
  b,
  Value.bool
  b_4,
  Value.slice
  p_5
  n_14
  c_4] →
  Calls
  Proofs.Try.prog
  16
  #[Value.string
  (ByteArray.mk
  #[83,
  67])]
  w'_10
  fun
  (e :
  Ending)
  (w'_11 :
  World) =>
  ∃
  (n_16
  :
  Int),
  ∃
  (p_6
  :
  Option
  Addr),
  ∃
  (n_17
  :
  Nat),
  ∃
  (c
  :
  Nat),
  ∃
  (b
  :
  Bool),
  ∃
  (b_5
  :
  Bool),
  ∃
  (p_7
  :
  Option
  Addr),
  ∃
  (n_18
  :
  Nat),
  ∃
  (c_5
  :
  Nat),
  ∃
  (n_19
  :
  Int),
  e =
  Ending.returned
  (Value.tuple
  #[Value.agg
  #[Value.int
  IntKind.i64
  n_16,
  Value.slice
  p_6
  n_17
  c,
  Value.bool
  b,
  Value.bool
  b_5,
  Value.slice
  p_7
  n_18
  c_5],
  Value.int
  IntKind.i64
  n_19]) ∧
  ∀
  (w'_12 :
  World),
  w'_12 =
  w'_11.alloc
  (Obj.cells
  #[Value.int
  IntKind.i64
  0,
  Value.slice
  none
  0
  0,
  Value.bool
  false,
  Value.bool
  false,
  Value.slice
  none
  0
  0]
  25) →
  SetsAt
  w'_12
  (Addr.mk
  w'_11.heap.size
  0
  none)
  0
  [Value.int
  IntKind.i64
  n_16,
  Value.slice
  p_6
  n_17
  c,
  Value.bool
  b,
  Value.bool
  b_5,
  Value.slice
  p_7
  n_18
  c_5] ∧
  ∀
  (w'_13 :
  World),
  w'_13 =
  setCellsAt
  w'_12
  (Addr.mk
  w'_11.heap.size
  0
  none)
  0
  [Value.int
  IntKind.i64
  n_16,
  Value.slice
  p_6
  n_17
  c,
  Value.bool
  b,
  Value.bool
  b_5,
  Value.slice
  p_7
  n_18
  c_5] →
  cnd
  (n ==
  0)
  (cnd
  (s.toList ==
  (ByteArray.mk
  #[83,
  67,
  82,
  49,
  0,
  0,
  0,
  1,
  0,
  0,
  0,
  115,
  0,
  0,
  0]).toList)
  (cnd
  (n_6 ==
  0)
  (∃
  (n
  :
  Int),
  ∃
  (p_8
  :
  Option
  Addr),
  ∃
  (n_20
  :
  Nat),
  ∃
  (c
  :
  Nat),
  ∃
  (b
  :
  Bool),
  ∃
  (b_6
  :
  Bool),
  ∃
  (p_9
  :
  Option
  Addr),
  ∃
  (n_21
  :
  Nat),
  ∃
  (c_6
  :
  Nat),
  (w'_13.cell?
  (Addr.mk
  w'.heap.size
  0
  none) =
  some
  (Value.int
  IntKind.i64
  n) ∧
  w'_13.cell?
  (Addr.mk
  w'.heap.size
  1
  none) =
  some
  (Value.slice
  p_8
  n_20
  c) ∧
  w'_13.cell?
  (Addr.mk
  w'.heap.size
  2
  none) =
  some
  (Value.bool
  b) ∧
  w'_13.cell?
  (Addr.mk
  w'.heap.size
  3
  none) =
  some
  (Value.bool
  b_6) ∧
  w'_13.cell?
  (Addr.mk
  w'.heap.size
  4
  none) =
  some
  (Value.slice
  p_9
  n_21
  c_6) ∧
  True) ∧
  ∃
  (n_22
  :
  Int),
  ∃
  (p_10
  :
  Option
  Addr),
  ∃
  (n_23
  :
  Nat),
  ∃
  (c_7
  :
  Nat),
  ∃
  (b_7
  :
  Bool),
  ∃
  (b_8
  :
  Bool),
  ∃
  (p_11
  :
  Option
  Addr),
  ∃
  (n_24
  :
  Nat),
  ∃
  (c_8
  :
  Nat),
  (w'_13.cell?
  (Addr.mk
  w'_4.heap.size
  0
  none) =
  some
  (Value.int
  IntKind.i64
  n_22) ∧
  w'_13.cell?
  (Addr.mk
  w'_4.heap.size
  1
  none) =
  some
  (Value.slice
  p_10
  n_23
  c_7) ∧
  w'_13.cell?
  (Addr.mk
  w'_4.heap.size
  2
  none) =
  some
  (Value.bool
  b_7) ∧
  w'_13.cell?
  (Addr.mk
  w'_4.heap.size
  3
  none) =
  some
  (Value.bool
  b_8) ∧
  w'_13.cell?
  (Addr.mk
  w'_4.heap.size
  4
  none) =
  some
  (Value.slice
  p_11
  n_24
  c_8) ∧
  True) ∧
  Calls
  Proofs.Try.prog
  12
  #[Value.agg
  #[Value.int
  IntKind.i64
  n,
  Value.slice
  p_8
  n_20
  c,
  Value.bool
  b,
  Value.bool
  b_6,
  Value.slice
  p_9
  n_21
  c_6],
  Value.agg
  #[Value.int
  IntKind.i64
  n_22,
  Value.slice
  p_10
  n_23
  c_7,
  Value.bool
  b_7,
  Value.bool
  b_8,
  Value.slice
  p_11
  n_24
  c_8]]
  w'_13
  fun
  (e :
  Ending)
  (w' :
  World) =>
  ∃
  (b
  :
  Bool),
  e =
  Ending.returned
  (Value.bool
  b) ∧
  cnd
  b
  (cnd
  (n_11 ==
  0)
  (cnd
  ((↑n_10 :
  Int) ==
  1)
  ((Int.le
  0
  0 ∧
  0 <
  (↑n_10 :
  Int)) ∧
  Deref
  p
  fun
  (a :
  Addr) =>
  ∃
  (n
  :
  Int),
  ∃
  (n_25
  :
  Int),
  ∃
  (n_26
  :
  Int),
  ∃
  (n_27
  :
  Int),
  ∃
  (n_28
  :
  Int),
  (w'.cell?
  a =
  some
  (Value.int
  IntKind.u8
  n) ∧
  w'.cell?
  (a.add
  1) =
  some
  (Value.int
  IntKind.u8
  n_25) ∧
  w'.cell?
  (a.add
  2) =
  some
  (Value.int
  IntKind.u8
  n_26) ∧
  w'.cell?
  (a.add
  3) =
  some
  (Value.int
  IntKind.u8
  n_27) ∧
  w'.cell?
  (a.add
  4) =
  some
  (Value.int
  IntKind.i64
  n_28) ∧
  True) ∧
  ∃
  (b
  :
  Bool),
  EqRuns
  Proofs.Try.prog
  BinOp.eql
  39
  (Operand.tmp
  63)
  (Operand.tmp
  64)
  (Value.agg
  #[Value.int
  IntKind.u8
  n,
  Value.int
  IntKind.u8
  n_25,
  Value.int
  IntKind.u8
  n_26,
  Value.int
  IntKind.u8
  n_27,
  Value.int
  IntKind.i64
  n_28])
  (Value.agg
  #[Value.int
  IntKind.u8
  34,
  Value.int
  IntKind.u8
  0,
  Value.int
  IntKind.u8
  0,
  Value.int
  IntKind.u8
  0,
  Value.int
  IntKind.i64
  0])
  b ∧
  cnd
  b
  (cnd
  (n_15 ==
  7)
  (cnd
  (n_19 ==
  6)
  (Calls
  Proofs.Try.prog
  9
  #[Value.agg
  #[Value.int
  IntKind.i64
  0,
  Value.slice
  none
  0
  0,
  Value.bool
  false,
  Value.bool
  false,
  Value.slice
  none
  0
  0]]
  w'
  fun
  (e :
  Ending)
  (w' :
  World) =>
  ∃
  (n
  :
  Int),
  e =
  Ending.returned
  (Value.int
  IntKind.i64
  n) ∧
  R
  (Ending.returned
  (Value.bool
  (n ==
  2)))
  w')
  (R
  (Ending.returned
  (Value.bool
  false))
  w'))
  (R
  (Ending.returned
  (Value.bool
  false))
  w'))
  (R
  (Ending.returned
  (Value.bool
  false))
  w'))
  (R
  (Ending.returned
  (Value.bool
  false))
  w'))
  (R
  (Ending.returned
  (Value.bool
  false))
  w'))
  (R
  (Ending.returned
  (Value.bool
  false))
  w'))
  (R
  (Ending.returned
  (Value.bool
  false))
  w'_13))
  (R
  (Ending.returned
  (Value.bool
  false))
  w'_13))
  (R
  (Ending.returned
  (Value.bool
  false))
  w'_13)
theorem law30_alive.vc_eq (w : World) (R : Ending → World → Prop) : fnV Try.prog law30_alive.H 7 [] w R = law30_alive.vc w R := by kernel_rfl
theorem law30_alive.calls {w : World} {R : Ending → World → Prop} (h : law30_alive.vc w R) : Calls Try.prog 7 ([] : List Value).toArray w R := calls_of_eq (law30_alive.vc_eq w R) h

/- function 6: sacristy/sacristylaw30.large -/
abbrev law30_large.N : FuncId := 6
def law30_large.H : Hints := {  }
def law30_large.vc (x'_0 : Int) (x'_1 : Option Addr) (x'_1n : Nat) (x'_1c : Nat) (x'_2 : Bool) (x'_3 : Bool) (x'_4 : Option Addr) (x'_4n : Nat) (x'_4c : Nat) (w : World) (R : Ending → World → Prop) : Prop :=
  ∀ (w' : World),
  w' =
  w.alloc
  (Obj.cells
  #[Value.int IntKind.i64 x'_0, Value.slice x'_1 x'_1n x'_1c, Value.bool x'_2, Value.bool x'_3,
  Value.slice x'_4 x'_4n x'_4c]
  25) →
  ∃ (p : Option Addr),
  ∃ (n : Nat),
  ∃ (c : Nat),
  w'.cell? (Addr.mk w.heap.size 1 none) = some (Value.slice p n c) ∧
  cnd (decide ((↑n : Int) > 300)) (R (Ending.returned (Value.bool true)) w')
  (∃ (p : Option Addr),
  ∃ (n : Nat),
  ∃ (c : Nat),
  w'.cell? (Addr.mk w.heap.size 4 none) = some (Value.slice p n c) ∧
  R (Ending.returned (Value.bool (decide ((↑n : Int) > 3000)))) w')
theorem law30_large.vc_eq (x'_0 : Int) (x'_1 : Option Addr) (x'_1n : Nat) (x'_1c : Nat) (x'_2 : Bool) (x'_3 : Bool) (x'_4 : Option Addr) (x'_4n : Nat) (x'_4c : Nat) (w : World) (R : Ending → World → Prop) : fnV Try.prog law30_large.H 6 [Value.agg
  #[Value.int IntKind.i64 x'_0, Value.slice x'_1 x'_1n x'_1c, Value.bool x'_2, Value.bool x'_3,
  Value.slice x'_4 x'_4n x'_4c]] w R = law30_large.vc x'_0 x'_1 x'_1n x'_1c x'_2 x'_3 x'_4 x'_4n x'_4c w R := by kernel_rfl
theorem law30_large.calls {x'_0 : Int} {x'_1 : Option Addr} {x'_1n : Nat} {x'_1c : Nat} {x'_2 : Bool} {x'_3 : Bool} {x'_4 : Option Addr} {x'_4n : Nat} {x'_4c : Nat} {w : World} {R : Ending → World → Prop} (h : law30_large.vc x'_0 x'_1 x'_1n x'_1c x'_2 x'_3 x'_4 x'_4n x'_4c w R) : Calls Try.prog 6 ([Value.agg
  #[Value.int IntKind.i64 x'_0, Value.slice x'_1 x'_1n x'_1c, Value.bool x'_2, Value.bool x'_3,
  Value.slice x'_4 x'_4n x'_4c]] : List Value).toArray w R := calls_of_eq (law30_large.vc_eq x'_0 x'_1 x'_1n x'_1c x'_2 x'_3 x'_4 x'_4n x'_4c w R) h

/- function 3: sacristy/sacristylaw30.ImageTells -/
abbrev law30_ImageTells.N : FuncId := 3
def law30_ImageTells.H : Hints := { loops := [(15, [(9, .one (.int .i64))])] }
def law30_ImageTells.vc (x'_0 : Int) (x'_1 : Option Addr) (x'_1n : Nat) (x'_1c : Nat) (x'_2 : Bool) (x'_3 : Bool) (x'_4 : Option Addr) (x'_4n : Nat) (x'_4c : Nat) (w : World) (R : Ending → World → Prop) : Prop :=
  ∀ (w' : World),
  w' =
  w.alloc
  (Obj.cells
  #[Value.int IntKind.i64 x'_0, Value.slice x'_1 x'_1n x'_1c, Value.bool x'_2, Value.bool x'_3,
  Value.slice x'_4 x'_4n x'_4c]
  25) →
  ∃ (n : Int),
  ∃ (p : Option Addr),
  ∃ (n_1 : Nat),
  ∃ (c : Nat),
  ∃ (b : Bool),
  ∃ (b_1 : Bool),
  ∃ (p_1 : Option Addr),
  ∃ (n_2 : Nat),
  ∃ (c_1 : Nat),
  (w'.cell? (Addr.mk w.heap.size 0 none) = some (Value.int IntKind.i64 n) ∧
  w'.cell? (Addr.mk w.heap.size 1 none) = some (Value.slice p n_1 c) ∧
  w'.cell? (Addr.mk w.heap.size 2 none) = some (Value.bool b) ∧
  w'.cell? (Addr.mk w.heap.size 3 none) = some (Value.bool b_1) ∧
  w'.cell? (Addr.mk w.heap.size 4 none) = some (Value.slice p_1 n_2 c_1) ∧ True) ∧
  Calls Proofs.Try.prog 6
  #[Value.agg
  #[Value.int IntKind.i64 n, Value.slice p n_1 c, Value.bool b, Value.bool b_1,
  Value.slice p_1 n_2 c_1]]
  w' fun (e : Ending) (w' : World) =>
  ∃ (b : Bool),
  e = Ending.returned (Value.bool b) ∧
  cnd b
  (Calls Proofs.Try.prog 7 #[] w' fun (e : Ending) (w' : World) =>
  ∃ (b : Bool),
  e = Ending.returned (Value.bool b) ∧ R (Ending.returned (Value.bool b)) w')
  (∃ (n : Int),
  ∃ (p : Option Addr),
  ∃ (n_3 : Nat),
  ∃ (c : Nat),
  ∃ (b : Bool),
  ∃ (b_2 : Bool),
  ∃ (p_2 : Option Addr),
  ∃ (n_4 : Nat),
  ∃ (c_2 : Nat),
  (w'.cell? (Addr.mk w.heap.size 0 none) =
  some (Value.int IntKind.i64 n) ∧
  w'.cell? (Addr.mk w.heap.size 1 none) =
  some (Value.slice p n_3 c) ∧
  w'.cell? (Addr.mk w.heap.size 2 none) = some (Value.bool b) ∧
  w'.cell? (Addr.mk w.heap.size 3 none) =
  some (Value.bool b_2) ∧
  w'.cell? (Addr.mk w.heap.size 4 none) =
  some (Value.slice p_2 n_4 c_2) ∧
  True) ∧
  Calls Proofs.Try.prog 8
  #[Value.agg
  #[Value.int IntKind.i64 n, Value.slice p n_3 c, Value.bool b,
  Value.bool b_2, Value.slice p_2 n_4 c_2]]
  w' fun (e : Ending) (w' : World) =>
  ∃ (n : Int),
  ∃ (p : Option Addr),
  ∃ (n_5 : Nat),
  ∃ (c : Nat),
  ∃ (b : Bool),
  ∃ (b_3 : Bool),
  ∃ (p_3 : Option Addr),
  ∃ (n_6 : Nat),
  ∃ (c_3 : Nat),
  e =
  Ending.returned
  (Value.agg
  #[Value.int IntKind.i64 n,
  Value.slice p n_5 c, Value.bool b,
  Value.bool b_3,
  Value.slice p_3 n_6 c_3]) ∧
  ∀ (w'_1 : World),
  w'_1 =
  w'.alloc
  (Obj.cells
  #[Value.int IntKind.i64 0,
  Value.slice none 0 0,
  Value.bool false,
  Value.bool false,
  Value.slice none 0 0]
  25) →
  SetsAt w'_1 (Addr.mk w'.heap.size 0 none)
  0
  [Value.int IntKind.i64 n,
  Value.slice p n_5 c, Value.bool b,
  Value.bool b_3,
  Value.slice p_3 n_6 c_3] ∧
  ∀ (w'_2 : World),
  w'_2 =
  setCellsAt w'_1
  (Addr.mk w'.heap.size 0 none) 0
  [Value.int IntKind.i64 n,
  Value.slice p n_5 c,
  Value.bool b, Value.bool b_3,
  Value.slice p_3 n_6 c_3] →
  ∃ (n : Int),
  ∃ (p : Option Addr),
  ∃ (n_7 : Nat),
  ∃ (c : Nat),
  ∃ (b : Bool),
  ∃ (b_4 : Bool),
  ∃ (p_4 : Option Addr),
  ∃ (n_8 : Nat),
  ∃ (c_4 : Nat),
  (w'_2.cell?
  (Addr.mk
  w'.heap.size
  0
  none) =
  some
  (Value.int
  IntKind.i64
  n) ∧
  w'_2.cell?
  (Addr.mk
  w'.heap.size
  1
  none) =
  some
  (Value.slice
  p n_7
  c) ∧
  w'_2.cell?
  (Addr.mk
  w'.heap.size
  2
  none) =
  some
  (Value.bool
  b) ∧
  w'_2.cell?
  (Addr.mk
  w'.heap.size
  3
  none) =
  some
  (Value.bool
  b_4) ∧
  w'_2.cell?
  (Addr.mk
  w'.heap.size
  4
  none) =
  some
  (Value.slice
  p_4
  n_8
  c_4) ∧
  True) ∧
  Calls
  Proofs.Try.prog
  9
  #[Value.agg
  #[Value.int
  IntKind.i64
  n,
  Value.slice
  p n_7
  c,
  Value.bool
  b,
  Value.bool
  b_4,
  Value.slice
  p_4
  n_8
  c_4]]
  w'_2
  fun
  (e : Ending)
  (w'_3 :
  World) =>
  ∃ (n : Int),
  e =
  Ending.returned
  (Value.int
  IntKind.i64
  n) ∧
  ∃ (n_9 :
  Int),
  ∃ (p :
  Option
  Addr),
  ∃
  (n_10
  :
  Nat),
  ∃ (c
  :
  Nat),
  ∃
  (b
  :
  Bool),
  ∃
  (b_5
  :
  Bool),
  ∃
  (p_5
  :
  Option
  Addr),
  ∃
  (n_11
  :
  Nat),
  ∃
  (c_5
  :
  Nat),
  (w'_3.cell?
  (Addr.mk
  w'.heap.size
  0
  none) =
  some
  (Value.int
  IntKind.i64
  n_9) ∧
  w'_3.cell?
  (Addr.mk
  w'.heap.size
  1
  none) =
  some
  (Value.slice
  p
  n_10
  c) ∧
  w'_3.cell?
  (Addr.mk
  w'.heap.size
  2
  none) =
  some
  (Value.bool
  b) ∧
  w'_3.cell?
  (Addr.mk
  w'.heap.size
  3
  none) =
  some
  (Value.bool
  b_5) ∧
  w'_3.cell?
  (Addr.mk
  w'.heap.size
  4
  none) =
  some
  (Value.slice
  p_5
  n_11
  c_5) ∧
  True) ∧
  Calls
  Proofs.Try.prog
  10
  #[Value.agg
  #[Value.int
  IntKind.i64
  n_9,
  Value.slice
  p
  n_10
  c,
  Value.bool
  b,
  Value.bool
  b_5,
  Value.slice
  p_5
  n_11
  c_5]]
  w'_3
  fun
  (e :
  Ending)
  (w'_4 :
  World) =>
  ∃
  (s
  :
  ByteArray),
  ∃
  (n_12
  :
  Int),
  e =
  Ending.returned
  (Value.tuple
  #[Value.string
  s,
  Value.int
  IntKind.i64
  n_12]) ∧
  ∃
  (n_13
  :
  Int),
  ∃
  (p
  :
  Option
  Addr),
  ∃
  (n_14
  :
  Nat),
  ∃
  (c
  :
  Nat),
  ∃
  (b
  :
  Bool),
  ∃
  (b_6
  :
  Bool),
  ∃
  (p_6
  :
  Option
  Addr),
  ∃
  (n_15
  :
  Nat),
  ∃
  (c_6
  :
  Nat),
  (w'_4.cell?
  (Addr.mk
  w'.heap.size
  0
  none) =
  some
  (Value.int
  IntKind.i64
  n_13) ∧
  w'_4.cell?
  (Addr.mk
  w'.heap.size
  1
  none) =
  some
  (Value.slice
  p
  n_14
  c) ∧
  w'_4.cell?
  (Addr.mk
  w'.heap.size
  2
  none) =
  some
  (Value.bool
  b) ∧
  w'_4.cell?
  (Addr.mk
  w'.heap.size
  3
  none) =
  some
  (Value.bool
  b_6) ∧
  w'_4.cell?
  (Addr.mk
  w'.heap.size
  4
  none) =
  some
  (Value.slice
  p_6
  n_15
  c_6) ∧
  True) ∧
  Calls
  Proofs.Try.prog
  11
  #[Value.agg
  #[Value.int
  IntKind.i64
  n_13,
  Value.slice
  p
  n_14
  c,
  Value.bool
  b,
  Value.bool
  b_6,
  Value.slice
  p_6
  n_15
  c_6]]
  w'_4
  fun
  (e :
  Ending)
  (w'_5 :
  World) =>
  ∃
  (p
  :
  Option
  Addr),
  ∃
  (n_16
  :
  Nat),
  ∃
  (c
  :
  Nat),
  ∃
  (n_17
  :
  Int),
  e =
  Ending.returned
  (Value.tuple
  #[Value.slice
  p
  n_16
  c,
  Value.int
  IntKind.i64
  n_17]) ∧
  ∃
  (n_18
  :
  Int),
  ∃
  (p_7
  :
  Option
  Addr),
  ∃
  (n_19
  :
  Nat),
  ∃
  (c
  :
  Nat),
  ∃
  (b
  :
  Bool),
  ∃
  (b_7
  :
  Bool),
  ∃
  (p_8
  :
  Option
  Addr),
  ∃
  (n_20
  :
  Nat),
  ∃
  (c_7
  :
  Nat),
  (w'_5.cell?
  (Addr.mk
  w'.heap.size
  0
  none) =
  some
  (Value.int
  IntKind.i64
  n_18) ∧
  w'_5.cell?
  (Addr.mk
  w'.heap.size
  1
  none) =
  some
  (Value.slice
  p_7
  n_19
  c) ∧
  w'_5.cell?
  (Addr.mk
  w'.heap.size
  2
  none) =
  some
  (Value.bool
  b) ∧
  w'_5.cell?
  (Addr.mk
  w'.heap.size
  3
  none) =
  some
  (Value.bool
  b_7) ∧
  w'_5.cell?
  (Addr.mk
  w'.heap.size
  4
  none) =
  some
  (Value.slice
  p_8
  n_20
  c_7) ∧
  True) ∧
  ∃
  (n_21
  :
  Int),
  ∃
  (p_9
  :
  Option
  Addr),
  ∃
  (n_22
  :
  Nat),
  ∃
  (c_8
  :
  Nat),
  ∃
  (b_8
  :
  Bool),
  ∃
  (b_9
  :
  Bool),
  ∃
  (p_10
  :
  Option
  Addr),
  ∃
  (n_23
  :
  Nat),
  ∃
  (c_9
  :
  Nat),
  (w'_5.cell?
  (Addr.mk
  w.heap.size
  0
  none) =
  some
  (Value.int
  IntKind.i64
  n_21) ∧
  w'_5.cell?
  (Addr.mk
  w.heap.size
  1
  none) =
  some
  (Value.slice
  p_9
  n_22
  c_8) ∧
  w'_5.cell?
  (Addr.mk
  w.heap.size
  2
  none) =
  some
  (Value.bool
  b_8) ∧
  w'_5.cell?
  (Addr.mk
  w.heap.size
  3
  none) =
  some
  (Value.bool
  b_9) ∧
  w'_5.cell?
  (Addr.mk
  w.heap.size
  4
  none) =
  some
  (Value.slice
  p_10
  n_23
  c_9) ∧
  True) ∧
  Calls
  Proofs.Try.prog
  12
  #[Value.agg
  #[Value.int
  IntKind.i64
  n_18,
  Value.slice
  p_7
  n_19
  c,
  Value.bool
  b,
  Value.bool
  b_7,
  Value.slice
  p_8
  n_20
  c_7],
  Value.agg
  #[Value.int
  IntKind.i64
  n_21,
  Value.slice
  p_9
  n_22
  c_8,
  Value.bool
  b_8,
  Value.bool
  b_9,
  Value.slice
  p_10
  n_23
  c_9]]
  w'_5
  fun
  (e :
  Ending)
  (w' :
  World) =>
  ∃
  (b
  :
  Bool),
  e =
  Ending.returned
  (Value.bool
  b) ∧
  cnd
  (!b)
  (R
  (Ending.returned
  (Value.bool
  false))
  w')
  (∃
  (n_24
  :
  Int),
  ∃
  (p_11
  :
  Option
  Addr),
  ∃
  (n_25
  :
  Nat),
  ∃
  (c
  :
  Nat),
  ∃
  (b
  :
  Bool),
  ∃
  (b_10
  :
  Bool),
  ∃
  (p_12
  :
  Option
  Addr),
  ∃
  (n_26
  :
  Nat),
  ∃
  (c_10
  :
  Nat),
  (w'.cell?
  (Addr.mk
  w.heap.size
  0
  none) =
  some
  (Value.int
  IntKind.i64
  n_24) ∧
  w'.cell?
  (Addr.mk
  w.heap.size
  1
  none) =
  some
  (Value.slice
  p_11
  n_25
  c) ∧
  w'.cell?
  (Addr.mk
  w.heap.size
  2
  none) =
  some
  (Value.bool
  b) ∧
  w'.cell?
  (Addr.mk
  w.heap.size
  3
  none) =
  some
  (Value.bool
  b_10) ∧
  w'.cell?
  (Addr.mk
  w.heap.size
  4
  none) =
  some
  (Value.slice
  p_12
  n_26
  c_10) ∧
  True) ∧
  Calls
  Proofs.Try.prog
  13
  #[Value.agg
  #[Value.int
  IntKind.i64
  n_24,
  Value.slice
  p_11
  n_25
  c,
  Value.bool
  b,
  Value.bool
  b_10,
  Value.slice
  p_12
  n_26
  c_10]]
  w'
  fun
  (e :
  Ending)
  (w' :
  World) =>
  ∃
  (b
  :
  Bool),
  e =
  Ending.returned
  (Value.bool
  b) ∧
  cnd
  (!b)
  (cnd
  (n ==
  2)
  (cnd
  (n_12 ==
  2)
  (cnd
  (n_17 ==
  2)
  (cnd
  (s.toList ==
  (ByteArray.mk
  #[]).toList)
  (cnd
  ((↑n_16 :
  Int) ==
  0)
  (Calls
  Proofs.Try.prog
  7
  #[]
  w'
  fun
  (e :
  Ending)
  (w' :
  World) =>
  ∃
  (b
  :
  Bool),
  e =
  Ending.returned
  (Value.bool
  b) ∧
  R
  (Ending.returned
  (Value.bool
  b))
  w')
  (R
  (Ending.returned
  (Value.bool
  false))
  w'))
  (R
  (Ending.returned
  (Value.bool
  false))
  w'))
  (R
  (Ending.returned
  (Value.bool
  false))
  w'))
  (R
  (Ending.returned
  (Value.bool
  false))
  w'))
  (R
  (Ending.returned
  (Value.bool
  false))
  w'))
  (cnd
  (n !=
  0)
  (R
  (Ending.returned
  (Value.bool
  false))
  w')
  (cnd
  (n_12 !=
  0)
  (R
  (Ending.returned
  (Value.bool
  false))
  w')
  (cnd
  (n_17 !=
  0)
  (R
  (Ending.returned
  (Value.bool
  false))
  w')
  (∃
  (n
  :
  Int),
  ∃
  (p_13
  :
  Option
  Addr),
  ∃
  (n_27
  :
  Nat),
  ∃
  (c
  :
  Nat),
  ∃
  (b
  :
  Bool),
  ∃
  (b_11
  :
  Bool),
  ∃
  (p_14
  :
  Option
  Addr),
  ∃
  (n_28
  :
  Nat),
  ∃
  (c_11
  :
  Nat),
  (w'.cell?
  (Addr.mk
  w.heap.size
  0
  none) =
  some
  (Value.int
  IntKind.i64
  n) ∧
  w'.cell?
  (Addr.mk
  w.heap.size
  1
  none) =
  some
  (Value.slice
  p_13
  n_27
  c) ∧
  w'.cell?
  (Addr.mk
  w.heap.size
  2
  none) =
  some
  (Value.bool
  b) ∧
  w'.cell?
  (Addr.mk
  w.heap.size
  3
  none) =
  some
  (Value.bool
  b_11) ∧
  w'.cell?
  (Addr.mk
  w.heap.size
  4
  none) =
  some
  (Value.slice
  p_14
  n_28
  c_11) ∧
  True) ∧
  Calls
  Proofs.Try.prog
  14
  #[Value.agg
  #[Value.int
  IntKind.i64
  n,
  Value.slice
  p_13
  n_27
  c,
  Value.bool
  b,
  Value.bool
  b_11,
  Value.slice
  p_14
  n_28
  c_11]]
  w'
  fun
  (e :
  Ending)
  (w' :
  World) =>
  ∃
  (s_1
  :
  ByteArray),
  e =
  Ending.returned
  (Value.string
  s_1) ∧
  cnd
  (!s.toList ==
  s_1.toList)
  (R
  (Ending.returned
  (Value.bool
  false))
  w')
  (∃
  (p_15
  :
  Option
  Addr),
  ∃
  (n
  :
  Nat),
  ∃
  (c
  :
  Nat),
  w'.cell?
  (Addr.mk
  w.heap.size
  4
  none) =
  some
  (Value.slice
  p_15
  n
  c) ∧
  cnd
  ((↑n_16 :
  Int) !=
  (↑n :
  Int))
  (R
  (Ending.returned
  (Value.bool
  false))
  w')
  (∃
  (I
  :
  List
  Value →
  World →
  Prop),
  ∃
  (μ
  :
  List
  Value →
  World →
  Nat),
  I
  [Value.int
  IntKind.i64
  0]
  w' ∧
  ∀
  (g :
  Nat →
  Value)
  (i :
  Int)
  (w' :
  World),
  I
  [Value.int
  IntKind.i64
  i]
  w' →
  cnd
  (decide
  (i <
  (↑n_16 :
  Int)))
  (∃
  (p_16
  :
  Option
  Addr),
  ∃
  (n
  :
  Nat),
  ∃
  (c
  :
  Nat),
  w'.cell?
  (Addr.mk
  w.heap.size
  4
  none) =
  some
  (Value.slice
  p_16
  n
  c) ∧
  (0 ≤
  i ∧
  i <
  (↑n :
  Int)) ∧
  Deref
  p_16
  fun
  (a :
  Addr) =>
  ∃
  (n
  :
  Int),
  w'.cell?
  (a.add
  (i.toNat *
  1)) =
  some
  (Value.int
  IntKind.u32
  n) ∧
  Calls
  Proofs.Try.prog
  15
  #[Value.int
  IntKind.u32
  n]
  w'
  fun
  (e :
  Ending)
  (w'_6 :
  World) =>
  ∃
  (n
  :
  Int),
  ∃
  (n_29
  :
  Int),
  ∃
  (n_30
  :
  Int),
  ∃
  (n_31
  :
  Int),
  ∃
  (n_32
  :
  Int),
  ∃
  (n_33
  :
  Int),
  e =
  Ending.returned
  (Value.tuple
  #[Value.agg
  #[Value.int
  IntKind.u8
  n,
  Value.int
  IntKind.u8
  n_29,
  Value.int
  IntKind.u8
  n_30,
  Value.int
  IntKind.u8
  n_31,
  Value.int
  IntKind.i64
  n_32],
  Value.int
  IntKind.i64
  n_33]) ∧
  ∀
  (w'_7 :
  World),
  w'_7 =
  w'_6.alloc
  (Obj.cells
  #[Value.int
  IntKind.u8
  0,
  Value.int
  IntKind.u8
  0,
  Value.int
  IntKind.u8
  0,
  Value.int
  IntKind.u8
  0,
  Value.int
  IntKind.i64
  0]
  39) →
  SetsAt
  w'_7
  (Addr.mk
  w'_6.heap.size
  0
  none)
  0
  [Value.int
  IntKind.u8
  n,
  Value.int
  IntKind.u8
  n_29,
  Value.int
  IntKind.u8
  n_30,
  Value.int
  IntKind.u8
  n_31,
  Value.int
  IntKind.i64
  n_32] ∧
  ∀
  (w'_8 :
  World),
  w'_8 =
  setCellsAt
  w'_7
  (Addr.mk
  w'_6.heap.size
  0
  none)
  0
  [Value.int
  IntKind.u8
  n,
  Value.int
  IntKind.u8
  n_29,
  Value.int
  IntKind.u8
  n_30,
  Value.int
  IntKind.u8
  n_31,
  Value.int
  IntKind.i64
  n_32] →
  (0 ≤
  i ∧
  i <
  (↑n_16 :
  Int)) ∧
  Deref
  p
  fun
  (a :
  Addr) =>
  ∃
  (n
  :
  Int),
  ∃
  (n_34
  :
  Int),
  ∃
  (n_35
  :
  Int),
  ∃
  (n_36
  :
  Int),
  ∃
  (n_37
  :
  Int),
  (∀
  (w' :
  World),
  Later
  w'_8
  w' →
  w'.cell?
  (a.add
  (i.toNat *
  5)) =
  some
  (Value.int
  IntKind.u8
  n) ∧
  w'.cell?
  ((a.add
  (i.toNat *
  5)).add
  1) =
  some
  (Value.int
  IntKind.u8
  n_34) ∧
  w'.cell?
  ((a.add
  (i.toNat *
  5)).add
  2) =
  some
  (Value.int
  IntKind.u8
  n_35) ∧
  w'.cell?
  ((a.add
  (i.toNat *
  5)).add
  3) =
  some
  (Value.int
  IntKind.u8
  n_36) ∧
  w'.cell?
  ((a.add
  (i.toNat *
  5)).add
  4) =
  some
  (Value.int
  IntKind.i64
  n_37) ∧
  True) ∧
  ∃
  (n_38
  :
  Int),
  ∃
  (n_39
  :
  Int),
  ∃
  (n_40
  :
  Int),
  ∃
  (n_41
  :
  Int),
  ∃
  (n_42
  :
  Int),
  (∀
  (w' :
  World),
  Later
  w'_8
  w' →
  w'.cell?
  (Addr.mk
  w'_6.heap.size
  0
  none) =
  some
  (Value.int
  IntKind.u8
  n_38) ∧
  w'.cell?
  (Addr.mk
  w'_6.heap.size
  1
  none) =
  some
  (Value.int
  IntKind.u8
  n_39) ∧
  w'.cell?
  (Addr.mk
  w'_6.heap.size
  2
  none) =
  some
  (Value.int
  IntKind.u8
  n_40) ∧
  w'.cell?
  (Addr.mk
  w'_6.heap.size
  3
  none) =
  some
  (Value.int
  IntKind.u8
  n_41) ∧
  w'.cell?
  (Addr.mk
  w'_6.heap.size
  4
  none) =
  some
  (Value.int
  IntKind.i64
  n_42) ∧
  True) ∧
  ∃
  (b
  :
  Bool),
  EqRuns
  Proofs.Try.prog
  BinOp.neq
  39
  (Operand.tmp
  100)
  (Operand.tmp
  101)
  (Value.agg
  #[Value.int
  IntKind.u8
  n,
  Value.int
  IntKind.u8
  n_34,
  Value.int
  IntKind.u8
  n_35,
  Value.int
  IntKind.u8
  n_36,
  Value.int
  IntKind.i64
  n_37])
  (Value.agg
  #[Value.int
  IntKind.u8
  n_38,
  Value.int
  IntKind.u8
  n_39,
  Value.int
  IntKind.u8
  n_40,
  Value.int
  IntKind.u8
  n_41,
  Value.int
  IntKind.i64
  n_42])
  b ∧
  ∀
  (w'_9 :
  World),
  Later
  w'_8
  w'_9 →
  cnd
  b
  (R
  (Ending.returned
  (Value.bool
  false))
  w'_9)
  (Goes
  I
  μ
  [Value.int
  IntKind.i64
  i]
  w'
  [Value.int
  IntKind.i64
  (IntKind.i64.wrap
  (i +
  1))]
  w'_9))
  (Calls
  Proofs.Try.prog
  7
  #[]
  w'
  fun
  (e :
  Ending)
  (w' :
  World) =>
  ∃
  (b
  :
  Bool),
  e =
  Ending.returned
  (Value.bool
  b) ∧
  R
  (Ending.returned
  (Value.bool
  b))
  w')))))))))
theorem law30_ImageTells.vc_eq (x'_0 : Int) (x'_1 : Option Addr) (x'_1n : Nat) (x'_1c : Nat) (x'_2 : Bool) (x'_3 : Bool) (x'_4 : Option Addr) (x'_4n : Nat) (x'_4c : Nat) (w : World) (R : Ending → World → Prop) : fnV Try.prog law30_ImageTells.H 3 [Value.agg
  #[Value.int IntKind.i64 x'_0, Value.slice x'_1 x'_1n x'_1c, Value.bool x'_2, Value.bool x'_3,
  Value.slice x'_4 x'_4n x'_4c]] w R = law30_ImageTells.vc x'_0 x'_1 x'_1n x'_1c x'_2 x'_3 x'_4 x'_4n x'_4c w R := by kernel_rfl
theorem law30_ImageTells.calls {x'_0 : Int} {x'_1 : Option Addr} {x'_1n : Nat} {x'_1c : Nat} {x'_2 : Bool} {x'_3 : Bool} {x'_4 : Option Addr} {x'_4n : Nat} {x'_4c : Nat} {w : World} {R : Ending → World → Prop} (h : law30_ImageTells.vc x'_0 x'_1 x'_1n x'_1c x'_2 x'_3 x'_4 x'_4n x'_4c w R) : Calls Try.prog 3 ([Value.agg
  #[Value.int IntKind.i64 x'_0, Value.slice x'_1 x'_1n x'_1c, Value.bool x'_2, Value.bool x'_3,
  Value.slice x'_4 x'_4n x'_4c]] : List Value).toArray w R := calls_of_eq (law30_ImageTells.vc_eq x'_0 x'_1 x'_1n x'_1c x'_2 x'_3 x'_4 x'_4n x'_4c w R) h

/- function 4: sacristy/sacristylaw30.ImageGets -/
abbrev law30_ImageGets.N : FuncId := 4
def law30_ImageGets.H : Hints := {  }
def law30_ImageGets.vc (s' : ByteArray) (w : World) (R : Ending → World → Prop) : Prop :=
  cnd (decide ((↑s'.size : Int) > 16384))
  (Calls Proofs.Try.prog 7 #[] w fun (e : Ending) (w' : World) =>
  ∃ (b : Bool), e = Ending.returned (Value.bool b) ∧ R (Ending.returned (Value.bool b)) w')
  (Calls Proofs.Try.prog 16 #[Value.string s'] w fun (e : Ending) (w' : World) =>
  ∃ (n : Int),
  ∃ (p : Option Addr),
  ∃ (n_1 : Nat),
  ∃ (c : Nat),
  ∃ (b : Bool),
  ∃ (b_1 : Bool),
  ∃ (p_1 : Option Addr),
  ∃ (n_2 : Nat),
  ∃ (c_1 : Nat),
  ∃ (n_3 : Int),
  e =
  Ending.returned
  (Value.tuple
  #[Value.agg
  #[Value.int IntKind.i64 n, Value.slice p n_1 c, Value.bool b, Value.bool b_1,
  Value.slice p_1 n_2 c_1],
  Value.int IntKind.i64 n_3]) ∧
  ∀ (w'_1 : World),
  w'_1 =
  w'.alloc
  (Obj.cells
  #[Value.int IntKind.i64 0, Value.slice none 0 0, Value.bool false, Value.bool false,
  Value.slice none 0 0]
  25) →
  SetsAt w'_1 (Addr.mk w'.heap.size 0 none) 0
  [Value.int IntKind.i64 n, Value.slice p n_1 c, Value.bool b, Value.bool b_1,
  Value.slice p_1 n_2 c_1] ∧
  ∀ (w'_2 : World),
  w'_2 =
  setCellsAt w'_1 (Addr.mk w'.heap.size 0 none) 0
  [Value.int IntKind.i64 n, Value.slice p n_1 c, Value.bool b, Value.bool b_1,
  Value.slice p_1 n_2 c_1] →
  Calls Proofs.Try.prog 17 #[Value.string s'] w'_2 fun (e : Ending) (w'_3 : World) =>
  ∃ (n : Int),
  ∃ (p : Option Addr),
  ∃ (n_4 : Nat),
  ∃ (c : Nat),
  ∃ (b : Bool),
  ∃ (b_2 : Bool),
  ∃ (p_2 : Option Addr),
  ∃ (n_5 : Nat),
  ∃ (c_2 : Nat),
  ∃ (n_6 : Int),
  e =
  Ending.returned
  (Value.tuple
  #[Value.agg
  #[Value.int IntKind.i64 n, Value.slice p n_4 c,
  Value.bool b, Value.bool b_2,
  Value.slice p_2 n_5 c_2],
  Value.int IntKind.i64 n_6]) ∧
  ∀ (w'_4 : World),
  w'_4 =
  w'_3.alloc
  (Obj.cells
  #[Value.int IntKind.i64 0, Value.slice none 0 0,
  Value.bool false, Value.bool false,
  Value.slice none 0 0]
  25) →
  SetsAt w'_4 (Addr.mk w'_3.heap.size 0 none) 0
  [Value.int IntKind.i64 n, Value.slice p n_4 c,
  Value.bool b, Value.bool b_2,
  Value.slice p_2 n_5 c_2] ∧
  ∀ (w'_5 : World),
  w'_5 =
  setCellsAt w'_4 (Addr.mk w'_3.heap.size 0 none)
  0
  [Value.int IntKind.i64 n, Value.slice p n_4 c,
  Value.bool b, Value.bool b_2,
  Value.slice p_2 n_5 c_2] →
  ∃ (n : Int),
  ∃ (p : Option Addr),
  ∃ (n_7 : Nat),
  ∃ (c : Nat),
  ∃ (b : Bool),
  ∃ (b_3 : Bool),
  ∃ (p_3 : Option Addr),
  ∃ (n_8 : Nat),
  ∃ (c_3 : Nat),
  (w'_5.cell?
  (Addr.mk w'.heap.size 0
  none) =
  some
  (Value.int IntKind.i64
  n) ∧
  w'_5.cell?
  (Addr.mk w'.heap.size
  1 none) =
  some
  (Value.slice p n_7
  c) ∧
  w'_5.cell?
  (Addr.mk
  w'.heap.size 2
  none) =
  some (Value.bool b) ∧
  w'_5.cell?
  (Addr.mk
  w'.heap.size 3
  none) =
  some
  (Value.bool b_3) ∧
  w'_5.cell?
  (Addr.mk
  w'.heap.size 4
  none) =
  some
  (Value.slice p_3
  n_8 c_3) ∧
  True) ∧
  ∃ (n_9 : Int),
  ∃ (p_4 : Option Addr),
  ∃ (n_10 : Nat),
  ∃ (c_4 : Nat),
  ∃ (b_4 : Bool),
  ∃ (b_5 : Bool),
  ∃ (p_5 :
  Option Addr),
  ∃ (n_11 : Nat),
  ∃ (c_5 : Nat),
  (w'_5.cell?
  (Addr.mk
  w'_3.heap.size
  0
  none) =
  some
  (Value.int
  IntKind.i64
  n_9) ∧
  w'_5.cell?
  (Addr.mk
  w'_3.heap.size
  1
  none) =
  some
  (Value.slice
  p_4
  n_10
  c_4) ∧
  w'_5.cell?
  (Addr.mk
  w'_3.heap.size
  2
  none) =
  some
  (Value.bool
  b_4) ∧
  w'_5.cell?
  (Addr.mk
  w'_3.heap.size
  3
  none) =
  some
  (Value.bool
  b_5) ∧
  w'_5.cell?
  (Addr.mk
  w'_3.heap.size
  4
  none) =
  some
  (Value.slice
  p_5
  n_11
  c_5) ∧
  True) ∧
  Calls
  Proofs.Try.prog
  12
  #[Value.agg
  #[Value.int
  IntKind.i64
  n,
  Value.slice
  p
  n_7
  c,
  Value.bool
  b,
  Value.bool
  b_3,
  Value.slice
  p_3
  n_8
  c_3],
  Value.agg
  #[Value.int
  IntKind.i64
  n_9,
  Value.slice
  p_4
  n_10
  c_4,
  Value.bool
  b_4,
  Value.bool
  b_5,
  Value.slice
  p_5
  n_11
  c_5]]
  w'_5
  fun
  (e :
  Ending)
  (w' :
  World) =>
  ∃ (b :
  Bool),
  e =
  Ending.returned
  (Value.bool
  b) ∧
  cnd
  b
  (cnd
  (n_3 ==
  n_6)
  (Calls
  Proofs.Try.prog
  7
  #[]
  w'
  fun
  (e :
  Ending)
  (w' :
  World) =>
  ∃
  (b
  :
  Bool),
  e =
  Ending.returned
  (Value.bool
  b) ∧
  R
  (Ending.returned
  (Value.bool
  b))
  w')
  (R
  (Ending.returned
  (Value.bool
  false))
  w'))
  (R
  (Ending.returned
  (Value.bool
  false))
  w'))
theorem law30_ImageGets.vc_eq (s' : ByteArray) (w : World) (R : Ending → World → Prop) : fnV Try.prog law30_ImageGets.H 4 [Value.string s'] w R = law30_ImageGets.vc s' w R := by kernel_rfl
theorem law30_ImageGets.calls {s' : ByteArray} {w : World} {R : Ending → World → Prop} (h : law30_ImageGets.vc s' w R) : Calls Try.prog 4 ([Value.string s'] : List Value).toArray w R := calls_of_eq (law30_ImageGets.vc_eq s' w R) h

/- function 5: sacristy/sacristylaw30.ImageBack -/
abbrev law30_ImageBack.N : FuncId := 5
def law30_ImageBack.H : Hints := {  }
def law30_ImageBack.vc (x'_0 : Int) (x'_1 : Option Addr) (x'_1n : Nat) (x'_1c : Nat) (x'_2 : Bool) (x'_3 : Bool) (x'_4 : Option Addr) (x'_4n : Nat) (x'_4c : Nat) (s' : ByteArray) (cut' : Int) (more' : ByteArray) (w : World) (R : Ending → World → Prop) : Prop :=
  ∀ (w' : World),
  w' =
  w.alloc
  (Obj.cells
  #[Value.int IntKind.i64 x'_0, Value.slice x'_1 x'_1n x'_1c, Value.bool x'_2, Value.bool x'_3,
  Value.slice x'_4 x'_4n x'_4c]
  25) →
  ∃ (n : Int),
  ∃ (p : Option Addr),
  ∃ (n_1 : Nat),
  ∃ (c : Nat),
  ∃ (b : Bool),
  ∃ (b_1 : Bool),
  ∃ (p_1 : Option Addr),
  ∃ (n_2 : Nat),
  ∃ (c_1 : Nat),
  (w'.cell? (Addr.mk w.heap.size 0 none) = some (Value.int IntKind.i64 n) ∧
  w'.cell? (Addr.mk w.heap.size 1 none) = some (Value.slice p n_1 c) ∧
  w'.cell? (Addr.mk w.heap.size 2 none) = some (Value.bool b) ∧
  w'.cell? (Addr.mk w.heap.size 3 none) = some (Value.bool b_1) ∧
  w'.cell? (Addr.mk w.heap.size 4 none) = some (Value.slice p_1 n_2 c_1) ∧ True) ∧
  Calls Proofs.Try.prog 6
  #[Value.agg
  #[Value.int IntKind.i64 n, Value.slice p n_1 c, Value.bool b, Value.bool b_1,
  Value.slice p_1 n_2 c_1]]
  w' fun (e : Ending) (w' : World) =>
  ∃ (b : Bool),
  e = Ending.returned (Value.bool b) ∧
  cnd b
  (Calls Proofs.Try.prog 7 #[] w' fun (e : Ending) (w' : World) =>
  ∃ (b : Bool),
  e = Ending.returned (Value.bool b) ∧ R (Ending.returned (Value.bool b)) w')
  (cnd (decide (IntKind.i64.wrap ((↑s'.size : Int) + (↑more'.size : Int)) > 16384))
  (Calls Proofs.Try.prog 7 #[] w' fun (e : Ending) (w' : World) =>
  ∃ (b : Bool),
  e = Ending.returned (Value.bool b) ∧ R (Ending.returned (Value.bool b)) w')
  (∃ (n : Int),
  ∃ (p : Option Addr),
  ∃ (n_3 : Nat),
  ∃ (c : Nat),
  ∃ (b : Bool),
  ∃ (b_2 : Bool),
  ∃ (p_2 : Option Addr),
  ∃ (n_4 : Nat),
  ∃ (c_2 : Nat),
  (w'.cell? (Addr.mk w.heap.size 0 none) =
  some (Value.int IntKind.i64 n) ∧
  w'.cell? (Addr.mk w.heap.size 1 none) =
  some (Value.slice p n_3 c) ∧
  w'.cell? (Addr.mk w.heap.size 2 none) = some (Value.bool b) ∧
  w'.cell? (Addr.mk w.heap.size 3 none) =
  some (Value.bool b_2) ∧
  w'.cell? (Addr.mk w.heap.size 4 none) =
  some (Value.slice p_2 n_4 c_2) ∧
  True) ∧
  Calls Proofs.Try.prog 8
  #[Value.agg
  #[Value.int IntKind.i64 n, Value.slice p n_3 c,
  Value.bool b, Value.bool b_2, Value.slice p_2 n_4 c_2]]
  w' fun (e : Ending) (w' : World) =>
  ∃ (n : Int),
  ∃ (p : Option Addr),
  ∃ (n_5 : Nat),
  ∃ (c : Nat),
  ∃ (b : Bool),
  ∃ (b_3 : Bool),
  ∃ (p_3 : Option Addr),
  ∃ (n_6 : Nat),
  ∃ (c_3 : Nat),
  e =
  Ending.returned
  (Value.agg
  #[Value.int IntKind.i64 n,
  Value.slice p n_5 c, Value.bool b,
  Value.bool b_3,
  Value.slice p_3 n_6 c_3]) ∧
  Calls Proofs.Try.prog 10
  #[Value.agg
  #[Value.int IntKind.i64 n,
  Value.slice p n_5 c, Value.bool b,
  Value.bool b_3,
  Value.slice p_3 n_6 c_3]]
  w' fun (e : Ending) (w' : World) =>
  ∃ (s : ByteArray),
  ∃ (n : Int),
  e =
  Ending.returned
  (Value.tuple
  #[Value.string s,
  Value.int IntKind.i64 n]) ∧
  cnd (n == 0)
  (Calls Proofs.Try.prog 16
  #[Value.string s] w'
  fun (e : Ending) (w' : World) =>
  ∃ (n : Int),
  ∃ (p : Option Addr),
  ∃ (n_7 : Nat),
  ∃ (c : Nat),
  ∃ (b : Bool),
  ∃ (b_4 : Bool),
  ∃ (p_4 :
  Option Addr),
  ∃ (n_8 : Nat),
  ∃ (c_4 : Nat),
  ∃ (n_9 : Int),
  e =
  Ending.returned
  (Value.tuple
  #[Value.agg
  #[Value.int
  IntKind.i64
  n,
  Value.slice
  p
  n_7
  c,
  Value.bool
  b,
  Value.bool
  b_4,
  Value.slice
  p_4
  n_8
  c_4],
  Value.int
  IntKind.i64
  n_9]) ∧
  ∀
  (w'_1 :
  World),
  w'_1 =
  w'.alloc
  (Obj.cells
  #[Value.int
  IntKind.i64
  0,
  Value.slice
  none
  0
  0,
  Value.bool
  false,
  Value.bool
  false,
  Value.slice
  none
  0
  0]
  25) →
  SetsAt
  w'_1
  (Addr.mk
  w'.heap.size
  0
  none)
  0
  [Value.int
  IntKind.i64
  n,
  Value.slice
  p
  n_7
  c,
  Value.bool
  b,
  Value.bool
  b_4,
  Value.slice
  p_4
  n_8
  c_4] ∧
  ∀
  (w'_2 :
  World),
  w'_2 =
  setCellsAt
  w'_1
  (Addr.mk
  w'.heap.size
  0
  none)
  0
  [Value.int
  IntKind.i64
  n,
  Value.slice
  p
  n_7
  c,
  Value.bool
  b,
  Value.bool
  b_4,
  Value.slice
  p_4
  n_8
  c_4] →
  cnd
  (n_9 !=
  0)
  (R
  (Ending.returned
  (Value.bool
  false))
  w'_2)
  (∃
  (n
  :
  Int),
  ∃
  (p
  :
  Option
  Addr),
  ∃
  (n_10
  :
  Nat),
  ∃
  (c
  :
  Nat),
  ∃
  (b
  :
  Bool),
  ∃
  (b_5
  :
  Bool),
  ∃
  (p_5
  :
  Option
  Addr),
  ∃
  (n_11
  :
  Nat),
  ∃
  (c_5
  :
  Nat),
  (w'_2.cell?
  (Addr.mk
  w.heap.size
  0
  none) =
  some
  (Value.int
  IntKind.i64
  n) ∧
  w'_2.cell?
  (Addr.mk
  w.heap.size
  1
  none) =
  some
  (Value.slice
  p
  n_10
  c) ∧
  w'_2.cell?
  (Addr.mk
  w.heap.size
  2
  none) =
  some
  (Value.bool
  b) ∧
  w'_2.cell?
  (Addr.mk
  w.heap.size
  3
  none) =
  some
  (Value.bool
  b_5) ∧
  w'_2.cell?
  (Addr.mk
  w.heap.size
  4
  none) =
  some
  (Value.slice
  p_5
  n_11
  c_5) ∧
  True) ∧
  ∃
  (n_12
  :
  Int),
  ∃
  (p_6
  :
  Option
  Addr),
  ∃
  (n_13
  :
  Nat),
  ∃
  (c_6
  :
  Nat),
  ∃
  (b_6
  :
  Bool),
  ∃
  (b_7
  :
  Bool),
  ∃
  (p_7
  :
  Option
  Addr),
  ∃
  (n_14
  :
  Nat),
  ∃
  (c_7
  :
  Nat),
  (w'_2.cell?
  (Addr.mk
  w'.heap.size
  0
  none) =
  some
  (Value.int
  IntKind.i64
  n_12) ∧
  w'_2.cell?
  (Addr.mk
  w'.heap.size
  1
  none) =
  some
  (Value.slice
  p_6
  n_13
  c_6) ∧
  w'_2.cell?
  (Addr.mk
  w'.heap.size
  2
  none) =
  some
  (Value.bool
  b_6) ∧
  w'_2.cell?
  (Addr.mk
  w'.heap.size
  3
  none) =
  some
  (Value.bool
  b_7) ∧
  w'_2.cell?
  (Addr.mk
  w'.heap.size
  4
  none) =
  some
  (Value.slice
  p_7
  n_14
  c_7) ∧
  True) ∧
  Calls
  Proofs.Try.prog
  12
  #[Value.agg
  #[Value.int
  IntKind.i64
  n,
  Value.slice
  p
  n_10
  c,
  Value.bool
  b,
  Value.bool
  b_5,
  Value.slice
  p_5
  n_11
  c_5],
  Value.agg
  #[Value.int
  IntKind.i64
  n_12,
  Value.slice
  p_6
  n_13
  c_6,
  Value.bool
  b_6,
  Value.bool
  b_7,
  Value.slice
  p_7
  n_14
  c_7]]
  w'_2
  fun
  (e :
  Ending)
  (w' :
  World) =>
  ∃
  (b
  :
  Bool),
  e =
  Ending.returned
  (Value.bool
  b) ∧
  cnd
  (!b)
  (R
  (Ending.returned
  (Value.bool
  false))
  w')
  (cnd
  (s.toList ==
  (ByteArray.mk
  #[]).toList)
  (R
  (Ending.returned
  (Value.bool
  false))
  w')
  (cnd
  (decide
  ((↑s.size :
  Int) =
  0))
  False
  ((0 ≤
  (IntKind.i64.wrap
  cut').tmod
  (↑s.size :
  Int) ∧
  (IntKind.i64.wrap
  cut').tmod
  (↑s.size :
  Int) ≤
  (↑s.size :
  Int)) ∧
  Calls
  Proofs.Try.prog
  16
  #[Value.string
  (s.extract
  0
  ((IntKind.i64.wrap
  cut').tmod
  (↑s.size :
  Int)).toNat)]
  w'
  fun
  (e :
  Ending)
  (w' :
  World) =>
  ∃
  (n
  :
  Int),
  ∃
  (p
  :
  Option
  Addr),
  ∃
  (n_15
  :
  Nat),
  ∃
  (c
  :
  Nat),
  ∃
  (b
  :
  Bool),
  ∃
  (b_8
  :
  Bool),
  ∃
  (p_8
  :
  Option
  Addr),
  ∃
  (n_16
  :
  Nat),
  ∃
  (c_8
  :
  Nat),
  ∃
  (n_17
  :
  Int),
  e =
  Ending.returned
  (Value.tuple
  #[Value.agg
  #[Value.int
  IntKind.i64
  n,
  Value.slice
  p
  n_15
  c,
  Value.bool
  b,
  Value.bool
  b_8,
  Value.slice
  p_8
  n_16
  c_8],
  Value.int
  IntKind.i64
  n_17]) ∧
  ∀
  (w'_3 :
  World),
  w'_3 =
  w'.alloc
  (Obj.cells
  #[Value.int
  IntKind.i64
  0,
  Value.slice
  none
  0
  0,
  Value.bool
  false,
  Value.bool
  false,
  Value.slice
  none
  0
  0]
  25) →
  SetsAt
  w'_3
  (Addr.mk
  w'.heap.size
  0
  none)
  0
  [Value.int
  IntKind.i64
  n,
  Value.slice
  p
  n_15
  c,
  Value.bool
  b,
  Value.bool
  b_8,
  Value.slice
  p_8
  n_16
  c_8] ∧
  ∀
  (w'_4 :
  World),
  w'_4 =
  setCellsAt
  w'_3
  (Addr.mk
  w'.heap.size
  0
  none)
  0
  [Value.int
  IntKind.i64
  n,
  Value.slice
  p
  n_15
  c,
  Value.bool
  b,
  Value.bool
  b_8,
  Value.slice
  p_8
  n_16
  c_8] →
  (↑(s.size +
  more'.size) :
  Int) ≤
  9223372036854775807 ∧
  Calls
  Proofs.Try.prog
  16
  #[Value.string
  (s ++
  more')]
  w'_4
  fun
  (e :
  Ending)
  (w' :
  World) =>
  ∃
  (n
  :
  Int),
  ∃
  (p
  :
  Option
  Addr),
  ∃
  (n_18
  :
  Nat),
  ∃
  (c
  :
  Nat),
  ∃
  (b
  :
  Bool),
  ∃
  (b_9
  :
  Bool),
  ∃
  (p_9
  :
  Option
  Addr),
  ∃
  (n_19
  :
  Nat),
  ∃
  (c_9
  :
  Nat),
  ∃
  (n_20
  :
  Int),
  e =
  Ending.returned
  (Value.tuple
  #[Value.agg
  #[Value.int
  IntKind.i64
  n,
  Value.slice
  p
  n_18
  c,
  Value.bool
  b,
  Value.bool
  b_9,
  Value.slice
  p_9
  n_19
  c_9],
  Value.int
  IntKind.i64
  n_20]) ∧
  ∀
  (w'_5 :
  World),
  w'_5 =
  w'.alloc
  (Obj.cells
  #[Value.int
  IntKind.i64
  0,
  Value.slice
  none
  0
  0,
  Value.bool
  false,
  Value.bool
  false,
  Value.slice
  none
  0
  0]
  25) →
  SetsAt
  w'_5
  (Addr.mk
  w'.heap.size
  0
  none)
  0
  [Value.int
  IntKind.i64
  n,
  Value.slice
  p
  n_18
  c,
  Value.bool
  b,
  Value.bool
  b_9,
  Value.slice
  p_9
  n_19
  c_9] ∧
  ∀
  (w'_6 :
  World),
  w'_6 =
  setCellsAt
  w'_5
  (Addr.mk
  w'.heap.size
  0
  none)
  0
  [Value.int
  IntKind.i64
  n,
  Value.slice
  p
  n_18
  c,
  Value.bool
  b,
  Value.bool
  b_9,
  Value.slice
  p_9
  n_19
  c_9] →
  cnd
  (n_17 !=
  6)
  (R
  (Ending.returned
  (Value.bool
  false))
  w'_6)
  (cnd
  (!more'.toList ==
  (ByteArray.mk
  #[]).toList)
  (cnd
  (n_20 !=
  7)
  (R
  (Ending.returned
  (Value.bool
  false))
  w'_6)
  (Calls
  Proofs.Try.prog
  16
  #[Value.string
  s']
  w'_6
  fun
  (e :
  Ending)
  (w' :
  World) =>
  ∃
  (n
  :
  Int),
  ∃
  (p
  :
  Option
  Addr),
  ∃
  (n_21
  :
  Nat),
  ∃
  (c
  :
  Nat),
  ∃
  (b
  :
  Bool),
  ∃
  (b_10
  :
  Bool),
  ∃
  (p_10
  :
  Option
  Addr),
  ∃
  (n_22
  :
  Nat),
  ∃
  (c_10
  :
  Nat),
  ∃
  (n_23
  :
  Int),
  e =
  Ending.returned
  (Value.tuple
  #[Value.agg
  #[Value.int
  IntKind.i64
  n,
  Value.slice
  p
  n_21
  c,
  Value.bool
  b,
  Value.bool
  b_10,
  Value.slice
  p_10
  n_22
  c_10],
  Value.int
  IntKind.i64
  n_23]) ∧
  ∀
  (w'_7 :
  World),
  w'_7 =
  w'.alloc
  (Obj.cells
  #[Value.int
  IntKind.i64
  0,
  Value.slice
  none
  0
  0,
  Value.bool
  false,
  Value.bool
  false,
  Value.slice
  none
  0
  0]
  25) →
  SetsAt
  w'_7
  (Addr.mk
  w'.heap.size
  0
  none)
  0
  [Value.int
  IntKind.i64
  n,
  Value.slice
  p
  n_21
  c,
  Value.bool
  b,
  Value.bool
  b_10,
  Value.slice
  p_10
  n_22
  c_10] ∧
  ∀
  (w'_8 :
  World),
  w'_8 =
  setCellsAt
  w'_7
  (Addr.mk
  w'.heap.size
  0
  none)
  0
  [Value.int
  IntKind.i64
  n,
  Value.slice
  p
  n_21
  c,
  Value.bool
  b,
  Value.bool
  b_10,
  Value.slice
  p_10
  n_22
  c_10] →
  cnd
  (n_23 !=
  0)
  (cnd
  (n_23 ==
  6)
  (∃
  (n
  :
  Int),
  ∃
  (p
  :
  Option
  Addr),
  ∃
  (n_24
  :
  Nat),
  ∃
  (c
  :
  Nat),
  ∃
  (b
  :
  Bool),
  ∃
  (b_11
  :
  Bool),
  ∃
  (p_11
  :
  Option
  Addr),
  ∃
  (n_25
  :
  Nat),
  ∃
  (c_11
  :
  Nat),
  (w'_8.cell?
  (Addr.mk
  w'.heap.size
  0
  none) =
  some
  (Value.int
  IntKind.i64
  n) ∧
  w'_8.cell?
  (Addr.mk
  w'.heap.size
  1
  none) =
  some
  (Value.slice
  p
  n_24
  c) ∧
  w'_8.cell?
  (Addr.mk
  w'.heap.size
  2
  none) =
  some
  (Value.bool
  b) ∧
  w'_8.cell?
  (Addr.mk
  w'.heap.size
  3
  none) =
  some
  (Value.bool
  b_11) ∧
  w'_8.cell?
  (Addr.mk
  w'.heap.size
  4
  none) =
  some
  (Value.slice
  p_11
  n_25
  c_11) ∧
  True) ∧
  Calls
  Proofs.Try.prog
  12
  #[Value.agg
  #[Value.int
  IntKind.i64
  n,
  Value.slice
  p
  n_24
  c,
  Value.bool
  b,
  Value.bool
  b_11,
  Value.slice
  p_11
  n_25
  c_11],
  Value.agg
  #[Value.int
  IntKind.i64
  0,
  Value.slice
  none
  0
  0,
  Value.bool
  false,
  Value.bool
  false,
  Value.slice
  none
  0
  0]]
  w'_8
  fun
  (e :
  Ending)
  (w' :
  World) =>
  ∃
  (b
  :
  Bool),
  e =
  Ending.returned
  (Value.bool
  b) ∧
  cnd
  b
  (Calls
  Proofs.Try.prog
  7
  #[]
  w'
  fun
  (e :
  Ending)
  (w' :
  World) =>
  ∃
  (b
  :
  Bool),
  e =
  Ending.returned
  (Value.bool
  b) ∧
  R
  (Ending.returned
  (Value.bool
  b))
  w')
  (R
  (Ending.returned
  (Value.bool
  false))
  w'))
  (cnd
  (n_23 ==
  7)
  (∃
  (n
  :
  Int),
  ∃
  (p
  :
  Option
  Addr),
  ∃
  (n_24
  :
  Nat),
  ∃
  (c
  :
  Nat),
  ∃
  (b
  :
  Bool),
  ∃
  (b_11
  :
  Bool),
  ∃
  (p_11
  :
  Option
  Addr),
  ∃
  (n_25
  :
  Nat),
  ∃
  (c_11
  :
  Nat),
  (w'_8.cell?
  (Addr.mk
  w'.heap.size
  0
  none) =
  some
  (Value.int
  IntKind.i64
  n) ∧
  w'_8.cell?
  (Addr.mk
  w'.heap.size
  1
  none) =
  some
  (Value.slice
  p
  n_24
  c) ∧
  w'_8.cell?
  (Addr.mk
  w'.heap.size
  2
  none) =
  some
  (Value.bool
  b) ∧
  w'_8.cell?
  (Addr.mk
  w'.heap.size
  3
  none) =
  some
  (Value.bool
  b_11) ∧
  w'_8.cell?
  (Addr.mk
  w'.heap.size
  4
  none) =
  some
  (Value.slice
  p_11
  n_25
  c_11) ∧
  True) ∧
  Calls
  Proofs.Try.prog
  12
  #[Value.agg
  #[Value.int
  IntKind.i64
  n,
  Value.slice
  p
  n_24
  c,
  Value.bool
  b,
  Value.bool
  b_11,
  Value.slice
  p_11
  n_25
  c_11],
  Value.agg
  #[Value.int
  IntKind.i64
  0,
  Value.slice
  none
  0
  0,
  Value.bool
  false,
  Value.bool
  false,
  Value.slice
  none
  0
  0]]
  w'_8
  fun
  (e :
  Ending)
  (w' :
  World) =>
  ∃
  (b
  :
  Bool),
  e =
  Ending.returned
  (Value.bool
  b) ∧
  cnd
  b
  (Calls
  Proofs.Try.prog
  7
  #[]
  w'
  fun
  (e :
  Ending)
  (w' :
  World) =>
  ∃
  (b
  :
  Bool),
  e =
  Ending.returned
  (Value.bool
  b) ∧
  R
  (Ending.returned
  (Value.bool
  b))
  w')
  (R
  (Ending.returned
  (Value.bool
  false))
  w'))
  (R
  (Ending.returned
  (Value.bool
  false))
  w'_8)))
  (∃
  (n
  :
  Int),
  ∃
  (p
  :
  Option
  Addr),
  ∃
  (n_24
  :
  Nat),
  ∃
  (c
  :
  Nat),
  ∃
  (b
  :
  Bool),
  ∃
  (b_11
  :
  Bool),
  ∃
  (p_11
  :
  Option
  Addr),
  ∃
  (n_25
  :
  Nat),
  ∃
  (c_11
  :
  Nat),
  (w'_8.cell?
  (Addr.mk
  w'.heap.size
  0
  none) =
  some
  (Value.int
  IntKind.i64
  n) ∧
  w'_8.cell?
  (Addr.mk
  w'.heap.size
  1
  none) =
  some
  (Value.slice
  p
  n_24
  c) ∧
  w'_8.cell?
  (Addr.mk
  w'.heap.size
  2
  none) =
  some
  (Value.bool
  b) ∧
  w'_8.cell?
  (Addr.mk
  w'.heap.size
  3
  none) =
  some
  (Value.bool
  b_11) ∧
  w'_8.cell?
  (Addr.mk
  w'.heap.size
  4
  none) =
  some
  (Value.slice
  p_11
  n_25
  c_11) ∧
  True) ∧
  Calls
  Proofs.Try.prog
  10
  #[Value.agg
  #[Value.int
  IntKind.i64
  n,
  Value.slice
  p
  n_24
  c,
  Value.bool
  b,
  Value.bool
  b_11,
  Value.slice
  p_11
  n_25
  c_11]]
  w'_8
  fun
  (e :
  Ending)
  (w' :
  World) =>
  ∃
  (s
  :
  ByteArray),
  ∃
  (n
  :
  Int),
  e =
  Ending.returned
  (Value.tuple
  #[Value.string
  s,
  Value.int
  IntKind.i64
  n]) ∧
  cnd
  (n ==
  0)
  (cnd
  (s.toList ==
  s'.toList)
  (Calls
  Proofs.Try.prog
  7
  #[]
  w'
  fun
  (e :
  Ending)
  (w' :
  World) =>
  ∃
  (b
  :
  Bool),
  e =
  Ending.returned
  (Value.bool
  b) ∧
  R
  (Ending.returned
  (Value.bool
  b))
  w')
  (R
  (Ending.returned
  (Value.bool
  false))
  w'))
  (R
  (Ending.returned
  (Value.bool
  false))
  w'))))
  (Calls
  Proofs.Try.prog
  16
  #[Value.string
  s']
  w'_6
  fun
  (e :
  Ending)
  (w' :
  World) =>
  ∃
  (n
  :
  Int),
  ∃
  (p
  :
  Option
  Addr),
  ∃
  (n_21
  :
  Nat),
  ∃
  (c
  :
  Nat),
  ∃
  (b
  :
  Bool),
  ∃
  (b_10
  :
  Bool),
  ∃
  (p_10
  :
  Option
  Addr),
  ∃
  (n_22
  :
  Nat),
  ∃
  (c_10
  :
  Nat),
  ∃
  (n_23
  :
  Int),
  e =
  Ending.returned
  (Value.tuple
  #[Value.agg
  #[Value.int
  IntKind.i64
  n,
  Value.slice
  p
  n_21
  c,
  Value.bool
  b,
  Value.bool
  b_10,
  Value.slice
  p_10
  n_22
  c_10],
  Value.int
  IntKind.i64
  n_23]) ∧
  ∀
  (w'_7 :
  World),
  w'_7 =
  w'.alloc
  (Obj.cells
  #[Value.int
  IntKind.i64
  0,
  Value.slice
  none
  0
  0,
  Value.bool
  false,
  Value.bool
  false,
  Value.slice
  none
  0
  0]
  25) →
  SetsAt
  w'_7
  (Addr.mk
  w'.heap.size
  0
  none)
  0
  [Value.int
  IntKind.i64
  n,
  Value.slice
  p
  n_21
  c,
  Value.bool
  b,
  Value.bool
  b_10,
  Value.slice
  p_10
  n_22
  c_10] ∧
  ∀
  (w'_8 :
  World),
  w'_8 =
  setCellsAt
  w'_7
  (Addr.mk
  w'.heap.size
  0
  none)
  0
  [Value.int
  IntKind.i64
  n,
  Value.slice
  p
  n_21
  c,
  Value.bool
  b,
  Value.bool
  b_10,
  Value.slice
  p_10
  n_22
  c_10] →
  cnd
  (n_23 !=
  0)
  (cnd
  (n_23 ==
  6)
  (∃
  (n
  :
  Int),
  ∃
  (p
  :
  Option
  Addr),
  ∃
  (n_24
  :
  Nat),
  ∃
  (c
  :
  Nat),
  ∃
  (b
  :
  Bool),
  ∃
  (b_11
  :
  Bool),
  ∃
  (p_11
  :
  Option
  Addr),
  ∃
  (n_25
  :
  Nat),
  ∃
  (c_11
  :
  Nat),
  (w'_8.cell?
  (Addr.mk
  w'.heap.size
  0
  none) =
  some
  (Value.int
  IntKind.i64
  n) ∧
  w'_8.cell?
  (Addr.mk
  w'.heap.size
  1
  none) =
  some
  (Value.slice
  p
  n_24
  c) ∧
  w'_8.cell?
  (Addr.mk
  w'.heap.size
  2
  none) =
  some
  (Value.bool
  b) ∧
  w'_8.cell?
  (Addr.mk
  w'.heap.size
  3
  none) =
  some
  (Value.bool
  b_11) ∧
  w'_8.cell?
  (Addr.mk
  w'.heap.size
  4
  none) =
  some
  (Value.slice
  p_11
  n_25
  c_11) ∧
  True) ∧
  Calls
  Proofs.Try.prog
  12
  #[Value.agg
  #[Value.int
  IntKind.i64
  n,
  Value.slice
  p
  n_24
  c,
  Value.bool
  b,
  Value.bool
  b_11,
  Value.slice
  p_11
  n_25
  c_11],
  Value.agg
  #[Value.int
  IntKind.i64
  0,
  Value.slice
  none
  0
  0,
  Value.bool
  false,
  Value.bool
  false,
  Value.slice
  none
  0
  0]]
  w'_8
  fun
  (e :
  Ending)
  (w' :
  World) =>
  ∃
  (b
  :
  Bool),
  e =
  Ending.returned
  (Value.bool
  b) ∧
  cnd
  b
  (Calls
  Proofs.Try.prog
  7
  #[]
  w'
  fun
  (e :
  Ending)
  (w' :
  World) =>
  ∃
  (b
  :
  Bool),
  e =
  Ending.returned
  (Value.bool
  b) ∧
  R
  (Ending.returned
  (Value.bool
  b))
  w')
  (R
  (Ending.returned
  (Value.bool
  false))
  w'))
  (cnd
  (n_23 ==
  7)
  (∃
  (n
  :
  Int),
  ∃
  (p
  :
  Option
  Addr),
  ∃
  (n_24
  :
  Nat),
  ∃
  (c
  :
  Nat),
  ∃
  (b
  :
  Bool),
  ∃
  (b_11
  :
  Bool),
  ∃
  (p_11
  :
  Option
  Addr),
  ∃
  (n_25
  :
  Nat),
  ∃
  (c_11
  :
  Nat),
  (w'_8.cell?
  (Addr.mk
  w'.heap.size
  0
  none) =
  some
  (Value.int
  IntKind.i64
  n) ∧
  w'_8.cell?
  (Addr.mk
  w'.heap.size
  1
  none) =
  some
  (Value.slice
  p
  n_24
  c) ∧
  w'_8.cell?
  (Addr.mk
  w'.heap.size
  2
  none) =
  some
  (Value.bool
  b) ∧
  w'_8.cell?
  (Addr.mk
  w'.heap.size
  3
  none) =
  some
  (Value.bool
  b_11) ∧
  w'_8.cell?
  (Addr.mk
  w'.heap.size
  4
  none) =
  some
  (Value.slice
  p_11
  n_25
  c_11) ∧
  True) ∧
  Calls
  Proofs.Try.prog
  12
  #[Value.agg
  #[Value.int
  IntKind.i64
  n,
  Value.slice
  p
  n_24
  c,
  Value.bool
  b,
  Value.bool
  b_11,
  Value.slice
  p_11
  n_25
  c_11],
  Value.agg
  #[Value.int
  IntKind.i64
  0,
  Value.slice
  none
  0
  0,
  Value.bool
  false,
  Value.bool
  false,
  Value.slice
  none
  0
  0]]
  w'_8
  fun
  (e :
  Ending)
  (w' :
  World) =>
  ∃
  (b
  :
  Bool),
  e =
  Ending.returned
  (Value.bool
  b) ∧
  cnd
  b
  (Calls
  Proofs.Try.prog
  7
  #[]
  w'
  fun
  (e :
  Ending)
  (w' :
  World) =>
  ∃
  (b
  :
  Bool),
  e =
  Ending.returned
  (Value.bool
  b) ∧
  R
  (Ending.returned
  (Value.bool
  b))
  w')
  (R
  (Ending.returned
  (Value.bool
  false))
  w'))
  (R
  (Ending.returned
  (Value.bool
  false))
  w'_8)))
  (∃
  (n
  :
  Int),
  ∃
  (p
  :
  Option
  Addr),
  ∃
  (n_24
  :
  Nat),
  ∃
  (c
  :
  Nat),
  ∃
  (b
  :
  Bool),
  ∃
  (b_11
  :
  Bool),
  ∃
  (p_11
  :
  Option
  Addr),
  ∃
  (n_25
  :
  Nat),
  ∃
  (c_11
  :
  Nat),
  (w'_8.cell?
  (Addr.mk
  w'.heap.size
  0
  none) =
  some
  (Value.int
  IntKind.i64
  n) ∧
  w'_8.cell?
  (Addr.mk
  w'.heap.size
  1
  none) =
  some
  (Value.slice
  p
  n_24
  c) ∧
  w'_8.cell?
  (Addr.mk
  w'.heap.size
  2
  none) =
  some
  (Value.bool
  b) ∧
  w'_8.cell?
  (Addr.mk
  w'.heap.size
  3
  none) =
  some
  (Value.bool
  b_11) ∧
  w'_8.cell?
  (Addr.mk
  w'.heap.size
  4
  none) =
  some
  (Value.slice
  p_11
  n_25
  c_11) ∧
  True) ∧
  Calls
  Proofs.Try.prog
  10
  #[Value.agg
  #[Value.int
  IntKind.i64
  n,
  Value.slice
  p
  n_24
  c,
  Value.bool
  b,
  Value.bool
  b_11,
  Value.slice
  p_11
  n_25
  c_11]]
  w'_8
  fun
  (e :
  Ending)
  (w' :
  World) =>
  ∃
  (s
  :
  ByteArray),
  ∃
  (n
  :
  Int),
  e =
  Ending.returned
  (Value.tuple
  #[Value.string
  s,
  Value.int
  IntKind.i64
  n]) ∧
  cnd
  (n ==
  0)
  (cnd
  (s.toList ==
  s'.toList)
  (Calls
  Proofs.Try.prog
  7
  #[]
  w'
  fun
  (e :
  Ending)
  (w' :
  World) =>
  ∃
  (b
  :
  Bool),
  e =
  Ending.returned
  (Value.bool
  b) ∧
  R
  (Ending.returned
  (Value.bool
  b))
  w')
  (R
  (Ending.returned
  (Value.bool
  false))
  w'))
  (R
  (Ending.returned
  (Value.bool
  false))
  w')))))))))
  (cnd
  (!s.toList ==
  (ByteArray.mk #[]).toList)
  (R
  (Ending.returned
  (Value.bool false))
  w')
  (Calls Proofs.Try.prog 16
  #[Value.string s'] w'
  fun (e : Ending)
  (w' : World) =>
  ∃ (n : Int),
  ∃ (p : Option Addr),
  ∃ (n_7 : Nat),
  ∃ (c : Nat),
  ∃ (b : Bool),
  ∃ (b_4 : Bool),
  ∃ (p_4 :
  Option Addr),
  ∃ (n_8 : Nat),
  ∃ (c_4 : Nat),
  ∃ (n_9 :
  Int),
  e =
  Ending.returned
  (Value.tuple
  #[Value.agg
  #[Value.int
  IntKind.i64
  n,
  Value.slice
  p
  n_7
  c,
  Value.bool
  b,
  Value.bool
  b_4,
  Value.slice
  p_4
  n_8
  c_4],
  Value.int
  IntKind.i64
  n_9]) ∧
  ∀
  (w'_1 :
  World),
  w'_1 =
  w'.alloc
  (Obj.cells
  #[Value.int
  IntKind.i64
  0,
  Value.slice
  none
  0
  0,
  Value.bool
  false,
  Value.bool
  false,
  Value.slice
  none
  0
  0]
  25) →
  SetsAt
  w'_1
  (Addr.mk
  w'.heap.size
  0
  none)
  0
  [Value.int
  IntKind.i64
  n,
  Value.slice
  p
  n_7
  c,
  Value.bool
  b,
  Value.bool
  b_4,
  Value.slice
  p_4
  n_8
  c_4] ∧
  ∀
  (w'_2 :
  World),
  w'_2 =
  setCellsAt
  w'_1
  (Addr.mk
  w'.heap.size
  0
  none)
  0
  [Value.int
  IntKind.i64
  n,
  Value.slice
  p
  n_7
  c,
  Value.bool
  b,
  Value.bool
  b_4,
  Value.slice
  p_4
  n_8
  c_4] →
  cnd
  (n_9 !=
  0)
  (cnd
  (n_9 ==
  6)
  (∃
  (n
  :
  Int),
  ∃
  (p
  :
  Option
  Addr),
  ∃
  (n_10
  :
  Nat),
  ∃
  (c
  :
  Nat),
  ∃
  (b
  :
  Bool),
  ∃
  (b_5
  :
  Bool),
  ∃
  (p_5
  :
  Option
  Addr),
  ∃
  (n_11
  :
  Nat),
  ∃
  (c_5
  :
  Nat),
  (w'_2.cell?
  (Addr.mk
  w'.heap.size
  0
  none) =
  some
  (Value.int
  IntKind.i64
  n) ∧
  w'_2.cell?
  (Addr.mk
  w'.heap.size
  1
  none) =
  some
  (Value.slice
  p
  n_10
  c) ∧
  w'_2.cell?
  (Addr.mk
  w'.heap.size
  2
  none) =
  some
  (Value.bool
  b) ∧
  w'_2.cell?
  (Addr.mk
  w'.heap.size
  3
  none) =
  some
  (Value.bool
  b_5) ∧
  w'_2.cell?
  (Addr.mk
  w'.heap.size
  4
  none) =
  some
  (Value.slice
  p_5
  n_11
  c_5) ∧
  True) ∧
  Calls
  Proofs.Try.prog
  12
  #[Value.agg
  #[Value.int
  IntKind.i64
  n,
  Value.slice
  p
  n_10
  c,
  Value.bool
  b,
  Value.bool
  b_5,
  Value.slice
  p_5
  n_11
  c_5],
  Value.agg
  #[Value.int
  IntKind.i64
  0,
  Value.slice
  none
  0
  0,
  Value.bool
  false,
  Value.bool
  false,
  Value.slice
  none
  0
  0]]
  w'_2
  fun
  (e :
  Ending)
  (w' :
  World) =>
  ∃
  (b
  :
  Bool),
  e =
  Ending.returned
  (Value.bool
  b) ∧
  cnd
  b
  (Calls
  Proofs.Try.prog
  7
  #[]
  w'
  fun
  (e :
  Ending)
  (w' :
  World) =>
  ∃
  (b
  :
  Bool),
  e =
  Ending.returned
  (Value.bool
  b) ∧
  R
  (Ending.returned
  (Value.bool
  b))
  w')
  (R
  (Ending.returned
  (Value.bool
  false))
  w'))
  (cnd
  (n_9 ==
  7)
  (∃
  (n
  :
  Int),
  ∃
  (p
  :
  Option
  Addr),
  ∃
  (n_10
  :
  Nat),
  ∃
  (c
  :
  Nat),
  ∃
  (b
  :
  Bool),
  ∃
  (b_5
  :
  Bool),
  ∃
  (p_5
  :
  Option
  Addr),
  ∃
  (n_11
  :
  Nat),
  ∃
  (c_5
  :
  Nat),
  (w'_2.cell?
  (Addr.mk
  w'.heap.size
  0
  none) =
  some
  (Value.int
  IntKind.i64
  n) ∧
  w'_2.cell?
  (Addr.mk
  w'.heap.size
  1
  none) =
  some
  (Value.slice
  p
  n_10
  c) ∧
  w'_2.cell?
  (Addr.mk
  w'.heap.size
  2
  none) =
  some
  (Value.bool
  b) ∧
  w'_2.cell?
  (Addr.mk
  w'.heap.size
  3
  none) =
  some
  (Value.bool
  b_5) ∧
  w'_2.cell?
  (Addr.mk
  w'.heap.size
  4
  none) =
  some
  (Value.slice
  p_5
  n_11
  c_5) ∧
  True) ∧
  Calls
  Proofs.Try.prog
  12
  #[Value.agg
  #[Value.int
  IntKind.i64
  n,
  Value.slice
  p
  n_10
  c,
  Value.bool
  b,
  Value.bool
  b_5,
  Value.slice
  p_5
  n_11
  c_5],
  Value.agg
  #[Value.int
  IntKind.i64
  0,
  Value.slice
  none
  0
  0,
  Value.bool
  false,
  Value.bool
  false,
  Value.slice
  none
  0
  0]]
  w'_2
  fun
  (e :
  Ending)
  (w' :
  World) =>
  ∃
  (b
  :
  Bool),
  e =
  Ending.returned
  (Value.bool
  b) ∧
  cnd
  b
  (Calls
  Proofs.Try.prog
  7
  #[]
  w'
  fun
  (e :
  Ending)
  (w' :
  World) =>
  ∃
  (b
  :
  Bool),
  e =
  Ending.returned
  (Value.bool
  b) ∧
  R
  (Ending.returned
  (Value.bool
  b))
  w')
  (R
  (Ending.returned
  (Value.bool
  false))
  w'))
  (R
  (Ending.returned
  (Value.bool
  false))
  w'_2)))
  (∃
  (n
  :
  Int),
  ∃
  (p
  :
  Option
  Addr),
  ∃
  (n_10
  :
  Nat),
  ∃
  (c
  :
  Nat),
  ∃
  (b
  :
  Bool),
  ∃
  (b_5
  :
  Bool),
  ∃
  (p_5
  :
  Option
  Addr),
  ∃
  (n_11
  :
  Nat),
  ∃
  (c_5
  :
  Nat),
  (w'_2.cell?
  (Addr.mk
  w'.heap.size
  0
  none) =
  some
  (Value.int
  IntKind.i64
  n) ∧
  w'_2.cell?
  (Addr.mk
  w'.heap.size
  1
  none) =
  some
  (Value.slice
  p
  n_10
  c) ∧
  w'_2.cell?
  (Addr.mk
  w'.heap.size
  2
  none) =
  some
  (Value.bool
  b) ∧
  w'_2.cell?
  (Addr.mk
  w'.heap.size
  3
  none) =
  some
  (Value.bool
  b_5) ∧
  w'_2.cell?
  (Addr.mk
  w'.heap.size
  4
  none) =
  some
  (Value.slice
  p_5
  n_11
  c_5) ∧
  True) ∧
  Calls
  Proofs.Try.prog
  10
  #[Value.agg
  #[Value.int
  IntKind.i64
  n,
  Value.slice
  p
  n_10
  c,
  Value.bool
  b,
  Value.bool
  b_5,
  Value.slice
  p_5
  n_11
  c_5]]
  w'_2
  fun
  (e :
  Ending)
  (w' :
  World) =>
  ∃
  (s
  :
  ByteArray),
  ∃
  (n
  :
  Int),
  e =
  Ending.returned
  (Value.tuple
  #[Value.string
  s,
  Value.int
  IntKind.i64
  n]) ∧
  cnd
  (n ==
  0)
  (cnd
  (s.toList ==
  s'.toList)
  (Calls
  Proofs.Try.prog
  7
  #[]
  w'
  fun
  (e :
  Ending)
  (w' :
  World) =>
  ∃
  (b
  :
  Bool),
  e =
  Ending.returned
  (Value.bool
  b) ∧
  R
  (Ending.returned
  (Value.bool
  b))
  w')
  (R
  (Ending.returned
  (Value.bool
  false))
  w'))
  (R
  (Ending.returned
  (Value.bool
  false))
  w'))))))
theorem law30_ImageBack.vc_eq (x'_0 : Int) (x'_1 : Option Addr) (x'_1n : Nat) (x'_1c : Nat) (x'_2 : Bool) (x'_3 : Bool) (x'_4 : Option Addr) (x'_4n : Nat) (x'_4c : Nat) (s' : ByteArray) (cut' : Int) (more' : ByteArray) (w : World) (R : Ending → World → Prop) : fnV Try.prog law30_ImageBack.H 5 [Value.agg
  #[Value.int IntKind.i64 x'_0, Value.slice x'_1 x'_1n x'_1c, Value.bool x'_2, Value.bool x'_3,
  Value.slice x'_4 x'_4n x'_4c],
  Value.string s', Value.int IntKind.u16 cut', Value.string more'] w R = law30_ImageBack.vc x'_0 x'_1 x'_1n x'_1c x'_2 x'_3 x'_4 x'_4n x'_4c s' cut' more' w R := by kernel_rfl
theorem law30_ImageBack.calls {x'_0 : Int} {x'_1 : Option Addr} {x'_1n : Nat} {x'_1c : Nat} {x'_2 : Bool} {x'_3 : Bool} {x'_4 : Option Addr} {x'_4n : Nat} {x'_4c : Nat} {s' : ByteArray} {cut' : Int} {more' : ByteArray} {w : World} {R : Ending → World → Prop} (h : law30_ImageBack.vc x'_0 x'_1 x'_1n x'_1c x'_2 x'_3 x'_4 x'_4n x'_4c s' cut' more' w R) : Calls Try.prog 5 ([Value.agg
  #[Value.int IntKind.i64 x'_0, Value.slice x'_1 x'_1n x'_1c, Value.bool x'_2, Value.bool x'_3,
  Value.slice x'_4 x'_4n x'_4c],
  Value.string s', Value.int IntKind.u16 cut', Value.string more'] : List Value).toArray w R := calls_of_eq (law30_ImageBack.vc_eq x'_0 x'_1 x'_1n x'_1c x'_2 x'_3 x'_4 x'_4n x'_4c s' cut' more' w R) h

end Go.Proofs.Ytjoikaklincfoaa
