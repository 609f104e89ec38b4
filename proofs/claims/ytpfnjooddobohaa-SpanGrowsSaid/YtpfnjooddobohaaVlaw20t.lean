/-
The explicit conditions of some functions of the program, printed by this repo's own program over VcTop: what is proved is that each is the condition.
Conditions: none.
-/
import Derived.Test.YtpfnjooddobohaaVcTop
import Derived.Test.YtpfnjooddobohaaProg
namespace Go.Proofs.Ytpfnjooddobohaa
open Go Go.Vc Go.RowKit
set_option linter.unusedVariables false
set_option maxRecDepth 100000

/- function 4: sacristy/sacristylaw20.SpanTells -/
abbrev law20_SpanTells.N : FuncId := 4
def law20_SpanTells.H : Hints := { regs := [(4, [(55, .one .bool)]), (7, [(64, .one .bool)]), (8, [(6, .one .bool)]), (10, [(115, .one .bool)]), (12, [(6, .one .bool)])] }
def law20_SpanTells.vc (a'_0 : Int) (a'_1 : Int) (b'_0 : Int) (b'_1 : Int) (v' : Int) (w : World) (R : Ending → World → Prop) : Prop :=
  ∀ (w' : World),
  w' = w.alloc (Obj.cells #[Value.int IntKind.u64 a'_0, Value.int IntKind.u64 a'_1] 24) →
  ∀ (w'_1 : World),
  w'_1 = w'.alloc (Obj.cells #[Value.int IntKind.u64 b'_0, Value.int IntKind.u64 b'_1] 24) →
  ∃ (n : Int),
  ∃ (n_1 : Int),
  (w'_1.cell? (Addr.mk w.heap.size 0 none) = some (Value.int IntKind.u64 n) ∧
  w'_1.cell? (Addr.mk w.heap.size 1 none) = some (Value.int IntKind.u64 n_1) ∧ True) ∧
  ∃ (n_2 : Int),
  ∃ (n_3 : Int),
  (w'_1.cell? (Addr.mk w'.heap.size 0 none) = some (Value.int IntKind.u64 n_2) ∧
  w'_1.cell? (Addr.mk w'.heap.size 1 none) = some (Value.int IntKind.u64 n_3) ∧ True) ∧
  Calls Proofs.Try.prog 11
  #[Value.agg #[Value.int IntKind.u64 n, Value.int IntKind.u64 n_1],
  Value.agg #[Value.int IntKind.u64 n_2, Value.int IntKind.u64 n_3]]
  w'_1 fun (e : Ending) (w'_2 : World) =>
  ∃ (n : Int),
  ∃ (n_4 : Int),
  ∃ (n_5 : Int),
  e =
  Ending.returned
  (Value.tuple
  #[Value.agg #[Value.int IntKind.u64 n, Value.int IntKind.u64 n_4],
  Value.int IntKind.i64 n_5]) ∧
  ∀ (w'_3 : World),
  w'_3 = w'_2.alloc (Obj.cells #[Value.int IntKind.u64 0, Value.int IntKind.u64 0] 24) →
  SetsAt w'_3 (Addr.mk w'_2.heap.size 0 none) 0
  [Value.int IntKind.u64 n, Value.int IntKind.u64 n_4] ∧
  ∀ (w'_4 : World),
  w'_4 =
  setCellsAt w'_3 (Addr.mk w'_2.heap.size 0 none) 0
  [Value.int IntKind.u64 n, Value.int IntKind.u64 n_4] →
  ∃ (n : Int),
  ∃ (n_6 : Int),
  (w'_4.cell? (Addr.mk w.heap.size 0 none) = some (Value.int IntKind.u64 n) ∧
  w'_4.cell? (Addr.mk w.heap.size 1 none) =
  some (Value.int IntKind.u64 n_6) ∧
  True) ∧
  ∃ (n_7 : Int),
  ∃ (n_8 : Int),
  (w'_4.cell? (Addr.mk w'.heap.size 0 none) =
  some (Value.int IntKind.u64 n_7) ∧
  w'_4.cell? (Addr.mk w'.heap.size 1 none) =
  some (Value.int IntKind.u64 n_8) ∧
  True) ∧
  Calls Proofs.Try.prog 12
  #[Value.agg #[Value.int IntKind.u64 n, Value.int IntKind.u64 n_6],
  Value.agg
  #[Value.int IntKind.u64 n_7, Value.int IntKind.u64 n_8]]
  w'_4 fun (e : Ending) (w'_5 : World) =>
  ∃ (n : Int),
  ∃ (n_9 : Int),
  ∃ (n_10 : Int),
  e =
  Ending.returned
  (Value.tuple
  #[Value.agg
  #[Value.int IntKind.u64 n,
  Value.int IntKind.u64 n_9],
  Value.int IntKind.i64 n_10]) ∧
  ∀ (w'_6 : World),
  w'_6 =
  w'_5.alloc
  (Obj.cells
  #[Value.int IntKind.u64 0,
  Value.int IntKind.u64 0]
  24) →
  SetsAt w'_6 (Addr.mk w'_5.heap.size 0 none) 0
  [Value.int IntKind.u64 n,
  Value.int IntKind.u64 n_9] ∧
  ∀ (w'_7 : World),
  w'_7 =
  setCellsAt w'_6
  (Addr.mk w'_5.heap.size 0 none) 0
  [Value.int IntKind.u64 n,
  Value.int IntKind.u64 n_9] →
  ∃ (n : Int),
  ∃ (n_11 : Int),
  (w'_7.cell? (Addr.mk w.heap.size 0 none) =
  some (Value.int IntKind.u64 n) ∧
  w'_7.cell?
  (Addr.mk w.heap.size 1 none) =
  some (Value.int IntKind.u64 n_11) ∧
  True) ∧
  ∃ (n_12 : Int),
  ∃ (n_13 : Int),
  (w'_7.cell?
  (Addr.mk w'.heap.size 0
  none) =
  some
  (Value.int IntKind.u64 n_12) ∧
  w'_7.cell?
  (Addr.mk w'.heap.size 1
  none) =
  some
  (Value.int IntKind.u64
  n_13) ∧
  True) ∧
  Calls Proofs.Try.prog 13
  #[Value.agg
  #[Value.int IntKind.u64 n,
  Value.int IntKind.u64 n_11],
  Value.agg
  #[Value.int IntKind.u64 n_12,
  Value.int IntKind.u64 n_13]]
  w'_7
  fun (e : Ending) (w'_8 : World) =>
  ∃ (n : Int),
  ∃ (n_14 : Int),
  ∃ (n_15 : Int),
  e =
  Ending.returned
  (Value.tuple
  #[Value.agg
  #[Value.int
  IntKind.u64
  n,
  Value.int
  IntKind.u64
  n_14],
  Value.int
  IntKind.i64
  n_15]) ∧
  ∀ (w'_9 : World),
  w'_9 =
  w'_8.alloc
  (Obj.cells
  #[Value.int
  IntKind.u64
  0,
  Value.int
  IntKind.u64
  0]
  24) →
  SetsAt w'_9
  (Addr.mk
  w'_8.heap.size 0
  none)
  0
  [Value.int
  IntKind.u64 n,
  Value.int
  IntKind.u64
  n_14] ∧
  ∀ (w'_10 : World),
  w'_10 =
  setCellsAt
  w'_9
  (Addr.mk
  w'_8.heap.size
  0 none)
  0
  [Value.int
  IntKind.u64
  n,
  Value.int
  IntKind.u64
  n_14] →
  ∃ (J :
  List Value →
  World →
  Prop),
  (∃ (n : Int),
  ∃ (n_16 :
  Int),
  (∀
  (w' :
  World),
  Later
  w'_10
  w' →
  w'.cell?
  (Addr.mk
  w.heap.size
  0
  none) =
  some
  (Value.int
  IntKind.u64
  n) ∧
  w'.cell?
  (Addr.mk
  w.heap.size
  1
  none) =
  some
  (Value.int
  IntKind.u64
  n_16) ∧
  True) ∧
  ∃
  (n_17
  :
  Int),
  (∀
  (w' :
  World),
  Later
  w'_10
  w' →
  Calls
  Proofs.Try.prog
  14
  #[Value.agg
  #[Value.int
  IntKind.u64
  n,
  Value.int
  IntKind.u64
  n_16]]
  w'
  fun
  (e :
  Ending)
  (w'' :
  World) =>
  e =
  Ending.returned
  (Value.int
  IntKind.i64
  n_17) ∧
  Later
  w'
  w'') ∧
  ∃
  (n
  :
  Int),
  ∃
  (n_18
  :
  Int),
  (∀
  (w' :
  World),
  Later
  w'_10
  w' →
  w'.cell?
  (Addr.mk
  w.heap.size
  0
  none) =
  some
  (Value.int
  IntKind.u64
  n) ∧
  w'.cell?
  (Addr.mk
  w.heap.size
  1
  none) =
  some
  (Value.int
  IntKind.u64
  n_18) ∧
  True) ∧
  ∃
  (b
  :
  Bool),
  (∀
  (w' :
  World),
  Later
  w'_10
  w' →
  Calls
  Proofs.Try.prog
  8
  #[Value.agg
  #[Value.int
  IntKind.u64
  n,
  Value.int
  IntKind.u64
  n_18]]
  w'
  fun
  (e :
  Ending)
  (w'' :
  World) =>
  e =
  Ending.returned
  (Value.bool
  b) ∧
  Later
  w'
  w'') ∧
  cnd
  (!(n_17 ==
  0) ==
  b)
  (∀
  (w' :
  World),
  Later
  w'_10
  w' →
  J
  [Value.bool
  true]
  w')
  (∃
  (n
  :
  Int),
  ∃
  (n_19
  :
  Int),
  (∀
  (w' :
  World),
  Later
  w'_10
  w' →
  w'.cell?
  (Addr.mk
  w.heap.size
  0
  none) =
  some
  (Value.int
  IntKind.u64
  n) ∧
  w'.cell?
  (Addr.mk
  w.heap.size
  1
  none) =
  some
  (Value.int
  IntKind.u64
  n_19) ∧
  True) ∧
  ∃
  (b
  :
  Bool),
  (∀
  (w' :
  World),
  Later
  w'_10
  w' →
  Calls
  Proofs.Try.prog
  15
  #[Value.agg
  #[Value.int
  IntKind.u64
  n,
  Value.int
  IntKind.u64
  n_19],
  Value.int
  IntKind.u64
  v']
  w'
  fun
  (e :
  Ending)
  (w'' :
  World) =>
  e =
  Ending.returned
  (Value.bool
  b) ∧
  Later
  w'
  w'') ∧
  ∃
  (n
  :
  Int),
  (∀
  (w' :
  World),
  Later
  w'_10
  w' →
  w'.cell?
  (Addr.mk
  w.heap.size
  0
  none) =
  some
  (Value.int
  IntKind.u64
  n)) ∧
  cnd
  (decide
  (v' ≥
  n))
  (∃
  (n
  :
  Int),
  (∀
  (w' :
  World),
  Later
  w'_10
  w' →
  w'.cell?
  (Addr.mk
  w.heap.size
  1
  none) =
  some
  (Value.int
  IntKind.u64
  n)) ∧
  ∀
  (w' :
  World),
  Later
  w'_10
  w' →
  J
  [Value.bool
  !b ==
  decide
  (v' ≤
  n)]
  w')
  (∀
  (w' :
  World),
  Later
  w'_10
  w' →
  J
  [Value.bool
  !b ==
  false]
  w'))) ∧
  ∀
  (g :
  Nat →
  Value)
  (s55 :
  Bool)
  (w'_11 :
  World),
  J
  [Value.bool
  s55]
  w'_11 →
  cnd s55
  (R
  (Ending.returned
  (Value.bool
  false))
  w'_11)
  (∀
  (w'_12 :
  World),
  w'_12 =
  w'_11.alloc
  (Obj.cells
  #[Value.int
  IntKind.u64
  0,
  Value.int
  IntKind.u64
  0]
  24) →
  SetsAt
  w'_12
  (Addr.mk
  w'_11.heap.size
  0
  none)
  0
  [Value.int
  IntKind.u64
  0,
  Value.int
  IntKind.u64
  0] ∧
  ∀
  (w'_13 :
  World),
  w'_13 =
  setCellsAt
  w'_12
  (Addr.mk
  w'_11.heap.size
  0
  none)
  0
  [Value.int
  IntKind.u64
  0,
  Value.int
  IntKind.u64
  0] →
  ∃
  (J
  :
  List
  Value →
  World →
  Prop),
  (∃
  (n
  :
  Int),
  ∃
  (n_16
  :
  Int),
  (w'_13.cell?
  (Addr.mk
  w.heap.size
  0
  none) =
  some
  (Value.int
  IntKind.u64
  n) ∧
  w'_13.cell?
  (Addr.mk
  w.heap.size
  1
  none) =
  some
  (Value.int
  IntKind.u64
  n_16) ∧
  True) ∧
  Calls
  Proofs.Try.prog
  8
  #[Value.agg
  #[Value.int
  IntKind.u64
  n,
  Value.int
  IntKind.u64
  n_16]]
  w'_13
  fun
  (e :
  Ending)
  (w'_14 :
  World) =>
  ∃
  (b
  :
  Bool),
  e =
  Ending.returned
  (Value.bool
  b) ∧
  cnd
  (!b)
  (J
  [Value.bool
  true]
  w'_14)
  (∃
  (n
  :
  Int),
  ∃
  (n_17
  :
  Int),
  (w'_14.cell?
  (Addr.mk
  w'.heap.size
  0
  none) =
  some
  (Value.int
  IntKind.u64
  n) ∧
  w'_14.cell?
  (Addr.mk
  w'.heap.size
  1
  none) =
  some
  (Value.int
  IntKind.u64
  n_17) ∧
  True) ∧
  Calls
  Proofs.Try.prog
  8
  #[Value.agg
  #[Value.int
  IntKind.u64
  n,
  Value.int
  IntKind.u64
  n_17]]
  w'_14
  fun
  (e :
  Ending)
  (w' :
  World) =>
  ∃
  (b
  :
  Bool),
  e =
  Ending.returned
  (Value.bool
  b) ∧
  J
  [Value.bool
  !b]
  w')) ∧
  ∀
  (g :
  Nat →
  Value)
  (s64 :
  Bool)
  (w'_14 :
  World),
  J
  [Value.bool
  s64]
  w'_14 →
  cnd
  s64
  (∃
  (J
  :
  List
  Value →
  World →
  Prop),
  (∃
  (n
  :
  Int),
  ∃
  (n_16
  :
  Int),
  (w'_14.cell?
  (Addr.mk
  w'_2.heap.size
  0
  none) =
  some
  (Value.int
  IntKind.u64
  n) ∧
  w'_14.cell?
  (Addr.mk
  w'_2.heap.size
  1
  none) =
  some
  (Value.int
  IntKind.u64
  n_16) ∧
  True) ∧
  ∃
  (n_17
  :
  Int),
  ∃
  (n_18
  :
  Int),
  (w'_14.cell?
  (Addr.mk
  w'_11.heap.size
  0
  none) =
  some
  (Value.int
  IntKind.u64
  n_17) ∧
  w'_14.cell?
  (Addr.mk
  w'_11.heap.size
  1
  none) =
  some
  (Value.int
  IntKind.u64
  n_18) ∧
  True) ∧
  ∃
  (b
  :
  Bool),
  EqRuns
  Proofs.Try.prog
  BinOp.eql
  24
  (Operand.tmp
  65)
  (Operand.tmp
  66)
  (Value.agg
  #[Value.int
  IntKind.u64
  n,
  Value.int
  IntKind.u64
  n_16])
  (Value.agg
  #[Value.int
  IntKind.u64
  n_17,
  Value.int
  IntKind.u64
  n_18])
  b ∧
  cnd
  b
  (∃
  (n
  :
  Int),
  ∃
  (n_19
  :
  Int),
  (w'_14.cell?
  (Addr.mk
  w'_5.heap.size
  0
  none) =
  some
  (Value.int
  IntKind.u64
  n) ∧
  w'_14.cell?
  (Addr.mk
  w'_5.heap.size
  1
  none) =
  some
  (Value.int
  IntKind.u64
  n_19) ∧
  True) ∧
  ∃
  (n_20
  :
  Int),
  ∃
  (n_21
  :
  Int),
  (w'_14.cell?
  (Addr.mk
  w'_11.heap.size
  0
  none) =
  some
  (Value.int
  IntKind.u64
  n_20) ∧
  w'_14.cell?
  (Addr.mk
  w'_11.heap.size
  1
  none) =
  some
  (Value.int
  IntKind.u64
  n_21) ∧
  True) ∧
  ∃
  (b
  :
  Bool),
  EqRuns
  Proofs.Try.prog
  BinOp.eql
  24
  (Operand.tmp
  69)
  (Operand.tmp
  70)
  (Value.agg
  #[Value.int
  IntKind.u64
  n,
  Value.int
  IntKind.u64
  n_19])
  (Value.agg
  #[Value.int
  IntKind.u64
  n_20,
  Value.int
  IntKind.u64
  n_21])
  b ∧
  cnd
  b
  (∃
  (n
  :
  Int),
  ∃
  (n_22
  :
  Int),
  (w'_14.cell?
  (Addr.mk
  w'_8.heap.size
  0
  none) =
  some
  (Value.int
  IntKind.u64
  n) ∧
  w'_14.cell?
  (Addr.mk
  w'_8.heap.size
  1
  none) =
  some
  (Value.int
  IntKind.u64
  n_22) ∧
  True) ∧
  ∃
  (n_23
  :
  Int),
  ∃
  (n_24
  :
  Int),
  (w'_14.cell?
  (Addr.mk
  w'_11.heap.size
  0
  none) =
  some
  (Value.int
  IntKind.u64
  n_23) ∧
  w'_14.cell?
  (Addr.mk
  w'_11.heap.size
  1
  none) =
  some
  (Value.int
  IntKind.u64
  n_24) ∧
  True) ∧
  ∃
  (b
  :
  Bool),
  EqRuns
  Proofs.Try.prog
  BinOp.eql
  24
  (Operand.tmp
  74)
  (Operand.tmp
  75)
  (Value.agg
  #[Value.int
  IntKind.u64
  n,
  Value.int
  IntKind.u64
  n_22])
  (Value.agg
  #[Value.int
  IntKind.u64
  n_23,
  Value.int
  IntKind.u64
  n_24])
  b ∧
  cnd
  b
  (cnd
  (n_5 ==
  2)
  (cnd
  (n_10 ==
  2)
  (cnd
  (n_15 ==
  2)
  (Calls
  Proofs.Try.prog
  9
  #[]
  w'_14
  fun
  (e :
  Ending)
  (w' :
  World) =>
  ∃
  (b
  :
  Bool),
  e =
  Ending.returned
  (Value.bool
  b) ∧
  J
  [Value.bool
  b]
  w')
  (J
  [Value.bool
  false]
  w'_14))
  (J
  [Value.bool
  false]
  w'_14))
  (J
  [Value.bool
  false]
  w'_14))
  (J
  [Value.bool
  false]
  w'_14))
  (J
  [Value.bool
  false]
  w'_14))
  (J
  [Value.bool
  false]
  w'_14)) ∧
  ∀
  (g :
  Nat →
  Value)
  (s6 :
  Bool)
  (w' :
  World),
  J
  [Value.bool
  s6]
  w' →
  R
  (Ending.returned
  (Value.bool
  s6))
  w')
  (∃
  (n
  :
  Int),
  ∃
  (n_16
  :
  Int),
  (w'_14.cell?
  (Addr.mk
  w.heap.size
  0
  none) =
  some
  (Value.int
  IntKind.u64
  n) ∧
  w'_14.cell?
  (Addr.mk
  w.heap.size
  1
  none) =
  some
  (Value.int
  IntKind.u64
  n_16) ∧
  True) ∧
  ∃
  (n_17
  :
  Int),
  ∃
  (n_18
  :
  Int),
  (w'_14.cell?
  (Addr.mk
  w'.heap.size
  0
  none) =
  some
  (Value.int
  IntKind.u64
  n_17) ∧
  w'_14.cell?
  (Addr.mk
  w'.heap.size
  1
  none) =
  some
  (Value.int
  IntKind.u64
  n_18) ∧
  True) ∧
  Calls
  Proofs.Try.prog
  16
  #[Value.agg
  #[Value.int
  IntKind.u64
  n,
  Value.int
  IntKind.u64
  n_16],
  Value.agg
  #[Value.int
  IntKind.u64
  n_17,
  Value.int
  IntKind.u64
  n_18]]
  w'_14
  fun
  (e :
  Ending)
  (w'_15 :
  World) =>
  ∃
  (n
  :
  Int),
  ∃
  (n_19
  :
  Int),
  ∃
  (b
  :
  Bool),
  e =
  Ending.returned
  (Value.tuple
  #[Value.agg
  #[Value.int
  IntKind.u64
  n,
  Value.int
  IntKind.u64
  n_19],
  Value.bool
  b]) ∧
  ∀
  (w'_16 :
  World),
  w'_16 =
  w'_15.alloc
  (Obj.cells
  #[Value.int
  IntKind.u64
  0,
  Value.int
  IntKind.u64
  0]
  24) →
  SetsAt
  w'_16
  (Addr.mk
  w'_15.heap.size
  0
  none)
  0
  [Value.int
  IntKind.u64
  n,
  Value.int
  IntKind.u64
  n_19] ∧
  ∀
  (w'_17 :
  World),
  w'_17 =
  setCellsAt
  w'_16
  (Addr.mk
  w'_15.heap.size
  0
  none)
  0
  [Value.int
  IntKind.u64
  n,
  Value.int
  IntKind.u64
  n_19] →
  ∃
  (J
  :
  List
  Value →
  World →
  Prop),
  (∃
  (n
  :
  Int),
  ∃
  (n_20
  :
  Int),
  (w'_17.cell?
  (Addr.mk
  w'_5.heap.size
  0
  none) =
  some
  (Value.int
  IntKind.u64
  n) ∧
  w'_17.cell?
  (Addr.mk
  w'_5.heap.size
  1
  none) =
  some
  (Value.int
  IntKind.u64
  n_20) ∧
  True) ∧
  ∃
  (n_21
  :
  Int),
  ∃
  (n_22
  :
  Int),
  (w'_17.cell?
  (Addr.mk
  w'_15.heap.size
  0
  none) =
  some
  (Value.int
  IntKind.u64
  n_21) ∧
  w'_17.cell?
  (Addr.mk
  w'_15.heap.size
  1
  none) =
  some
  (Value.int
  IntKind.u64
  n_22) ∧
  True) ∧
  ∃
  (b_1
  :
  Bool),
  EqRuns
  Proofs.Try.prog
  BinOp.neq
  24
  (Operand.tmp
  99)
  (Operand.tmp
  100)
  (Value.agg
  #[Value.int
  IntKind.u64
  n,
  Value.int
  IntKind.u64
  n_20])
  (Value.agg
  #[Value.int
  IntKind.u64
  n_21,
  Value.int
  IntKind.u64
  n_22])
  b_1 ∧
  cnd
  b_1
  (J
  [Value.bool
  true]
  w'_17)
  (cnd
  (!b ==
  (n_10 ==
  0))
  (J
  [Value.bool
  true]
  w'_17)
  (cnd
  (!b)
  (J
  [Value.bool
  (n_10 !=
  3)]
  w'_17)
  (J
  [Value.bool
  false]
  w'_17)))) ∧
  ∀
  (g :
  Nat →
  Value)
  (s115 :
  Bool)
  (w'_18 :
  World),
  J
  [Value.bool
  s115]
  w'_18 →
  cnd
  s115
  (R
  (Ending.returned
  (Value.bool
  false))
  w'_18)
  (∃
  (J
  :
  List
  Value →
  World →
  Prop),
  (∃
  (n
  :
  Int),
  ∃
  (n_20
  :
  Int),
  (∀
  (w' :
  World),
  Later
  w'_18
  w' →
  w'.cell?
  (Addr.mk
  w'_2.heap.size
  0
  none) =
  some
  (Value.int
  IntKind.u64
  n) ∧
  w'.cell?
  (Addr.mk
  w'_2.heap.size
  1
  none) =
  some
  (Value.int
  IntKind.u64
  n_20) ∧
  True) ∧
  ∃
  (n_21
  :
  Int),
  ∃
  (n_22
  :
  Int),
  (∀
  (w' :
  World),
  Later
  w'_18
  w' →
  w'.cell?
  (Addr.mk
  w.heap.size
  0
  none) =
  some
  (Value.int
  IntKind.u64
  n_21) ∧
  w'.cell?
  (Addr.mk
  w.heap.size
  1
  none) =
  some
  (Value.int
  IntKind.u64
  n_22) ∧
  True) ∧
  ∃
  (n_23
  :
  Int),
  ∃
  (n_24
  :
  Int),
  (∀
  (w'_19 :
  World),
  Later
  w'_18
  w'_19 →
  w'_19.cell?
  (Addr.mk
  w'.heap.size
  0
  none) =
  some
  (Value.int
  IntKind.u64
  n_23) ∧
  w'_19.cell?
  (Addr.mk
  w'.heap.size
  1
  none) =
  some
  (Value.int
  IntKind.u64
  n_24) ∧
  True) ∧
  ∃
  (n_25
  :
  Int),
  ∃
  (n_26
  :
  Int),
  (∀
  (w' :
  World),
  Later
  w'_18
  w' →
  Calls
  Proofs.Try.prog
  17
  #[Value.agg
  #[Value.int
  IntKind.u64
  n_21,
  Value.int
  IntKind.u64
  n_22],
  Value.agg
  #[Value.int
  IntKind.u64
  n_23,
  Value.int
  IntKind.u64
  n_24]]
  w'
  fun
  (e :
  Ending)
  (w'' :
  World) =>
  e =
  Ending.returned
  (Value.agg
  #[Value.int
  IntKind.u64
  n_25,
  Value.int
  IntKind.u64
  n_26]) ∧
  Later
  w'
  w'') ∧
  ∃
  (b
  :
  Bool),
  EqRuns
  Proofs.Try.prog
  BinOp.eql
  24
  (Operand.tmp
  116)
  (Operand.tmp
  119)
  (Value.agg
  #[Value.int
  IntKind.u64
  n,
  Value.int
  IntKind.u64
  n_20])
  (Value.agg
  #[Value.int
  IntKind.u64
  n_25,
  Value.int
  IntKind.u64
  n_26])
  b ∧
  cnd
  b
  (cnd
  (n_5 ==
  0)
  (∃
  (n
  :
  Int),
  ∃
  (n_27
  :
  Int),
  (∀
  (w' :
  World),
  Later
  w'_18
  w' →
  w'.cell?
  (Addr.mk
  w'_8.heap.size
  0
  none) =
  some
  (Value.int
  IntKind.u64
  n) ∧
  w'.cell?
  (Addr.mk
  w'_8.heap.size
  1
  none) =
  some
  (Value.int
  IntKind.u64
  n_27) ∧
  True) ∧
  ∃
  (n_28
  :
  Int),
  ∃
  (n_29
  :
  Int),
  (∀
  (w' :
  World),
  Later
  w'_18
  w' →
  w'.cell?
  (Addr.mk
  w.heap.size
  0
  none) =
  some
  (Value.int
  IntKind.u64
  n_28) ∧
  w'.cell?
  (Addr.mk
  w.heap.size
  1
  none) =
  some
  (Value.int
  IntKind.u64
  n_29) ∧
  True) ∧
  ∃
  (n_30
  :
  Int),
  ∃
  (n_31
  :
  Int),
  (∀
  (w'_19 :
  World),
  Later
  w'_18
  w'_19 →
  w'_19.cell?
  (Addr.mk
  w'.heap.size
  0
  none) =
  some
  (Value.int
  IntKind.u64
  n_30) ∧
  w'_19.cell?
  (Addr.mk
  w'.heap.size
  1
  none) =
  some
  (Value.int
  IntKind.u64
  n_31) ∧
  True) ∧
  ∃
  (n_32
  :
  Int),
  ∃
  (n_33
  :
  Int),
  (∀
  (w' :
  World),
  Later
  w'_18
  w' →
  Calls
  Proofs.Try.prog
  18
  #[Value.agg
  #[Value.int
  IntKind.u64
  n_28,
  Value.int
  IntKind.u64
  n_29],
  Value.agg
  #[Value.int
  IntKind.u64
  n_30,
  Value.int
  IntKind.u64
  n_31]]
  w'
  fun
  (e :
  Ending)
  (w'' :
  World) =>
  e =
  Ending.returned
  (Value.agg
  #[Value.int
  IntKind.u64
  n_32,
  Value.int
  IntKind.u64
  n_33]) ∧
  Later
  w'
  w'') ∧
  ∃
  (b
  :
  Bool),
  EqRuns
  Proofs.Try.prog
  BinOp.eql
  24
  (Operand.tmp
  126)
  (Operand.tmp
  129)
  (Value.agg
  #[Value.int
  IntKind.u64
  n,
  Value.int
  IntKind.u64
  n_27])
  (Value.agg
  #[Value.int
  IntKind.u64
  n_32,
  Value.int
  IntKind.u64
  n_33])
  b ∧
  cnd
  b
  (cnd
  (n_15 ==
  0)
  (∃
  (b
  :
  Bool),
  (∀
  (w' :
  World),
  Later
  w'_18
  w' →
  Calls
  Proofs.Try.prog
  9
  #[]
  w'
  fun
  (e :
  Ending)
  (w'' :
  World) =>
  e =
  Ending.returned
  (Value.bool
  b) ∧
  Later
  w'
  w'') ∧
  ∀
  (w' :
  World),
  Later
  w'_18
  w' →
  J
  [Value.bool
  b]
  w')
  (∀
  (w' :
  World),
  Later
  w'_18
  w' →
  J
  [Value.bool
  false]
  w'))
  (∀
  (w' :
  World),
  Later
  w'_18
  w' →
  J
  [Value.bool
  false]
  w'))
  (∀
  (w' :
  World),
  Later
  w'_18
  w' →
  J
  [Value.bool
  false]
  w'))
  (∀
  (w' :
  World),
  Later
  w'_18
  w' →
  J
  [Value.bool
  false]
  w')) ∧
  ∀
  (g :
  Nat →
  Value)
  (s6 :
  Bool)
  (w' :
  World),
  J
  [Value.bool
  s6]
  w' →
  R
  (Ending.returned
  (Value.bool
  s6))
  w')))
theorem law20_SpanTells.vc_eq (a'_0 : Int) (a'_1 : Int) (b'_0 : Int) (b'_1 : Int) (v' : Int) (w : World) (R : Ending → World → Prop) : fnV Try.prog law20_SpanTells.H 4 [Value.agg #[Value.int IntKind.u64 a'_0, Value.int IntKind.u64 a'_1],
  Value.agg #[Value.int IntKind.u64 b'_0, Value.int IntKind.u64 b'_1], Value.int IntKind.u64 v'] w R = law20_SpanTells.vc a'_0 a'_1 b'_0 b'_1 v' w R := by kernel_rfl
theorem law20_SpanTells.calls {a'_0 : Int} {a'_1 : Int} {b'_0 : Int} {b'_1 : Int} {v' : Int} {w : World} {R : Ending → World → Prop} (h : law20_SpanTells.vc a'_0 a'_1 b'_0 b'_1 v' w R) : Calls Try.prog 4 ([Value.agg #[Value.int IntKind.u64 a'_0, Value.int IntKind.u64 a'_1],
  Value.agg #[Value.int IntKind.u64 b'_0, Value.int IntKind.u64 b'_1], Value.int IntKind.u64 v'] : List Value).toArray w R := calls_of_eq (law20_SpanTells.vc_eq a'_0 a'_1 b'_0 b'_1 v' w R) h

end Go.Proofs.Ytpfnjooddobohaa
