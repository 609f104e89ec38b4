/-
The explicit conditions of some functions of the program, printed by this repo's own program over VcTop: what is proved is that each is the condition.
Conditions: none.
-/
import Derived.Test.YtpfnjooddobohaaVcTop
import Derived.Test.YtpfnjooddobohaaProg
namespace Go.Proofs.Ytpfnjooddobohaa
open Go Go.Vc Go.RowKit
set_option linter.unusedVariables false
set_option maxRecDepth 100000

/- function 5: sacristy/sacristylaw20.SpanGrows -/
abbrev law20_SpanGrows.N : FuncId := 5
def law20_SpanGrows.H : Hints := { loops := [(12, [(17, .one (.int .i64)), (18, .one (.int .i64))])], regs := [(4, [(44, .one .bool)]), (6, [(15, .one .bool), (16, .one .bool)]), (7, [(85, .one .bool)]), (11, [(93, .one .bool)]), (13, [(19, .one .ptr), (20, .one (.int .i64))]), (14, [(111, .one .bool)])], floats := [(13, 9)], edges := [(13, [(8, 10)])] }
def law20_SpanGrows.vc (a'_0 : Int) (a'_1 : Int) (b'_0 : Int) (b'_1 : Int) (v' : Int) (l' : Option Addr) (l'n : Nat) (l'c : Nat) (w : World) (R : Ending → World → Prop) : Prop :=
  ∀ (w' : World),
  w' = w.alloc (Obj.cells #[Value.int IntKind.u64 a'_0, Value.int IntKind.u64 a'_1] 24) →
  ∀ (w'_1 : World),
  w'_1 = w'.alloc (Obj.cells #[Value.int IntKind.u64 b'_0, Value.int IntKind.u64 b'_1] 24) →
  ∃ (n : Int),
  ∃ (n_1 : Int),
  (w'_1.cell? (Addr.mk w.heap.size 0 none) = some (Value.int IntKind.u64 n) ∧
  w'_1.cell? (Addr.mk w.heap.size 1 none) = some (Value.int IntKind.u64 n_1) ∧ True) ∧
  ∃ (n_2 : Int),
  ∃ (n_3 : Int),
  (w'_1.cell? (Addr.mk w'.heap.size 0 none) = some (Value.int IntKind.u64 n_2) ∧
  w'_1.cell? (Addr.mk w'.heap.size 1 none) = some (Value.int IntKind.u64 n_3) ∧ True) ∧
  Calls Proofs.Try.prog 11
  #[Value.agg #[Value.int IntKind.u64 n, Value.int IntKind.u64 n_1],
  Value.agg #[Value.int IntKind.u64 n_2, Value.int IntKind.u64 n_3]]
  w'_1 fun (e : Ending) (w'_2 : World) =>
  ∃ (n : Int),
  ∃ (n_4 : Int),
  ∃ (n_5 : Int),
  e =
  Ending.returned
  (Value.tuple
  #[Value.agg #[Value.int IntKind.u64 n, Value.int IntKind.u64 n_4],
  Value.int IntKind.i64 n_5]) ∧
  ∀ (w'_3 : World),
  w'_3 = w'_2.alloc (Obj.cells #[Value.int IntKind.u64 0, Value.int IntKind.u64 0] 24) →
  SetsAt w'_3 (Addr.mk w'_2.heap.size 0 none) 0
  [Value.int IntKind.u64 n, Value.int IntKind.u64 n_4] ∧
  ∀ (w'_4 : World),
  w'_4 =
  setCellsAt w'_3 (Addr.mk w'_2.heap.size 0 none) 0
  [Value.int IntKind.u64 n, Value.int IntKind.u64 n_4] →
  ∃ (n : Int),
  ∃ (n_6 : Int),
  (w'_4.cell? (Addr.mk w.heap.size 0 none) = some (Value.int IntKind.u64 n) ∧
  w'_4.cell? (Addr.mk w.heap.size 1 none) =
  some (Value.int IntKind.u64 n_6) ∧
  True) ∧
  ∃ (n_7 : Int),
  ∃ (n_8 : Int),
  (w'_4.cell? (Addr.mk w'.heap.size 0 none) =
  some (Value.int IntKind.u64 n_7) ∧
  w'_4.cell? (Addr.mk w'.heap.size 1 none) =
  some (Value.int IntKind.u64 n_8) ∧
  True) ∧
  Calls Proofs.Try.prog 13
  #[Value.agg #[Value.int IntKind.u64 n, Value.int IntKind.u64 n_6],
  Value.agg
  #[Value.int IntKind.u64 n_7, Value.int IntKind.u64 n_8]]
  w'_4 fun (e : Ending) (w'_5 : World) =>
  ∃ (n : Int),
  ∃ (n_9 : Int),
  ∃ (n_10 : Int),
  e =
  Ending.returned
  (Value.tuple
  #[Value.agg
  #[Value.int IntKind.u64 n,
  Value.int IntKind.u64 n_9],
  Value.int IntKind.i64 n_10]) ∧
  ∀ (w'_6 : World),
  w'_6 =
  w'_5.alloc
  (Obj.cells
  #[Value.int IntKind.u64 0,
  Value.int IntKind.u64 0]
  24) →
  SetsAt w'_6 (Addr.mk w'_5.heap.size 0 none) 0
  [Value.int IntKind.u64 n,
  Value.int IntKind.u64 n_9] ∧
  ∀ (w'_7 : World),
  w'_7 =
  setCellsAt w'_6
  (Addr.mk w'_5.heap.size 0 none) 0
  [Value.int IntKind.u64 n,
  Value.int IntKind.u64 n_9] →
  ∃ (n : Int),
  ∃ (n_11 : Int),
  (w'_7.cell? (Addr.mk w.heap.size 0 none) =
  some (Value.int IntKind.u64 n) ∧
  w'_7.cell?
  (Addr.mk w.heap.size 1 none) =
  some (Value.int IntKind.u64 n_11) ∧
  True) ∧
  ∃ (n_12 : Int),
  ∃ (n_13 : Int),
  (w'_7.cell?
  (Addr.mk w'.heap.size 0
  none) =
  some
  (Value.int IntKind.u64 n_12) ∧
  w'_7.cell?
  (Addr.mk w'.heap.size 1
  none) =
  some
  (Value.int IntKind.u64
  n_13) ∧
  True) ∧
  Calls Proofs.Try.prog 12
  #[Value.agg
  #[Value.int IntKind.u64 n,
  Value.int IntKind.u64 n_11],
  Value.agg
  #[Value.int IntKind.u64 n_12,
  Value.int IntKind.u64 n_13]]
  w'_7
  fun (e : Ending) (w'_8 : World) =>
  ∃ (n : Int),
  ∃ (n_14 : Int),
  ∃ (n_15 : Int),
  e =
  Ending.returned
  (Value.tuple
  #[Value.agg
  #[Value.int
  IntKind.u64
  n,
  Value.int
  IntKind.u64
  n_14],
  Value.int
  IntKind.i64
  n_15]) ∧
  ∀ (w'_9 : World),
  w'_9 =
  w'_8.alloc
  (Obj.cells
  #[Value.int
  IntKind.u64
  0,
  Value.int
  IntKind.u64
  0]
  24) →
  SetsAt w'_9
  (Addr.mk
  w'_8.heap.size 0
  none)
  0
  [Value.int
  IntKind.u64 n,
  Value.int
  IntKind.u64
  n_14] ∧
  ∀ (w'_10 : World),
  w'_10 =
  setCellsAt
  w'_9
  (Addr.mk
  w'_8.heap.size
  0 none)
  0
  [Value.int
  IntKind.u64
  n,
  Value.int
  IntKind.u64
  n_14] →
  ∃ (J :
  List Value →
  World →
  Prop),
  cnd (n_5 != 0)
  (J
  [Value.bool
  true]
  w'_10)
  (J
  [Value.bool
  (n_10 !=
  0)]
  w'_10) ∧
  ∀
  (g :
  Nat →
  Value)
  (s44 :
  Bool)
  (w'_11 :
  World),
  J
  [Value.bool
  s44]
  w'_11 →
  cnd s44
  (cnd
  (n_15 ==
  2)
  (Calls
  Proofs.Try.prog
  9
  #[]
  w'_11
  fun
  (e :
  Ending)
  (w' :
  World) =>
  ∃
  (b
  :
  Bool),
  e =
  Ending.returned
  (Value.bool
  b) ∧
  R
  (Ending.returned
  (Value.bool
  b))
  w')
  (R
  (Ending.returned
  (Value.bool
  false))
  w'_11))
  (∃ (J
  :
  List
  Value →
  World →
  Prop),
  (∃
  (n
  :
  Int),
  ∃
  (n_16
  :
  Int),
  (∀
  (w' :
  World),
  Later
  w'_11
  w' →
  w'.cell?
  (Addr.mk
  w.heap.size
  0
  none) =
  some
  (Value.int
  IntKind.u64
  n) ∧
  w'.cell?
  (Addr.mk
  w.heap.size
  1
  none) =
  some
  (Value.int
  IntKind.u64
  n_16) ∧
  True) ∧
  ∃
  (b
  :
  Bool),
  (∀
  (w' :
  World),
  Later
  w'_11
  w' →
  Calls
  Proofs.Try.prog
  15
  #[Value.agg
  #[Value.int
  IntKind.u64
  n,
  Value.int
  IntKind.u64
  n_16],
  Value.int
  IntKind.u64
  v']
  w'
  fun
  (e :
  Ending)
  (w'' :
  World) =>
  e =
  Ending.returned
  (Value.bool
  b) ∧
  Later
  w'
  w'') ∧
  ∃
  (n
  :
  Int),
  ∃
  (n_17
  :
  Int),
  (∀
  (w'_12 :
  World),
  Later
  w'_11
  w'_12 →
  w'_12.cell?
  (Addr.mk
  w'.heap.size
  0
  none) =
  some
  (Value.int
  IntKind.u64
  n) ∧
  w'_12.cell?
  (Addr.mk
  w'.heap.size
  1
  none) =
  some
  (Value.int
  IntKind.u64
  n_17) ∧
  True) ∧
  ∃
  (b_1
  :
  Bool),
  (∀
  (w' :
  World),
  Later
  w'_11
  w' →
  Calls
  Proofs.Try.prog
  15
  #[Value.agg
  #[Value.int
  IntKind.u64
  n,
  Value.int
  IntKind.u64
  n_17],
  Value.int
  IntKind.u64
  v']
  w'
  fun
  (e :
  Ending)
  (w'' :
  World) =>
  e =
  Ending.returned
  (Value.bool
  b_1) ∧
  Later
  w'
  w'') ∧
  ∀
  (w' :
  World),
  Later
  w'_11
  w' →
  J
  [Value.bool
  b,
  Value.bool
  b_1]
  w') ∧
  ∀
  (g :
  Nat →
  Value)
  (is
  was :
  Bool)
  (w' :
  World),
  J
  [Value.bool
  is,
  Value.bool
  was]
  w' →
  ∃
  (J
  :
  List
  Value →
  World →
  Prop),
  cnd
  is
  (∃
  (n
  :
  Int),
  ∃
  (n_16
  :
  Int),
  (w'.cell?
  (Addr.mk
  w'_2.heap.size
  0
  none) =
  some
  (Value.int
  IntKind.u64
  n) ∧
  w'.cell?
  (Addr.mk
  w'_2.heap.size
  1
  none) =
  some
  (Value.int
  IntKind.u64
  n_16) ∧
  True) ∧
  Calls
  Proofs.Try.prog
  15
  #[Value.agg
  #[Value.int
  IntKind.u64
  n,
  Value.int
  IntKind.u64
  n_16],
  Value.int
  IntKind.u64
  v']
  w'
  fun
  (e :
  Ending)
  (w' :
  World) =>
  ∃
  (b
  :
  Bool),
  e =
  Ending.returned
  (Value.bool
  b) ∧
  cnd
  (!b)
  (J
  [Value.bool
  true]
  w')
  (∃
  (n
  :
  Int),
  ∃
  (n_17
  :
  Int),
  (w'.cell?
  (Addr.mk
  w'_5.heap.size
  0
  none) =
  some
  (Value.int
  IntKind.u64
  n) ∧
  w'.cell?
  (Addr.mk
  w'_5.heap.size
  1
  none) =
  some
  (Value.int
  IntKind.u64
  n_17) ∧
  True) ∧
  Calls
  Proofs.Try.prog
  15
  #[Value.agg
  #[Value.int
  IntKind.u64
  n,
  Value.int
  IntKind.u64
  n_17],
  Value.int
  IntKind.u64
  v']
  w'
  fun
  (e :
  Ending)
  (w' :
  World) =>
  ∃
  (b
  :
  Bool),
  e =
  Ending.returned
  (Value.bool
  b) ∧
  cnd
  (!b)
  (J
  [Value.bool
  true]
  w')
  (cnd
  (n_15 ==
  0)
  (∃
  (n
  :
  Int),
  ∃
  (n_18
  :
  Int),
  (w'.cell?
  (Addr.mk
  w'_8.heap.size
  0
  none) =
  some
  (Value.int
  IntKind.u64
  n) ∧
  w'.cell?
  (Addr.mk
  w'_8.heap.size
  1
  none) =
  some
  (Value.int
  IntKind.u64
  n_18) ∧
  True) ∧
  Calls
  Proofs.Try.prog
  15
  #[Value.agg
  #[Value.int
  IntKind.u64
  n,
  Value.int
  IntKind.u64
  n_18],
  Value.int
  IntKind.u64
  v']
  w'
  fun
  (e :
  Ending)
  (w' :
  World) =>
  ∃
  (b
  :
  Bool),
  e =
  Ending.returned
  (Value.bool
  b) ∧
  cnd
  is
  (J
  [Value.bool
  !b ==
  was]
  w')
  (J
  [Value.bool
  !b ==
  false]
  w'))
  (cnd
  is
  (J
  [Value.bool
  !false ==
  was]
  w')
  (J
  [Value.bool
  false]
  w')))))
  (cnd
  was
  (∃
  (n
  :
  Int),
  ∃
  (n_16
  :
  Int),
  (w'.cell?
  (Addr.mk
  w'_2.heap.size
  0
  none) =
  some
  (Value.int
  IntKind.u64
  n) ∧
  w'.cell?
  (Addr.mk
  w'_2.heap.size
  1
  none) =
  some
  (Value.int
  IntKind.u64
  n_16) ∧
  True) ∧
  Calls
  Proofs.Try.prog
  15
  #[Value.agg
  #[Value.int
  IntKind.u64
  n,
  Value.int
  IntKind.u64
  n_16],
  Value.int
  IntKind.u64
  v']
  w'
  fun
  (e :
  Ending)
  (w' :
  World) =>
  ∃
  (b
  :
  Bool),
  e =
  Ending.returned
  (Value.bool
  b) ∧
  cnd
  (!b)
  (J
  [Value.bool
  true]
  w')
  (∃
  (n
  :
  Int),
  ∃
  (n_17
  :
  Int),
  (w'.cell?
  (Addr.mk
  w'_5.heap.size
  0
  none) =
  some
  (Value.int
  IntKind.u64
  n) ∧
  w'.cell?
  (Addr.mk
  w'_5.heap.size
  1
  none) =
  some
  (Value.int
  IntKind.u64
  n_17) ∧
  True) ∧
  Calls
  Proofs.Try.prog
  15
  #[Value.agg
  #[Value.int
  IntKind.u64
  n,
  Value.int
  IntKind.u64
  n_17],
  Value.int
  IntKind.u64
  v']
  w'
  fun
  (e :
  Ending)
  (w' :
  World) =>
  ∃
  (b
  :
  Bool),
  e =
  Ending.returned
  (Value.bool
  b) ∧
  cnd
  (!b)
  (J
  [Value.bool
  true]
  w')
  (cnd
  (n_15 ==
  0)
  (∃
  (n
  :
  Int),
  ∃
  (n_18
  :
  Int),
  (w'.cell?
  (Addr.mk
  w'_8.heap.size
  0
  none) =
  some
  (Value.int
  IntKind.u64
  n) ∧
  w'.cell?
  (Addr.mk
  w'_8.heap.size
  1
  none) =
  some
  (Value.int
  IntKind.u64
  n_18) ∧
  True) ∧
  Calls
  Proofs.Try.prog
  15
  #[Value.agg
  #[Value.int
  IntKind.u64
  n,
  Value.int
  IntKind.u64
  n_18],
  Value.int
  IntKind.u64
  v']
  w'
  fun
  (e :
  Ending)
  (w' :
  World) =>
  ∃
  (b
  :
  Bool),
  e =
  Ending.returned
  (Value.bool
  b) ∧
  cnd
  is
  (J
  [Value.bool
  !b ==
  was]
  w')
  (J
  [Value.bool
  !b ==
  false]
  w'))
  (cnd
  is
  (J
  [Value.bool
  !false ==
  was]
  w')
  (J
  [Value.bool
  false]
  w')))))
  (cnd
  (n_15 ==
  0)
  (∃
  (n
  :
  Int),
  ∃
  (n_16
  :
  Int),
  (w'.cell?
  (Addr.mk
  w'_8.heap.size
  0
  none) =
  some
  (Value.int
  IntKind.u64
  n) ∧
  w'.cell?
  (Addr.mk
  w'_8.heap.size
  1
  none) =
  some
  (Value.int
  IntKind.u64
  n_16) ∧
  True) ∧
  Calls
  Proofs.Try.prog
  15
  #[Value.agg
  #[Value.int
  IntKind.u64
  n,
  Value.int
  IntKind.u64
  n_16],
  Value.int
  IntKind.u64
  v']
  w'
  fun
  (e :
  Ending)
  (w' :
  World) =>
  ∃
  (b
  :
  Bool),
  e =
  Ending.returned
  (Value.bool
  b) ∧
  cnd
  is
  (J
  [Value.bool
  !b ==
  was]
  w')
  (J
  [Value.bool
  !b ==
  false]
  w'))
  (cnd
  is
  (J
  [Value.bool
  !false ==
  was]
  w')
  (J
  [Value.bool
  false]
  w')))) ∧
  ∀
  (g :
  Nat →
  Value)
  (s85 :
  Bool)
  (w' :
  World),
  J
  [Value.bool
  s85]
  w' →
  cnd
  s85
  (R
  (Ending.returned
  (Value.bool
  false))
  w')
  (∃
  (I
  :
  List
  Value →
  World →
  Prop),
  ∃
  (μ
  :
  List
  Value →
  World →
  Nat),
  I
  [Value.int
  IntKind.i64
  0,
  Value.int
  IntKind.i64
  0]
  w' ∧
  ∀
  (g :
  Nat →
  Value)
  (n
  i :
  Int)
  (w' :
  World),
  I
  [Value.int
  IntKind.i64
  n,
  Value.int
  IntKind.i64
  i]
  w' →
  ∃
  (J
  :
  List
  Value →
  World →
  Prop),
  cnd
  (decide
  (i <
  (↑l'n :
  Int)))
  (J
  [Value.bool
  (decide
  (i <
  50))]
  w')
  (J
  [Value.bool
  false]
  w') ∧
  ∀
  (g :
  Nat →
  Value)
  (s93 :
  Bool)
  (w'_12 :
  World),
  J
  [Value.bool
  s93]
  w'_12 →
  cnd
  s93
  (∃
  (J
  :
  List
  Value →
  World →
  Prop),
  (∃
  (n
  :
  Int),
  ∃
  (n_16
  :
  Int),
  (∀
  (w' :
  World),
  Later
  w'_12
  w' →
  w'.cell?
  (Addr.mk
  w'_5.heap.size
  0
  none) =
  some
  (Value.int
  IntKind.u64
  n) ∧
  w'.cell?
  (Addr.mk
  w'_5.heap.size
  1
  none) =
  some
  (Value.int
  IntKind.u64
  n_16) ∧
  True) ∧
  (0 ≤
  i ∧
  i <
  (↑l'n :
  Int)) ∧
  Deref
  l'
  fun
  (a :
  Addr) =>
  ∃
  (n_17
  :
  Int),
  ∃
  (n_18
  :
  Int),
  (∀
  (w' :
  World),
  Later
  w'_12
  w' →
  w'.cell?
  (a.add
  (i.toNat *
  2)) =
  some
  (Value.int
  IntKind.u64
  n_17) ∧
  w'.cell?
  ((a.add
  (i.toNat *
  2)).add
  1) =
  some
  (Value.int
  IntKind.u64
  n_18) ∧
  True) ∧
  ∃
  (n_19
  :
  Int),
  ∃
  (n_20
  :
  Int),
  ∃
  (n_21
  :
  Int),
  (∀
  (w' :
  World),
  Later
  w'_12
  w' →
  Calls
  Proofs.Try.prog
  13
  #[Value.agg
  #[Value.int
  IntKind.u64
  n,
  Value.int
  IntKind.u64
  n_16],
  Value.agg
  #[Value.int
  IntKind.u64
  n_17,
  Value.int
  IntKind.u64
  n_18]]
  w'
  fun
  (e :
  Ending)
  (w'' :
  World) =>
  e =
  Ending.returned
  (Value.tuple
  #[Value.agg
  #[Value.int
  IntKind.u64
  n_19,
  Value.int
  IntKind.u64
  n_20],
  Value.int
  IntKind.i64
  n_21]) ∧
  Later
  w'
  w'') ∧
  ∀
  (w1 :
  World),
  Later
  w'_12
  w1 →
  ∀
  (w2 :
  World),
  w2 =
  w1.alloc
  (Obj.cells
  #[Value.int
  IntKind.u64
  0,
  Value.int
  IntKind.u64
  0]
  24) →
  ∀
  (w3 :
  World),
  Later
  w2
  w3 →
  SetsAt
  w3
  (Addr.mk
  w1.heap.size
  0
  none)
  0
  [Value.int
  IntKind.u64
  n_19,
  Value.int
  IntKind.u64
  n_20] ∧
  ∀
  (w' :
  World),
  w' =
  setCellsAt
  w3
  (Addr.mk
  w1.heap.size
  0
  none)
  0
  [Value.int
  IntKind.u64
  n_19,
  Value.int
  IntKind.u64
  n_20] →
  J
  [Value.pointer
  (some
  (Addr.mk
  w1.heap.size
  0
  none)),
  Value.int
  IntKind.i64
  n_21]
  w') ∧
  ∀
  (g :
  Nat →
  Value)
  (x :
  Option
  Addr)
  (h :
  Int)
  (w'_13 :
  World),
  J
  [Value.pointer
  x,
  Value.int
  IntKind.i64
  h]
  w'_13 →
  ∃
  (J
  :
  List
  Value →
  World →
  Prop),
  cnd
  (h ==
  0)
  (Deref
  x
  fun
  (ad :
  Addr) =>
  ∃
  (n
  :
  Int),
  ∃
  (n_16
  :
  Int),
  (w'_13.cell?
  ad =
  some
  (Value.int
  IntKind.u64
  n) ∧
  w'_13.cell?
  (ad.add
  1) =
  some
  (Value.int
  IntKind.u64
  n_16) ∧
  True) ∧
  ∃
  (n_17
  :
  Int),
  ∃
  (n_18
  :
  Int),
  (w'_13.cell?
  (Addr.mk
  w'_5.heap.size
  0
  none) =
  some
  (Value.int
  IntKind.u64
  n_17) ∧
  w'_13.cell?
  (Addr.mk
  w'_5.heap.size
  1
  none) =
  some
  (Value.int
  IntKind.u64
  n_18) ∧
  True) ∧
  ∃
  (b
  :
  Bool),
  EqRuns
  Proofs.Try.prog
  BinOp.neq
  24
  (Operand.tmp
  108)
  (Operand.tmp
  109)
  (Value.agg
  #[Value.int
  IntKind.u64
  n,
  Value.int
  IntKind.u64
  n_16])
  (Value.agg
  #[Value.int
  IntKind.u64
  n_17,
  Value.int
  IntKind.u64
  n_18])
  b ∧
  J
  [Value.bool
  b]
  w'_13)
  (J
  [Value.bool
  false]
  w'_13) ∧
  ∀
  (g :
  Nat →
  Value)
  (s111 :
  Bool)
  (w'_14 :
  World),
  J
  [Value.bool
  s111]
  w'_14 →
  cnd
  s111
  (Deref
  x
  fun
  (ad :
  Addr) =>
  ∃
  (n_16
  :
  Int),
  ∃
  (n_17
  :
  Int),
  (w'_14.cell?
  ad =
  some
  (Value.int
  IntKind.u64
  n_16) ∧
  w'_14.cell?
  (ad.add
  1) =
  some
  (Value.int
  IntKind.u64
  n_17) ∧
  True) ∧
  SetsAt
  w'_14
  (Addr.mk
  w'_5.heap.size
  0
  none)
  0
  [Value.int
  IntKind.u64
  n_16,
  Value.int
  IntKind.u64
  n_17] ∧
  ∀
  (w'_15 :
  World),
  w'_15 =
  setCellsAt
  w'_14
  (Addr.mk
  w'_5.heap.size
  0
  none)
  0
  [Value.int
  IntKind.u64
  n_16,
  Value.int
  IntKind.u64
  n_17] →
  Goes
  I
  μ
  [Value.int
  IntKind.i64
  n,
  Value.int
  IntKind.i64
  i]
  w'
  [Value.int
  IntKind.i64
  (IntKind.i64.wrap
  (n +
  1)),
  Value.int
  IntKind.i64
  (IntKind.i64.wrap
  (i +
  1))]
  w'_15)
  (Goes
  I
  μ
  [Value.int
  IntKind.i64
  n,
  Value.int
  IntKind.i64
  i]
  w'
  [Value.int
  IntKind.i64
  n,
  Value.int
  IntKind.i64
  (IntKind.i64.wrap
  (i +
  1))]
  w'_14))
  (cnd
  (decide
  (n ≤
  2))
  (Calls
  Proofs.Try.prog
  9
  #[]
  w'_12
  fun
  (e :
  Ending)
  (w' :
  World) =>
  ∃
  (b
  :
  Bool),
  e =
  Ending.returned
  (Value.bool
  b) ∧
  R
  (Ending.returned
  (Value.bool
  b))
  w')
  (R
  (Ending.returned
  (Value.bool
  false))
  w'_12))))
theorem law20_SpanGrows.vc_eq (a'_0 : Int) (a'_1 : Int) (b'_0 : Int) (b'_1 : Int) (v' : Int) (l' : Option Addr) (l'n : Nat) (l'c : Nat) (w : World) (R : Ending → World → Prop) : fnV Try.prog law20_SpanGrows.H 5 [Value.agg #[Value.int IntKind.u64 a'_0, Value.int IntKind.u64 a'_1],
  Value.agg #[Value.int IntKind.u64 b'_0, Value.int IntKind.u64 b'_1], Value.int IntKind.u64 v', Value.slice l' l'n l'c] w R = law20_SpanGrows.vc a'_0 a'_1 b'_0 b'_1 v' l' l'n l'c w R := by kernel_rfl
theorem law20_SpanGrows.calls {a'_0 : Int} {a'_1 : Int} {b'_0 : Int} {b'_1 : Int} {v' : Int} {l' : Option Addr} {l'n : Nat} {l'c : Nat} {w : World} {R : Ending → World → Prop} (h : law20_SpanGrows.vc a'_0 a'_1 b'_0 b'_1 v' l' l'n l'c w R) : Calls Try.prog 5 ([Value.agg #[Value.int IntKind.u64 a'_0, Value.int IntKind.u64 a'_1],
  Value.agg #[Value.int IntKind.u64 b'_0, Value.int IntKind.u64 b'_1], Value.int IntKind.u64 v', Value.slice l' l'n l'c] : List Value).toArray w R := calls_of_eq (law20_SpanGrows.vc_eq a'_0 a'_1 b'_0 b'_1 v' l' l'n l'c w R) h

end Go.Proofs.Ytpfnjooddobohaa
