/-
The explicit conditions of some functions of the program, printed by this repo's own program over VcTop: what is proved is that each is the condition.
Conditions: none.
-/
import Derived.Test.YtglakmkedoklmaaVcTop
import Derived.Test.YtglakmkedoklmaaProg
namespace Go.Proofs.Ytglakmkedoklmaa
open Go Go.Vc Go.RowKit
set_option linter.unusedVariables false
set_option maxRecDepth 100000

/- function 10: sacristy/sacristyref29.Fix -/
abbrev ref29_Fix.N : FuncId := 10
def ref29_Fix.H : Hints := { loops := [(7, [(8, .one .bool)]), (11, [(8, .one .bool), (10, .one (.int .i64))]), (19, [(12, .one .slice), (13, .one (.int .i64))])], tails := [(25, 9)], edges := [(25, [(0, 9)])] }
def ref29_Fix.vc (l' : Option Addr) (l'n : Nat) (l'c : Nat) (w : World) (R : Ending → World → Prop) : Prop :=
  Calls Proofs.Try.prog 13 #[Value.slice l' l'n l'c] w fun (e : Ending) (w' : World) =>
  ∃ (p : Option Addr),
  ∃ (n : Nat),
  ∃ (c : Nat),
  ∃ (b : Bool),
  e = Ending.returned (Value.tuple #[Value.slice p n c, Value.bool b]) ∧
  cnd (!b)
  (R (Ending.returned (Value.tuple #[Value.slice none 0 0, Value.slice none 0 0, Value.int IntKind.i64 2]))
  w')
  (RunsV Proofs.Try.prog
  (Instr.makeSlice 50 (Value.int IntKind.i64 (↑l'n : Int)) (Value.int IntKind.i64 (↑l'n : Int))) w'
  fun (v : Value) (w' : World) =>
  ∃ (p_1 : Option Addr),
  ∃ (n_1 : Nat),
  ∃ (c : Nat),
  v = Value.slice p_1 n_1 c ∧
  ∃ (I : List Value → World → Prop),
  ∃ (μ : List Value → World → Nat),
  I [Value.bool true] w' ∧
  ∀ (g : Nat → Value) (again : Bool) (w' : World),
  I [Value.bool again] w' →
  cnd again
  (Calls Proofs.Try.prog 20 #[Value.slice l' l'n l'c, Value.slice p_1 n_1 c] w'
  fun (e : Ending) (w'_1 : World) =>
  ∃ (p_2 : Option Addr),
  ∃ (n_2 : Nat),
  ∃ (c : Nat),
  e = Ending.returned (Value.slice p_2 n_2 c) ∧
  ∃ (I_1 : List Value → World → Prop),
  ∃ (μ_1 : List Value → World → Nat),
  I_1 [Value.bool false, Value.int IntKind.i64 0] w'_1 ∧
  ∀ (g : Nat → Value) (again_1 : Bool) (i : Int) (w'_2 : World),
  I_1 [Value.bool again_1, Value.int IntKind.i64 i] w'_2 →
  cnd (decide (i < (↑l'n : Int)))
  ((0 ≤ i ∧ i < (↑n : Int)) ∧
  Deref p fun (a : Addr) =>
  ∃ (n_3 : Int),
  (∀ (w' : World),
  Later w'_2 w' →
  w'.cell? (a.add (i.toNat * 1)) =
  some (Value.int IntKind.i64 n_3)) ∧
  cnd (decide (n_3 ≥ 0))
  ((0 ≤ i ∧ i < (↑l'n : Int)) ∧
  Deref l' fun (a : Addr) =>
  ∃ (n_4 : Int),
  (∀ (w' : World),
  Later w'_2 w' →
  w'.cell? ((a.add (i.toNat * 7)).add 1) =
  some (Value.int IntKind.u8 n_4)) ∧
  cnd (n_4 != 32)
  ((0 ≤ i ∧ i < (↑n_1 : Int)) ∧
  Deref p_1 fun (a : Addr) =>
  ∃ (b : Bool),
  (∀ (w' : World),
  Later w'_2 w' →
  w'.cell?
  (a.add (i.toNat * 1)) =
  some (Value.bool b)) ∧
  cnd (!b)
  ((0 ≤ i ∧ i < (↑n : Int)) ∧
  Deref p fun (a : Addr) =>
  ∃ (n_5 : Int),
  (∀ (w' : World),
  Later w'_2 w' →
  w'.cell?
  (a.add
  (i.toNat *
  1)) =
  some
  (Value.int
  IntKind.i64
  n_5)) ∧
  (0 ≤ n_5 ∧
  n_5 <
  (↑n_2 : Int)) ∧
  Deref p_2
  fun (a : Addr) =>
  ∃ (n_6 : Int),
  (∀ (w' : World),
  Later w'_2
  w' →
  w'.cell?
  (a.add
  (n_5.toNat *
  1)) =
  some
  (Value.int
  IntKind.i64
  n_6)) ∧
  (0 ≤ i ∧
  i <
  (↑n_2 :
  Int)) ∧
  Deref p_2
  fun
  (a :
  Addr) =>
  ∃ (n_7 :
  Int),
  (∀
  (w' :
  World),
  Later
  w'_2
  w' →
  w'.cell?
  (a.add
  (i.toNat *
  1)) =
  some
  (Value.int
  IntKind.i64
  n_7)) ∧
  cnd
  (decide
  (IntKind.i64.wrap
  (n_6 -
  n_7) <
  -4096))
  (∀
  (w' :
  World),
  Later
  w'_2
  w' →
  (0 ≤
  i ∧
  i <
  (↑n_1 :
  Int)) ∧
  Deref
  p_1
  fun
  (a :
  Addr) =>
  ((w'.cell?
  (a.add
  (i.toNat *
  1))).isSome =
  true ∧
  w'.frozen?
  (a.add
  (i.toNat *
  1)) =
  false) ∧
  ∀
  (w'_3 :
  World),
  w'_3 =
  w'.setCell
  (a.add
  (i.toNat *
  1))
  (Value.bool
  true) →
  Goes
  I_1
  μ_1
  [Value.bool
  again_1,
  Value.int
  IntKind.i64
  i]
  w'_2
  [Value.bool
  true,
  Value.int
  IntKind.i64
  (IntKind.i64.wrap
  (i +
  1))]
  w'_3)
  ((0 ≤
  i ∧
  i <
  (↑n :
  Int)) ∧
  Deref
  p
  fun
  (a :
  Addr) =>
  ∃
  (n
  :
  Int),
  (∀
  (w' :
  World),
  Later
  w'_2
  w' →
  w'.cell?
  (a.add
  (i.toNat *
  1)) =
  some
  (Value.int
  IntKind.i64
  n)) ∧
  (0 ≤
  n ∧
  n <
  (↑n_2 :
  Int)) ∧
  Deref
  p_2
  fun
  (a :
  Addr) =>
  ∃
  (n_8
  :
  Int),
  (∀
  (w' :
  World),
  Later
  w'_2
  w' →
  w'.cell?
  (a.add
  (n.toNat *
  1)) =
  some
  (Value.int
  IntKind.i64
  n_8)) ∧
  (0 ≤
  i ∧
  i <
  (↑n_2 :
  Int)) ∧
  Deref
  p_2
  fun
  (a :
  Addr) =>
  ∃
  (n
  :
  Int),
  (∀
  (w' :
  World),
  Later
  w'_2
  w' →
  w'.cell?
  (a.add
  (i.toNat *
  1)) =
  some
  (Value.int
  IntKind.i64
  n)) ∧
  ∀
  (w' :
  World),
  Later
  w'_2
  w' →
  cnd
  (decide
  (IntKind.i64.wrap
  (n_8 -
  n) >
  4094))
  ((0 ≤
  i ∧
  i <
  (↑n_1 :
  Int)) ∧
  Deref
  p_1
  fun
  (a :
  Addr) =>
  ((w'.cell?
  (a.add
  (i.toNat *
  1))).isSome =
  true ∧
  w'.frozen?
  (a.add
  (i.toNat *
  1)) =
  false) ∧
  ∀
  (w'_3 :
  World),
  w'_3 =
  w'.setCell
  (a.add
  (i.toNat *
  1))
  (Value.bool
  true) →
  Goes
  I_1
  μ_1
  [Value.bool
  again_1,
  Value.int
  IntKind.i64
  i]
  w'_2
  [Value.bool
  true,
  Value.int
  IntKind.i64
  (IntKind.i64.wrap
  (i +
  1))]
  w'_3)
  (Goes
  I_1
  μ_1
  [Value.bool
  again_1,
  Value.int
  IntKind.i64
  i]
  w'_2
  [Value.bool
  again_1,
  Value.int
  IntKind.i64
  (IntKind.i64.wrap
  (i +
  1))]
  w')))
  (∀ (w' : World),
  Later w'_2 w' →
  Goes I_1 μ_1
  [Value.bool again_1,
  Value.int IntKind.i64 i]
  w'_2
  [Value.bool again_1,
  Value.int IntKind.i64
  (IntKind.i64.wrap
  (i + 1))]
  w'))
  (∀ (w' : World),
  Later w'_2 w' →
  Goes I_1 μ_1
  [Value.bool again_1,
  Value.int IntKind.i64 i]
  w'_2
  [Value.bool again_1,
  Value.int IntKind.i64
  (IntKind.i64.wrap (i + 1))]
  w'))
  (∀ (w' : World),
  Later w'_2 w' →
  Goes I_1 μ_1
  [Value.bool again_1, Value.int IntKind.i64 i]
  w'_2
  [Value.bool again_1,
  Value.int IntKind.i64
  (IntKind.i64.wrap (i + 1))]
  w'))
  (Goes I μ [Value.bool again] w' [Value.bool again_1] w'_2))
  (Calls Proofs.Try.prog 20 #[Value.slice l' l'n l'c, Value.slice p_1 n_1 c] w'
  fun (e : Ending) (w' : World) =>
  ∃ (p_2 : Option Addr),
  ∃ (n_2 : Nat),
  ∃ (c : Nat),
  e = Ending.returned (Value.slice p_2 n_2 c) ∧
  ∃ (I : List Value → World → Prop),
  ∃ (μ : List Value → World → Nat),
  I [Value.slice none 0 0, Value.int IntKind.i64 0] w' ∧
  ∀ (g : Nat → Value) (out : Option Addr) (outn outc : Nat) (i : Int)
  (w' : World),
  I [Value.slice out outn outc, Value.int IntKind.i64 i] w' →
  cnd (decide (i < (↑l'n : Int)))
  ((0 ≤ i ∧ i < (↑l'n : Int)) ∧
  Deref l' fun (a : Addr) =>
  ∃ (n_3 : Int),
  ∃ (n_4 : Int),
  ∃ (n_5 : Int),
  ∃ (n_6 : Int),
  ∃ (n_7 : Int),
  (w'.cell? ((a.add (i.toNat * 7)).add 1) =
  some (Value.int IntKind.u8 n_3) ∧
  w'.cell?
  (((a.add (i.toNat * 7)).add 1).add
  1) =
  some (Value.int IntKind.u8 n_4) ∧
  w'.cell?
  (((a.add (i.toNat * 7)).add 1).add
  2) =
  some (Value.int IntKind.u8 n_5) ∧
  w'.cell?
  (((a.add (i.toNat * 7)).add 1).add
  3) =
  some (Value.int IntKind.u8 n_6) ∧
  w'.cell?
  (((a.add (i.toNat * 7)).add
  1).add
  4) =
  some (Value.int IntKind.i64 n_7) ∧
  True) ∧
  ∀ (w'_1 : World),
  w'_1 =
  w'.alloc
  (Obj.cells
  #[Value.int IntKind.u8 0,
  Value.int IntKind.u8 0,
  Value.int IntKind.u8 0,
  Value.int IntKind.u8 0,
  Value.int IntKind.i64 0]
  35) →
  SetsAt w'_1 (Addr.mk w'.heap.size 0 none)
  0
  [Value.int IntKind.u8 n_3,
  Value.int IntKind.u8 n_4,
  Value.int IntKind.u8 n_5,
  Value.int IntKind.u8 n_6,
  Value.int IntKind.i64 n_7] ∧
  ∀ (w'_2 : World),
  w'_2 =
  setCellsAt w'_1
  (Addr.mk w'.heap.size 0 none) 0
  [Value.int IntKind.u8 n_3,
  Value.int IntKind.u8 n_4,
  Value.int IntKind.u8 n_5,
  Value.int IntKind.u8 n_6,
  Value.int IntKind.i64 n_7] →
  (0 ≤ i ∧ i < (↑n : Int)) ∧
  Deref p fun (a : Addr) =>
  ∃ (n_8 : Int),
  w'_2.cell?
  (a.add (i.toNat * 1)) =
  some
  (Value.int IntKind.i64
  n_8) ∧
  cnd (decide (n_8 < 0))
  (∃ (n : Int),
  ∃ (n_9 : Int),
  ∃ (n_10 : Int),
  ∃ (n_11 : Int),
  ∃ (n_12 : Int),
  (w'_2.cell?
  (Addr.mk
  w'.heap.size
  0
  none) =
  some
  (Value.int
  IntKind.u8
  n) ∧
  w'_2.cell?
  (Addr.mk
  w'.heap.size
  1
  none) =
  some
  (Value.int
  IntKind.u8
  n_9) ∧
  w'_2.cell?
  (Addr.mk
  w'.heap.size
  2
  none) =
  some
  (Value.int
  IntKind.u8
  n_10) ∧
  w'_2.cell?
  (Addr.mk
  w'.heap.size
  3
  none) =
  some
  (Value.int
  IntKind.u8
  n_11) ∧
  w'_2.cell?
  (Addr.mk
  w'.heap.size
  4
  none) =
  some
  (Value.int
  IntKind.i64
  n_12) ∧
  True) ∧
  ∀
  (w'_3 :
  World),
  w'_3 =
  w'_2.alloc
  (Obj.cells
  #[Value.int
  IntKind.u8
  n,
  Value.int
  IntKind.u8
  n_9,
  Value.int
  IntKind.u8
  n_10,
  Value.int
  IntKind.u8
  n_11,
  Value.int
  IntKind.i64
  n_12]
  35) →
  RunsV
  Proofs.Try.prog
  (Builtin.append_
  #[25,
  25]
  25
  #[Value.slice
  out
  outn
  outc,
  Value.slice
  (some
  (Addr.mk
  w'_2.heap.size
  0
  none))
  1
  1])
  w'_3
  fun
  (v :
  Value)
  (w'_4 :
  World) =>
  ∃ (p :
  Option
  Addr),
  ∃ (n :
  Nat),
  ∃ (c
  :
  Nat),
  v =
  Value.slice
  p
  n
  c ∧
  Goes
  I
  μ
  [Value.slice
  out
  outn
  outc,
  Value.int
  IntKind.i64
  i]
  w'
  [Value.slice
  p
  n
  c,
  Value.int
  IntKind.i64
  (IntKind.i64.wrap
  (i +
  1))]
  w'_4)
  ((0 ≤ i ∧
  i < (↑n : Int)) ∧
  Deref p
  fun (a : Addr) =>
  ∃ (n : Int),
  (∀ (w' : World),
  Later w'_2 w' →
  w'.cell?
  (a.add
  (i.toNat *
  1)) =
  some
  (Value.int
  IntKind.i64
  n)) ∧
  (0 ≤ n ∧
  n <
  (↑n_2 :
  Int)) ∧
  Deref p_2
  fun
  (a :
  Addr) =>
  ∃ (n_9 : Int),
  (∀
  (w' :
  World),
  Later
  w'_2
  w' →
  w'.cell?
  (a.add
  (n.toNat *
  1)) =
  some
  (Value.int
  IntKind.i64
  n_9)) ∧
  (0 ≤ i ∧
  i <
  (↑n_2 :
  Int)) ∧
  Deref
  p_2
  fun
  (a :
  Addr) =>
  ∃ (n :
  Int),
  (∀
  (w' :
  World),
  Later
  w'_2
  w' →
  w'.cell?
  (a.add
  (i.toNat *
  1)) =
  some
  (Value.int
  IntKind.i64
  n)) ∧
  ∀
  (w'_3 :
  World),
  Later
  w'_2
  w'_3 →
  (0 ≤
  i ∧
  i <
  (↑n_1 :
  Int)) ∧
  Deref
  p_1
  fun
  (a :
  Addr) =>
  ∃
  (b
  :
  Bool),
  w'_3.cell?
  (a.add
  (i.toNat *
  1)) =
  some
  (Value.bool
  b) ∧
  cnd
  b
  (∃
  (n_10
  :
  Int),
  (∀
  (w'_4 :
  World),
  Later
  w'_3
  w'_4 →
  w'_4.cell?
  (Addr.mk
  w'.heap.size
  0
  none) =
  some
  (Value.int
  IntKind.u8
  n_10)) ∧
  ∃
  (n_11
  :
  Int),
  (∀
  (w' :
  World),
  Later
  w'_3
  w' →
  Calls
  Proofs.Try.prog
  21
  #[Value.int
  IntKind.u8
  n_10]
  w'
  fun
  (e :
  Ending)
  (w'' :
  World) =>
  e =
  Ending.returned
  (Value.int
  IntKind.u8
  n_11) ∧
  Later
  w'
  w'') ∧
  ∃
  (n_12
  :
  Int),
  (∀
  (w'_4 :
  World),
  Later
  w'_3
  w'_4 →
  w'_4.cell?
  (Addr.mk
  w'.heap.size
  2
  none) =
  some
  (Value.int
  IntKind.u8
  n_12)) ∧
  ∃
  (n_13
  :
  Int),
  (∀
  (w'_4 :
  World),
  Later
  w'_3
  w'_4 →
  w'_4.cell?
  (Addr.mk
  w'.heap.size
  3
  none) =
  some
  (Value.int
  IntKind.u8
  n_13)) ∧
  ∀
  (w'_4 :
  World),
  Later
  w'_3
  w'_4 →
  ∀
  (w'_5 :
  World),
  w'_5 =
  w'_4.alloc
  (Obj.cells
  #[Value.int
  IntKind.u8
  n_11,
  Value.int
  IntKind.u8
  0,
  Value.int
  IntKind.u8
  n_12,
  Value.int
  IntKind.u8
  n_13,
  Value.int
  IntKind.i64
  8]
  35) →
  RunsV
  Proofs.Try.prog
  (Builtin.append_
  #[25,
  25]
  25
  #[Value.slice
  out
  outn
  outc,
  Value.slice
  (some
  (Addr.mk
  w'_4.heap.size
  0
  none))
  1
  1])
  w'_5
  fun
  (v :
  Value)
  (w'_6 :
  World) =>
  ∃
  (p
  :
  Option
  Addr),
  ∃
  (n_14
  :
  Nat),
  ∃
  (c
  :
  Nat),
  v =
  Value.slice
  p
  n_14
  c ∧
  SetsAt
  w'_6
  (Addr.mk
  w'.heap.size
  0
  none)
  0
  [Value.int
  IntKind.u8
  32,
  Value.int
  IntKind.u8
  0,
  Value.int
  IntKind.u8
  0,
  Value.int
  IntKind.u8
  0,
  Value.int
  IntKind.i64
  0] ∧
  ∀
  (w'_7 :
  World),
  w'_7 =
  setCellsAt
  w'_6
  (Addr.mk
  w'.heap.size
  0
  none)
  0
  [Value.int
  IntKind.u8
  32,
  Value.int
  IntKind.u8
  0,
  Value.int
  IntKind.u8
  0,
  Value.int
  IntKind.u8
  0,
  Value.int
  IntKind.i64
  0] →
  cnd
  (decide
  (IntKind.i64.wrap
  (IntKind.i64.wrap
  (n_9 -
  n) -
  4) <
  -1048576))
  (R
  (Ending.returned
  (Value.tuple
  #[Value.slice
  none
  0
  0,
  Value.slice
  none
  0
  0,
  Value.int
  IntKind.i64
  290]))
  w'_7)
  (cnd
  (decide
  (IntKind.i64.wrap
  (IntKind.i64.wrap
  (n_9 -
  n) -
  4) >
  1048574))
  (R
  (Ending.returned
  (Value.tuple
  #[Value.slice
  none
  0
  0,
  Value.slice
  none
  0
  0,
  Value.int
  IntKind.i64
  290]))
  w'_7)
  (((w'_7.cell?
  (Addr.mk
  w'.heap.size
  4
  none)).isSome =
  true ∧
  w'_7.frozen?
  (Addr.mk
  w'.heap.size
  4
  none) =
  false) ∧
  ∀
  (w'_8 :
  World),
  w'_8 =
  w'_7.setCell
  (Addr.mk
  w'.heap.size
  4
  none)
  (Value.int
  IntKind.i64
  (IntKind.i64.wrap
  (IntKind.i64.wrap
  (n_9 -
  n) -
  4))) →
  ∃
  (n
  :
  Int),
  ∃
  (n_15
  :
  Int),
  ∃
  (n_16
  :
  Int),
  ∃
  (n_17
  :
  Int),
  ∃
  (n_18
  :
  Int),
  (w'_8.cell?
  (Addr.mk
  w'.heap.size
  0
  none) =
  some
  (Value.int
  IntKind.u8
  n) ∧
  w'_8.cell?
  (Addr.mk
  w'.heap.size
  1
  none) =
  some
  (Value.int
  IntKind.u8
  n_15) ∧
  w'_8.cell?
  (Addr.mk
  w'.heap.size
  2
  none) =
  some
  (Value.int
  IntKind.u8
  n_16) ∧
  w'_8.cell?
  (Addr.mk
  w'.heap.size
  3
  none) =
  some
  (Value.int
  IntKind.u8
  n_17) ∧
  w'_8.cell?
  (Addr.mk
  w'.heap.size
  4
  none) =
  some
  (Value.int
  IntKind.i64
  n_18) ∧
  True) ∧
  ∀
  (w'_9 :
  World),
  w'_9 =
  w'_8.alloc
  (Obj.cells
  #[Value.int
  IntKind.u8
  n,
  Value.int
  IntKind.u8
  n_15,
  Value.int
  IntKind.u8
  n_16,
  Value.int
  IntKind.u8
  n_17,
  Value.int
  IntKind.i64
  n_18]
  35) →
  RunsV
  Proofs.Try.prog
  (Builtin.append_
  #[25,
  25]
  25
  #[Value.slice
  p
  n_14
  c,
  Value.slice
  (some
  (Addr.mk
  w'_8.heap.size
  0
  none))
  1
  1])
  w'_9
  fun
  (v :
  Value)
  (w'_10 :
  World) =>
  ∃
  (p
  :
  Option
  Addr),
  ∃
  (n
  :
  Nat),
  ∃
  (c
  :
  Nat),
  v =
  Value.slice
  p
  n
  c ∧
  Goes
  I
  μ
  [Value.slice
  out
  outn
  outc,
  Value.int
  IntKind.i64
  i]
  w'
  [Value.slice
  p
  n
  c,
  Value.int
  IntKind.i64
  (IntKind.i64.wrap
  (i +
  1))]
  w'_10)))
  (cnd
  (decide
  (IntKind.i64.wrap
  (n_9 -
  n) <
  -1048576))
  (R
  (Ending.returned
  (Value.tuple
  #[Value.slice
  none
  0
  0,
  Value.slice
  none
  0
  0,
  Value.int
  IntKind.i64
  290]))
  w'_3)
  (cnd
  (decide
  (IntKind.i64.wrap
  (n_9 -
  n) >
  1048574))
  (R
  (Ending.returned
  (Value.tuple
  #[Value.slice
  none
  0
  0,
  Value.slice
  none
  0
  0,
  Value.int
  IntKind.i64
  290]))
  w'_3)
  (((w'_3.cell?
  (Addr.mk
  w'.heap.size
  4
  none)).isSome =
  true ∧
  w'_3.frozen?
  (Addr.mk
  w'.heap.size
  4
  none) =
  false) ∧
  ∀
  (w'_4 :
  World),
  w'_4 =
  w'_3.setCell
  (Addr.mk
  w'.heap.size
  4
  none)
  (Value.int
  IntKind.i64
  (IntKind.i64.wrap
  (n_9 -
  n))) →
  ∃
  (n
  :
  Int),
  ∃
  (n_10
  :
  Int),
  ∃
  (n_11
  :
  Int),
  ∃
  (n_12
  :
  Int),
  ∃
  (n_13
  :
  Int),
  (w'_4.cell?
  (Addr.mk
  w'.heap.size
  0
  none) =
  some
  (Value.int
  IntKind.u8
  n) ∧
  w'_4.cell?
  (Addr.mk
  w'.heap.size
  1
  none) =
  some
  (Value.int
  IntKind.u8
  n_10) ∧
  w'_4.cell?
  (Addr.mk
  w'.heap.size
  2
  none) =
  some
  (Value.int
  IntKind.u8
  n_11) ∧
  w'_4.cell?
  (Addr.mk
  w'.heap.size
  3
  none) =
  some
  (Value.int
  IntKind.u8
  n_12) ∧
  w'_4.cell?
  (Addr.mk
  w'.heap.size
  4
  none) =
  some
  (Value.int
  IntKind.i64
  n_13) ∧
  True) ∧
  ∀
  (w'_5 :
  World),
  w'_5 =
  w'_4.alloc
  (Obj.cells
  #[Value.int
  IntKind.u8
  n,
  Value.int
  IntKind.u8
  n_10,
  Value.int
  IntKind.u8
  n_11,
  Value.int
  IntKind.u8
  n_12,
  Value.int
  IntKind.i64
  n_13]
  35) →
  RunsV
  Proofs.Try.prog
  (Builtin.append_
  #[25,
  25]
  25
  #[Value.slice
  out
  outn
  outc,
  Value.slice
  (some
  (Addr.mk
  w'_4.heap.size
  0
  none))
  1
  1])
  w'_5
  fun
  (v :
  Value)
  (w'_6 :
  World) =>
  ∃
  (p
  :
  Option
  Addr),
  ∃
  (n
  :
  Nat),
  ∃
  (c
  :
  Nat),
  v =
  Value.slice
  p
  n
  c ∧
  Goes
  I
  μ
  [Value.slice
  out
  outn
  outc,
  Value.int
  IntKind.i64
  i]
  w'
  [Value.slice
  p
  n
  c,
  Value.int
  IntKind.i64
  (IntKind.i64.wrap
  (i +
  1))]
  w'_6)))))
  (R
  (Ending.returned
  (Value.tuple
  #[Value.slice out outn outc, Value.slice p_2 n_2 c,
  Value.int IntKind.i64 0]))
  w')))
theorem ref29_Fix.vc_eq (l' : Option Addr) (l'n : Nat) (l'c : Nat) (w : World) (R : Ending → World → Prop) : fnV Try.prog ref29_Fix.H 10 [Value.slice l' l'n l'c] w R = ref29_Fix.vc l' l'n l'c w R := by kernel_rfl
theorem ref29_Fix.calls {l' : Option Addr} {l'n : Nat} {l'c : Nat} {w : World} {R : Ending → World → Prop} (h : ref29_Fix.vc l' l'n l'c w R) : Calls Try.prog 10 ([Value.slice l' l'n l'c] : List Value).toArray w R := calls_of_eq (ref29_Fix.vc_eq l' l'n l'c w R) h

/- function 13: sacristy/sacristyref29.Ways -/
abbrev ref29_Ways.N : FuncId := 13
def ref29_Ways.H : Hints := { loops := [(6, [(5, .one (.int .i64))])], regs := [(9, [(55, .one .bool)])] }
def ref29_Ways.vc (l' : Option Addr) (l'n : Nat) (l'c : Nat) (w : World) (R : Ending → World → Prop) : Prop :=
  cnd (decide ((↑l'n : Int) > 131072)) (R (Ending.returned (Value.tuple #[Value.slice none 0 0, Value.bool false])) w)
  (RunsV Proofs.Try.prog (Instr.makeSlice 29 (Value.int IntKind.i64 (↑l'n : Int)) (Value.int IntKind.i64 (↑l'n : Int)))
  w fun (v : Value) (w' : World) =>
  ∃ (p : Option Addr),
  ∃ (n : Nat),
  ∃ (c : Nat),
  v = Value.slice p n c ∧
  ∃ (I : List Value → World → Prop),
  ∃ (μ : List Value → World → Nat),
  I [Value.int IntKind.i64 0] w' ∧
  ∀ (g : Nat → Value) (i : Int) (w' : World),
  I [Value.int IntKind.i64 i] w' →
  cnd (decide (i < (↑l'n : Int)))
  ((0 ≤ i ∧ i < (↑l'n : Int)) ∧
  Deref l' fun (a : Addr) =>
  ∃ (n_1 : Int),
  ∃ (n_2 : Int),
  ∃ (n_3 : Int),
  ∃ (n_4 : Int),
  ∃ (n_5 : Int),
  ∃ (n_6 : Int),
  ∃ (n_7 : Int),
  (w'.cell? (a.add (i.toNat * 7)) = some (Value.int IntKind.i64 n_1) ∧
  w'.cell? ((a.add (i.toNat * 7)).add 1) = some (Value.int IntKind.u8 n_2) ∧
  w'.cell? ((a.add (i.toNat * 7)).add 2) =
  some (Value.int IntKind.u8 n_3) ∧
  w'.cell? ((a.add (i.toNat * 7)).add 3) =
  some (Value.int IntKind.u8 n_4) ∧
  w'.cell? ((a.add (i.toNat * 7)).add 4) =
  some (Value.int IntKind.u8 n_5) ∧
  w'.cell? ((a.add (i.toNat * 7)).add 5) =
  some (Value.int IntKind.i64 n_6) ∧
  w'.cell? ((a.add (i.toNat * 7)).add 6) =
  some (Value.int IntKind.i64 n_7) ∧
  True) ∧
  ∀ (w'_1 : World),
  w'_1 =
  w'.alloc
  (Obj.cells
  #[Value.int IntKind.i64 0, Value.int IntKind.u8 0,
  Value.int IntKind.u8 0, Value.int IntKind.u8 0,
  Value.int IntKind.u8 0, Value.int IntKind.i64 0,
  Value.int IntKind.i64 0]
  37) →
  SetsAt w'_1 (Addr.mk w'.heap.size 0 none) 0
  [Value.int IntKind.i64 n_1, Value.int IntKind.u8 n_2,
  Value.int IntKind.u8 n_3, Value.int IntKind.u8 n_4,
  Value.int IntKind.u8 n_5, Value.int IntKind.i64 n_6,
  Value.int IntKind.i64 n_7] ∧
  ∀ (w'_2 : World),
  w'_2 =
  setCellsAt w'_1 (Addr.mk w'.heap.size 0 none) 0
  [Value.int IntKind.i64 n_1, Value.int IntKind.u8 n_2,
  Value.int IntKind.u8 n_3, Value.int IntKind.u8 n_4,
  Value.int IntKind.u8 n_5, Value.int IntKind.i64 n_6,
  Value.int IntKind.i64 n_7] →
  ∃ (n_8 : Int),
  ∃ (n_9 : Int),
  ∃ (n_10 : Int),
  ∃ (n_11 : Int),
  ∃ (n_12 : Int),
  (w'_2.cell? (Addr.mk w'.heap.size 1 none) =
  some (Value.int IntKind.u8 n_8) ∧
  w'_2.cell? (Addr.mk w'.heap.size 2 none) =
  some (Value.int IntKind.u8 n_9) ∧
  w'_2.cell? (Addr.mk w'.heap.size 3 none) =
  some (Value.int IntKind.u8 n_10) ∧
  w'_2.cell? (Addr.mk w'.heap.size 4 none) =
  some (Value.int IntKind.u8 n_11) ∧
  w'_2.cell? (Addr.mk w'.heap.size 5 none) =
  some (Value.int IntKind.i64 n_12) ∧
  True) ∧
  Calls Proofs.Try.prog 22
  #[Value.agg
  #[Value.int IntKind.u8 n_8,
  Value.int IntKind.u8 n_9,
  Value.int IntKind.u8 n_10,
  Value.int IntKind.u8 n_11,
  Value.int IntKind.i64 n_12]]
  w'_2 fun (e : Ending) (w'_3 : World) =>
  ∃ (n_13 : Int),
  ∃ (n_14 : Int),
  e =
  Ending.returned
  (Value.tuple
  #[Value.int IntKind.u32 n_13,
  Value.int IntKind.i64 n_14]) ∧
  ∃ (J : List Value → World → Prop),
  cnd (n_14 != 0) (J [Value.bool true] w'_3)
  (∃ (n : Int),
  w'_3.cell?
  (Addr.mk w'.heap.size 0 none) =
  some (Value.int IntKind.i64 n) ∧
  cnd (decide (n < -1))
  (J [Value.bool true] w'_3)
  (∃ (n : Int),
  w'_3.cell?
  (Addr.mk w'.heap.size 6
  none) =
  some
  (Value.int IntKind.i64
  n) ∧
  cnd (decide (n < -1))
  (J [Value.bool true] w'_3)
  (∃ (n : Int),
  w'_3.cell?
  (Addr.mk
  w'.heap.size 0
  none) =
  some
  (Value.int
  IntKind.i64 n) ∧
  cnd (decide (n ≥ 0))
  (∃ (n : Int),
  w'_3.cell?
  (Addr.mk
  w'.heap.size
  0 none) =
  some
  (Value.int
  IntKind.i64
  n) ∧
  Calls
  Proofs.Try.prog
  23
  #[Value.slice l'
  l'n l'c,
  Value.int
  IntKind.i64
  n]
  w'_3
  fun (e : Ending)
  (w' :
  World) =>
  ∃ (n : Int),
  e =
  Ending.returned
  (Value.int
  IntKind.i64
  n) ∧
  J
  [Value.bool
  (n !=
  i)]
  w')
  (J [Value.bool false]
  w'_3)))) ∧
  ∀ (g : Nat → Value) (s55 : Bool)
  (w'_4 : World),
  J [Value.bool s55] w'_4 →
  cnd s55
  (R
  (Ending.returned
  (Value.tuple
  #[Value.slice none 0 0,
  Value.bool false]))
  w'_4)
  ((0 ≤ i ∧ i < (↑n : Int)) ∧
  Deref p fun (a : Addr) =>
  ((w'_4.cell?
  (a.add
  (i.toNat *
  1))).isSome =
  true ∧
  w'_4.frozen?
  (a.add (i.toNat * 1)) =
  false) ∧
  ∀ (w'_5 : World),
  w'_5 =
  w'_4.setCell
  (a.add (i.toNat * 1))
  (Value.int IntKind.i64
  (-1)) →
  ∃ (n_15 : Int),
  w'_5.cell?
  (Addr.mk
  w'.heap.size 6
  none) =
  some
  (Value.int
  IntKind.i64
  n_15) ∧
  cnd
  (decide (n_15 ≥ 0))
  (∃ (n_16 : Int),
  w'_5.cell?
  (Addr.mk
  w'.heap.size
  6 none) =
  some
  (Value.int
  IntKind.i64
  n_16) ∧
  Calls
  Proofs.Try.prog
  23
  #[Value.slice
  l' l'n
  l'c,
  Value.int
  IntKind.i64
  n_16]
  w'_5
  fun
  (e : Ending)
  (w'_6 :
  World) =>
  ∃ (n_17 :
  Int),
  e =
  Ending.returned
  (Value.int
  IntKind.i64
  n_17) ∧
  (0 ≤ i ∧
  i <
  (↑n :
  Int)) ∧
  Deref p
  fun
  (a :
  Addr) =>
  ((w'_6.cell?
  (a.add
  (i.toNat *
  1))).isSome =
  true ∧
  w'_6.frozen?
  (a.add
  (i.toNat *
  1)) =
  false) ∧
  ∀
  (w'_7 :
  World),
  w'_7 =
  w'_6.setCell
  (a.add
  (i.toNat *
  1))
  (Value.int
  IntKind.i64
  n_17) →
  (0 ≤
  i ∧
  i <
  (↑n :
  Int)) ∧
  Deref
  p
  fun
  (a :
  Addr) =>
  ∃
  (n
  :
  Int),
  w'_7.cell?
  (a.add
  (i.toNat *
  1)) =
  some
  (Value.int
  IntKind.i64
  n) ∧
  cnd
  (decide
  (n <
  0))
  (R
  (Ending.returned
  (Value.tuple
  #[Value.slice
  none
  0
  0,
  Value.bool
  false]))
  w'_7)
  (∃
  (n
  :
  Int),
  w'_7.cell?
  (Addr.mk
  w'.heap.size
  1
  none) =
  some
  (Value.int
  IntKind.u8
  n) ∧
  cnd
  (decide
  (n <
  28))
  (R
  (Ending.returned
  (Value.tuple
  #[Value.slice
  none
  0
  0,
  Value.bool
  false]))
  w'_7)
  (∃
  (n
  :
  Int),
  w'_7.cell?
  (Addr.mk
  w'.heap.size
  1
  none) =
  some
  (Value.int
  IntKind.u8
  n) ∧
  cnd
  (decide
  (n >
  32))
  (R
  (Ending.returned
  (Value.tuple
  #[Value.slice
  none
  0
  0,
  Value.bool
  false]))
  w'_7)
  (∃
  (n
  :
  Int),
  w'_7.cell?
  (Addr.mk
  w'.heap.size
  5
  none) =
  some
  (Value.int
  IntKind.i64
  n) ∧
  cnd
  (n !=
  0)
  (R
  (Ending.returned
  (Value.tuple
  #[Value.slice
  none
  0
  0,
  Value.bool
  false]))
  w'_7)
  (Goes
  I
  μ
  [Value.int
  IntKind.i64
  i]
  w'
  [Value.int
  IntKind.i64
  (IntKind.i64.wrap
  (i +
  1))]
  w'_7)))))
  (Goes I μ
  [Value.int
  IntKind.i64 i]
  w'
  [Value.int
  IntKind.i64
  (IntKind.i64.wrap
  (i + 1))]
  w'_5)))
  (R (Ending.returned (Value.tuple #[Value.slice p n c, Value.bool true])) w'))
theorem ref29_Ways.vc_eq (l' : Option Addr) (l'n : Nat) (l'c : Nat) (w : World) (R : Ending → World → Prop) : fnV Try.prog ref29_Ways.H 13 [Value.slice l' l'n l'c] w R = ref29_Ways.vc l' l'n l'c w R := by kernel_rfl
theorem ref29_Ways.calls {l' : Option Addr} {l'n : Nat} {l'c : Nat} {w : World} {R : Ending → World → Prop} (h : ref29_Ways.vc l' l'n l'c w R) : Calls Try.prog 13 ([Value.slice l' l'n l'c] : List Value).toArray w R := calls_of_eq (ref29_Ways.vc_eq l' l'n l'c w R) h

/- function 20: sacristy/sacristyref29.places -/
abbrev ref29_places.N : FuncId := 20
def ref29_places.H : Hints := { loops := [(5, [(6, .one (.int .i64)), (7, .one (.int .i64))])] }
def ref29_places.vc (l' : Option Addr) (l'n : Nat) (l'c : Nat) (long' : Option Addr) (long'n : Nat) (long'c : Nat) (w : World) (R : Ending → World → Prop) : Prop :=
  RunsV Proofs.Try.prog (Instr.makeSlice 29 (Value.int IntKind.i64 (↑l'n : Int)) (Value.int IntKind.i64 (↑l'n : Int))) w
  fun (v : Value) (w' : World) =>
  ∃ (p : Option Addr),
  ∃ (n : Nat),
  ∃ (c : Nat),
  v = Value.slice p n c ∧
  ∃ (I : List Value → World → Prop),
  ∃ (μ : List Value → World → Nat),
  I [Value.int IntKind.i64 0, Value.int IntKind.i64 0] w' ∧
  ∀ (g : Nat → Value) (p_1 i : Int) (w' : World),
  I [Value.int IntKind.i64 p_1, Value.int IntKind.i64 i] w' →
  cnd (decide (i < (↑l'n : Int)))
  ((0 ≤ i ∧ i < (↑n : Int)) ∧
  Deref p fun (a : Addr) =>
  ((w'.cell? (a.add (i.toNat * 1))).isSome = true ∧ w'.frozen? (a.add (i.toNat * 1)) = false) ∧
  ∀ (w'_1 : World),
  w'_1 = w'.setCell (a.add (i.toNat * 1)) (Value.int IntKind.i64 p_1) →
  (0 ≤ i ∧ i < (↑long'n : Int)) ∧
  Deref long' fun (a : Addr) =>
  ∃ (b : Bool),
  w'_1.cell? (a.add (i.toNat * 1)) = some (Value.bool b) ∧
  cnd b
  (Goes I μ [Value.int IntKind.i64 p_1, Value.int IntKind.i64 i] w'
  [Value.int IntKind.i64 (IntKind.i64.wrap (IntKind.i64.wrap (p_1 + 4) + 4)),
  Value.int IntKind.i64 (IntKind.i64.wrap (i + 1))]
  w'_1)
  (Goes I μ [Value.int IntKind.i64 p_1, Value.int IntKind.i64 i] w'
  [Value.int IntKind.i64 (IntKind.i64.wrap (p_1 + 4)),
  Value.int IntKind.i64 (IntKind.i64.wrap (i + 1))]
  w'_1))
  (R (Ending.returned (Value.slice p n c)) w')
theorem ref29_places.vc_eq (l' : Option Addr) (l'n : Nat) (l'c : Nat) (long' : Option Addr) (long'n : Nat) (long'c : Nat) (w : World) (R : Ending → World → Prop) : fnV Try.prog ref29_places.H 20 [Value.slice l' l'n l'c, Value.slice long' long'n long'c] w R = ref29_places.vc l' l'n l'c long' long'n long'c w R := by kernel_rfl
theorem ref29_places.calls {l' : Option Addr} {l'n : Nat} {l'c : Nat} {long' : Option Addr} {long'n : Nat} {long'c : Nat} {w : World} {R : Ending → World → Prop} (h : ref29_places.vc l' l'n l'c long' long'n long'c w R) : Calls Try.prog 20 ([Value.slice l' l'n l'c, Value.slice long' long'n long'c] : List Value).toArray w R := calls_of_eq (ref29_places.vc_eq l' l'n l'c long' long'n long'c w R) h

/- function 21: sacristy/sacristyref29.opposite -/
abbrev ref29_opposite.N : FuncId := 21
def ref29_opposite.H : Hints := {  }
def ref29_opposite.vc (op' : Int) (w : World) (R : Ending → World → Prop) : Prop :=
  cnd (op' == 28) (R (Ending.returned (Value.int IntKind.u8 29)) w)
  (cnd (op' == 29) (R (Ending.returned (Value.int IntKind.u8 28)) w)
  (cnd (op' == 30) (R (Ending.returned (Value.int IntKind.u8 31)) w)
  (R (Ending.returned (Value.int IntKind.u8 30)) w)))
theorem ref29_opposite.vc_eq (op' : Int) (w : World) (R : Ending → World → Prop) : fnV Try.prog ref29_opposite.H 21 [Value.int IntKind.u8 op'] w R = ref29_opposite.vc op' w R := by kernel_rfl
theorem ref29_opposite.calls {op' : Int} {w : World} {R : Ending → World → Prop} (h : ref29_opposite.vc op' w R) : Calls Try.prog 21 ([Value.int IntKind.u8 op'] : List Value).toArray w R := calls_of_eq (ref29_opposite.vc_eq op' w R) h

/- function 23: sacristy/sacristyref29.at -/
abbrev ref29_at.N : FuncId := 23
def ref29_at.H : Hints := { loops := [(3, [(5, .one (.int .i64))])] }
def ref29_at.vc (l' : Option Addr) (l'n : Nat) (l'c : Nat) (label' : Int) (w : World) (R : Ending → World → Prop) : Prop :=
  ∃ (I : List Value → World → Prop),
  ∃ (μ : List Value → World → Nat),
  I [Value.int IntKind.i64 0] w ∧
  ∀ (g : Nat → Value) (i : Int) (w' : World),
  I [Value.int IntKind.i64 i] w' →
  cnd (decide (i < (↑l'n : Int)))
  ((0 ≤ i ∧ i < (↑l'n : Int)) ∧
  Deref l' fun (a : Addr) =>
  ∃ (n : Int),
  w'.cell? (a.add (i.toNat * 7)) = some (Value.int IntKind.i64 n) ∧
  cnd (n == label') (R (Ending.returned (Value.int IntKind.i64 i)) w')
  (Goes I μ [Value.int IntKind.i64 i] w' [Value.int IntKind.i64 (IntKind.i64.wrap (i + 1))] w'))
  (R (Ending.returned (Value.int IntKind.i64 (-1))) w')
theorem ref29_at.vc_eq (l' : Option Addr) (l'n : Nat) (l'c : Nat) (label' : Int) (w : World) (R : Ending → World → Prop) : fnV Try.prog ref29_at.H 23 [Value.slice l' l'n l'c, Value.int IntKind.i64 label'] w R = ref29_at.vc l' l'n l'c label' w R := by kernel_rfl
theorem ref29_at.calls {l' : Option Addr} {l'n : Nat} {l'c : Nat} {label' : Int} {w : World} {R : Ending → World → Prop} (h : ref29_at.vc l' l'n l'c label' w R) : Calls Try.prog 23 ([Value.slice l' l'n l'c, Value.int IntKind.i64 label'] : List Value).toArray w R := calls_of_eq (ref29_at.vc_eq l' l'n l'c label' w R) h

/- function 11: sacristy/sacristyref03.Same -/
abbrev ref03_Same.N : FuncId := 11
def ref03_Same.H : Hints := { loops := [(5, [(5, .one (.int .i64))])] }
def ref03_Same.vc (a' : Option Addr) (a'n : Nat) (a'c : Nat) (b' : Option Addr) (b'n : Nat) (b'c : Nat) (w : World) (R : Ending → World → Prop) : Prop :=
  cnd ((↑a'n : Int) != (↑b'n : Int)) (R (Ending.returned (Value.bool false)) w)
  (∃ (I : List Value → World → Prop),
  ∃ (μ : List Value → World → Nat),
  I [Value.int IntKind.i64 0] w ∧
  ∀ (g : Nat → Value) (i : Int) (w' : World),
  I [Value.int IntKind.i64 i] w' →
  cnd (decide (i < (↑a'n : Int)))
  ((0 ≤ i ∧ i < (↑a'n : Int)) ∧
  Deref a' fun (a : Addr) =>
  ∃ (n : Int),
  ∃ (n_1 : Int),
  ∃ (n_2 : Int),
  ∃ (n_3 : Int),
  ∃ (n_4 : Int),
  (∀ (w'_1 : World),
  Later w' w'_1 →
  w'_1.cell? (a.add (i.toNat * 5)) = some (Value.int IntKind.u8 n) ∧
  w'_1.cell? ((a.add (i.toNat * 5)).add 1) = some (Value.int IntKind.u8 n_1) ∧
  w'_1.cell? ((a.add (i.toNat * 5)).add 2) = some (Value.int IntKind.u8 n_2) ∧
  w'_1.cell? ((a.add (i.toNat * 5)).add 3) = some (Value.int IntKind.u8 n_3) ∧
  w'_1.cell? ((a.add (i.toNat * 5)).add 4) = some (Value.int IntKind.i64 n_4) ∧
  True) ∧
  (0 ≤ i ∧ i < (↑b'n : Int)) ∧
  Deref b' fun (a : Addr) =>
  ∃ (n_5 : Int),
  ∃ (n_6 : Int),
  ∃ (n_7 : Int),
  ∃ (n_8 : Int),
  ∃ (n_9 : Int),
  (∀ (w'_1 : World),
  Later w' w'_1 →
  w'_1.cell? (a.add (i.toNat * 5)) = some (Value.int IntKind.u8 n_5) ∧
  w'_1.cell? ((a.add (i.toNat * 5)).add 1) =
  some (Value.int IntKind.u8 n_6) ∧
  w'_1.cell? ((a.add (i.toNat * 5)).add 2) =
  some (Value.int IntKind.u8 n_7) ∧
  w'_1.cell? ((a.add (i.toNat * 5)).add 3) =
  some (Value.int IntKind.u8 n_8) ∧
  w'_1.cell? ((a.add (i.toNat * 5)).add 4) =
  some (Value.int IntKind.i64 n_9) ∧
  True) ∧
  ∃ (b : Bool),
  EqRuns Proofs.Try.prog BinOp.neq 35 (Operand.tmp 20) (Operand.tmp 24)
  (Value.agg
  #[Value.int IntKind.u8 n, Value.int IntKind.u8 n_1,
  Value.int IntKind.u8 n_2, Value.int IntKind.u8 n_3,
  Value.int IntKind.i64 n_4])
  (Value.agg
  #[Value.int IntKind.u8 n_5, Value.int IntKind.u8 n_6,
  Value.int IntKind.u8 n_7, Value.int IntKind.u8 n_8,
  Value.int IntKind.i64 n_9])
  b ∧
  ∀ (w'_1 : World),
  Later w' w'_1 →
  cnd b (R (Ending.returned (Value.bool false)) w'_1)
  (Goes I μ [Value.int IntKind.i64 i] w'
  [Value.int IntKind.i64 (IntKind.i64.wrap (i + 1))] w'_1))
  (R (Ending.returned (Value.bool true)) w'))
theorem ref03_Same.vc_eq (a' : Option Addr) (a'n : Nat) (a'c : Nat) (b' : Option Addr) (b'n : Nat) (b'c : Nat) (w : World) (R : Ending → World → Prop) : fnV Try.prog ref03_Same.H 11 [Value.slice a' a'n a'c, Value.slice b' b'n b'c] w R = ref03_Same.vc a' a'n a'c b' b'n b'c w R := by kernel_rfl
theorem ref03_Same.calls {a' : Option Addr} {a'n : Nat} {a'c : Nat} {b' : Option Addr} {b'n : Nat} {b'c : Nat} {w : World} {R : Ending → World → Prop} (h : ref03_Same.vc a' a'n a'c b' b'n b'c w R) : Calls Try.prog 11 ([Value.slice a' a'n a'c, Value.slice b' b'n b'c] : List Value).toArray w R := calls_of_eq (ref03_Same.vc_eq a' a'n a'c b' b'n b'c w R) h

/- function 12: sacristy/sacristyref24.Same -/
abbrev ref24_Same.N : FuncId := 12
def ref24_Same.H : Hints := { loops := [(5, [(5, .one (.int .i64))])] }
def ref24_Same.vc (a' : Option Addr) (a'n : Nat) (a'c : Nat) (b' : Option Addr) (b'n : Nat) (b'c : Nat) (w : World) (R : Ending → World → Prop) : Prop :=
  cnd ((↑a'n : Int) != (↑b'n : Int)) (R (Ending.returned (Value.bool false)) w)
  (∃ (I : List Value → World → Prop),
  ∃ (μ : List Value → World → Nat),
  I [Value.int IntKind.i64 0] w ∧
  ∀ (g : Nat → Value) (i : Int) (w' : World),
  I [Value.int IntKind.i64 i] w' →
  cnd (decide (i < (↑a'n : Int)))
  ((0 ≤ i ∧ i < (↑a'n : Int)) ∧
  Deref a' fun (a : Addr) =>
  ∃ (n : Int),
  (∀ (w'_1 : World),
  Later w' w'_1 → w'_1.cell? (a.add (i.toNat * 1)) = some (Value.int IntKind.i64 n)) ∧
  (0 ≤ i ∧ i < (↑b'n : Int)) ∧
  Deref b' fun (a : Addr) =>
  ∃ (n_1 : Int),
  (∀ (w'_1 : World),
  Later w' w'_1 → w'_1.cell? (a.add (i.toNat * 1)) = some (Value.int IntKind.i64 n_1)) ∧
  ∀ (w'_1 : World),
  Later w' w'_1 →
  cnd (n != n_1) (R (Ending.returned (Value.bool false)) w'_1)
  (Goes I μ [Value.int IntKind.i64 i] w'
  [Value.int IntKind.i64 (IntKind.i64.wrap (i + 1))] w'_1))
  (R (Ending.returned (Value.bool true)) w'))
theorem ref24_Same.vc_eq (a' : Option Addr) (a'n : Nat) (a'c : Nat) (b' : Option Addr) (b'n : Nat) (b'c : Nat) (w : World) (R : Ending → World → Prop) : fnV Try.prog ref24_Same.H 12 [Value.slice a' a'n a'c, Value.slice b' b'n b'c] w R = ref24_Same.vc a' a'n a'c b' b'n b'c w R := by kernel_rfl
theorem ref24_Same.calls {a' : Option Addr} {a'n : Nat} {a'c : Nat} {b' : Option Addr} {b'n : Nat} {b'c : Nat} {w : World} {R : Ending → World → Prop} (h : ref24_Same.vc a' a'n a'c b' b'n b'c w R) : Calls Try.prog 12 ([Value.slice a' a'n a'c, Value.slice b' b'n b'c] : List Value).toArray w R := calls_of_eq (ref24_Same.vc_eq a' a'n a'c b' b'n b'c w R) h

end Go.Proofs.Ytglakmkedoklmaa
