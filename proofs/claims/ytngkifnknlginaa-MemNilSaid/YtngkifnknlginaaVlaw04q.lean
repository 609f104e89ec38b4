/-
The explicit conditions of some functions of the program, printed by this repo's own program over VcTop: what is proved is that each is the condition.
Conditions: none.
-/
import Derived.Test.YtngkifnknlginaaVcTop
import Derived.Test.YtngkifnknlginaaProg
namespace Go.Proofs.Ytngkifnknlginaa
open Go Go.Vc Go.RowKit
set_option linter.unusedVariables false
set_option maxRecDepth 100000

/- function 4: sacristy/sacristylaw04.MemKinds -/
abbrev law04_MemKinds.N : FuncId := 4
def law04_MemKinds.H : Hints := {  }
def law04_MemKinds.vc (l' : Option Addr) (l'n : Nat) (l'c : Nat) (which' : Int) (at' : Int) (w : World) (R : Ending → World → Prop) : Prop :=
  Calls Proofs.Try.prog 7 #[Value.slice l' l'n l'c] w fun (e : Ending) (w' : World) =>
  ∃ (b : Bool),
  e = Ending.returned (Value.bool b) ∧
  cnd b
  (Calls Proofs.Try.prog 9 #[] w' fun (e : Ending) (w' : World) =>
  ∃ (b : Bool), e = Ending.returned (Value.bool b) ∧ R (Ending.returned (Value.bool b)) w')
  (Calls Proofs.Try.prog 10 #[Value.slice l' l'n l'c] w' fun (e : Ending) (w' : World) =>
  ∃ (p : Option Addr),
  ∃ (n : Int),
  e = Ending.returned (Value.tuple #[Value.pointer p, Value.int IntKind.i64 n]) ∧
  cnd (n != 0)
  (Calls Proofs.Try.prog 9 #[] w' fun (e : Ending) (w' : World) =>
  ∃ (b : Bool), e = Ending.returned (Value.bool b) ∧ R (Ending.returned (Value.bool b)) w')
  (∃ (b : Bool),
  EqRuns Proofs.Try.prog BinOp.eql 28 (Operand.tmp 35) (Operand.const (Value.pointer none))
  (Value.pointer p) (Value.pointer none) b ∧
  cnd b
  (Calls Proofs.Try.prog 9 #[] w' fun (e : Ending) (w' : World) =>
  ∃ (b : Bool), e = Ending.returned (Value.bool b) ∧ R (Ending.returned (Value.bool b)) w')
  (cnd (decide ((↑l'n : Int) = 0)) False
  ((0 ≤ (IntKind.i64.wrap which').tmod (↑l'n : Int) ∧
  (IntKind.i64.wrap which').tmod (↑l'n : Int) < (↑l'n : Int)) ∧
  Deref l' fun (a : Addr) =>
  ∃ (n : Int),
  ∃ (n_1 : Int),
  ∃ (n_2 : Int),
  (w'.cell? (a.add (((IntKind.i64.wrap which').tmod (↑l'n : Int)).toNat * 3)) =
  some (Value.int IntKind.u64 n) ∧
  w'.cell?
  ((a.add (((IntKind.i64.wrap which').tmod (↑l'n : Int)).toNat * 3)).add
  1) =
  some (Value.int IntKind.u64 n_1) ∧
  w'.cell?
  ((a.add (((IntKind.i64.wrap which').tmod (↑l'n : Int)).toNat * 3)).add
  2) =
  some (Value.int IntKind.u8 n_2) ∧
  True) ∧
  ∀ (w'_1 : World),
  w'_1 =
  w'.alloc
  (Obj.cells
  #[Value.int IntKind.u64 0, Value.int IntKind.u64 0,
  Value.int IntKind.u8 0]
  42) →
  SetsAt w'_1 (Addr.mk w'.heap.size 0 none) 0
  [Value.int IntKind.u64 n, Value.int IntKind.u64 n_1,
  Value.int IntKind.u8 n_2] ∧
  ∀ (w'_2 : World),
  w'_2 =
  setCellsAt w'_1 (Addr.mk w'.heap.size 0 none) 0
  [Value.int IntKind.u64 n, Value.int IntKind.u64 n_1,
  Value.int IntKind.u8 n_2] →
  ∃ (n : Int),
  (∀ (w'_3 : World),
  Later w'_2 w'_3 →
  w'_3.cell? (Addr.mk w'.heap.size 0 none) =
  some (Value.int IntKind.u64 n)) ∧
  ∃ (n_3 : Int),
  (∀ (w'_3 : World),
  Later w'_2 w'_3 →
  w'_3.cell? (Addr.mk w'.heap.size 1 none) =
  some (Value.int IntKind.u64 n_3)) ∧
  cnd (decide (n_3 = 0)) False
  (∀ (w'_3 : World),
  Later w'_2 w'_3 →
  Calls Proofs.Try.prog 13
  #[Value.pointer p,
  Value.int IntKind.u64
  (IntKind.u64.wrap
  (n + (IntKind.u64.wrap at').tmod n_3)),
  Value.int IntKind.i64 1]
  w'_3 fun (e : Ending) (w'_4 : World) =>
  ∃ (n_4 : Int),
  ∃ (b : Bool),
  ∃ (n_5 : Int),
  e =
  Ending.returned
  (Value.tuple
  #[Value.int IntKind.u64 n_4, Value.bool b,
  Value.int IntKind.i64 n_5]) ∧
  Calls Proofs.Try.prog 12
  #[Value.pointer p,
  Value.int IntKind.u64
  (IntKind.u64.wrap
  (n + (IntKind.u64.wrap at').tmod n_3)),
  Value.int IntKind.i64 1,
  Value.int IntKind.u64 7, Value.bool true]
  w'_4 fun (e : Ending) (w'_5 : World) =>
  ∃ (n_6 : Int),
  e =
  Ending.returned
  (Value.int IntKind.i64 n_6) ∧
  Calls Proofs.Try.prog 11
  #[Value.pointer p,
  Value.int IntKind.u64
  (IntKind.u64.wrap
  (n +
  (IntKind.u64.wrap at').tmod
  n_3)),
  Value.string (ByteArray.mk #[97]),
  Value.bool true]
  w'_5 fun (e : Ending) (w'_6 : World) =>
  ∃ (n_7 : Int),
  e =
  Ending.returned
  (Value.int IntKind.i64 n_7) ∧
  Calls Proofs.Try.prog 14
  #[Value.pointer p,
  Value.int IntKind.u64
  (IntKind.u64.wrap
  (n +
  (IntKind.u64.wrap
  at').tmod
  n_3)),
  Value.int IntKind.i64 1]
  w'_6
  fun (e : Ending) (w'_7 : World) =>
  ∃ (s : ByteArray),
  ∃ (p_1 : Option Addr),
  ∃ (n_8 : Nat),
  ∃ (c : Nat),
  ∃ (n_9 : Int),
  e =
  Ending.returned
  (Value.tuple
  #[Value.string
  s,
  Value.slice
  p_1 n_8 c,
  Value.int
  IntKind.i64
  n_9]) ∧
  Calls Proofs.Try.prog
  15
  #[Value.pointer p,
  Value.int
  IntKind.u64
  (bits
  BinOp.andNot
  IntKind.u64
  (IntKind.u64.wrap
  (n +
  (IntKind.u64.wrap
  at').tmod
  n_3))
  3)]
  w'_7
  fun (e : Ending)
  (w'_8 : World) =>
  ∃ (n_10 : Int),
  ∃ (n_11 : Int),
  e =
  Ending.returned
  (Value.tuple
  #[Value.int
  IntKind.u32
  n_10,
  Value.int
  IntKind.i64
  n_11]) ∧
  ∃ (n_12 :
  Int),
  w'_8.cell?
  (Addr.mk
  w'.heap.size
  2
  none) =
  some
  (Value.int
  IntKind.u8
  n_12) ∧
  ∃ (n_13 :
  Int),
  w'_8.cell?
  (Addr.mk
  w'.heap.size
  0
  none) =
  some
  (Value.int
  IntKind.u64
  n_13) ∧
  cnd
  (decide
  (bits
  BinOp.andNot
  IntKind.u64
  (IntKind.u64.wrap
  (n +
  (IntKind.u64.wrap
  at').tmod
  n_3))
  3 ≥
  n_13))
  (∃
  (n_14
  :
  Int),
  w'_8.cell?
  (Addr.mk
  w'.heap.size
  0
  none) =
  some
  (Value.int
  IntKind.u64
  n_14) ∧
  ∃
  (n_15
  :
  Int),
  w'_8.cell?
  (Addr.mk
  w'.heap.size
  1
  none) =
  some
  (Value.int
  IntKind.u64
  n_15) ∧
  cnd
  ((n_5 ==
  0) ==
  !n_12 ==
  1)
  (∃
  (n_16
  :
  Int),
  w'_8.cell?
  (Addr.mk
  w'.heap.size
  2
  none) =
  some
  (Value.int
  IntKind.u8
  n_16) ∧
  cnd
  (n_16 ==
  3)
  (cnd
  ((n_6 ==
  0) ==
  true)
  (cnd
  (n_7 ==
  0)
  (cnd
  (s.toList ==
  (ByteArray.mk
  #[97]).toList)
  (cnd
  ((↑n_8 :
  Int) ==
  1)
  ((Int.le
  0
  0 ∧
  0 <
  (↑n_8 :
  Int)) ∧
  Deref
  p_1
  fun
  (a :
  Addr) =>
  ∃
  (b
  :
  Bool),
  w'_8.cell?
  a =
  some
  (Value.bool
  b) ∧
  cnd
  b
  (cnd
  (n_9 ==
  0)
  (cnd
  (!decide
  (IntKind.u64.wrap
  (IntKind.u64.wrap
  (n_14 +
  n_15) -
  bits
  BinOp.andNot
  IntKind.u64
  (IntKind.u64.wrap
  (n +
  (IntKind.u64.wrap
  at').tmod
  n_3))
  3) ≥
  4))
  (Calls
  Proofs.Try.prog
  9
  #[]
  w'_8
  fun
  (e :
  Ending)
  (w' :
  World) =>
  ∃
  (b
  :
  Bool),
  e =
  Ending.returned
  (Value.bool
  b) ∧
  R
  (Ending.returned
  (Value.bool
  b))
  w')
  (cnd
  ((n_11 ==
  0) ==
  (n_12 ==
  1))
  (Calls
  Proofs.Try.prog
  9
  #[]
  w'_8
  fun
  (e :
  Ending)
  (w' :
  World) =>
  ∃
  (b
  :
  Bool),
  e =
  Ending.returned
  (Value.bool
  b) ∧
  R
  (Ending.returned
  (Value.bool
  b))
  w')
  (R
  (Ending.returned
  (Value.bool
  false))
  w'_8)))
  (R
  (Ending.returned
  (Value.bool
  false))
  w'_8))
  (R
  (Ending.returned
  (Value.bool
  false))
  w'_8))
  (R
  (Ending.returned
  (Value.bool
  false))
  w'_8))
  (R
  (Ending.returned
  (Value.bool
  false))
  w'_8))
  (R
  (Ending.returned
  (Value.bool
  false))
  w'_8))
  (R
  (Ending.returned
  (Value.bool
  false))
  w'_8))
  (∃
  (n_17
  :
  Int),
  w'_8.cell?
  (Addr.mk
  w'.heap.size
  2
  none) =
  some
  (Value.int
  IntKind.u8
  n_17) ∧
  cnd
  ((n_6 ==
  0) ==
  (n_17 ==
  4))
  (cnd
  (n_7 ==
  0)
  (cnd
  (s.toList ==
  (ByteArray.mk
  #[97]).toList)
  (cnd
  ((↑n_8 :
  Int) ==
  1)
  ((Int.le
  0
  0 ∧
  0 <
  (↑n_8 :
  Int)) ∧
  Deref
  p_1
  fun
  (a :
  Addr) =>
  ∃
  (b
  :
  Bool),
  w'_8.cell?
  a =
  some
  (Value.bool
  b) ∧
  cnd
  b
  (cnd
  (n_9 ==
  0)
  (cnd
  (!decide
  (IntKind.u64.wrap
  (IntKind.u64.wrap
  (n_14 +
  n_15) -
  bits
  BinOp.andNot
  IntKind.u64
  (IntKind.u64.wrap
  (n +
  (IntKind.u64.wrap
  at').tmod
  n_3))
  3) ≥
  4))
  (Calls
  Proofs.Try.prog
  9
  #[]
  w'_8
  fun
  (e :
  Ending)
  (w' :
  World) =>
  ∃
  (b
  :
  Bool),
  e =
  Ending.returned
  (Value.bool
  b) ∧
  R
  (Ending.returned
  (Value.bool
  b))
  w')
  (cnd
  ((n_11 ==
  0) ==
  (n_12 ==
  1))
  (Calls
  Proofs.Try.prog
  9
  #[]
  w'_8
  fun
  (e :
  Ending)
  (w' :
  World) =>
  ∃
  (b
  :
  Bool),
  e =
  Ending.returned
  (Value.bool
  b) ∧
  R
  (Ending.returned
  (Value.bool
  b))
  w')
  (R
  (Ending.returned
  (Value.bool
  false))
  w'_8)))
  (R
  (Ending.returned
  (Value.bool
  false))
  w'_8))
  (R
  (Ending.returned
  (Value.bool
  false))
  w'_8))
  (R
  (Ending.returned
  (Value.bool
  false))
  w'_8))
  (R
  (Ending.returned
  (Value.bool
  false))
  w'_8))
  (R
  (Ending.returned
  (Value.bool
  false))
  w'_8))
  (R
  (Ending.returned
  (Value.bool
  false))
  w'_8)))
  (R
  (Ending.returned
  (Value.bool
  false))
  w'_8))
  (cnd
  ((n_5 ==
  0) ==
  !n_12 ==
  1)
  (∃
  (n
  :
  Int),
  w'_8.cell?
  (Addr.mk
  w'.heap.size
  2
  none) =
  some
  (Value.int
  IntKind.u8
  n) ∧
  cnd
  (n ==
  3)
  (cnd
  ((n_6 ==
  0) ==
  true)
  (cnd
  (n_7 ==
  0)
  (cnd
  (s.toList ==
  (ByteArray.mk
  #[97]).toList)
  (cnd
  ((↑n_8 :
  Int) ==
  1)
  ((Int.le
  0
  0 ∧
  0 <
  (↑n_8 :
  Int)) ∧
  Deref
  p_1
  fun
  (a :
  Addr) =>
  ∃
  (b
  :
  Bool),
  w'_8.cell?
  a =
  some
  (Value.bool
  b) ∧
  cnd
  b
  (cnd
  (n_9 ==
  0)
  (Calls
  Proofs.Try.prog
  9
  #[]
  w'_8
  fun
  (e :
  Ending)
  (w' :
  World) =>
  ∃
  (b
  :
  Bool),
  e =
  Ending.returned
  (Value.bool
  b) ∧
  R
  (Ending.returned
  (Value.bool
  b))
  w')
  (R
  (Ending.returned
  (Value.bool
  false))
  w'_8))
  (R
  (Ending.returned
  (Value.bool
  false))
  w'_8))
  (R
  (Ending.returned
  (Value.bool
  false))
  w'_8))
  (R
  (Ending.returned
  (Value.bool
  false))
  w'_8))
  (R
  (Ending.returned
  (Value.bool
  false))
  w'_8))
  (R
  (Ending.returned
  (Value.bool
  false))
  w'_8))
  (∃
  (n
  :
  Int),
  w'_8.cell?
  (Addr.mk
  w'.heap.size
  2
  none) =
  some
  (Value.int
  IntKind.u8
  n) ∧
  cnd
  ((n_6 ==
  0) ==
  (n ==
  4))
  (cnd
  (n_7 ==
  0)
  (cnd
  (s.toList ==
  (ByteArray.mk
  #[97]).toList)
  (cnd
  ((↑n_8 :
  Int) ==
  1)
  ((Int.le
  0
  0 ∧
  0 <
  (↑n_8 :
  Int)) ∧
  Deref
  p_1
  fun
  (a :
  Addr) =>
  ∃
  (b
  :
  Bool),
  w'_8.cell?
  a =
  some
  (Value.bool
  b) ∧
  cnd
  b
  (cnd
  (n_9 ==
  0)
  (Calls
  Proofs.Try.prog
  9
  #[]
  w'_8
  fun
  (e :
  Ending)
  (w' :
  World) =>
  ∃
  (b
  :
  Bool),
  e =
  Ending.returned
  (Value.bool
  b) ∧
  R
  (Ending.returned
  (Value.bool
  b))
  w')
  (R
  (Ending.returned
  (Value.bool
  false))
  w'_8))
  (R
  (Ending.returned
  (Value.bool
  false))
  w'_8))
  (R
  (Ending.returned
  (Value.bool
  false))
  w'_8))
  (R
  (Ending.returned
  (Value.bool
  false))
  w'_8))
  (R
  (Ending.returned
  (Value.bool
  false))
  w'_8))
  (R
  (Ending.returned
  (Value.bool
  false))
  w'_8)))
  (R
  (Ending.returned
  (Value.bool
  false))
  w'_8)))))))
theorem law04_MemKinds.vc_eq (l' : Option Addr) (l'n : Nat) (l'c : Nat) (which' : Int) (at' : Int) (w : World) (R : Ending → World → Prop) : fnV Try.prog law04_MemKinds.H 4 [Value.slice l' l'n l'c, Value.int IntKind.u8 which', Value.int IntKind.u32 at'] w R = law04_MemKinds.vc l' l'n l'c which' at' w R := by kernel_rfl
theorem law04_MemKinds.calls {l' : Option Addr} {l'n : Nat} {l'c : Nat} {which' : Int} {at' : Int} {w : World} {R : Ending → World → Prop} (h : law04_MemKinds.vc l' l'n l'c which' at' w R) : Calls Try.prog 4 ([Value.slice l' l'n l'c, Value.int IntKind.u8 which', Value.int IntKind.u32 at'] : List Value).toArray w R := calls_of_eq (law04_MemKinds.vc_eq l' l'n l'c which' at' w R) h

end Go.Proofs.Ytngkifnknlginaa
