/-
The explicit conditions of some functions of the program, printed by this repo's own program over VcTop: what is proved is that each is the condition.
Conditions: none.
-/
import Derived.Test.YtglakmkedoklmaaVcTop
import Derived.Test.YtglakmkedoklmaaProg
namespace Go.Proofs.Ytglakmkedoklmaa
open Go Go.Vc Go.RowKit
set_option linter.unusedVariables false
set_option maxRecDepth 100000

/- function 3: sacristy/sacristylaw29.FixTells -/
abbrev law29_FixTells.N : FuncId := 3
def law29_FixTells.H : Hints := { loops := [(9, [(11, .one (.int .i64))])] }
def law29_FixTells.vc (l' : Option Addr) (l'n : Nat) (l'c : Nat) (w : World) (R : Ending → World → Prop) : Prop :=
  Calls Proofs.Try.prog 6 #[Value.slice l' l'n l'c] w fun (e : Ending) (w' : World) =>
  ∃ (b : Bool),
  e = Ending.returned (Value.bool b) ∧
  cnd b
  (Calls Proofs.Try.prog 7 #[] w' fun (e : Ending) (w' : World) =>
  ∃ (b : Bool), e = Ending.returned (Value.bool b) ∧ R (Ending.returned (Value.bool b)) w')
  (RunsV Proofs.Try.prog (Builtin.append_ #[22, 22] 22 #[Value.slice none 0 0, Value.slice l' l'n l'c]) w'
  fun (v : Value) (w' : World) =>
  ∃ (p : Option Addr),
  ∃ (n : Nat),
  ∃ (c : Nat),
  v = Value.slice p n c ∧
  Calls Proofs.Try.prog 8 #[Value.slice p n c] w' fun (e : Ending) (w' : World) =>
  ∃ (p_1 : Option Addr),
  ∃ (n_1 : Nat),
  ∃ (c_1 : Nat),
  ∃ (n_2 : Int),
  e = Ending.returned (Value.tuple #[Value.slice p_1 n_1 c_1, Value.int IntKind.i64 n_2]) ∧
  Calls Proofs.Try.prog 9 #[Value.slice p n c] w' fun (e : Ending) (w' : World) =>
  ∃ (p_2 : Option Addr),
  ∃ (n_3 : Nat),
  ∃ (c : Nat),
  ∃ (n_4 : Int),
  e =
  Ending.returned
  (Value.tuple #[Value.slice p_2 n_3 c, Value.int IntKind.i64 n_4]) ∧
  Calls Proofs.Try.prog 10 #[Value.slice l' l'n l'c] w'
  fun (e : Ending) (w' : World) =>
  ∃ (p_3 : Option Addr),
  ∃ (n_5 : Nat),
  ∃ (c_2 : Nat),
  ∃ (p_4 : Option Addr),
  ∃ (n_6 : Nat),
  ∃ (c_3 : Nat),
  ∃ (n_7 : Int),
  e =
  Ending.returned
  (Value.tuple
  #[Value.slice p_3 n_5 c_2, Value.slice p_4 n_6 c_3,
  Value.int IntKind.i64 n_7]) ∧
  ∃ (I : List Value → World → Prop),
  ∃ (μ : List Value → World → Nat),
  I [Value.int IntKind.i64 0] w' ∧
  ∀ (g : Nat → Value) (i : Int) (w' : World),
  I [Value.int IntKind.i64 i] w' →
  cnd (decide (i < (↑l'n : Int)))
  ((0 ≤ i ∧ i < (↑n : Int)) ∧
  Deref p fun (a : Addr) =>
  ∃ (n : Int),
  ∃ (n_8 : Int),
  ∃ (n_9 : Int),
  ∃ (n_10 : Int),
  ∃ (n_11 : Int),
  ∃ (n_12 : Int),
  ∃ (n_13 : Int),
  (∀ (w'_1 : World),
  Later w' w'_1 →
  w'_1.cell?
  (a.add
  (i.toNat * 7)) =
  some
  (Value.int
  IntKind.i64 n) ∧
  w'_1.cell?
  ((a.add
  (i.toNat *
  7)).add
  1) =
  some
  (Value.int
  IntKind.u8
  n_8) ∧
  w'_1.cell?
  ((a.add
  (i.toNat *
  7)).add
  2) =
  some
  (Value.int
  IntKind.u8
  n_9) ∧
  w'_1.cell?
  ((a.add
  (i.toNat *
  7)).add
  3) =
  some
  (Value.int
  IntKind.u8
  n_10) ∧
  w'_1.cell?
  ((a.add
  (i.toNat *
  7)).add
  4) =
  some
  (Value.int
  IntKind.u8
  n_11) ∧
  w'_1.cell?
  ((a.add
  (i.toNat *
  7)).add
  5) =
  some
  (Value.int
  IntKind.i64
  n_12) ∧
  w'_1.cell?
  ((a.add
  (i.toNat *
  7)).add
  6) =
  some
  (Value.int
  IntKind.i64
  n_13) ∧
  True) ∧
  (0 ≤ i ∧ i < (↑l'n : Int)) ∧
  Deref l' fun (a : Addr) =>
  ∃ (n_14 : Int),
  ∃ (n_15 : Int),
  ∃ (n_16 : Int),
  ∃ (n_17 : Int),
  ∃ (n_18 : Int),
  ∃ (n_19 :
  Int),
  ∃ (n_20 :
  Int),
  (∀
  (w'_1 :
  World),
  Later
  w'
  w'_1 →
  w'_1.cell?
  (a.add
  (i.toNat *
  7)) =
  some
  (Value.int
  IntKind.i64
  n_14) ∧
  w'_1.cell?
  ((a.add
  (i.toNat *
  7)).add
  1) =
  some
  (Value.int
  IntKind.u8
  n_15) ∧
  w'_1.cell?
  ((a.add
  (i.toNat *
  7)).add
  2) =
  some
  (Value.int
  IntKind.u8
  n_16) ∧
  w'_1.cell?
  ((a.add
  (i.toNat *
  7)).add
  3) =
  some
  (Value.int
  IntKind.u8
  n_17) ∧
  w'_1.cell?
  ((a.add
  (i.toNat *
  7)).add
  4) =
  some
  (Value.int
  IntKind.u8
  n_18) ∧
  w'_1.cell?
  ((a.add
  (i.toNat *
  7)).add
  5) =
  some
  (Value.int
  IntKind.i64
  n_19) ∧
  w'_1.cell?
  ((a.add
  (i.toNat *
  7)).add
  6) =
  some
  (Value.int
  IntKind.i64
  n_20) ∧
  True) ∧
  ∃ (b :
  Bool),
  EqRuns
  Proofs.Try.prog
  BinOp.neq
  37
  (Operand.tmp
  42)
  (Operand.tmp
  46)
  (Value.agg
  #[Value.int
  IntKind.i64
  n,
  Value.int
  IntKind.u8
  n_8,
  Value.int
  IntKind.u8
  n_9,
  Value.int
  IntKind.u8
  n_10,
  Value.int
  IntKind.u8
  n_11,
  Value.int
  IntKind.i64
  n_12,
  Value.int
  IntKind.i64
  n_13])
  (Value.agg
  #[Value.int
  IntKind.i64
  n_14,
  Value.int
  IntKind.u8
  n_15,
  Value.int
  IntKind.u8
  n_16,
  Value.int
  IntKind.u8
  n_17,
  Value.int
  IntKind.u8
  n_18,
  Value.int
  IntKind.i64
  n_19,
  Value.int
  IntKind.i64
  n_20])
  b ∧
  ∀
  (w'_1 :
  World),
  Later
  w'
  w'_1 →
  cnd
  b
  (R
  (Ending.returned
  (Value.bool
  false))
  w'_1)
  (Goes
  I
  μ
  [Value.int
  IntKind.i64
  i]
  w'
  [Value.int
  IntKind.i64
  (IntKind.i64.wrap
  (i +
  1))]
  w'_1))
  (Calls Proofs.Try.prog 11
  #[Value.slice p_1 n_1 c_1,
  Value.slice p_3 n_5 c_2]
  w' fun (e : Ending) (w' : World) =>
  ∃ (b : Bool),
  e = Ending.returned (Value.bool b) ∧
  cnd b
  (Calls Proofs.Try.prog 12
  #[Value.slice p_2 n_3 c,
  Value.slice p_4 n_6 c_3]
  w' fun (e : Ending) (w' : World) =>
  ∃ (b : Bool),
  e = Ending.returned (Value.bool b) ∧
  cnd b
  (cnd (n_2 == n_7)
  (cnd (n_4 == n_7)
  (Calls Proofs.Try.prog 7 #[]
  w'
  fun (e : Ending)
  (w' : World) =>
  ∃ (b : Bool),
  e =
  Ending.returned
  (Value.bool b) ∧
  R
  (Ending.returned
  (Value.bool b))
  w')
  (R
  (Ending.returned
  (Value.bool false))
  w'))
  (R
  (Ending.returned
  (Value.bool false))
  w'))
  (R
  (Ending.returned
  (Value.bool false))
  w'))
  (R (Ending.returned (Value.bool false))
  w')))
theorem law29_FixTells.vc_eq (l' : Option Addr) (l'n : Nat) (l'c : Nat) (w : World) (R : Ending → World → Prop) : fnV Try.prog law29_FixTells.H 3 [Value.slice l' l'n l'c] w R = law29_FixTells.vc l' l'n l'c w R := by kernel_rfl
theorem law29_FixTells.calls {l' : Option Addr} {l'n : Nat} {l'c : Nat} {w : World} {R : Ending → World → Prop} (h : law29_FixTells.vc l' l'n l'c w R) : Calls Try.prog 3 ([Value.slice l' l'n l'c] : List Value).toArray w R := calls_of_eq (law29_FixTells.vc_eq l' l'n l'c w R) h

/- function 7: sacristy/sacristylaw29.alive -/
abbrev law29_alive.N : FuncId := 7
def law29_alive.H : Hints := {  }
def law29_alive.vc (w : World) (R : Ending → World → Prop) : Prop :=
  Calls Proofs.Try.prog 16 #[Value.int IntKind.i64 1] w fun (e : Ending) (w' : World) =>
  ∃ (p : Option Addr),
  ∃ (n : Nat),
  ∃ (c : Nat),
  e = Ending.returned (Value.slice p n c) ∧
  Calls Proofs.Try.prog 8 #[Value.slice p n c] w' fun (e : Ending) (w' : World) =>
  ∃ (p : Option Addr),
  ∃ (n : Nat),
  ∃ (c : Nat),
  ∃ (n_1 : Int),
  e = Ending.returned (Value.tuple #[Value.slice p n c, Value.int IntKind.i64 n_1]) ∧
  Calls Proofs.Try.prog 16 #[Value.int IntKind.i64 1024] w' fun (e : Ending) (w' : World) =>
  ∃ (p_1 : Option Addr),
  ∃ (n_2 : Nat),
  ∃ (c : Nat),
  e = Ending.returned (Value.slice p_1 n_2 c) ∧
  Calls Proofs.Try.prog 8 #[Value.slice p_1 n_2 c] w' fun (e : Ending) (w' : World) =>
  ∃ (p_2 : Option Addr),
  ∃ (n_3 : Nat),
  ∃ (c : Nat),
  ∃ (n_4 : Int),
  e =
  Ending.returned
  (Value.tuple #[Value.slice p_2 n_3 c, Value.int IntKind.i64 n_4]) ∧
  Calls Proofs.Try.prog 16 #[Value.int IntKind.i64 1022] w'
  fun (e : Ending) (w' : World) =>
  ∃ (p_3 : Option Addr),
  ∃ (n_5 : Nat),
  ∃ (c : Nat),
  e = Ending.returned (Value.slice p_3 n_5 c) ∧
  Calls Proofs.Try.prog 8 #[Value.slice p_3 n_5 c] w'
  fun (e : Ending) (w' : World) =>
  ∃ (p_4 : Option Addr),
  ∃ (n_6 : Nat),
  ∃ (c : Nat),
  ∃ (n_7 : Int),
  e =
  Ending.returned
  (Value.tuple
  #[Value.slice p_4 n_6 c,
  Value.int IntKind.i64 n_7]) ∧
  ∀ (w'_1 : World),
  w'_1 =
  w'.alloc
  (Obj.cells
  #[Value.int IntKind.i64 (-1),
  Value.int IntKind.u8 32,
  Value.int IntKind.u8 0,
  Value.int IntKind.u8 0,
  Value.int IntKind.u8 0,
  Value.int IntKind.i64 0,
  Value.int IntKind.i64 7]
  37) →
  Calls Proofs.Try.prog 8
  #[Value.slice
  (some (Addr.mk w'.heap.size 0 none)) 1 1]
  w'_1 fun (e : Ending) (w' : World) =>
  ∃ (p_5 : Option Addr),
  ∃ (n_8 : Nat),
  ∃ (c : Nat),
  ∃ (n_9 : Int),
  e =
  Ending.returned
  (Value.tuple
  #[Value.slice p_5 n_8 c,
  Value.int IntKind.i64 n_9]) ∧
  cnd (n_1 == 0)
  (cnd ((↑n : Int) == 3)
  ((Int.le 0 0 ∧ 0 < (↑n : Int)) ∧
  Deref p fun (a : Addr) =>
  ∃ (n : Int),
  ∃ (n_10 : Int),
  ∃ (n_11 : Int),
  ∃ (n_12 : Int),
  ∃ (n_13 : Int),
  (w'.cell? a =
  some
  (Value.int
  IntKind.u8
  n) ∧
  w'.cell?
  (a.add
  1) =
  some
  (Value.int
  IntKind.u8
  n_10) ∧
  w'.cell?
  (a.add
  2) =
  some
  (Value.int
  IntKind.u8
  n_11) ∧
  w'.cell?
  (a.add
  3) =
  some
  (Value.int
  IntKind.u8
  n_12) ∧
  w'.cell?
  (a.add
  4) =
  some
  (Value.int
  IntKind.i64
  n_13) ∧
  True) ∧
  ∃ (b : Bool),
  EqRuns
  Proofs.Try.prog
  BinOp.eql 35
  (Operand.tmp
  41)
  (Operand.tmp
  42)
  (Value.agg
  #[Value.int
  IntKind.u8
  n,
  Value.int
  IntKind.u8
  n_10,
  Value.int
  IntKind.u8
  n_11,
  Value.int
  IntKind.u8
  n_12,
  Value.int
  IntKind.i64
  n_13])
  (Value.agg
  #[Value.int
  IntKind.u8
  28,
  Value.int
  IntKind.u8
  0,
  Value.int
  IntKind.u8
  0,
  Value.int
  IntKind.u8
  0,
  Value.int
  IntKind.i64
  8])
  b ∧
  cnd b
  (cnd
  (n_4 == 0)
  (cnd
  ((↑n_3 :
  Int) ==
  1027)
  ((Int.le
  0
  0 ∧
  0 <
  (↑n_3 :
  Int)) ∧
  Deref
  p_2
  fun
  (a :
  Addr) =>
  ∃ (n
  :
  Int),
  ∃
  (n_14
  :
  Int),
  ∃
  (n_15
  :
  Int),
  ∃
  (n_16
  :
  Int),
  ∃
  (n_17
  :
  Int),
  (w'.cell?
  a =
  some
  (Value.int
  IntKind.u8
  n) ∧
  w'.cell?
  (a.add
  1) =
  some
  (Value.int
  IntKind.u8
  n_14) ∧
  w'.cell?
  (a.add
  2) =
  some
  (Value.int
  IntKind.u8
  n_15) ∧
  w'.cell?
  (a.add
  3) =
  some
  (Value.int
  IntKind.u8
  n_16) ∧
  w'.cell?
  (a.add
  4) =
  some
  (Value.int
  IntKind.i64
  n_17) ∧
  True) ∧
  ∃
  (b
  :
  Bool),
  EqRuns
  Proofs.Try.prog
  BinOp.eql
  35
  (Operand.tmp
  57)
  (Operand.tmp
  58)
  (Value.agg
  #[Value.int
  IntKind.u8
  n,
  Value.int
  IntKind.u8
  n_14,
  Value.int
  IntKind.u8
  n_15,
  Value.int
  IntKind.u8
  n_16,
  Value.int
  IntKind.i64
  n_17])
  (Value.agg
  #[Value.int
  IntKind.u8
  29,
  Value.int
  IntKind.u8
  0,
  Value.int
  IntKind.u8
  0,
  Value.int
  IntKind.u8
  0,
  Value.int
  IntKind.i64
  8])
  b ∧
  cnd
  b
  ((Int.le
  0
  1 ∧
  1 <
  (↑n_3 :
  Int)) ∧
  Deref
  p_2
  fun
  (a :
  Addr) =>
  ∃
  (n
  :
  Int),
  ∃
  (n_18
  :
  Int),
  ∃
  (n_19
  :
  Int),
  ∃
  (n_20
  :
  Int),
  ∃
  (n_21
  :
  Int),
  (w'.cell?
  (a.add
  5) =
  some
  (Value.int
  IntKind.u8
  n) ∧
  w'.cell?
  ((a.add
  5).add
  1) =
  some
  (Value.int
  IntKind.u8
  n_18) ∧
  w'.cell?
  ((a.add
  5).add
  2) =
  some
  (Value.int
  IntKind.u8
  n_19) ∧
  w'.cell?
  ((a.add
  5).add
  3) =
  some
  (Value.int
  IntKind.u8
  n_20) ∧
  w'.cell?
  ((a.add
  5).add
  4) =
  some
  (Value.int
  IntKind.i64
  n_21) ∧
  True) ∧
  ∃
  (b
  :
  Bool),
  EqRuns
  Proofs.Try.prog
  BinOp.eql
  35
  (Operand.tmp
  64)
  (Operand.tmp
  65)
  (Value.agg
  #[Value.int
  IntKind.u8
  n,
  Value.int
  IntKind.u8
  n_18,
  Value.int
  IntKind.u8
  n_19,
  Value.int
  IntKind.u8
  n_20,
  Value.int
  IntKind.i64
  n_21])
  (Value.agg
  #[Value.int
  IntKind.u8
  32,
  Value.int
  IntKind.u8
  0,
  Value.int
  IntKind.u8
  0,
  Value.int
  IntKind.u8
  0,
  Value.int
  IntKind.i64
  4100])
  b ∧
  cnd
  b
  (cnd
  (n_7 ==
  0)
  (cnd
  ((↑n_6 :
  Int) ==
  1024)
  ((Int.le
  0
  0 ∧
  0 <
  (↑n_6 :
  Int)) ∧
  Deref
  p_4
  fun
  (a :
  Addr) =>
  ∃
  (n
  :
  Int),
  w'.cell?
  (a.add
  4) =
  some
  (Value.int
  IntKind.i64
  n) ∧
  cnd
  (n ==
  4092)
  (R
  (Ending.returned
  (Value.bool
  (n_9 ==
  2)))
  w')
  (R
  (Ending.returned
  (Value.bool
  false))
  w'))
  (R
  (Ending.returned
  (Value.bool
  false))
  w'))
  (R
  (Ending.returned
  (Value.bool
  false))
  w'))
  (R
  (Ending.returned
  (Value.bool
  false))
  w'))
  (R
  (Ending.returned
  (Value.bool
  false))
  w'))
  (R
  (Ending.returned
  (Value.bool
  false))
  w'))
  (R
  (Ending.returned
  (Value.bool
  false))
  w'))
  (R
  (Ending.returned
  (Value.bool
  false))
  w'))
  (R
  (Ending.returned
  (Value.bool false))
  w'))
  (R
  (Ending.returned
  (Value.bool false))
  w')
theorem law29_alive.vc_eq (w : World) (R : Ending → World → Prop) : fnV Try.prog law29_alive.H 7 [] w R = law29_alive.vc w R := by kernel_rfl
theorem law29_alive.calls {w : World} {R : Ending → World → Prop} (h : law29_alive.vc w R) : Calls Try.prog 7 ([] : List Value).toArray w R := calls_of_eq (law29_alive.vc_eq w R) h

/- function 16: sacristy/sacristylaw29.many -/
abbrev law29_many.N : FuncId := 16
def law29_many.H : Hints := { loops := [(4, [(3, .one .slice), (4, .one (.int .i64))])] }
def law29_many.vc (n' : Int) (w : World) (R : Ending → World → Prop) : Prop :=
  ∀ (w' : World),
  w' =
  w.alloc
  (Obj.cells
  #[Value.int IntKind.i64 (-1), Value.int IntKind.u8 28, Value.int IntKind.u8 0, Value.int IntKind.u8 0,
  Value.int IntKind.u8 0, Value.int IntKind.i64 0, Value.int IntKind.i64 1]
  37) →
  ∃ (I : List Value → World → Prop),
  ∃ (μ : List Value → World → Nat),
  I [Value.slice (some (Addr.mk w.heap.size 0 none)) 1 1, Value.int IntKind.i64 0] w' ∧
  ∀ (g : Nat → Value) (l : Option Addr) (ln lc : Nat) (i : Int) (w' : World),
  I [Value.slice l ln lc, Value.int IntKind.i64 i] w' →
  cnd (decide (i < n'))
  (∀ (w'_1 : World),
  w'_1 =
  w'.alloc
  (Obj.cells
  #[Value.int IntKind.i64 (-1), Value.int IntKind.u8 34, Value.int IntKind.u8 0,
  Value.int IntKind.u8 0, Value.int IntKind.u8 0, Value.int IntKind.i64 0,
  Value.int IntKind.i64 (-1)]
  37) →
  RunsV Proofs.Try.prog
  (Builtin.append_ #[22, 22] 22
  #[Value.slice l ln lc, Value.slice (some (Addr.mk w'.heap.size 0 none)) 1 1])
  w'_1 fun (v : Value) (w'_2 : World) =>
  ∃ (p : Option Addr),
  ∃ (n : Nat),
  ∃ (c : Nat),
  v = Value.slice p n c ∧
  Goes I μ [Value.slice l ln lc, Value.int IntKind.i64 i] w'
  [Value.slice p n c, Value.int IntKind.i64 (IntKind.i64.wrap (i + 1))] w'_2)
  (∀ (w'_1 : World),
  w'_1 =
  w'.alloc
  (Obj.cells
  #[Value.int IntKind.i64 1, Value.int IntKind.u8 34, Value.int IntKind.u8 0,
  Value.int IntKind.u8 0, Value.int IntKind.u8 0, Value.int IntKind.i64 0,
  Value.int IntKind.i64 (-1)]
  37) →
  RunsV Proofs.Try.prog
  (Builtin.append_ #[22, 22] 22
  #[Value.slice l ln lc, Value.slice (some (Addr.mk w'.heap.size 0 none)) 1 1])
  w'_1 fun (v : Value) (w' : World) =>
  ∃ (p : Option Addr),
  ∃ (n : Nat), ∃ (c : Nat), v = Value.slice p n c ∧ R (Ending.returned (Value.slice p n c)) w')
theorem law29_many.vc_eq (n' : Int) (w : World) (R : Ending → World → Prop) : fnV Try.prog law29_many.H 16 [Value.int IntKind.i64 n'] w R = law29_many.vc n' w R := by kernel_rfl
theorem law29_many.calls {n' : Int} {w : World} {R : Ending → World → Prop} (h : law29_many.vc n' w R) : Calls Try.prog 16 ([Value.int IntKind.i64 n'] : List Value).toArray w R := calls_of_eq (law29_many.vc_eq n' w R) h

/- function 6: sacristy/sacristylaw29.Large -/
abbrev law29_Large.N : FuncId := 6
def law29_Large.H : Hints := {  }
def law29_Large.vc (l' : Option Addr) (l'n : Nat) (l'c : Nat) (w : World) (R : Ending → World → Prop) : Prop :=
  R (Ending.returned (Value.bool (decide ((↑l'n : Int) > 3000)))) w
theorem law29_Large.vc_eq (l' : Option Addr) (l'n : Nat) (l'c : Nat) (w : World) (R : Ending → World → Prop) : fnV Try.prog law29_Large.H 6 [Value.slice l' l'n l'c] w R = law29_Large.vc l' l'n l'c w R := by kernel_rfl
theorem law29_Large.calls {l' : Option Addr} {l'n : Nat} {l'c : Nat} {w : World} {R : Ending → World → Prop} (h : law29_Large.vc l' l'n l'c w R) : Calls Try.prog 6 ([Value.slice l' l'n l'c] : List Value).toArray w R := calls_of_eq (law29_Large.vc_eq l' l'n l'c w R) h

end Go.Proofs.Ytglakmkedoklmaa
