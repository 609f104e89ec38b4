/-
The explicit conditions of some functions of the program, printed by this repo's own program over VcTop: what is proved is that each is the condition.
Conditions: none.
-/
import Derived.Test.YtngkifnknlginaaVcTop
import Derived.Test.YtngkifnknlginaaProg
namespace Go.Proofs.Ytngkifnknlginaa
open Go Go.Vc Go.RowKit
set_option linter.unusedVariables false
set_option maxRecDepth 100000

/- function 3: sacristy/sacristylaw04.MemKeeps -/
abbrev law04_MemKeeps.N : FuncId := 3
def law04_MemKeeps.H : Hints := { loops := [(8, [(17, .one (.int .i64))])], mixes := [(10, 1001), (11, 1001)] }
def law04_MemKeeps.vc (l' : Option Addr) (l'n : Nat) (l'c : Nat) (steps' : Option Addr) (steps'n : Nat) (steps'c : Nat) (at' : Int) (n' : Int) (v' : Int) (taint' : Bool) (other' : Int) (w : World) (R : Ending → World → Prop) : Prop :=
  Calls Proofs.Try.prog 7 #[Value.slice l' l'n l'c] w fun (e : Ending) (w' : World) =>
  ∃ (b : Bool),
  e = Ending.returned (Value.bool b) ∧
  cnd b
  (Calls Proofs.Try.prog 9 #[] w' fun (e : Ending) (w' : World) =>
  ∃ (b : Bool), e = Ending.returned (Value.bool b) ∧ R (Ending.returned (Value.bool b)) w')
  (Calls Proofs.Try.prog 8 #[Value.slice steps' steps'n steps'c] w' fun (e : Ending) (w' : World) =>
  ∃ (b : Bool),
  e = Ending.returned (Value.bool b) ∧
  cnd b
  (Calls Proofs.Try.prog 9 #[] w' fun (e : Ending) (w' : World) =>
  ∃ (b : Bool), e = Ending.returned (Value.bool b) ∧ R (Ending.returned (Value.bool b)) w')
  (Calls Proofs.Try.prog 10 #[Value.slice l' l'n l'c] w' fun (e : Ending) (w' : World) =>
  ∃ (p : Option Addr),
  ∃ (n : Int),
  e = Ending.returned (Value.tuple #[Value.pointer p, Value.int IntKind.i64 n]) ∧
  cnd (n != 0)
  (∃ (b : Bool),
  EqRuns Proofs.Try.prog BinOp.eql 28 (Operand.tmp 48) (Operand.const (Value.pointer none))
  (Value.pointer p) (Value.pointer none) b ∧
  cnd b
  (cnd (n == 2)
  (Calls Proofs.Try.prog 9 #[] w' fun (e : Ending) (w' : World) =>
  ∃ (b : Bool),
  e = Ending.returned (Value.bool b) ∧ R (Ending.returned (Value.bool b)) w')
  (R (Ending.returned (Value.bool false)) w'))
  (R (Ending.returned (Value.bool false)) w'))
  (∃ (b : Bool),
  EqRuns Proofs.Try.prog BinOp.eql 28 (Operand.tmp 45) (Operand.const (Value.pointer none))
  (Value.pointer p) (Value.pointer none) b ∧
  cnd b
  (∃ (b : Bool),
  EqRuns Proofs.Try.prog BinOp.eql 28 (Operand.tmp 48)
  (Operand.const (Value.pointer none)) (Value.pointer p) (Value.pointer none) b ∧
  cnd b
  (cnd (n == 2)
  (Calls Proofs.Try.prog 9 #[] w' fun (e : Ending) (w' : World) =>
  ∃ (b : Bool),
  e = Ending.returned (Value.bool b) ∧ R (Ending.returned (Value.bool b)) w')
  (R (Ending.returned (Value.bool false)) w'))
  (R (Ending.returned (Value.bool false)) w'))
  (∃ (I : List Value → World → Prop),
  ∃ (μ : List Value → World → Nat),
  I [Value.int IntKind.i64 0] w' ∧
  ∀ (g : Nat → Value) (i : Int) (w' : World),
  I [Value.int IntKind.i64 i] w' →
  cnd (decide (i < (↑steps'n : Int)))
  ((0 ≤ i ∧ i < (↑steps'n : Int)) ∧
  Deref steps' fun (a : Addr) =>
  ∃ (n : Int),
  w'.cell? (a.add (i.toNat * 6)) = some (Value.int IntKind.i64 n) ∧
  cnd (n == 3)
  (∃ (C : World → Prop),
  (∀ (w'_1 : World), Later w' w'_1 → C w'_1) ∧
  ∀ (w'_1 : World),
  Later w' w'_1 →
  (0 ≤ i ∧ i < (↑steps'n : Int)) ∧
  Deref steps' fun (a : Addr) =>
  ∃ (n : Int),
  (∀ (w' : World),
  C w' →
  w'.cell? ((a.add (i.toNat * 6)).add 1) =
  some (Value.int IntKind.u64 n)) ∧
  (0 ≤ i ∧ i < (↑steps'n : Int)) ∧
  Deref steps' fun (a : Addr) =>
  ∃ (s : ByteArray),
  (∀ (w' : World),
  C w' →
  w'.cell?
  ((a.add (i.toNat * 6)).add 4) =
  some (Value.string s)) ∧
  (0 ≤ i ∧ i < (↑steps'n : Int)) ∧
  Deref steps' fun (a : Addr) =>
  ∃ (b : Bool),
  (∀ (w' : World),
  C w' →
  w'.cell?
  ((a.add (i.toNat * 6)).add
  5) =
  some (Value.bool b)) ∧
  Calls Proofs.Try.prog 11
  #[Value.pointer p,
  Value.int IntKind.u64 n,
  Value.string s, Value.bool b]
  w'_1
  fun (e : Ending)
  (w'_2 : World) =>
  ∃ (n : Int),
  e =
  Ending.returned
  (Value.int IntKind.i64
  n) ∧
  C w'_2 ∧
  Goes I μ
  [Value.int IntKind.i64
  i]
  w'
  [Value.int IntKind.i64
  (IntKind.i64.wrap
  (i + 1))]
  w'_2)
  (∃ (C : World → Prop),
  (∀ (w'_1 : World), Later w' w'_1 → C w'_1) ∧
  ∀ (w'_1 : World),
  Later w' w'_1 →
  (0 ≤ i ∧ i < (↑steps'n : Int)) ∧
  Deref steps' fun (a : Addr) =>
  ∃ (n : Int),
  (∀ (w' : World),
  C w' →
  w'.cell? ((a.add (i.toNat * 6)).add 1) =
  some (Value.int IntKind.u64 n)) ∧
  (0 ≤ i ∧ i < (↑steps'n : Int)) ∧
  Deref steps' fun (a : Addr) =>
  ∃ (n_1 : Int),
  (∀ (w' : World),
  C w' →
  w'.cell?
  ((a.add (i.toNat * 6)).add 2) =
  some (Value.int IntKind.i64 n_1)) ∧
  (0 ≤ i ∧ i < (↑steps'n : Int)) ∧
  Deref steps' fun (a : Addr) =>
  ∃ (n_2 : Int),
  (∀ (w' : World),
  C w' →
  w'.cell?
  ((a.add (i.toNat * 6)).add
  3) =
  some
  (Value.int IntKind.u64
  n_2)) ∧
  (0 ≤ i ∧ i < (↑steps'n : Int)) ∧
  Deref steps' fun (a : Addr) =>
  ∃ (b : Bool),
  (∀ (w' : World),
  C w' →
  w'.cell?
  ((a.add
  (i.toNat *
  6)).add
  5) =
  some
  (Value.bool b)) ∧
  Calls Proofs.Try.prog 12
  #[Value.pointer p,
  Value.int IntKind.u64
  n,
  Value.int IntKind.i64
  n_1,
  Value.int IntKind.u64
  n_2,
  Value.bool b]
  w'_1
  fun (e : Ending)
  (w'_2 : World) =>
  ∃ (n : Int),
  e =
  Ending.returned
  (Value.int
  IntKind.i64
  n) ∧
  C w'_2 ∧
  Goes I μ
  [Value.int
  IntKind.i64
  i]
  w'
  [Value.int
  IntKind.i64
  (IntKind.i64.wrap
  (i + 1))]
  w'_2))
  (Calls Proofs.Try.prog 13
  #[Value.pointer p, Value.int IntKind.u64 other', Value.int IntKind.i64 1]
  w' fun (e : Ending) (w' : World) =>
  ∃ (n : Int),
  ∃ (b : Bool),
  ∃ (n_1 : Int),
  e =
  Ending.returned
  (Value.tuple
  #[Value.int IntKind.u64 n, Value.bool b,
  Value.int IntKind.i64 n_1]) ∧
  Calls Proofs.Try.prog 12
  #[Value.pointer p, Value.int IntKind.u64 at',
  Value.int IntKind.i64 n', Value.int IntKind.u64 v',
  Value.bool taint']
  w' fun (e : Ending) (w' : World) =>
  ∃ (n_2 : Int),
  e = Ending.returned (Value.int IntKind.i64 n_2) ∧
  Calls Proofs.Try.prog 13
  #[Value.pointer p, Value.int IntKind.u64 other',
  Value.int IntKind.i64 1]
  w' fun (e : Ending) (w' : World) =>
  ∃ (n_3 : Int),
  ∃ (b_1 : Bool),
  ∃ (n_4 : Int),
  e =
  Ending.returned
  (Value.tuple
  #[Value.int IntKind.u64 n_3, Value.bool b_1,
  Value.int IntKind.i64 n_4]) ∧
  cnd (n_2 == 0)
  (cnd (decide (other' ≥ at'))
  (cnd (n_1 != n_4)
  (R (Ending.returned (Value.bool false)) w')
  (cnd
  (!decide
  (IntKind.u64.wrap (other' - at') <
  IntKind.u64.wrap n'))
  (cnd (n != n_3)
  (R (Ending.returned (Value.bool false))
  w')
  (cnd (!b == b_1)
  (R
  (Ending.returned (Value.bool false))
  w')
  (cnd
  (decide
  (IntKind.u64.wrap (other' - at') <
  IntKind.u64.wrap n'))
  (cnd
  (decide
  (IntKind.u64.wrap
  (8 *
  IntKind.u64.wrap
  (other' - at')) <
  0))
  False
  (cnd
  (n_3 !=
  (v'.fdiv
  (2 ^
  min
  (IntKind.u64.wrap
  (8 *
  IntKind.u64.wrap
  (other' -
  at'))).toNat
  64)).tmod
  256)
  (R
  (Ending.returned
  (Value.bool false))
  w')
  (cnd (!b_1 == taint')
  (R
  (Ending.returned
  (Value.bool false))
  w')
  (cnd (n_2 != 0)
  (cnd (n_2 == 40)
  (Calls Proofs.Try.prog 9
  #[] w'
  fun (e : Ending)
  (w' : World) =>
  ∃ (b : Bool),
  e =
  Ending.returned
  (Value.bool b) ∧
  R
  (Ending.returned
  (Value.bool b))
  w')
  (cnd (n_2 == 2)
  (cnd (decide (n' < 1))
  (Calls Proofs.Try.prog
  9 #[] w'
  fun (e : Ending)
  (w' : World) =>
  ∃ (b : Bool),
  e =
  Ending.returned
  (Value.bool
  b) ∧
  R
  (Ending.returned
  (Value.bool
  b))
  w')
  (cnd (decide (n' > 8))
  (Calls
  Proofs.Try.prog 9
  #[] w'
  fun (e : Ending)
  (w' : World) =>
  ∃ (b : Bool),
  e =
  Ending.returned
  (Value.bool
  b) ∧
  R
  (Ending.returned
  (Value.bool
  b))
  w')
  (R
  (Ending.returned
  (Value.bool
  false))
  w')))
  (R
  (Ending.returned
  (Value.bool false))
  w')))
  (Calls Proofs.Try.prog 13
  #[Value.pointer p,
  Value.int IntKind.u64
  at',
  Value.int IntKind.i64
  n']
  w'
  fun (e : Ending)
  (w' : World) =>
  ∃ (n : Int),
  ∃ (b : Bool),
  ∃ (n_5 : Int),
  e =
  Ending.returned
  (Value.tuple
  #[Value.int
  IntKind.u64
  n,
  Value.bool
  b,
  Value.int
  IntKind.i64
  n_5]) ∧
  cnd
  (decide
  (n' < 8))
  (cnd
  (decide
  (IntKind.u64.wrap
  (IntKind.i64.wrap
  (8 *
  n')) <
  0))
  False
  (cnd
  (decide
  (IntKind.u64.wrap
  (1 *
  2 ^
  min
  (IntKind.u64.wrap
  (IntKind.i64.wrap
  (8 *
  n'))).toNat
  64) =
  0))
  False
  (cnd
  (n ==
  v'.tmod
  (IntKind.u64.wrap
  (1 *
  2 ^
  min
  (IntKind.u64.wrap
  (IntKind.i64.wrap
  (8 *
  n'))).toNat
  64)))
  (cnd
  (b ==
  taint')
  (cnd
  (n_5 ==
  0)
  (Calls
  Proofs.Try.prog
  9
  #[]
  w'
  fun
  (e :
  Ending)
  (w' :
  World) =>
  ∃ (b
  :
  Bool),
  e =
  Ending.returned
  (Value.bool
  b) ∧
  R
  (Ending.returned
  (Value.bool
  b))
  w')
  (R
  (Ending.returned
  (Value.bool
  false))
  w'))
  (R
  (Ending.returned
  (Value.bool
  false))
  w'))
  (R
  (Ending.returned
  (Value.bool
  false))
  w'))))
  (cnd (n == v')
  (cnd
  (b ==
  taint')
  (cnd
  (n_5 == 0)
  (Calls
  Proofs.Try.prog
  9 #[] w'
  fun
  (e :
  Ending)
  (w' :
  World) =>
  ∃ (b :
  Bool),
  e =
  Ending.returned
  (Value.bool
  b) ∧
  R
  (Ending.returned
  (Value.bool
  b))
  w')
  (R
  (Ending.returned
  (Value.bool
  false))
  w'))
  (R
  (Ending.returned
  (Value.bool
  false))
  w'))
  (R
  (Ending.returned
  (Value.bool
  false))
  w')))))))
  (cnd (n_2 != 0)
  (cnd (n_2 == 40)
  (Calls Proofs.Try.prog 9 #[] w'
  fun (e : Ending)
  (w' : World) =>
  ∃ (b : Bool),
  e =
  Ending.returned
  (Value.bool b) ∧
  R
  (Ending.returned
  (Value.bool b))
  w')
  (cnd (n_2 == 2)
  (cnd (decide (n' < 1))
  (Calls Proofs.Try.prog 9 #[]
  w'
  fun (e : Ending)
  (w' : World) =>
  ∃ (b : Bool),
  e =
  Ending.returned
  (Value.bool b) ∧
  R
  (Ending.returned
  (Value.bool b))
  w')
  (cnd (decide (n' > 8))
  (Calls Proofs.Try.prog 9
  #[] w'
  fun (e : Ending)
  (w' : World) =>
  ∃ (b : Bool),
  e =
  Ending.returned
  (Value.bool b) ∧
  R
  (Ending.returned
  (Value.bool b))
  w')
  (R
  (Ending.returned
  (Value.bool false))
  w')))
  (R
  (Ending.returned
  (Value.bool false))
  w')))
  (Calls Proofs.Try.prog 13
  #[Value.pointer p,
  Value.int IntKind.u64 at',
  Value.int IntKind.i64 n']
  w'
  fun (e : Ending) (w' : World) =>
  ∃ (n : Int),
  ∃ (b : Bool),
  ∃ (n_5 : Int),
  e =
  Ending.returned
  (Value.tuple
  #[Value.int
  IntKind.u64 n,
  Value.bool b,
  Value.int
  IntKind.i64
  n_5]) ∧
  cnd (decide (n' < 8))
  (cnd
  (decide
  (IntKind.u64.wrap
  (IntKind.i64.wrap
  (8 * n')) <
  0))
  False
  (cnd
  (decide
  (IntKind.u64.wrap
  (1 *
  2 ^
  min
  (IntKind.u64.wrap
  (IntKind.i64.wrap
  (8 *
  n'))).toNat
  64) =
  0))
  False
  (cnd
  (n ==
  v'.tmod
  (IntKind.u64.wrap
  (1 *
  2 ^
  min
  (IntKind.u64.wrap
  (IntKind.i64.wrap
  (8 *
  n'))).toNat
  64)))
  (cnd
  (b == taint')
  (cnd
  (n_5 == 0)
  (Calls
  Proofs.Try.prog
  9 #[] w'
  fun
  (e :
  Ending)
  (w' :
  World) =>
  ∃ (b :
  Bool),
  e =
  Ending.returned
  (Value.bool
  b) ∧
  R
  (Ending.returned
  (Value.bool
  b))
  w')
  (R
  (Ending.returned
  (Value.bool
  false))
  w'))
  (R
  (Ending.returned
  (Value.bool
  false))
  w'))
  (R
  (Ending.returned
  (Value.bool
  false))
  w'))))
  (cnd (n == v')
  (cnd (b == taint')
  (cnd (n_5 == 0)
  (Calls
  Proofs.Try.prog
  9 #[] w'
  fun
  (e : Ending)
  (w' :
  World) =>
  ∃ (b : Bool),
  e =
  Ending.returned
  (Value.bool
  b) ∧
  R
  (Ending.returned
  (Value.bool
  b))
  w')
  (R
  (Ending.returned
  (Value.bool
  false))
  w'))
  (R
  (Ending.returned
  (Value.bool
  false))
  w'))
  (R
  (Ending.returned
  (Value.bool
  false))
  w')))))))
  (cnd
  (decide
  (IntKind.u64.wrap (other' - at') <
  IntKind.u64.wrap n'))
  (cnd
  (decide
  (IntKind.u64.wrap
  (8 *
  IntKind.u64.wrap
  (other' - at')) <
  0))
  False
  (cnd
  (n_3 !=
  (v'.fdiv
  (2 ^
  min
  (IntKind.u64.wrap
  (8 *
  IntKind.u64.wrap
  (other' -
  at'))).toNat
  64)).tmod
  256)
  (R
  (Ending.returned
  (Value.bool false))
  w')
  (cnd (!b_1 == taint')
  (R
  (Ending.returned
  (Value.bool false))
  w')
  (cnd (n_2 != 0)
  (cnd (n_2 == 40)
  (Calls Proofs.Try.prog 9 #[]
  w'
  fun (e : Ending)
  (w' : World) =>
  ∃ (b : Bool),
  e =
  Ending.returned
  (Value.bool b) ∧
  R
  (Ending.returned
  (Value.bool b))
  w')
  (cnd (n_2 == 2)
  (cnd (decide (n' < 1))
  (Calls Proofs.Try.prog 9
  #[] w'
  fun (e : Ending)
  (w' : World) =>
  ∃ (b : Bool),
  e =
  Ending.returned
  (Value.bool b) ∧
  R
  (Ending.returned
  (Value.bool b))
  w')
  (cnd (decide (n' > 8))
  (Calls Proofs.Try.prog 9
  #[] w'
  fun (e : Ending)
  (w' : World) =>
  ∃ (b : Bool),
  e =
  Ending.returned
  (Value.bool
  b) ∧
  R
  (Ending.returned
  (Value.bool
  b))
  w')
  (R
  (Ending.returned
  (Value.bool false))
  w')))
  (R
  (Ending.returned
  (Value.bool false))
  w')))
  (Calls Proofs.Try.prog 13
  #[Value.pointer p,
  Value.int IntKind.u64 at',
  Value.int IntKind.i64 n']
  w'
  fun (e : Ending)
  (w' : World) =>
  ∃ (n : Int),
  ∃ (b : Bool),
  ∃ (n_5 : Int),
  e =
  Ending.returned
  (Value.tuple
  #[Value.int
  IntKind.u64
  n,
  Value.bool b,
  Value.int
  IntKind.i64
  n_5]) ∧
  cnd (decide (n' < 8))
  (cnd
  (decide
  (IntKind.u64.wrap
  (IntKind.i64.wrap
  (8 *
  n')) <
  0))
  False
  (cnd
  (decide
  (IntKind.u64.wrap
  (1 *
  2 ^
  min
  (IntKind.u64.wrap
  (IntKind.i64.wrap
  (8 *
  n'))).toNat
  64) =
  0))
  False
  (cnd
  (n ==
  v'.tmod
  (IntKind.u64.wrap
  (1 *
  2 ^
  min
  (IntKind.u64.wrap
  (IntKind.i64.wrap
  (8 *
  n'))).toNat
  64)))
  (cnd
  (b ==
  taint')
  (cnd
  (n_5 == 0)
  (Calls
  Proofs.Try.prog
  9 #[] w'
  fun
  (e :
  Ending)
  (w' :
  World) =>
  ∃ (b :
  Bool),
  e =
  Ending.returned
  (Value.bool
  b) ∧
  R
  (Ending.returned
  (Value.bool
  b))
  w')
  (R
  (Ending.returned
  (Value.bool
  false))
  w'))
  (R
  (Ending.returned
  (Value.bool
  false))
  w'))
  (R
  (Ending.returned
  (Value.bool
  false))
  w'))))
  (cnd (n == v')
  (cnd (b == taint')
  (cnd (n_5 == 0)
  (Calls
  Proofs.Try.prog
  9 #[] w'
  fun
  (e :
  Ending)
  (w' :
  World) =>
  ∃ (b :
  Bool),
  e =
  Ending.returned
  (Value.bool
  b) ∧
  R
  (Ending.returned
  (Value.bool
  b))
  w')
  (R
  (Ending.returned
  (Value.bool
  false))
  w'))
  (R
  (Ending.returned
  (Value.bool
  false))
  w'))
  (R
  (Ending.returned
  (Value.bool
  false))
  w')))))))
  (cnd (n_2 != 0)
  (cnd (n_2 == 40)
  (Calls Proofs.Try.prog 9 #[] w'
  fun (e : Ending) (w' : World) =>
  ∃ (b : Bool),
  e =
  Ending.returned
  (Value.bool b) ∧
  R
  (Ending.returned
  (Value.bool b))
  w')
  (cnd (n_2 == 2)
  (cnd (decide (n' < 1))
  (Calls Proofs.Try.prog 9 #[] w'
  fun (e : Ending)
  (w' : World) =>
  ∃ (b : Bool),
  e =
  Ending.returned
  (Value.bool b) ∧
  R
  (Ending.returned
  (Value.bool b))
  w')
  (cnd (decide (n' > 8))
  (Calls Proofs.Try.prog 9 #[]
  w'
  fun (e : Ending)
  (w' : World) =>
  ∃ (b : Bool),
  e =
  Ending.returned
  (Value.bool b) ∧
  R
  (Ending.returned
  (Value.bool b))
  w')
  (R
  (Ending.returned
  (Value.bool false))
  w')))
  (R
  (Ending.returned
  (Value.bool false))
  w')))
  (Calls Proofs.Try.prog 13
  #[Value.pointer p,
  Value.int IntKind.u64 at',
  Value.int IntKind.i64 n']
  w' fun (e : Ending) (w' : World) =>
  ∃ (n : Int),
  ∃ (b : Bool),
  ∃ (n_5 : Int),
  e =
  Ending.returned
  (Value.tuple
  #[Value.int
  IntKind.u64 n,
  Value.bool b,
  Value.int
  IntKind.i64
  n_5]) ∧
  cnd (decide (n' < 8))
  (cnd
  (decide
  (IntKind.u64.wrap
  (IntKind.i64.wrap
  (8 * n')) <
  0))
  False
  (cnd
  (decide
  (IntKind.u64.wrap
  (1 *
  2 ^
  min
  (IntKind.u64.wrap
  (IntKind.i64.wrap
  (8 *
  n'))).toNat
  64) =
  0))
  False
  (cnd
  (n ==
  v'.tmod
  (IntKind.u64.wrap
  (1 *
  2 ^
  min
  (IntKind.u64.wrap
  (IntKind.i64.wrap
  (8 *
  n'))).toNat
  64)))
  (cnd (b == taint')
  (cnd (n_5 == 0)
  (Calls
  Proofs.Try.prog
  9 #[] w'
  fun
  (e : Ending)
  (w' :
  World) =>
  ∃ (b : Bool),
  e =
  Ending.returned
  (Value.bool
  b) ∧
  R
  (Ending.returned
  (Value.bool
  b))
  w')
  (R
  (Ending.returned
  (Value.bool
  false))
  w'))
  (R
  (Ending.returned
  (Value.bool
  false))
  w'))
  (R
  (Ending.returned
  (Value.bool
  false))
  w'))))
  (cnd (n == v')
  (cnd (b == taint')
  (cnd (n_5 == 0)
  (Calls
  Proofs.Try.prog 9
  #[] w'
  fun (e : Ending)
  (w' : World) =>
  ∃ (b : Bool),
  e =
  Ending.returned
  (Value.bool
  b) ∧
  R
  (Ending.returned
  (Value.bool
  b))
  w')
  (R
  (Ending.returned
  (Value.bool
  false))
  w'))
  (R
  (Ending.returned
  (Value.bool
  false))
  w'))
  (R
  (Ending.returned
  (Value.bool false))
  w')))))))
  (cnd (n_1 != n_4)
  (R (Ending.returned (Value.bool false)) w')
  (cnd (n != n_3)
  (R (Ending.returned (Value.bool false))
  w')
  (cnd (!b == b_1)
  (R (Ending.returned (Value.bool false))
  w')
  (cnd (n_2 != 0)
  (cnd (n_2 == 40)
  (Calls Proofs.Try.prog 9 #[] w'
  fun (e : Ending) (w' : World) =>
  ∃ (b : Bool),
  e =
  Ending.returned
  (Value.bool b) ∧
  R
  (Ending.returned
  (Value.bool b))
  w')
  (cnd (n_2 == 2)
  (cnd (decide (n' < 1))
  (Calls Proofs.Try.prog 9 #[] w'
  fun (e : Ending)
  (w' : World) =>
  ∃ (b : Bool),
  e =
  Ending.returned
  (Value.bool b) ∧
  R
  (Ending.returned
  (Value.bool b))
  w')
  (cnd (decide (n' > 8))
  (Calls Proofs.Try.prog 9 #[]
  w'
  fun (e : Ending)
  (w' : World) =>
  ∃ (b : Bool),
  e =
  Ending.returned
  (Value.bool b) ∧
  R
  (Ending.returned
  (Value.bool b))
  w')
  (R
  (Ending.returned
  (Value.bool false))
  w')))
  (R
  (Ending.returned
  (Value.bool false))
  w')))
  (Calls Proofs.Try.prog 13
  #[Value.pointer p,
  Value.int IntKind.u64 at',
  Value.int IntKind.i64 n']
  w' fun (e : Ending) (w' : World) =>
  ∃ (n : Int),
  ∃ (b : Bool),
  ∃ (n_5 : Int),
  e =
  Ending.returned
  (Value.tuple
  #[Value.int
  IntKind.u64 n,
  Value.bool b,
  Value.int
  IntKind.i64
  n_5]) ∧
  cnd (decide (n' < 8))
  (cnd
  (decide
  (IntKind.u64.wrap
  (IntKind.i64.wrap
  (8 * n')) <
  0))
  False
  (cnd
  (decide
  (IntKind.u64.wrap
  (1 *
  2 ^
  min
  (IntKind.u64.wrap
  (IntKind.i64.wrap
  (8 *
  n'))).toNat
  64) =
  0))
  False
  (cnd
  (n ==
  v'.tmod
  (IntKind.u64.wrap
  (1 *
  2 ^
  min
  (IntKind.u64.wrap
  (IntKind.i64.wrap
  (8 *
  n'))).toNat
  64)))
  (cnd (b == taint')
  (cnd (n_5 == 0)
  (Calls
  Proofs.Try.prog
  9 #[] w'
  fun
  (e : Ending)
  (w' :
  World) =>
  ∃ (b : Bool),
  e =
  Ending.returned
  (Value.bool
  b) ∧
  R
  (Ending.returned
  (Value.bool
  b))
  w')
  (R
  (Ending.returned
  (Value.bool
  false))
  w'))
  (R
  (Ending.returned
  (Value.bool
  false))
  w'))
  (R
  (Ending.returned
  (Value.bool
  false))
  w'))))
  (cnd (n == v')
  (cnd (b == taint')
  (cnd (n_5 == 0)
  (Calls
  Proofs.Try.prog 9
  #[] w'
  fun (e : Ending)
  (w' : World) =>
  ∃ (b : Bool),
  e =
  Ending.returned
  (Value.bool
  b) ∧
  R
  (Ending.returned
  (Value.bool
  b))
  w')
  (R
  (Ending.returned
  (Value.bool
  false))
  w'))
  (R
  (Ending.returned
  (Value.bool
  false))
  w'))
  (R
  (Ending.returned
  (Value.bool false))
  w'))))))))
  (cnd (n_1 != n_4)
  (R (Ending.returned (Value.bool false)) w')
  (cnd (n != n_3)
  (R (Ending.returned (Value.bool false)) w')
  (cnd (!b == b_1)
  (R (Ending.returned (Value.bool false))
  w')
  (cnd (n_2 != 0)
  (cnd (n_2 == 40)
  (Calls Proofs.Try.prog 9 #[] w'
  fun (e : Ending) (w' : World) =>
  ∃ (b : Bool),
  e =
  Ending.returned
  (Value.bool b) ∧
  R
  (Ending.returned
  (Value.bool b))
  w')
  (cnd (n_2 == 2)
  (cnd (decide (n' < 1))
  (Calls Proofs.Try.prog 9 #[] w'
  fun (e : Ending) (w' : World) =>
  ∃ (b : Bool),
  e =
  Ending.returned
  (Value.bool b) ∧
  R
  (Ending.returned
  (Value.bool b))
  w')
  (cnd (decide (n' > 8))
  (Calls Proofs.Try.prog 9 #[] w'
  fun (e : Ending)
  (w' : World) =>
  ∃ (b : Bool),
  e =
  Ending.returned
  (Value.bool b) ∧
  R
  (Ending.returned
  (Value.bool b))
  w')
  (R
  (Ending.returned
  (Value.bool false))
  w')))
  (R
  (Ending.returned
  (Value.bool false))
  w')))
  (Calls Proofs.Try.prog 13
  #[Value.pointer p,
  Value.int IntKind.u64 at',
  Value.int IntKind.i64 n']
  w' fun (e : Ending) (w' : World) =>
  ∃ (n : Int),
  ∃ (b : Bool),
  ∃ (n_5 : Int),
  e =
  Ending.returned
  (Value.tuple
  #[Value.int IntKind.u64
  n,
  Value.bool b,
  Value.int IntKind.i64
  n_5]) ∧
  cnd (decide (n' < 8))
  (cnd
  (decide
  (IntKind.u64.wrap
  (IntKind.i64.wrap
  (8 * n')) <
  0))
  False
  (cnd
  (decide
  (IntKind.u64.wrap
  (1 *
  2 ^
  min
  (IntKind.u64.wrap
  (IntKind.i64.wrap
  (8 *
  n'))).toNat
  64) =
  0))
  False
  (cnd
  (n ==
  v'.tmod
  (IntKind.u64.wrap
  (1 *
  2 ^
  min
  (IntKind.u64.wrap
  (IntKind.i64.wrap
  (8 *
  n'))).toNat
  64)))
  (cnd (b == taint')
  (cnd (n_5 == 0)
  (Calls
  Proofs.Try.prog
  9 #[] w'
  fun (e : Ending)
  (w' :
  World) =>
  ∃ (b : Bool),
  e =
  Ending.returned
  (Value.bool
  b) ∧
  R
  (Ending.returned
  (Value.bool
  b))
  w')
  (R
  (Ending.returned
  (Value.bool
  false))
  w'))
  (R
  (Ending.returned
  (Value.bool
  false))
  w'))
  (R
  (Ending.returned
  (Value.bool
  false))
  w'))))
  (cnd (n == v')
  (cnd (b == taint')
  (cnd (n_5 == 0)
  (Calls Proofs.Try.prog
  9 #[] w'
  fun (e : Ending)
  (w' : World) =>
  ∃ (b : Bool),
  e =
  Ending.returned
  (Value.bool
  b) ∧
  R
  (Ending.returned
  (Value.bool
  b))
  w')
  (R
  (Ending.returned
  (Value.bool
  false))
  w'))
  (R
  (Ending.returned
  (Value.bool false))
  w'))
  (R
  (Ending.returned
  (Value.bool false))
  w'))))))))))))
theorem law04_MemKeeps.vc_eq (l' : Option Addr) (l'n : Nat) (l'c : Nat) (steps' : Option Addr) (steps'n : Nat) (steps'c : Nat) (at' : Int) (n' : Int) (v' : Int) (taint' : Bool) (other' : Int) (w : World) (R : Ending → World → Prop) : fnV Try.prog law04_MemKeeps.H 3 [Value.slice l' l'n l'c, Value.slice steps' steps'n steps'c, Value.int IntKind.u64 at', Value.int IntKind.i64 n',
  Value.int IntKind.u64 v', Value.bool taint', Value.int IntKind.u64 other'] w R = law04_MemKeeps.vc l' l'n l'c steps' steps'n steps'c at' n' v' taint' other' w R := by kernel_rfl
theorem law04_MemKeeps.calls {l' : Option Addr} {l'n : Nat} {l'c : Nat} {steps' : Option Addr} {steps'n : Nat} {steps'c : Nat} {at' : Int} {n' : Int} {v' : Int} {taint' : Bool} {other' : Int} {w : World} {R : Ending → World → Prop} (h : law04_MemKeeps.vc l' l'n l'c steps' steps'n steps'c at' n' v' taint' other' w R) : Calls Try.prog 3 ([Value.slice l' l'n l'c, Value.slice steps' steps'n steps'c, Value.int IntKind.u64 at', Value.int IntKind.i64 n',
  Value.int IntKind.u64 v', Value.bool taint', Value.int IntKind.u64 other'] : List Value).toArray w R := calls_of_eq (law04_MemKeeps.vc_eq l' l'n l'c steps' steps'n steps'c at' n' v' taint' other' w R) h

end Go.Proofs.Ytngkifnknlginaa
