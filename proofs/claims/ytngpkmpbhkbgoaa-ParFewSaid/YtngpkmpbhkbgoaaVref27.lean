/-
The explicit conditions of some functions of the program, printed by this repo's own program over VcTop: what is proved is that each is the condition.
Conditions: none.
-/
import Derived.Test.YtngpkmpbhkbgoaaVcTop
import Derived.Test.YtngpkmpbhkbgoaaProg
namespace Go.Proofs.Ytngpkmpbhkbgoaa
open Go Go.Vc Go.RowKit
set_option linter.unusedVariables false
set_option maxRecDepth 100000

/- function 8: sacristy/sacristyref27.Order -/
abbrev ref27_Order.N : FuncId := 8
def ref27_Order.H : Hints := { loops := [(6, [(7, .one .slice), (9, .one (.int .i64))]), (11, [(7, .one .slice), (8, .one .slice), (10, .one (.int .i64))]), (13, [(11, .one (.int .i64))]), (22, [(13, .one (.int .i64))])], conds := [(26106, [])], blocks := [(4, [(11, .one (.int .i64))])] }
def ref27_Order.vc (l' : Option Addr) (l'n : Nat) (l'c : Nat) (spare'_0 : Bool) (spare'_1 : Int) (w : World) (R : Ending → World → Prop) : Prop :=
  ∀ (w' : World),
  w' = w.alloc (Obj.cells #[Value.bool spare'_0, Value.int IntKind.i64 spare'_1] 24) →
  Calls Proofs.Try.prog 11 #[Value.slice l' l'n l'c] w' fun (e : Ending) (w' : World) =>
  ∃ (b : Bool),
  e = Ending.returned (Value.bool b) ∧
  cnd (!b)
  (R (Ending.returned (Value.tuple #[Value.slice none 0 0, Value.int IntKind.i64 0, Value.int IntKind.i64 2]))
  w')
  (∃ (b : Bool),
  ∃ (n : Int),
  (w'.cell? (Addr.mk w.heap.size 0 none) = some (Value.bool b) ∧
  w'.cell? (Addr.mk w.heap.size 1 none) = some (Value.int IntKind.i64 n) ∧ True) ∧
  Calls Proofs.Try.prog 12 #[Value.slice l' l'n l'c, Value.agg #[Value.bool b, Value.int IntKind.i64 n]]
  w' fun (e : Ending) (w' : World) =>
  ∃ (b : Bool),
  e = Ending.returned (Value.bool b) ∧
  cnd (!b)
  (R
  (Ending.returned
  (Value.tuple #[Value.slice none 0 0, Value.int IntKind.i64 0, Value.int IntKind.i64 2]))
  w')
  (∃ (I : List Value → World → Prop),
  ∃ (μ : List Value → World → Nat),
  I [Value.slice none 0 0, Value.int IntKind.i64 0] w' ∧
  ∀ (g : Nat → Value) (left : Option Addr) (leftn leftc : Nat) (i : Int) (w' : World),
  I [Value.slice left leftn leftc, Value.int IntKind.i64 i] w' →
  cnd (decide (i < (↑l'n : Int)))
  ((0 ≤ i ∧ i < (↑l'n : Int)) ∧
  Deref l' fun (a : Addr) =>
  ∃ (b : Bool),
  ∃ (n : Int),
  (∀ (w'_1 : World),
  Later w' w'_1 →
  w'_1.cell? (a.add (i.toNat * 4)) = some (Value.bool b) ∧
  w'_1.cell? ((a.add (i.toNat * 4)).add 1) =
  some (Value.int IntKind.i64 n) ∧
  True) ∧
  (0 ≤ i ∧ i < (↑l'n : Int)) ∧
  Deref l' fun (a : Addr) =>
  ∃ (b_1 : Bool),
  ∃ (n_1 : Int),
  (∀ (w'_1 : World),
  Later w' w'_1 →
  w'_1.cell? ((a.add (i.toNat * 4)).add 2) =
  some (Value.bool b_1) ∧
  w'_1.cell? (((a.add (i.toNat * 4)).add 2).add 1) =
  some (Value.int IntKind.i64 n_1) ∧
  True) ∧
  ∃ (b_2 : Bool),
  EqRuns Proofs.Try.prog BinOp.neq 24 (Operand.tmp 34)
  (Operand.tmp 39)
  (Value.agg #[Value.bool b, Value.int IntKind.i64 n])
  (Value.agg #[Value.bool b_1, Value.int IntKind.i64 n_1])
  b_2 ∧
  ∀ (w'_1 : World),
  Later w' w'_1 →
  cnd b_2
  ((0 ≤ i ∧ i < (↑l'n : Int)) ∧
  Deref l' fun (a : Addr) =>
  ∃ (b : Bool),
  ∃ (n : Int),
  ∃ (b_3 : Bool),
  ∃ (n_2 : Int),
  (w'_1.cell? (a.add (i.toNat * 4)) =
  some (Value.bool b) ∧
  w'_1.cell?
  ((a.add (i.toNat * 4)).add
  1) =
  some (Value.int IntKind.i64 n) ∧
  w'_1.cell?
  ((a.add (i.toNat * 4)).add
  2) =
  some (Value.bool b_3) ∧
  w'_1.cell?
  ((a.add (i.toNat * 4)).add
  3) =
  some
  (Value.int IntKind.i64
  n_2) ∧
  True) ∧
  ∀ (w'_2 : World),
  w'_2 =
  w'_1.alloc
  (Obj.cells
  #[Value.bool b,
  Value.int IntKind.i64 n,
  Value.bool b_3,
  Value.int IntKind.i64 n_2]
  39) →
  RunsV Proofs.Try.prog
  (Builtin.append_ #[22, 22] 22
  #[Value.slice left leftn
  leftc,
  Value.slice
  (some
  (Addr.mk w'_1.heap.size
  0 none))
  1 1])
  w'_2
  fun (v : Value)
  (w'_3 : World) =>
  ∃ (p : Option Addr),
  ∃ (n : Nat),
  ∃ (c : Nat),
  v = Value.slice p n c ∧
  Goes I μ
  [Value.slice left
  leftn leftc,
  Value.int
  IntKind.i64 i]
  w'
  [Value.slice p n c,
  Value.int
  IntKind.i64
  (IntKind.i64.wrap
  (i + 1))]
  w'_3)
  (Goes I μ
  [Value.slice left leftn leftc,
  Value.int IntKind.i64 i]
  w'
  [Value.slice left leftn leftc,
  Value.int IntKind.i64
  (IntKind.i64.wrap (i + 1))]
  w'_1))
  (∃ (I : List Value → World → Prop),
  ∃ (μ : List Value → World → Nat),
  I
  [Value.slice left leftn leftc, Value.slice none 0 0,
  Value.int IntKind.i64 0]
  w' ∧
  ∀ (g : Nat → Value) (left : Option Addr) (leftn leftc : Nat)
  (out : Option Addr) (outn outc : Nat) (rings : Int) (w' : World),
  I
  [Value.slice left leftn leftc, Value.slice out outn outc,
  Value.int IntKind.i64 rings]
  w' →
  cnd (decide ((↑leftn : Int) > 0))
  (∃ (J : List Value → World → Prop),
  (∃ (I : List Value → World → Prop),
  ∃ (μ : List Value → World → Nat),
  I [Value.int IntKind.i64 0] w' ∧
  ∀ (g : Nat → Value) (k : Int) (w' : World),
  I [Value.int IntKind.i64 k] w' →
  cnd (decide (k < (↑leftn : Int)))
  ((0 ≤ k ∧ k < (↑leftn : Int)) ∧
  Deref left fun (a : Addr) =>
  ∃ (b : Bool),
  ∃ (n : Int),
  (w'.cell? ((a.add (k.toNat * 4)).add 2) =
  some (Value.bool b) ∧
  w'.cell?
  (((a.add (k.toNat * 4)).add 2).add
  1) =
  some (Value.int IntKind.i64 n) ∧
  True) ∧
  Calls Proofs.Try.prog 21
  #[Value.slice left leftn leftc,
  Value.agg
  #[Value.bool b,
  Value.int IntKind.i64 n],
  Value.int IntKind.i64 k]
  w' fun (e : Ending) (w'_1 : World) =>
  ∃ (b : Bool),
  e = Ending.returned (Value.bool b) ∧
  cnd b
  (Goes I μ [Value.int IntKind.i64 k]
  w'
  [Value.int IntKind.i64
  (IntKind.i64.wrap (k + 1))]
  w'_1)
  (J [Value.int IntKind.i64 k] w'_1))
  (J [Value.int IntKind.i64 k] w')) ∧
  ∀ (g : Nat → Value) (k : Int) (w'_1 : World),
  J [Value.int IntKind.i64 k] w'_1 →
  cnd (decide (k < (↑leftn : Int)))
  ((0 ≤ k ∧ k < (↑leftn : Int)) ∧
  Deref left fun (a : Addr) =>
  ∃ (b : Bool),
  ∃ (n : Int),
  ∃ (b_1 : Bool),
  ∃ (n_1 : Int),
  (w'_1.cell? (a.add (k.toNat * 4)) =
  some (Value.bool b) ∧
  w'_1.cell? ((a.add (k.toNat * 4)).add 1) =
  some (Value.int IntKind.i64 n) ∧
  w'_1.cell? ((a.add (k.toNat * 4)).add 2) =
  some (Value.bool b_1) ∧
  w'_1.cell?
  ((a.add (k.toNat * 4)).add 3) =
  some (Value.int IntKind.i64 n_1) ∧
  True) ∧
  ∀ (w'_2 : World),
  w'_2 =
  w'_1.alloc
  (Obj.cells
  #[Value.bool b,
  Value.int IntKind.i64 n,
  Value.bool b_1,
  Value.int IntKind.i64 n_1]
  39) →
  RunsV Proofs.Try.prog
  (Builtin.append_ #[22, 22] 22
  #[Value.slice out outn outc,
  Value.slice
  (some
  (Addr.mk w'_1.heap.size 0 none))
  1 1])
  w'_2 fun (v : Value) (w'_3 : World) =>
  ∃ (p : Option Addr),
  ∃ (n : Nat),
  ∃ (c : Nat),
  v = Value.slice p n c ∧
  Calls Proofs.Try.prog 22
  #[Value.slice left leftn
  leftc,
  Value.int IntKind.i64 k]
  w'_3
  fun (e : Ending)
  (w'_4 : World) =>
  ∃ (p_1 : Option Addr),
  ∃ (n_2 : Nat),
  ∃ (c_1 : Nat),
  e =
  Ending.returned
  (Value.slice p_1
  n_2 c_1) ∧
  Goes I μ
  [Value.slice left
  leftn leftc,
  Value.slice out
  outn outc,
  Value.int
  IntKind.i64
  rings]
  w'
  [Value.slice p_1 n_2
  c_1,
  Value.slice p n c,
  Value.int
  IntKind.i64
  rings]
  w'_4)
  ((Int.le 0 0 ∧ 0 < (↑leftn : Int)) ∧
  Deref left fun (a : Addr) =>
  ∃ (b : Bool),
  ∃ (n : Int),
  (w'_1.cell? (a.add 2) = some (Value.bool b) ∧
  w'_1.cell? ((a.add 2).add 1) =
  some (Value.int IntKind.i64 n) ∧
  True) ∧
  ∀ (w'_2 : World),
  w'_2 =
  w'_1.alloc
  (Obj.cells
  #[Value.bool false,
  Value.int IntKind.i64 0]
  24) →
  SetsAt w'_2 (Addr.mk w'_1.heap.size 0 none) 0
  [Value.bool b, Value.int IntKind.i64 n] ∧
  ∀ (w'_3 : World),
  w'_3 =
  setCellsAt w'_2
  (Addr.mk w'_1.heap.size 0 none) 0
  [Value.bool b,
  Value.int IntKind.i64 n] →
  ∃ (b : Bool),
  ∃ (n : Int),
  (w'_3.cell?
  (Addr.mk w'_1.heap.size 0
  none) =
  some (Value.bool b) ∧
  w'_3.cell?
  (Addr.mk w'_1.heap.size 1
  none) =
  some
  (Value.int IntKind.i64
  n) ∧
  True) ∧
  ∃ (b_1 : Bool),
  ∃ (n_1 : Int),
  (w'_3.cell?
  (Addr.mk w.heap.size 0
  none) =
  some (Value.bool b_1) ∧
  w'_3.cell?
  (Addr.mk w.heap.size
  1 none) =
  some
  (Value.int
  IntKind.i64 n_1) ∧
  True) ∧
  ∀ (w'_4 : World),
  w'_4 =
  w'_3.alloc
  (Obj.cells
  #[Value.bool b,
  Value.int
  IntKind.i64 n,
  Value.bool b_1,
  Value.int
  IntKind.i64
  n_1]
  39) →
  RunsV Proofs.Try.prog
  (Builtin.append_
  #[22, 22] 22
  #[Value.slice out
  outn outc,
  Value.slice
  (some
  (Addr.mk
  w'_3.heap.size
  0 none))
  1 1])
  w'_4
  fun (v : Value)
  (w'_5 : World) =>
  ∃ (p : Option Addr),
  ∃ (n : Nat),
  ∃ (c : Nat),
  v =
  Value.slice
  p n c ∧
  ∃ (I_1 :
  List Value →
  World →
  Prop),
  ∃ (μ_1 :
  List
  Value →
  World →
  Nat),
  I_1
  [Value.int
  IntKind.i64
  0]
  w'_5 ∧
  ∀
  (g :
  Nat →
  Value)
  (i :
  Int)
  (w'_6 :
  World),
  I_1
  [Value.int
  IntKind.i64
  i]
  w'_6 →
  cnd
  (decide
  (i <
  (↑leftn :
  Int)))
  ((0 ≤
  i ∧
  i <
  (↑leftn :
  Int)) ∧
  Deref
  left
  fun
  (a :
  Addr) =>
  ∃
  (b
  :
  Bool),
  ∃
  (n
  :
  Int),
  ∃
  (b_2
  :
  Bool),
  ∃
  (n_2
  :
  Int),
  (w'_6.cell?
  (a.add
  (i.toNat *
  4)) =
  some
  (Value.bool
  b) ∧
  w'_6.cell?
  ((a.add
  (i.toNat *
  4)).add
  1) =
  some
  (Value.int
  IntKind.i64
  n) ∧
  w'_6.cell?
  ((a.add
  (i.toNat *
  4)).add
  2) =
  some
  (Value.bool
  b_2) ∧
  w'_6.cell?
  ((a.add
  (i.toNat *
  4)).add
  3) =
  some
  (Value.int
  IntKind.i64
  n_2) ∧
  True) ∧
  ∀
  (w' :
  World),
  w' =
  w'_6.alloc
  (Obj.cells
  #[Value.bool
  false,
  Value.int
  IntKind.i64
  0,
  Value.bool
  false,
  Value.int
  IntKind.i64
  0]
  39) →
  SetsAt
  w'
  (Addr.mk
  w'_6.heap.size
  0
  none)
  0
  [Value.bool
  b,
  Value.int
  IntKind.i64
  n,
  Value.bool
  b_2,
  Value.int
  IntKind.i64
  n_2] ∧
  ∀
  (w'_7 :
  World),
  w'_7 =
  setCellsAt
  w'
  (Addr.mk
  w'_6.heap.size
  0
  none)
  0
  [Value.bool
  b,
  Value.int
  IntKind.i64
  n,
  Value.bool
  b_2,
  Value.int
  IntKind.i64
  n_2] →
  ∃
  (b
  :
  Bool),
  ∃
  (n
  :
  Int),
  (w'_7.cell?
  (Addr.mk
  w'_6.heap.size
  0
  none) =
  some
  (Value.bool
  b) ∧
  w'_7.cell?
  (Addr.mk
  w'_6.heap.size
  1
  none) =
  some
  (Value.int
  IntKind.i64
  n) ∧
  True) ∧
  ∃
  (b_3
  :
  Bool),
  ∃
  (n_3
  :
  Int),
  (w'_7.cell?
  (Addr.mk
  w'_1.heap.size
  0
  none) =
  some
  (Value.bool
  b_3) ∧
  w'_7.cell?
  (Addr.mk
  w'_1.heap.size
  1
  none) =
  some
  (Value.int
  IntKind.i64
  n_3) ∧
  True) ∧
  ∃
  (b_4
  :
  Bool),
  EqRuns
  Proofs.Try.prog
  BinOp.eql
  24
  (Operand.tmp
  104)
  (Operand.tmp
  105)
  (Value.agg
  #[Value.bool
  b,
  Value.int
  IntKind.i64
  n])
  (Value.agg
  #[Value.bool
  b_3,
  Value.int
  IntKind.i64
  n_3])
  b_4 ∧
  ∃
  (J
  :
  List
  Value →
  World →
  Prop),
  cnd
  b_4
  (∃
  (b
  :
  Bool),
  ∃
  (n
  :
  Int),
  (w'_7.cell?
  (Addr.mk
  w.heap.size
  0
  none) =
  some
  (Value.bool
  b) ∧
  w'_7.cell?
  (Addr.mk
  w.heap.size
  1
  none) =
  some
  (Value.int
  IntKind.i64
  n) ∧
  True) ∧
  SetsAt
  w'_7
  (Addr.mk
  w'_6.heap.size
  0
  none)
  0
  [Value.bool
  b,
  Value.int
  IntKind.i64
  n] ∧
  ∀
  (w' :
  World),
  w' =
  setCellsAt
  w'_7
  (Addr.mk
  w'_6.heap.size
  0
  none)
  0
  [Value.bool
  b,
  Value.int
  IntKind.i64
  n] →
  J
  []
  w')
  (J
  []
  w'_7) ∧
  ∀
  (g :
  Nat →
  Value)
  (w' :
  World),
  J
  []
  w' →
  ∃
  (b
  :
  Bool),
  ∃
  (n
  :
  Int),
  ∃
  (b_5
  :
  Bool),
  ∃
  (n_4
  :
  Int),
  (w'.cell?
  (Addr.mk
  w'_6.heap.size
  0
  none) =
  some
  (Value.bool
  b) ∧
  w'.cell?
  (Addr.mk
  w'_6.heap.size
  1
  none) =
  some
  (Value.int
  IntKind.i64
  n) ∧
  w'.cell?
  (Addr.mk
  w'_6.heap.size
  2
  none) =
  some
  (Value.bool
  b_5) ∧
  w'.cell?
  (Addr.mk
  w'_6.heap.size
  3
  none) =
  some
  (Value.int
  IntKind.i64
  n_4) ∧
  True) ∧
  (0 ≤
  i ∧
  i <
  (↑leftn :
  Int)) ∧
  Deref
  left
  fun
  (a :
  Addr) =>
  SetsAt
  w'
  (a.add
  (i.toNat *
  4))
  0
  [Value.bool
  b,
  Value.int
  IntKind.i64
  n,
  Value.bool
  b_5,
  Value.int
  IntKind.i64
  n_4] ∧
  ∀
  (w'_8 :
  World),
  w'_8 =
  setCellsAt
  w'
  (a.add
  (i.toNat *
  4))
  0
  [Value.bool
  b,
  Value.int
  IntKind.i64
  n,
  Value.bool
  b_5,
  Value.int
  IntKind.i64
  n_4] →
  Goes
  I_1
  μ_1
  [Value.int
  IntKind.i64
  i]
  w'_6
  [Value.int
  IntKind.i64
  (IntKind.i64.wrap
  (i +
  1))]
  w'_8)
  (Goes
  I
  μ
  [Value.slice
  left
  leftn
  leftc,
  Value.slice
  out
  outn
  outc,
  Value.int
  IntKind.i64
  rings]
  w'
  [Value.slice
  left
  leftn
  leftc,
  Value.slice
  p
  n
  c,
  Value.int
  IntKind.i64
  (IntKind.i64.wrap
  (rings +
  1))]
  w'_6)))
  (R
  (Ending.returned
  (Value.tuple
  #[Value.slice out outn outc, Value.int IntKind.i64 rings,
  Value.int IntKind.i64 0]))
  w'))))
theorem ref27_Order.vc_eq (l' : Option Addr) (l'n : Nat) (l'c : Nat) (spare'_0 : Bool) (spare'_1 : Int) (w : World) (R : Ending → World → Prop) : fnV Try.prog ref27_Order.H 8 [Value.slice l' l'n l'c, Value.agg #[Value.bool spare'_0, Value.int IntKind.i64 spare'_1]] w R = ref27_Order.vc l' l'n l'c spare'_0 spare'_1 w R := by kernel_rfl
theorem ref27_Order.calls {l' : Option Addr} {l'n : Nat} {l'c : Nat} {spare'_0 : Bool} {spare'_1 : Int} {w : World} {R : Ending → World → Prop} (h : ref27_Order.vc l' l'n l'c spare'_0 spare'_1 w R) : Calls Try.prog 8 ([Value.slice l' l'n l'c, Value.agg #[Value.bool spare'_0, Value.int IntKind.i64 spare'_1]] : List Value).toArray w R := calls_of_eq (ref27_Order.vc_eq l' l'n l'c spare'_0 spare'_1 w R) h

/- function 9: sacristy/sacristyref27.Same -/
abbrev ref27_Same.N : FuncId := 9
def ref27_Same.H : Hints := { loops := [(5, [(5, .one (.int .i64))])] }
def ref27_Same.vc (a' : Option Addr) (a'n : Nat) (a'c : Nat) (b' : Option Addr) (b'n : Nat) (b'c : Nat) (w : World) (R : Ending → World → Prop) : Prop :=
  cnd ((↑a'n : Int) != (↑b'n : Int)) (R (Ending.returned (Value.bool false)) w)
  (∃ (I : List Value → World → Prop),
  ∃ (μ : List Value → World → Nat),
  I [Value.int IntKind.i64 0] w ∧
  ∀ (g : Nat → Value) (i : Int) (w' : World),
  I [Value.int IntKind.i64 i] w' →
  cnd (decide (i < (↑a'n : Int)))
  ((0 ≤ i ∧ i < (↑a'n : Int)) ∧
  Deref a' fun (a : Addr) =>
  ∃ (b : Bool),
  ∃ (n : Int),
  ∃ (b_1 : Bool),
  ∃ (n_1 : Int),
  (∀ (w'_1 : World),
  Later w' w'_1 →
  w'_1.cell? (a.add (i.toNat * 4)) = some (Value.bool b) ∧
  w'_1.cell? ((a.add (i.toNat * 4)).add 1) = some (Value.int IntKind.i64 n) ∧
  w'_1.cell? ((a.add (i.toNat * 4)).add 2) = some (Value.bool b_1) ∧
  w'_1.cell? ((a.add (i.toNat * 4)).add 3) = some (Value.int IntKind.i64 n_1) ∧
  True) ∧
  (0 ≤ i ∧ i < (↑b'n : Int)) ∧
  Deref b' fun (a : Addr) =>
  ∃ (b_2 : Bool),
  ∃ (n_2 : Int),
  ∃ (b_3 : Bool),
  ∃ (n_3 : Int),
  (∀ (w'_1 : World),
  Later w' w'_1 →
  w'_1.cell? (a.add (i.toNat * 4)) = some (Value.bool b_2) ∧
  w'_1.cell? ((a.add (i.toNat * 4)).add 1) =
  some (Value.int IntKind.i64 n_2) ∧
  w'_1.cell? ((a.add (i.toNat * 4)).add 2) = some (Value.bool b_3) ∧
  w'_1.cell? ((a.add (i.toNat * 4)).add 3) =
  some (Value.int IntKind.i64 n_3) ∧
  True) ∧
  ∃ (b_4 : Bool),
  EqRuns Proofs.Try.prog BinOp.neq 39 (Operand.tmp 20) (Operand.tmp 24)
  (Value.agg
  #[Value.bool b, Value.int IntKind.i64 n, Value.bool b_1,
  Value.int IntKind.i64 n_1])
  (Value.agg
  #[Value.bool b_2, Value.int IntKind.i64 n_2, Value.bool b_3,
  Value.int IntKind.i64 n_3])
  b_4 ∧
  ∀ (w'_1 : World),
  Later w' w'_1 →
  cnd b_4 (R (Ending.returned (Value.bool false)) w'_1)
  (Goes I μ [Value.int IntKind.i64 i] w'
  [Value.int IntKind.i64 (IntKind.i64.wrap (i + 1))] w'_1))
  (R (Ending.returned (Value.bool true)) w'))
theorem ref27_Same.vc_eq (a' : Option Addr) (a'n : Nat) (a'c : Nat) (b' : Option Addr) (b'n : Nat) (b'c : Nat) (w : World) (R : Ending → World → Prop) : fnV Try.prog ref27_Same.H 9 [Value.slice a' a'n a'c, Value.slice b' b'n b'c] w R = ref27_Same.vc a' a'n a'c b' b'n b'c w R := by kernel_rfl
theorem ref27_Same.calls {a' : Option Addr} {a'n : Nat} {a'c : Nat} {b' : Option Addr} {b'n : Nat} {b'c : Nat} {w : World} {R : Ending → World → Prop} (h : ref27_Same.vc a' a'n a'c b' b'n b'c w R) : Calls Try.prog 9 ([Value.slice a' a'n a'c, Value.slice b' b'n b'c] : List Value).toArray w R := calls_of_eq (ref27_Same.vc_eq a' a'n a'c b' b'n b'c w R) h

/- function 11: sacristy/sacristyref27.May -/
abbrev ref27_May.N : FuncId := 11
def ref27_May.H : Hints := { loops := [(3, [(3, .one (.int .i64))]), (8, [(4, .one (.int .i64))])] }
def ref27_May.vc (l' : Option Addr) (l'n : Nat) (l'c : Nat) (w : World) (R : Ending → World → Prop) : Prop :=
  ∃ (I : List Value → World → Prop),
  ∃ (μ : List Value → World → Nat),
  I [Value.int IntKind.i64 0] w ∧
  ∀ (g : Nat → Value) (i : Int) (w' : World),
  I [Value.int IntKind.i64 i] w' →
  cnd (decide (i < (↑l'n : Int)))
  ((0 ≤ i ∧ i < (↑l'n : Int)) ∧
  Deref l' fun (a : Addr) =>
  ∃ (n : Int),
  w'.cell? ((a.add (i.toNat * 4)).add 1) = some (Value.int IntKind.i64 n) ∧
  cnd (decide (n < 0)) (R (Ending.returned (Value.bool false)) w')
  ((0 ≤ i ∧ i < (↑l'n : Int)) ∧
  Deref l' fun (a : Addr) =>
  ∃ (n : Int),
  w'.cell? (((a.add (i.toNat * 4)).add 2).add 1) = some (Value.int IntKind.i64 n) ∧
  cnd (decide (n < 0)) (R (Ending.returned (Value.bool false)) w')
  (∃ (I_1 : List Value → World → Prop),
  ∃ (μ_1 : List Value → World → Nat),
  I_1 [Value.int IntKind.i64 0] w' ∧
  ∀ (g : Nat → Value) (k : Int) (w'_1 : World),
  I_1 [Value.int IntKind.i64 k] w'_1 →
  cnd (decide (k < i))
  ((0 ≤ k ∧ k < (↑l'n : Int)) ∧
  Deref l' fun (a : Addr) =>
  ∃ (b : Bool),
  ∃ (n : Int),
  (∀ (w' : World),
  Later w'_1 w' →
  w'.cell? ((a.add (k.toNat * 4)).add 2) = some (Value.bool b) ∧
  w'.cell? (((a.add (k.toNat * 4)).add 2).add 1) =
  some (Value.int IntKind.i64 n) ∧
  True) ∧
  (0 ≤ i ∧ i < (↑l'n : Int)) ∧
  Deref l' fun (a : Addr) =>
  ∃ (b_1 : Bool),
  ∃ (n_1 : Int),
  (∀ (w' : World),
  Later w'_1 w' →
  w'.cell? ((a.add (i.toNat * 4)).add 2) =
  some (Value.bool b_1) ∧
  w'.cell? (((a.add (i.toNat * 4)).add 2).add 1) =
  some (Value.int IntKind.i64 n_1) ∧
  True) ∧
  ∃ (b_2 : Bool),
  EqRuns Proofs.Try.prog BinOp.eql 24 (Operand.tmp 36)
  (Operand.tmp 41)
  (Value.agg
  #[Value.bool b, Value.int IntKind.i64 n])
  (Value.agg
  #[Value.bool b_1, Value.int IntKind.i64 n_1])
  b_2 ∧
  ∀ (w' : World),
  Later w'_1 w' →
  cnd b_2
  (R (Ending.returned (Value.bool false)) w')
  (Goes I_1 μ_1 [Value.int IntKind.i64 k] w'_1
  [Value.int IntKind.i64
  (IntKind.i64.wrap (k + 1))]
  w'))
  (Goes I μ [Value.int IntKind.i64 i] w'
  [Value.int IntKind.i64 (IntKind.i64.wrap (i + 1))] w'_1))))
  (R (Ending.returned (Value.bool (decide ((↑l'n : Int) ≤ 64)))) w')
theorem ref27_May.vc_eq (l' : Option Addr) (l'n : Nat) (l'c : Nat) (w : World) (R : Ending → World → Prop) : fnV Try.prog ref27_May.H 11 [Value.slice l' l'n l'c] w R = ref27_May.vc l' l'n l'c w R := by kernel_rfl
theorem ref27_May.calls {l' : Option Addr} {l'n : Nat} {l'c : Nat} {w : World} {R : Ending → World → Prop} (h : ref27_May.vc l' l'n l'c w R) : Calls Try.prog 11 ([Value.slice l' l'n l'c] : List Value).toArray w R := calls_of_eq (ref27_May.vc_eq l' l'n l'c w R) h

/- function 12: sacristy/sacristyref27.Spare -/
abbrev ref27_Spare.N : FuncId := 12
def ref27_Spare.H : Hints := { loops := [(3, [(5, .one (.int .i64))])] }
def ref27_Spare.vc (l' : Option Addr) (l'n : Nat) (l'c : Nat) (s'_0 : Bool) (s'_1 : Int) (w : World) (R : Ending → World → Prop) : Prop :=
  ∀ (w' : World),
  w' = w.alloc (Obj.cells #[Value.bool s'_0, Value.int IntKind.i64 s'_1] 24) →
  ∃ (I : List Value → World → Prop),
  ∃ (μ : List Value → World → Nat),
  I [Value.int IntKind.i64 0] w' ∧
  ∀ (g : Nat → Value) (i : Int) (w' : World),
  I [Value.int IntKind.i64 i] w' →
  cnd (decide (i < (↑l'n : Int)))
  ((0 ≤ i ∧ i < (↑l'n : Int)) ∧
  Deref l' fun (a : Addr) =>
  ∃ (b : Bool),
  ∃ (n : Int),
  (∀ (w'_1 : World),
  Later w' w'_1 →
  w'_1.cell? (a.add (i.toNat * 4)) = some (Value.bool b) ∧
  w'_1.cell? ((a.add (i.toNat * 4)).add 1) = some (Value.int IntKind.i64 n) ∧ True) ∧
  ∃ (b_1 : Bool),
  ∃ (n_1 : Int),
  (∀ (w'_1 : World),
  Later w' w'_1 →
  w'_1.cell? (Addr.mk w.heap.size 0 none) = some (Value.bool b_1) ∧
  w'_1.cell? (Addr.mk w.heap.size 1 none) = some (Value.int IntKind.i64 n_1) ∧
  True) ∧
  ∃ (b_2 : Bool),
  EqRuns Proofs.Try.prog BinOp.eql 24 (Operand.tmp 16) (Operand.tmp 17)
  (Value.agg #[Value.bool b, Value.int IntKind.i64 n])
  (Value.agg #[Value.bool b_1, Value.int IntKind.i64 n_1]) b_2 ∧
  cnd b_2
  (∀ (w'_1 : World), Later w' w'_1 → R (Ending.returned (Value.bool false)) w'_1)
  ((0 ≤ i ∧ i < (↑l'n : Int)) ∧
  Deref l' fun (a : Addr) =>
  ∃ (b : Bool),
  ∃ (n : Int),
  (∀ (w'_1 : World),
  Later w' w'_1 →
  w'_1.cell? ((a.add (i.toNat * 4)).add 2) = some (Value.bool b) ∧
  w'_1.cell? (((a.add (i.toNat * 4)).add 2).add 1) =
  some (Value.int IntKind.i64 n) ∧
  True) ∧
  ∃ (b_3 : Bool),
  ∃ (n_2 : Int),
  (∀ (w'_1 : World),
  Later w' w'_1 →
  w'_1.cell? (Addr.mk w.heap.size 0 none) =
  some (Value.bool b_3) ∧
  w'_1.cell? (Addr.mk w.heap.size 1 none) =
  some (Value.int IntKind.i64 n_2) ∧
  True) ∧
  ∃ (b_4 : Bool),
  EqRuns Proofs.Try.prog BinOp.eql 24 (Operand.tmp 24)
  (Operand.tmp 25)
  (Value.agg #[Value.bool b, Value.int IntKind.i64 n])
  (Value.agg #[Value.bool b_3, Value.int IntKind.i64 n_2])
  b_4 ∧
  ∀ (w'_1 : World),
  Later w' w'_1 →
  cnd b_4 (R (Ending.returned (Value.bool false)) w'_1)
  (Goes I μ [Value.int IntKind.i64 i] w'
  [Value.int IntKind.i64 (IntKind.i64.wrap (i + 1))]
  w'_1)))
  (∃ (n : Int),
  w'.cell? (Addr.mk w.heap.size 1 none) = some (Value.int IntKind.i64 n) ∧
  R (Ending.returned (Value.bool (decide (n ≥ 0)))) w')
theorem ref27_Spare.vc_eq (l' : Option Addr) (l'n : Nat) (l'c : Nat) (s'_0 : Bool) (s'_1 : Int) (w : World) (R : Ending → World → Prop) : fnV Try.prog ref27_Spare.H 12 [Value.slice l' l'n l'c, Value.agg #[Value.bool s'_0, Value.int IntKind.i64 s'_1]] w R = ref27_Spare.vc l' l'n l'c s'_0 s'_1 w R := by kernel_rfl
theorem ref27_Spare.calls {l' : Option Addr} {l'n : Nat} {l'c : Nat} {s'_0 : Bool} {s'_1 : Int} {w : World} {R : Ending → World → Prop} (h : ref27_Spare.vc l' l'n l'c s'_0 s'_1 w R) : Calls Try.prog 12 ([Value.slice l' l'n l'c, Value.agg #[Value.bool s'_0, Value.int IntKind.i64 s'_1]] : List Value).toArray w R := calls_of_eq (ref27_Spare.vc_eq l' l'n l'c s'_0 s'_1 w R) h

/- function 21: sacristy/sacristyref27.asked -/
abbrev ref27_asked.N : FuncId := 21
def ref27_asked.H : Hints := { loops := [(3, [(7, .one (.int .i64))])] }
def ref27_asked.vc (l' : Option Addr) (l'n : Nat) (l'c : Nat) (p'_0 : Bool) (p'_1 : Int) (but' : Int) (w : World) (R : Ending → World → Prop) : Prop :=
  ∀ (w' : World),
  w' = w.alloc (Obj.cells #[Value.bool p'_0, Value.int IntKind.i64 p'_1] 24) →
  ∃ (I : List Value → World → Prop),
  ∃ (μ : List Value → World → Nat),
  I [Value.int IntKind.i64 0] w' ∧
  ∀ (g : Nat → Value) (i : Int) (w' : World),
  I [Value.int IntKind.i64 i] w' →
  cnd (decide (i < (↑l'n : Int)))
  (cnd (i != but')
  ((0 ≤ i ∧ i < (↑l'n : Int)) ∧
  Deref l' fun (a : Addr) =>
  ∃ (b : Bool),
  ∃ (n : Int),
  (∀ (w'_1 : World),
  Later w' w'_1 →
  w'_1.cell? (a.add (i.toNat * 4)) = some (Value.bool b) ∧
  w'_1.cell? ((a.add (i.toNat * 4)).add 1) = some (Value.int IntKind.i64 n) ∧ True) ∧
  ∃ (b_1 : Bool),
  ∃ (n_1 : Int),
  (∀ (w'_1 : World),
  Later w' w'_1 →
  w'_1.cell? (Addr.mk w.heap.size 0 none) = some (Value.bool b_1) ∧
  w'_1.cell? (Addr.mk w.heap.size 1 none) = some (Value.int IntKind.i64 n_1) ∧
  True) ∧
  ∃ (b_2 : Bool),
  EqRuns Proofs.Try.prog BinOp.eql 24 (Operand.tmp 22) (Operand.tmp 23)
  (Value.agg #[Value.bool b, Value.int IntKind.i64 n])
  (Value.agg #[Value.bool b_1, Value.int IntKind.i64 n_1]) b_2 ∧
  ∀ (w'_1 : World),
  Later w' w'_1 →
  cnd b_2 (R (Ending.returned (Value.bool true)) w'_1)
  (Goes I μ [Value.int IntKind.i64 i] w'
  [Value.int IntKind.i64 (IntKind.i64.wrap (i + 1))] w'_1))
  (∀ (w'_1 : World),
  Later w' w'_1 →
  Goes I μ [Value.int IntKind.i64 i] w' [Value.int IntKind.i64 (IntKind.i64.wrap (i + 1))] w'_1))
  (R (Ending.returned (Value.bool false)) w')
theorem ref27_asked.vc_eq (l' : Option Addr) (l'n : Nat) (l'c : Nat) (p'_0 : Bool) (p'_1 : Int) (but' : Int) (w : World) (R : Ending → World → Prop) : fnV Try.prog ref27_asked.H 21 [Value.slice l' l'n l'c, Value.agg #[Value.bool p'_0, Value.int IntKind.i64 p'_1], Value.int IntKind.i64 but'] w R = ref27_asked.vc l' l'n l'c p'_0 p'_1 but' w R := by kernel_rfl
theorem ref27_asked.calls {l' : Option Addr} {l'n : Nat} {l'c : Nat} {p'_0 : Bool} {p'_1 : Int} {but' : Int} {w : World} {R : Ending → World → Prop} (h : ref27_asked.vc l' l'n l'c p'_0 p'_1 but' w R) : Calls Try.prog 21 ([Value.slice l' l'n l'c, Value.agg #[Value.bool p'_0, Value.int IntKind.i64 p'_1], Value.int IntKind.i64 but'] : List Value).toArray w R := calls_of_eq (ref27_asked.vc_eq l' l'n l'c p'_0 p'_1 but' w R) h

/- function 22: sacristy/sacristyref27.without -/
abbrev ref27_without.N : FuncId := 22
def ref27_without.H : Hints := {  }
def ref27_without.vc (l' : Option Addr) (l'n : Nat) (l'c : Nat) (k' : Int) (w : World) (R : Ending → World → Prop) : Prop :=
  (0 ≤ k' ∧ k' ≤ (↑l'c : Int)) ∧
  RunsV Proofs.Try.prog
  (Builtin.append_ #[22, 22] 22 #[Value.slice none 0 0, Value.slice (reslice l' 0 l'c 4) (k'.toNat - 0) (l'c - 0)]) w
  fun (v : Value) (w' : World) =>
  ∃ (p : Option Addr),
  ∃ (n : Nat),
  ∃ (c : Nat),
  v = Value.slice p n c ∧
  (0 ≤ IntKind.i64.wrap (k' + 1) ∧ IntKind.i64.wrap (k' + 1) ≤ (↑l'n : Int)) ∧
  RunsV Proofs.Try.prog
  (Builtin.append_ #[22, 22] 22
  #[Value.slice p n c,
  Value.slice (reslice l' (IntKind.i64.wrap (k' + 1)).toNat l'c 4)
  (l'n - (IntKind.i64.wrap (k' + 1)).toNat) (l'c - (IntKind.i64.wrap (k' + 1)).toNat)])
  w' fun (v : Value) (w' : World) =>
  ∃ (p : Option Addr),
  ∃ (n : Nat), ∃ (c : Nat), v = Value.slice p n c ∧ R (Ending.returned (Value.slice p n c)) w'
theorem ref27_without.vc_eq (l' : Option Addr) (l'n : Nat) (l'c : Nat) (k' : Int) (w : World) (R : Ending → World → Prop) : fnV Try.prog ref27_without.H 22 [Value.slice l' l'n l'c, Value.int IntKind.i64 k'] w R = ref27_without.vc l' l'n l'c k' w R := by kernel_rfl
theorem ref27_without.calls {l' : Option Addr} {l'n : Nat} {l'c : Nat} {k' : Int} {w : World} {R : Ending → World → Prop} (h : ref27_without.vc l' l'n l'c k' w R) : Calls Try.prog 22 ([Value.slice l' l'n l'c, Value.int IntKind.i64 k'] : List Value).toArray w R := calls_of_eq (ref27_without.vc_eq l' l'n l'c k' w R) h

end Go.Proofs.Ytngpkmpbhkbgoaa
