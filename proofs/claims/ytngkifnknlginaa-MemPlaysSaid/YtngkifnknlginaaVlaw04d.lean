/-
The explicit conditions of some functions of the program, printed by this repo's own program over VcTop: what is proved is that each is the condition.
Conditions: none.
-/
import Derived.Test.YtngkifnknlginaaVcTop
import Derived.Test.YtngkifnknlginaaProg
namespace Go.Proofs.Ytngkifnknlginaa
open Go Go.Vc Go.RowKit
set_option linter.unusedVariables false
set_option maxRecDepth 100000

/- function 17: sacristy/sacristylaw04.does -/
abbrev law04_does.N : FuncId := 17
def law04_does.H : Hints := { loops := [(19, [(24, .one (.int .i64))])], mixes := [(7, 1001), (13, 1001)] }
def law04_does.vc (m' : Option Addr) (r' : Option Addr) (s'_0 : Int) (s'_1 : Int) (s'_2 : Int) (s'_3 : Int) (s'_4 : ByteArray) (s'_5 : Bool) (w : World) (R : Ending → World → Prop) : Prop :=
  ∀ (w' : World),
  w' =
  w.alloc
  (Obj.cells
  #[Value.int IntKind.i64 s'_0, Value.int IntKind.u64 s'_1, Value.int IntKind.i64 s'_2,
  Value.int IntKind.u64 s'_3, Value.string s'_4, Value.bool s'_5]
  33) →
  ∃ (n : Int),
  w'.cell? (Addr.mk w.heap.size 0 none) = some (Value.int IntKind.i64 n) ∧
  cnd (n == 0)
  (∃ (n : Int),
  w'.cell? (Addr.mk w.heap.size 1 none) = some (Value.int IntKind.u64 n) ∧
  ∃ (n_1 : Int),
  w'.cell? (Addr.mk w.heap.size 2 none) = some (Value.int IntKind.i64 n_1) ∧
  Calls Proofs.Try.prog 13 #[Value.pointer m', Value.int IntKind.u64 n, Value.int IntKind.i64 n_1] w'
  fun (e : Ending) (w' : World) =>
  ∃ (n : Int),
  ∃ (b : Bool),
  ∃ (n_2 : Int),
  e =
  Ending.returned
  (Value.tuple #[Value.int IntKind.u64 n, Value.bool b, Value.int IntKind.i64 n_2]) ∧
  ∃ (n_3 : Int),
  w'.cell? (Addr.mk w.heap.size 1 none) = some (Value.int IntKind.u64 n_3) ∧
  ∃ (n_4 : Int),
  w'.cell? (Addr.mk w.heap.size 2 none) = some (Value.int IntKind.i64 n_4) ∧
  Calls Proofs.Try.prog 31
  #[Value.pointer r', Value.int IntKind.u64 n_3, Value.int IntKind.i64 n_4] w'
  fun (e : Ending) (w' : World) =>
  ∃ (n_5 : Int),
  ∃ (b_1 : Bool),
  ∃ (n_6 : Int),
  e =
  Ending.returned
  (Value.tuple
  #[Value.int IntKind.u64 n_5, Value.bool b_1,
  Value.int IntKind.i64 n_6]) ∧
  cnd (n == n_5)
  (cnd (b == b_1) (R (Ending.returned (Value.bool (n_2 == n_6))) w')
  (R (Ending.returned (Value.bool false)) w'))
  (R (Ending.returned (Value.bool false)) w'))
  (cnd (n == 1)
  (∃ (C : World → Prop),
  (∀ (w'_1 : World), Later w' w'_1 → C w'_1) ∧
  ∀ (w'_1 : World),
  Later w' w'_1 →
  ∃ (n : Int),
  (∀ (w' : World), C w' → w'.cell? (Addr.mk w.heap.size 1 none) = some (Value.int IntKind.u64 n)) ∧
  ∃ (n_1 : Int),
  (∀ (w' : World),
  C w' → w'.cell? (Addr.mk w.heap.size 2 none) = some (Value.int IntKind.i64 n_1)) ∧
  ∃ (n_2 : Int),
  (∀ (w' : World),
  C w' → w'.cell? (Addr.mk w.heap.size 3 none) = some (Value.int IntKind.u64 n_2)) ∧
  ∃ (b : Bool),
  (∀ (w' : World), C w' → w'.cell? (Addr.mk w.heap.size 5 none) = some (Value.bool b)) ∧
  ∃ (n_3 : Int),
  (∀ (w' : World),
  C w' →
  w'.cell? (Addr.mk w.heap.size 1 none) = some (Value.int IntKind.u64 n_3)) ∧
  ∃ (n_4 : Int),
  (∀ (w' : World),
  C w' →
  w'.cell? (Addr.mk w.heap.size 2 none) =
  some (Value.int IntKind.i64 n_4)) ∧
  ∃ (n_5 : Int),
  (∀ (w' : World),
  C w' →
  w'.cell? (Addr.mk w.heap.size 3 none) =
  some (Value.int IntKind.u64 n_5)) ∧
  ∃ (b_1 : Bool),
  (∀ (w' : World),
  C w' →
  w'.cell? (Addr.mk w.heap.size 5 none) = some (Value.bool b_1)) ∧
  Calls Proofs.Try.prog 12
  #[Value.pointer m', Value.int IntKind.u64 n,
  Value.int IntKind.i64 n_1, Value.int IntKind.u64 n_2,
  Value.bool b]
  w'_1 fun (e : Ending) (w' : World) =>
  ∃ (n : Int),
  e = Ending.returned (Value.int IntKind.i64 n) ∧
  C w' ∧
  Calls Proofs.Try.prog 32
  #[Value.pointer r', Value.int IntKind.u64 n_3,
  Value.int IntKind.i64 n_4, Value.int IntKind.u64 n_5,
  Value.bool b_1]
  w' fun (e : Ending) (w' : World) =>
  ∃ (n_6 : Int),
  e = Ending.returned (Value.int IntKind.i64 n_6) ∧
  C w' ∧ R (Ending.returned (Value.bool (n == n_6))) w')
  (cnd (n == 2)
  (∃ (n : Int),
  w'.cell? (Addr.mk w.heap.size 1 none) = some (Value.int IntKind.u64 n) ∧
  Calls Proofs.Try.prog 15 #[Value.pointer m', Value.int IntKind.u64 n] w'
  fun (e : Ending) (w' : World) =>
  ∃ (n : Int),
  ∃ (n_1 : Int),
  e = Ending.returned (Value.tuple #[Value.int IntKind.u32 n, Value.int IntKind.i64 n_1]) ∧
  ∃ (n_2 : Int),
  w'.cell? (Addr.mk w.heap.size 1 none) = some (Value.int IntKind.u64 n_2) ∧
  Calls Proofs.Try.prog 33 #[Value.pointer r', Value.int IntKind.u64 n_2] w'
  fun (e : Ending) (w' : World) =>
  ∃ (n_3 : Int),
  ∃ (n_4 : Int),
  e =
  Ending.returned
  (Value.tuple #[Value.int IntKind.u32 n_3, Value.int IntKind.i64 n_4]) ∧
  cnd (n == n_3) (R (Ending.returned (Value.bool (n_1 == n_4))) w')
  (R (Ending.returned (Value.bool false)) w'))
  (cnd (n == 3)
  (∃ (C : World → Prop),
  (∀ (w'_1 : World), Later w' w'_1 → C w'_1) ∧
  ∀ (w'_1 : World),
  Later w' w'_1 →
  ∃ (n : Int),
  (∀ (w' : World),
  C w' → w'.cell? (Addr.mk w.heap.size 1 none) = some (Value.int IntKind.u64 n)) ∧
  ∃ (s : ByteArray),
  (∀ (w' : World), C w' → w'.cell? (Addr.mk w.heap.size 4 none) = some (Value.string s)) ∧
  ∃ (b : Bool),
  (∀ (w' : World), C w' → w'.cell? (Addr.mk w.heap.size 5 none) = some (Value.bool b)) ∧
  ∃ (n_1 : Int),
  (∀ (w' : World),
  C w' →
  w'.cell? (Addr.mk w.heap.size 1 none) = some (Value.int IntKind.u64 n_1)) ∧
  ∃ (s_1 : ByteArray),
  (∀ (w' : World),
  C w' → w'.cell? (Addr.mk w.heap.size 4 none) = some (Value.string s_1)) ∧
  ∃ (b_1 : Bool),
  (∀ (w' : World),
  C w' →
  w'.cell? (Addr.mk w.heap.size 5 none) = some (Value.bool b_1)) ∧
  Calls Proofs.Try.prog 11
  #[Value.pointer m', Value.int IntKind.u64 n, Value.string s,
  Value.bool b]
  w'_1 fun (e : Ending) (w' : World) =>
  ∃ (n : Int),
  e = Ending.returned (Value.int IntKind.i64 n) ∧
  C w' ∧
  Calls Proofs.Try.prog 34
  #[Value.pointer r', Value.int IntKind.u64 n_1,
  Value.string s_1, Value.bool b_1]
  w' fun (e : Ending) (w' : World) =>
  ∃ (n_2 : Int),
  e = Ending.returned (Value.int IntKind.i64 n_2) ∧
  C w' ∧ R (Ending.returned (Value.bool (n == n_2))) w')
  (∃ (n : Int),
  w'.cell? (Addr.mk w.heap.size 1 none) = some (Value.int IntKind.u64 n) ∧
  ∃ (n_1 : Int),
  w'.cell? (Addr.mk w.heap.size 2 none) = some (Value.int IntKind.i64 n_1) ∧
  Calls Proofs.Try.prog 14 #[Value.pointer m', Value.int IntKind.u64 n, Value.int IntKind.i64 n_1]
  w' fun (e : Ending) (w' : World) =>
  ∃ (s : ByteArray),
  ∃ (p : Option Addr),
  ∃ (n : Nat),
  ∃ (c : Nat),
  ∃ (n_2 : Int),
  e =
  Ending.returned
  (Value.tuple
  #[Value.string s, Value.slice p n c, Value.int IntKind.i64 n_2]) ∧
  ∃ (n_3 : Int),
  w'.cell? (Addr.mk w.heap.size 1 none) = some (Value.int IntKind.u64 n_3) ∧
  ∃ (n_4 : Int),
  w'.cell? (Addr.mk w.heap.size 2 none) = some (Value.int IntKind.i64 n_4) ∧
  Calls Proofs.Try.prog 35
  #[Value.pointer r', Value.int IntKind.u64 n_3,
  Value.int IntKind.i64 n_4]
  w' fun (e : Ending) (w' : World) =>
  ∃ (s_1 : ByteArray),
  ∃ (p_1 : Option Addr),
  ∃ (n_5 : Nat),
  ∃ (c_1 : Nat),
  ∃ (n_6 : Int),
  e =
  Ending.returned
  (Value.tuple
  #[Value.string s_1, Value.slice p_1 n_5 c_1,
  Value.int IntKind.i64 n_6]) ∧
  Calls Proofs.Try.prog 36
  #[Value.slice p n c, Value.slice p_1 n_5 c_1] w'
  fun (e : Ending) (w' : World) =>
  ∃ (b : Bool),
  e = Ending.returned (Value.bool b) ∧
  ∃ (I : List Value → World → Prop),
  ∃ (μ : List Value → World → Nat),
  I [Value.int IntKind.i64 0] w' ∧
  ∀ (g : Nat → Value) (i : Int) (w' : World),
  I [Value.int IntKind.i64 i] w' →
  cnd (decide (i < (↑n : Int)))
  ((0 ≤ i ∧ i < (↑n : Int)) ∧
  Deref p fun (a : Addr) =>
  ∃ (b : Bool),
  w'.cell? (a.add (i.toNat * 1)) =
  some (Value.bool b) ∧
  (0 ≤ i ∧ i < (↑n : Int)) ∧
  Deref p fun (a : Addr) =>
  ((w'.cell?
  (a.add
  (i.toNat *
  1))).isSome =
  true ∧
  w'.frozen?
  (a.add
  (i.toNat * 1)) =
  false) ∧
  ∀ (w'_1 : World),
  w'_1 =
  w'.setCell
  (a.add
  (i.toNat * 1))
  (Value.bool !b) →
  Goes I μ
  [Value.int IntKind.i64
  i]
  w'
  [Value.int IntKind.i64
  (IntKind.i64.wrap
  (i + 1))]
  w'_1)
  (cnd (s.toList == s_1.toList)
  (cnd b
  (R
  (Ending.returned
  (Value.bool (n_2 == n_6)))
  w')
  (R
  (Ending.returned (Value.bool false))
  w'))
  (R (Ending.returned (Value.bool false))
  w'))))))
theorem law04_does.vc_eq (m' : Option Addr) (r' : Option Addr) (s'_0 : Int) (s'_1 : Int) (s'_2 : Int) (s'_3 : Int) (s'_4 : ByteArray) (s'_5 : Bool) (w : World) (R : Ending → World → Prop) : fnV Try.prog law04_does.H 17 [Value.pointer m', Value.pointer r',
  Value.agg
  #[Value.int IntKind.i64 s'_0, Value.int IntKind.u64 s'_1, Value.int IntKind.i64 s'_2, Value.int IntKind.u64 s'_3,
  Value.string s'_4, Value.bool s'_5]] w R = law04_does.vc m' r' s'_0 s'_1 s'_2 s'_3 s'_4 s'_5 w R := by kernel_rfl
theorem law04_does.calls {m' : Option Addr} {r' : Option Addr} {s'_0 : Int} {s'_1 : Int} {s'_2 : Int} {s'_3 : Int} {s'_4 : ByteArray} {s'_5 : Bool} {w : World} {R : Ending → World → Prop} (h : law04_does.vc m' r' s'_0 s'_1 s'_2 s'_3 s'_4 s'_5 w R) : Calls Try.prog 17 ([Value.pointer m', Value.pointer r',
  Value.agg
  #[Value.int IntKind.i64 s'_0, Value.int IntKind.u64 s'_1, Value.int IntKind.i64 s'_2, Value.int IntKind.u64 s'_3,
  Value.string s'_4, Value.bool s'_5]] : List Value).toArray w R := calls_of_eq (law04_does.vc_eq m' r' s'_0 s'_1 s'_2 s'_3 s'_4 s'_5 w R) h

/- function 18: sacristy/sacristylaw04.all -/
abbrev law04_all.N : FuncId := 18
def law04_all.H : Hints := { loops := [(6, [(6, .one (.int .i64))])], mixes := [(7, 1001)] }
def law04_all.vc (m' : Option Addr) (r' : Option Addr) (w : World) (R : Ending → World → Prop) : Prop :=
  Calls Proofs.Try.prog 19 #[Value.pointer m'] w fun (e : Ending) (w' : World) =>
  ∃ (p : Option Addr),
  ∃ (n : Nat),
  ∃ (c : Nat),
  e = Ending.returned (Value.slice p n c) ∧
  Deref r' fun (a : Addr) =>
  ∃ (p_1 : Option Addr),
  ∃ (n_1 : Nat),
  ∃ (c : Nat),
  w'.cell? a = some (Value.slice p_1 n_1 c) ∧
  cnd ((↑n : Int) != (↑n_1 : Int)) (R (Ending.returned (Value.bool false)) w')
  (∃ (I : List Value → World → Prop),
  ∃ (μ : List Value → World → Nat),
  I [Value.int IntKind.i64 0] w' ∧
  ∀ (g : Nat → Value) (i : Int) (w' : World),
  I [Value.int IntKind.i64 i] w' →
  cnd (decide (i < (↑n : Int)))
  (∃ (C : World → Prop),
  (∀ (w'_1 : World), Later w' w'_1 → C w'_1) ∧
  ∀ (w'_1 : World),
  Later w' w'_1 →
  Deref r' fun (a : Addr) =>
  ∃ (p_2 : Option Addr),
  ∃ (n_2 : Nat),
  ∃ (c : Nat),
  (∀ (w' : World), C w' → w'.cell? a = some (Value.slice p_2 n_2 c)) ∧
  (0 ≤ i ∧ i < (↑n_2 : Int)) ∧
  Deref p_2 fun (a : Addr) =>
  ∃ (n_3 : Int),
  (∀ (w' : World),
  C w' →
  w'.cell? (a.add (i.toNat * 3)) =
  some (Value.int IntKind.u64 n_3)) ∧
  Deref r' fun (a : Addr) =>
  ∃ (p_3 : Option Addr),
  ∃ (n_4 : Nat),
  ∃ (c : Nat),
  (∀ (w' : World),
  C w' →
  w'.cell? a = some (Value.slice p_3 n_4 c)) ∧
  (0 ≤ i ∧ i < (↑n_4 : Int)) ∧
  Deref p_3 fun (a : Addr) =>
  ∃ (n_5 : Int),
  (∀ (w' : World),
  C w' →
  w'.cell?
  ((a.add (i.toNat * 3)).add 1) =
  some (Value.int IntKind.u64 n_5)) ∧
  Calls Proofs.Try.prog 14
  #[Value.pointer m',
  Value.int IntKind.u64 n_3,
  Value.int IntKind.i64
  (IntKind.i64.wrap n_5)]
  w'_1 fun (e : Ending) (w'_2 : World) =>
  ∃ (s : ByteArray),
  ∃ (p_4 : Option Addr),
  ∃ (n_6 : Nat),
  ∃ (c : Nat),
  ∃ (n_7 : Int),
  e =
  Ending.returned
  (Value.tuple
  #[Value.string s,
  Value.slice p_4 n_6
  c,
  Value.int
  IntKind.i64
  n_7]) ∧
  C w'_2 ∧
  (0 ≤ i ∧ i < (↑n : Int)) ∧
  Deref p
  fun (a : Addr) =>
  ∃ (n : Int),
  ∃ (n_8 : Int),
  ∃ (n_9 : Int),
  (∀ (w' : World),
  Later w'_2
  w' →
  w'.cell?
  (a.add
  (i.toNat *
  3)) =
  some
  (Value.int
  IntKind.u64
  n) ∧
  w'.cell?
  ((a.add
  (i.toNat *
  3)).add
  1) =
  some
  (Value.int
  IntKind.u64
  n_8) ∧
  w'.cell?
  ((a.add
  (i.toNat *
  3)).add
  2) =
  some
  (Value.int
  IntKind.u8
  n_9) ∧
  True) ∧
  Deref r'
  fun
  (a :
  Addr) =>
  ∃ (p :
  Option
  Addr),
  ∃ (n_10 :
  Nat),
  ∃ (c_1 :
  Nat),
  (∀
  (w' :
  World),
  Later
  w'_2
  w' →
  w'.cell?
  a =
  some
  (Value.slice
  p
  n_10
  c_1)) ∧
  (0 ≤
  i ∧
  i <
  (↑n_10 :
  Int)) ∧
  Deref
  p
  fun
  (a :
  Addr) =>
  ∃
  (n_11
  :
  Int),
  ∃
  (n_12
  :
  Int),
  ∃
  (n_13
  :
  Int),
  (∀
  (w' :
  World),
  Later
  w'_2
  w' →
  w'.cell?
  (a.add
  (i.toNat *
  3)) =
  some
  (Value.int
  IntKind.u64
  n_11) ∧
  w'.cell?
  ((a.add
  (i.toNat *
  3)).add
  1) =
  some
  (Value.int
  IntKind.u64
  n_12) ∧
  w'.cell?
  ((a.add
  (i.toNat *
  3)).add
  2) =
  some
  (Value.int
  IntKind.u8
  n_13) ∧
  True) ∧
  ∃
  (b
  :
  Bool),
  EqRuns
  Proofs.Try.prog
  BinOp.neq
  42
  (Operand.tmp
  52)
  (Operand.tmp
  59)
  (Value.agg
  #[Value.int
  IntKind.u64
  n,
  Value.int
  IntKind.u64
  n_8,
  Value.int
  IntKind.u8
  n_9])
  (Value.agg
  #[Value.int
  IntKind.u64
  n_11,
  Value.int
  IntKind.u64
  n_12,
  Value.int
  IntKind.u8
  n_13])
  b ∧
  cnd
  b
  (∀
  (w' :
  World),
  Later
  w'_2
  w' →
  R
  (Ending.returned
  (Value.bool
  false))
  w')
  (cnd
  (n_7 !=
  0)
  (∀
  (w' :
  World),
  Later
  w'_2
  w' →
  R
  (Ending.returned
  (Value.bool
  false))
  w')
  (Deref
  r'
  fun
  (a :
  Addr) =>
  ∃
  (p
  :
  Option
  Addr),
  ∃
  (n
  :
  Nat),
  ∃
  (c_2
  :
  Nat),
  (∀
  (w' :
  World),
  Later
  w'_2
  w' →
  w'.cell?
  (a.add
  1) =
  some
  (Value.slice
  p
  n
  c_2)) ∧
  (0 ≤
  i ∧
  i <
  (↑n :
  Int)) ∧
  Deref
  p
  fun
  (a :
  Addr) =>
  ∃
  (p
  :
  Option
  Addr),
  ∃
  (n
  :
  Nat),
  ∃
  (c_3
  :
  Nat),
  (∀
  (w' :
  World),
  Later
  w'_2
  w' →
  w'.cell?
  (a.add
  (i.toNat *
  1)) =
  some
  (Value.slice
  p
  n
  c_3)) ∧
  ∃
  (s_1
  :
  ByteArray),
  (∀
  (w' :
  World),
  Later
  w'_2
  w' →
  Sem.run
  Proofs.Try.prog
  (convert
  60
  9
  (Value.slice
  p
  n
  c_3))
  w' =
  Result.ok
  (Value.string
  s_1)
  w') ∧
  cnd
  (!s.toList ==
  s_1.toList)
  (∀
  (w' :
  World),
  Later
  w'_2
  w' →
  R
  (Ending.returned
  (Value.bool
  false))
  w')
  (Deref
  r'
  fun
  (a :
  Addr) =>
  ∃
  (p
  :
  Option
  Addr),
  ∃
  (n
  :
  Nat),
  ∃
  (c_4
  :
  Nat),
  (∀
  (w' :
  World),
  Later
  w'_2
  w' →
  w'.cell?
  (a.add
  2) =
  some
  (Value.slice
  p
  n
  c_4)) ∧
  (0 ≤
  i ∧
  i <
  (↑n :
  Int)) ∧
  Deref
  p
  fun
  (a :
  Addr) =>
  ∃
  (p
  :
  Option
  Addr),
  ∃
  (n
  :
  Nat),
  ∃
  (c_5
  :
  Nat),
  (∀
  (w' :
  World),
  Later
  w'_2
  w' →
  w'.cell?
  (a.add
  (i.toNat *
  1)) =
  some
  (Value.slice
  p
  n
  c_5)) ∧
  ∃
  (b
  :
  Bool),
  (∀
  (w' :
  World),
  Later
  w'_2
  w' →
  Calls
  Proofs.Try.prog
  36
  #[Value.slice
  p_4
  n_6
  c,
  Value.slice
  p
  n
  c_5]
  w'
  fun
  (e :
  Ending)
  (w'' :
  World) =>
  e =
  Ending.returned
  (Value.bool
  b) ∧
  Later
  w'
  w'') ∧
  ∀
  (w'_3 :
  World),
  Later
  w'_2
  w'_3 →
  cnd
  (!b)
  (R
  (Ending.returned
  (Value.bool
  false))
  w'_3)
  (Goes
  I
  μ
  [Value.int
  IntKind.i64
  i]
  w'
  [Value.int
  IntKind.i64
  (IntKind.i64.wrap
  (i +
  1))]
  w'_3)))))
  (R (Ending.returned (Value.bool true)) w'))
theorem law04_all.vc_eq (m' : Option Addr) (r' : Option Addr) (w : World) (R : Ending → World → Prop) : fnV Try.prog law04_all.H 18 [Value.pointer m', Value.pointer r'] w R = law04_all.vc m' r' w R := by kernel_rfl
theorem law04_all.calls {m' : Option Addr} {r' : Option Addr} {w : World} {R : Ending → World → Prop} (h : law04_all.vc m' r' w R) : Calls Try.prog 18 ([Value.pointer m', Value.pointer r'] : List Value).toArray w R := calls_of_eq (law04_all.vc_eq m' r' w R) h

end Go.Proofs.Ytngkifnknlginaa
