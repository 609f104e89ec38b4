/-
The explicit conditions of some functions of the program, printed by this repo's own program over VcTop: what is proved is that each is the condition.
Conditions: none.
-/
import Derived.Test.YtglakmkedoklmaaVcTop
import Derived.Test.YtglakmkedoklmaaProg
namespace Go.Proofs.Ytglakmkedoklmaa
open Go Go.Vc Go.RowKit
set_option linter.unusedVariables false
set_option maxRecDepth 100000

/- function 28: sacristy/sacristylaw29.take -/
abbrev law29_take.N : FuncId := 28
def law29_take.H : Hints := {  }
def law29_take.vc (code' : Option Addr) (code'n : Nat) (code'c : Nat) (at' : Int) (taken' : Bool) (w : World) (R : Ending → World → Prop) : Prop :=
  cnd (decide (at' < 0)) (R (Ending.returned (Value.int IntKind.i64 (-1))) w)
  (cnd (at'.tmod 4 != 0) (R (Ending.returned (Value.int IntKind.i64 (-1))) w)
  (cnd (decide (IntKind.i64.wrap (at'.tdiv 4) ≥ (↑code'n : Int))) (R (Ending.returned (Value.int IntKind.i64 (-1))) w)
  ((0 ≤ IntKind.i64.wrap (at'.tdiv 4) ∧ IntKind.i64.wrap (at'.tdiv 4) < (↑code'n : Int)) ∧
  Deref code' fun (a : Addr) =>
  ∃ (n : Int),
  ∃ (n_1 : Int),
  ∃ (n_2 : Int),
  ∃ (n_3 : Int),
  ∃ (n_4 : Int),
  (w.cell? (a.add ((IntKind.i64.wrap (at'.tdiv 4)).toNat * 5)) = some (Value.int IntKind.u8 n) ∧
  w.cell? ((a.add ((IntKind.i64.wrap (at'.tdiv 4)).toNat * 5)).add 1) =
  some (Value.int IntKind.u8 n_1) ∧
  w.cell? ((a.add ((IntKind.i64.wrap (at'.tdiv 4)).toNat * 5)).add 2) =
  some (Value.int IntKind.u8 n_2) ∧
  w.cell? ((a.add ((IntKind.i64.wrap (at'.tdiv 4)).toNat * 5)).add 3) =
  some (Value.int IntKind.u8 n_3) ∧
  w.cell? ((a.add ((IntKind.i64.wrap (at'.tdiv 4)).toNat * 5)).add 4) =
  some (Value.int IntKind.i64 n_4) ∧
  True) ∧
  ∀ (w' : World),
  w' =
  w.alloc
  (Obj.cells
  #[Value.int IntKind.u8 0, Value.int IntKind.u8 0, Value.int IntKind.u8 0,
  Value.int IntKind.u8 0, Value.int IntKind.i64 0]
  35) →
  SetsAt w' (Addr.mk w.heap.size 0 none) 0
  [Value.int IntKind.u8 n, Value.int IntKind.u8 n_1, Value.int IntKind.u8 n_2,
  Value.int IntKind.u8 n_3, Value.int IntKind.i64 n_4] ∧
  ∀ (w'_1 : World),
  w'_1 =
  setCellsAt w' (Addr.mk w.heap.size 0 none) 0
  [Value.int IntKind.u8 n, Value.int IntKind.u8 n_1, Value.int IntKind.u8 n_2,
  Value.int IntKind.u8 n_3, Value.int IntKind.i64 n_4] →
  ∃ (n : Int),
  w'_1.cell? (Addr.mk w.heap.size 0 none) = some (Value.int IntKind.u8 n) ∧
  cnd (n == 32)
  (∃ (n : Int),
  w'_1.cell? (Addr.mk w.heap.size 4 none) = some (Value.int IntKind.i64 n) ∧
  R (Ending.returned (Value.int IntKind.i64 (IntKind.i64.wrap (at' + n)))) w'_1)
  (∃ (n : Int),
  w'_1.cell? (Addr.mk w.heap.size 0 none) = some (Value.int IntKind.u8 n) ∧
  cnd (decide (n ≥ 28))
  (∃ (n : Int),
  w'_1.cell? (Addr.mk w.heap.size 0 none) = some (Value.int IntKind.u8 n) ∧
  cnd (decide (n ≤ 31))
  (cnd taken'
  (∃ (n : Int),
  w'_1.cell? (Addr.mk w.heap.size 4 none) =
  some (Value.int IntKind.i64 n) ∧
  R
  (Ending.returned
  (Value.int IntKind.i64 (IntKind.i64.wrap (at' + n))))
  w'_1)
  (R
  (Ending.returned
  (Value.int IntKind.i64 (IntKind.i64.wrap (at' + 4))))
  w'_1))
  (R
  (Ending.returned
  (Value.int IntKind.i64 (IntKind.i64.wrap (at' + 4))))
  w'_1))
  (R (Ending.returned (Value.int IntKind.i64 (IntKind.i64.wrap (at' + 4))))
  w'_1)))))
theorem law29_take.vc_eq (code' : Option Addr) (code'n : Nat) (code'c : Nat) (at' : Int) (taken' : Bool) (w : World) (R : Ending → World → Prop) : fnV Try.prog law29_take.H 28 [Value.slice code' code'n code'c, Value.int IntKind.i64 at', Value.bool taken'] w R = law29_take.vc code' code'n code'c at' taken' w R := by kernel_rfl
theorem law29_take.calls {code' : Option Addr} {code'n : Nat} {code'c : Nat} {at' : Int} {taken' : Bool} {w : World} {R : Ending → World → Prop} (h : law29_take.vc code' code'n code'c at' taken' w R) : Calls Try.prog 28 ([Value.slice code' code'n code'c, Value.int IntKind.i64 at', Value.bool taken'] : List Value).toArray w R := calls_of_eq (law29_take.vc_eq code' code'n code'c at' taken' w R) h

/- function 29: sacristy/sacristylaw29.asks -/
abbrev law29_asks.N : FuncId := 29
def law29_asks.H : Hints := {  }
def law29_asks.vc (x'_0 : Int) (x'_1 : Int) (x'_2 : Int) (x'_3 : Int) (x'_4 : Int) (y'_0 : Int) (y'_1 : Int) (y'_2 : Int) (y'_3 : Int) (y'_4 : Int) (w : World) (R : Ending → World → Prop) : Prop :=
  ∀ (w' : World),
  w' =
  w.alloc
  (Obj.cells
  #[Value.int IntKind.u8 x'_0, Value.int IntKind.u8 x'_1, Value.int IntKind.u8 x'_2, Value.int IntKind.u8 x'_3,
  Value.int IntKind.i64 x'_4]
  35) →
  ∀ (w'_1 : World),
  w'_1 =
  w'.alloc
  (Obj.cells
  #[Value.int IntKind.u8 y'_0, Value.int IntKind.u8 y'_1, Value.int IntKind.u8 y'_2,
  Value.int IntKind.u8 y'_3, Value.int IntKind.i64 y'_4]
  35) →
  ∃ (n : Int),
  w'_1.cell? (Addr.mk w.heap.size 2 none) = some (Value.int IntKind.u8 n) ∧
  ∃ (n_1 : Int),
  w'_1.cell? (Addr.mk w'.heap.size 2 none) = some (Value.int IntKind.u8 n_1) ∧
  cnd (n != n_1) (R (Ending.returned (Value.tuple #[Value.bool false, Value.bool false])) w'_1)
  (∃ (n : Int),
  w'_1.cell? (Addr.mk w.heap.size 3 none) = some (Value.int IntKind.u8 n) ∧
  ∃ (n_2 : Int),
  w'_1.cell? (Addr.mk w'.heap.size 3 none) = some (Value.int IntKind.u8 n_2) ∧
  cnd (n != n_2) (R (Ending.returned (Value.tuple #[Value.bool false, Value.bool false])) w'_1)
  (∃ (n : Int),
  (∀ (w' : World),
  Later w'_1 w' →
  w'.cell? (Addr.mk w.heap.size 0 none) = some (Value.int IntKind.u8 n)) ∧
  ∃ (n_3 : Int),
  (∀ (w'_2 : World),
  Later w'_1 w'_2 →
  w'_2.cell? (Addr.mk w'.heap.size 0 none) = some (Value.int IntKind.u8 n_3)) ∧
  ∃ (n_4 : Int),
  (∀ (w' : World),
  Later w'_1 w' →
  w'.cell? (Addr.mk w.heap.size 0 none) = some (Value.int IntKind.u8 n_4)) ∧
  ∃ (n_5 : Int),
  (∀ (w'_2 : World),
  Later w'_1 w'_2 →
  w'_2.cell? (Addr.mk w'.heap.size 0 none) =
  some (Value.int IntKind.u8 n_5)) ∧
  ∀ (w'_2 : World),
  Later w'_1 w'_2 →
  ∃ (n_6 : Int),
  w'_2.cell? (Addr.mk w.heap.size 0 none) =
  some (Value.int IntKind.u8 n_6) ∧
  ∃ (n_7 : Int),
  w'_2.cell? (Addr.mk w'.heap.size 0 none) =
  some (Value.int IntKind.u8 n_7) ∧
  cnd (gomin n n_3 == 28)
  (cnd (gomax n_4 n_5 == 29)
  (R
  (Ending.returned
  (Value.tuple
  #[Value.bool (n_6 == n_7), Value.bool true]))
  w'_2)
  (cnd (gomin n n_3 == 30)
  (R
  (Ending.returned
  (Value.tuple
  #[Value.bool (n_6 == n_7),
  Value.bool (gomax n_4 n_5 == 31)]))
  w'_2)
  (R
  (Ending.returned
  (Value.tuple
  #[Value.bool (n_6 == n_7), Value.bool false]))
  w'_2)))
  (cnd (gomin n n_3 == 30)
  (R
  (Ending.returned
  (Value.tuple
  #[Value.bool (n_6 == n_7),
  Value.bool (gomax n_4 n_5 == 31)]))
  w'_2)
  (R
  (Ending.returned
  (Value.tuple
  #[Value.bool (n_6 == n_7), Value.bool false]))
  w'_2))))
theorem law29_asks.vc_eq (x'_0 : Int) (x'_1 : Int) (x'_2 : Int) (x'_3 : Int) (x'_4 : Int) (y'_0 : Int) (y'_1 : Int) (y'_2 : Int) (y'_3 : Int) (y'_4 : Int) (w : World) (R : Ending → World → Prop) : fnV Try.prog law29_asks.H 29 [Value.agg
  #[Value.int IntKind.u8 x'_0, Value.int IntKind.u8 x'_1, Value.int IntKind.u8 x'_2, Value.int IntKind.u8 x'_3,
  Value.int IntKind.i64 x'_4],
  Value.agg
  #[Value.int IntKind.u8 y'_0, Value.int IntKind.u8 y'_1, Value.int IntKind.u8 y'_2, Value.int IntKind.u8 y'_3,
  Value.int IntKind.i64 y'_4]] w R = law29_asks.vc x'_0 x'_1 x'_2 x'_3 x'_4 y'_0 y'_1 y'_2 y'_3 y'_4 w R := by kernel_rfl
theorem law29_asks.calls {x'_0 : Int} {x'_1 : Int} {x'_2 : Int} {x'_3 : Int} {x'_4 : Int} {y'_0 : Int} {y'_1 : Int} {y'_2 : Int} {y'_3 : Int} {y'_4 : Int} {w : World} {R : Ending → World → Prop} (h : law29_asks.vc x'_0 x'_1 x'_2 x'_3 x'_4 y'_0 y'_1 y'_2 y'_3 y'_4 w R) : Calls Try.prog 29 ([Value.agg
  #[Value.int IntKind.u8 x'_0, Value.int IntKind.u8 x'_1, Value.int IntKind.u8 x'_2, Value.int IntKind.u8 x'_3,
  Value.int IntKind.i64 x'_4],
  Value.agg
  #[Value.int IntKind.u8 y'_0, Value.int IntKind.u8 y'_1, Value.int IntKind.u8 y'_2, Value.int IntKind.u8 y'_3,
  Value.int IntKind.i64 y'_4]] : List Value).toArray w R := calls_of_eq (law29_asks.vc_eq x'_0 x'_1 x'_2 x'_3 x'_4 y'_0 y'_1 y'_2 y'_3 y'_4 w R) h

/- function 15: sacristy/sacristylaw29.goes -/
abbrev law29_goes.N : FuncId := 15
def law29_goes.H : Hints := { conds := [(8057, [(13, .one (.int .i64))])] }
def law29_goes.vc (code' : Option Addr) (code'n : Nat) (code'c : Nat) (x'_0 : Int) (x'_1 : Int) (x'_2 : Int) (x'_3 : Int) (x'_4 : Int) (x'_5 : Int) (x'_6 : Int) (at' : Int) (to' : Int) (next' : Int) (taken' : Bool) (w : World) (R : Ending → World → Prop) : Prop :=
  ∀ (w' : World),
  w' =
  w.alloc
  (Obj.cells
  #[Value.int IntKind.i64 x'_0, Value.int IntKind.u8 x'_1, Value.int IntKind.u8 x'_2, Value.int IntKind.u8 x'_3,
  Value.int IntKind.u8 x'_4, Value.int IntKind.i64 x'_5, Value.int IntKind.i64 x'_6]
  37) →
  cnd (decide (at' < 0)) (R (Ending.returned (Value.bool false)) w')
  (cnd (decide (IntKind.i64.wrap (at'.tdiv 4) ≥ (↑code'n : Int))) (R (Ending.returned (Value.bool false)) w')
  (∃ (n : Int),
  w'.cell? (Addr.mk w.heap.size 1 none) = some (Value.int IntKind.u8 n) ∧
  cnd (n == 32)
  (∃ (n : Int),
  (∀ (w'_1 : World),
  Later w' w'_1 →
  Calls Proofs.Try.prog 28
  #[Value.slice code' code'n code'c, Value.int IntKind.i64 at', Value.bool true] w'_1
  fun (e : Ending) (w'' : World) =>
  e = Ending.returned (Value.int IntKind.i64 n) ∧ Later w'_1 w'') ∧
  cnd (n == to')
  ((0 ≤ IntKind.i64.wrap (at'.tdiv 4) ∧ IntKind.i64.wrap (at'.tdiv 4) < (↑code'n : Int)) ∧
  Deref code' fun (a : Addr) =>
  ∃ (n : Int),
  (∀ (w'_1 : World),
  Later w' w'_1 →
  w'_1.cell? ((a.add ((IntKind.i64.wrap (at'.tdiv 4)).toNat * 5)).add 1) =
  some (Value.int IntKind.u8 n)) ∧
  ∃ (n_1 : Int),
  (∀ (w'_1 : World),
  Later w' w'_1 →
  w'_1.cell? (Addr.mk w.heap.size 2 none) = some (Value.int IntKind.u8 n_1)) ∧
  cnd (n == n_1)
  ((0 ≤ IntKind.i64.wrap (at'.tdiv 4) ∧
  IntKind.i64.wrap (at'.tdiv 4) < (↑code'n : Int)) ∧
  Deref code' fun (a : Addr) =>
  ∃ (n : Int),
  (∀ (w'_1 : World),
  Later w' w'_1 →
  w'_1.cell? (a.add ((IntKind.i64.wrap (at'.tdiv 4)).toNat * 5)) =
  some (Value.int IntKind.u8 n)) ∧
  ∀ (w'_1 : World),
  Later w' w'_1 → R (Ending.returned (Value.bool (n == 32))) w'_1)
  (∀ (w'_1 : World), Later w' w'_1 → R (Ending.returned (Value.bool false)) w'_1))
  (∀ (w'_1 : World), Later w' w'_1 → R (Ending.returned (Value.bool false)) w'_1))
  (∃ (J : List Value → World → Prop),
  cnd taken' (J [Value.int IntKind.i64 to'] w') (J [Value.int IntKind.i64 next'] w') ∧
  ∀ (g : Nat → Value) (want : Int) (w' : World),
  J [Value.int IntKind.i64 want] w' →
  (0 ≤ IntKind.i64.wrap (at'.tdiv 4) ∧ IntKind.i64.wrap (at'.tdiv 4) < (↑code'n : Int)) ∧
  Deref code' fun (a : Addr) =>
  ∃ (n : Int),
  ∃ (n_1 : Int),
  ∃ (n_2 : Int),
  ∃ (n_3 : Int),
  ∃ (n_4 : Int),
  (∀ (w'_1 : World),
  Later w' w'_1 →
  w'_1.cell? (a.add ((IntKind.i64.wrap (at'.tdiv 4)).toNat * 5)) =
  some (Value.int IntKind.u8 n) ∧
  w'_1.cell? ((a.add ((IntKind.i64.wrap (at'.tdiv 4)).toNat * 5)).add 1) =
  some (Value.int IntKind.u8 n_1) ∧
  w'_1.cell? ((a.add ((IntKind.i64.wrap (at'.tdiv 4)).toNat * 5)).add 2) =
  some (Value.int IntKind.u8 n_2) ∧
  w'_1.cell? ((a.add ((IntKind.i64.wrap (at'.tdiv 4)).toNat * 5)).add 3) =
  some (Value.int IntKind.u8 n_3) ∧
  w'_1.cell?
  ((a.add ((IntKind.i64.wrap (at'.tdiv 4)).toNat * 5)).add 4) =
  some (Value.int IntKind.i64 n_4) ∧
  True) ∧
  ∃ (n_5 : Int),
  ∃ (n_6 : Int),
  ∃ (n_7 : Int),
  ∃ (n_8 : Int),
  ∃ (n_9 : Int),
  (∀ (w'_1 : World),
  Later w' w'_1 →
  w'_1.cell? (Addr.mk w.heap.size 1 none) =
  some (Value.int IntKind.u8 n_5) ∧
  w'_1.cell? (Addr.mk w.heap.size 2 none) =
  some (Value.int IntKind.u8 n_6) ∧
  w'_1.cell? (Addr.mk w.heap.size 3 none) =
  some (Value.int IntKind.u8 n_7) ∧
  w'_1.cell? (Addr.mk w.heap.size 4 none) =
  some (Value.int IntKind.u8 n_8) ∧
  w'_1.cell? (Addr.mk w.heap.size 5 none) =
  some (Value.int IntKind.i64 n_9) ∧
  True) ∧
  ∃ (b : Bool),
  ∃ (b_1 : Bool),
  (∀ (w'_1 : World),
  Later w' w'_1 →
  Calls Proofs.Try.prog 29
  #[Value.agg
  #[Value.int IntKind.u8 n, Value.int IntKind.u8 n_1,
  Value.int IntKind.u8 n_2, Value.int IntKind.u8 n_3,
  Value.int IntKind.i64 n_4],
  Value.agg
  #[Value.int IntKind.u8 n_5, Value.int IntKind.u8 n_6,
  Value.int IntKind.u8 n_7, Value.int IntKind.u8 n_8,
  Value.int IntKind.i64 n_9]]
  w'_1 fun (e : Ending) (w'' : World) =>
  e =
  Ending.returned
  (Value.tuple #[Value.bool b, Value.bool b_1]) ∧
  Later w'_1 w'') ∧
  ∀ (w'_1 : World),
  Later w' w'_1 →
  cnd b
  (Calls Proofs.Try.prog 28
  #[Value.slice code' code'n code'c,
  Value.int IntKind.i64 at', Value.bool taken']
  w'_1 fun (e : Ending) (w' : World) =>
  ∃ (n : Int),
  e = Ending.returned (Value.int IntKind.i64 n) ∧
  R (Ending.returned (Value.bool (n == want))) w')
  (cnd (!b_1) (R (Ending.returned (Value.bool false)) w'_1)
  (Calls Proofs.Try.prog 28
  #[Value.slice code' code'n code'c,
  Value.int IntKind.i64 at', Value.bool !taken']
  w'_1 fun (e : Ending) (w' : World) =>
  ∃ (n : Int),
  e = Ending.returned (Value.int IntKind.i64 n) ∧
  cnd (n == want)
  (cnd (!taken')
  (R (Ending.returned (Value.bool true)) w')
  (cnd (decide (n < 0))
  (R (Ending.returned (Value.bool false)) w')
  (cnd
  (decide
  (IntKind.i64.wrap (n.tdiv 4) ≥
  (↑code'n : Int)))
  (R (Ending.returned (Value.bool false))
  w')
  ((0 ≤ IntKind.i64.wrap (n.tdiv 4) ∧
  IntKind.i64.wrap (n.tdiv 4) <
  (↑code'n : Int)) ∧
  Deref code' fun (a : Addr) =>
  ∃ (n_10 : Int),
  w'.cell?
  (a.add
  ((IntKind.i64.wrap
  (n.tdiv 4)).toNat *
  5)) =
  some
  (Value.int IntKind.u8 n_10) ∧
  cnd (n_10 != 32)
  (R
  (Ending.returned
  (Value.bool false))
  w')
  ((0 ≤
  IntKind.i64.wrap
  (n.tdiv 4) ∧
  IntKind.i64.wrap
  (n.tdiv 4) <
  (↑code'n : Int)) ∧
  Deref code' fun (a : Addr) =>
  ∃ (n_11 : Int),
  w'.cell?
  ((a.add
  ((IntKind.i64.wrap
  (n.tdiv
  4)).toNat *
  5)).add
  1) =
  some
  (Value.int
  IntKind.u8 n_11) ∧
  cnd (n_11 != 0)
  (R
  (Ending.returned
  (Value.bool
  false))
  w')
  (cnd taken'
  (Calls
  Proofs.Try.prog 28
  #[Value.slice
  code' code'n
  code'c,
  Value.int
  IntKind.i64 n,
  Value.bool true]
  w'
  fun (e : Ending)
  (w' : World) =>
  ∃ (n : Int),
  e =
  Ending.returned
  (Value.int
  IntKind.i64
  n) ∧
  R
  (Ending.returned
  (Value.bool
  (n ==
  want)))
  w')
  (R
  (Ending.returned
  (Value.bool
  false))
  w')))))))
  (cnd (decide (n < 0))
  (R (Ending.returned (Value.bool false)) w')
  (cnd
  (decide
  (IntKind.i64.wrap (n.tdiv 4) ≥
  (↑code'n : Int)))
  (R (Ending.returned (Value.bool false)) w')
  ((0 ≤ IntKind.i64.wrap (n.tdiv 4) ∧
  IntKind.i64.wrap (n.tdiv 4) <
  (↑code'n : Int)) ∧
  Deref code' fun (a : Addr) =>
  ∃ (n_10 : Int),
  w'.cell?
  (a.add
  ((IntKind.i64.wrap
  (n.tdiv 4)).toNat *
  5)) =
  some (Value.int IntKind.u8 n_10) ∧
  cnd (n_10 != 32)
  (R
  (Ending.returned
  (Value.bool false))
  w')
  ((0 ≤
  IntKind.i64.wrap
  (n.tdiv 4) ∧
  IntKind.i64.wrap (n.tdiv 4) <
  (↑code'n : Int)) ∧
  Deref code' fun (a : Addr) =>
  ∃ (n_11 : Int),
  w'.cell?
  ((a.add
  ((IntKind.i64.wrap
  (n.tdiv
  4)).toNat *
  5)).add
  1) =
  some
  (Value.int IntKind.u8
  n_11) ∧
  cnd (n_11 != 0)
  (R
  (Ending.returned
  (Value.bool false))
  w')
  (cnd taken'
  (Calls Proofs.Try.prog
  28
  #[Value.slice code'
  code'n code'c,
  Value.int
  IntKind.i64 n,
  Value.bool true]
  w'
  fun (e : Ending)
  (w' : World) =>
  ∃ (n : Int),
  e =
  Ending.returned
  (Value.int
  IntKind.i64
  n) ∧
  R
  (Ending.returned
  (Value.bool
  (n ==
  want)))
  w')
  (R
  (Ending.returned
  (Value.bool
  false))
  w')))))))))))
theorem law29_goes.vc_eq (code' : Option Addr) (code'n : Nat) (code'c : Nat) (x'_0 : Int) (x'_1 : Int) (x'_2 : Int) (x'_3 : Int) (x'_4 : Int) (x'_5 : Int) (x'_6 : Int) (at' : Int) (to' : Int) (next' : Int) (taken' : Bool) (w : World) (R : Ending → World → Prop) : fnV Try.prog law29_goes.H 15 [Value.slice code' code'n code'c,
  Value.agg
  #[Value.int IntKind.i64 x'_0, Value.int IntKind.u8 x'_1, Value.int IntKind.u8 x'_2, Value.int IntKind.u8 x'_3,
  Value.int IntKind.u8 x'_4, Value.int IntKind.i64 x'_5, Value.int IntKind.i64 x'_6],
  Value.int IntKind.i64 at', Value.int IntKind.i64 to', Value.int IntKind.i64 next', Value.bool taken'] w R = law29_goes.vc code' code'n code'c x'_0 x'_1 x'_2 x'_3 x'_4 x'_5 x'_6 at' to' next' taken' w R := by kernel_rfl
theorem law29_goes.calls {code' : Option Addr} {code'n : Nat} {code'c : Nat} {x'_0 : Int} {x'_1 : Int} {x'_2 : Int} {x'_3 : Int} {x'_4 : Int} {x'_5 : Int} {x'_6 : Int} {at' : Int} {to' : Int} {next' : Int} {taken' : Bool} {w : World} {R : Ending → World → Prop} (h : law29_goes.vc code' code'n code'c x'_0 x'_1 x'_2 x'_3 x'_4 x'_5 x'_6 at' to' next' taken' w R) : Calls Try.prog 15 ([Value.slice code' code'n code'c,
  Value.agg
  #[Value.int IntKind.i64 x'_0, Value.int IntKind.u8 x'_1, Value.int IntKind.u8 x'_2, Value.int IntKind.u8 x'_3,
  Value.int IntKind.u8 x'_4, Value.int IntKind.i64 x'_5, Value.int IntKind.i64 x'_6],
  Value.int IntKind.i64 at', Value.int IntKind.i64 to', Value.int IntKind.i64 next', Value.bool taken'] : List Value).toArray w R := calls_of_eq (law29_goes.vc_eq code' code'n code'c x'_0 x'_1 x'_2 x'_3 x'_4 x'_5 x'_6 at' to' next' taken' w R) h

/- function 5: sacristy/sacristylaw29.FixGoes -/
abbrev law29_FixGoes.N : FuncId := 5
def law29_FixGoes.H : Hints := { loops := [(15, [(11, .one (.int .i64))])], conds := [(19088, [(12, .one (.int .i64))])], regs := [(8, [(67, .one .bool)]), (19, [(134, .one .bool)]), (22, [(172, .one .bool)]), (24, [(221, .one .bool)])] }
def law29_FixGoes.vc (l' : Option Addr) (l'n : Nat) (l'c : Nat) (w : World) (R : Ending → World → Prop) : Prop :=
  Calls Proofs.Try.prog 6 #[Value.slice l' l'n l'c] w fun (e : Ending) (w' : World) =>
  ∃ (b : Bool),
  e = Ending.returned (Value.bool b) ∧
  cnd b
  (Calls Proofs.Try.prog 7 #[] w' fun (e : Ending) (w' : World) =>
  ∃ (b : Bool), e = Ending.returned (Value.bool b) ∧ R (Ending.returned (Value.bool b)) w')
  (Calls Proofs.Try.prog 8 #[Value.slice l' l'n l'c] w' fun (e : Ending) (w' : World) =>
  ∃ (p : Option Addr),
  ∃ (n : Nat),
  ∃ (c : Nat),
  ∃ (n_1 : Int),
  e = Ending.returned (Value.tuple #[Value.slice p n c, Value.int IntKind.i64 n_1]) ∧
  Calls Proofs.Try.prog 9 #[Value.slice l' l'n l'c] w' fun (e : Ending) (w' : World) =>
  ∃ (p_1 : Option Addr),
  ∃ (n_2 : Nat),
  ∃ (c_1 : Nat),
  ∃ (n_3 : Int),
  e = Ending.returned (Value.tuple #[Value.slice p_1 n_2 c_1, Value.int IntKind.i64 n_3]) ∧
  cnd (n_1 != 0)
  (cnd (n_1 == n_3)
  (cnd (IntKind.i64.wrap ((↑n : Int) + (↑n_2 : Int)) == 0)
  (Calls Proofs.Try.prog 7 #[] w' fun (e : Ending) (w' : World) =>
  ∃ (b : Bool),
  e = Ending.returned (Value.bool b) ∧ R (Ending.returned (Value.bool b)) w')
  (R (Ending.returned (Value.bool false)) w'))
  (R (Ending.returned (Value.bool false)) w'))
  (cnd (n_3 != 0)
  (cnd (n_1 == n_3)
  (cnd (IntKind.i64.wrap ((↑n : Int) + (↑n_2 : Int)) == 0)
  (Calls Proofs.Try.prog 7 #[] w' fun (e : Ending) (w' : World) =>
  ∃ (b : Bool),
  e = Ending.returned (Value.bool b) ∧ R (Ending.returned (Value.bool b)) w')
  (R (Ending.returned (Value.bool false)) w'))
  (R (Ending.returned (Value.bool false)) w'))
  (Calls Proofs.Try.prog 13 #[Value.slice l' l'n l'c] w'
  fun (e : Ending) (w' : World) =>
  ∃ (p_2 : Option Addr),
  ∃ (n_4 : Nat),
  ∃ (c_2 : Nat),
  ∃ (b : Bool),
  e =
  Ending.returned
  (Value.tuple #[Value.slice p_2 n_4 c_2, Value.bool b]) ∧
  ∃ (J : List Value → World → Prop),
  cnd (!b) (J [Value.bool true] w')
  (cnd ((↑n_2 : Int) != (↑l'n : Int)) (J [Value.bool true] w')
  (J
  [Value.bool
  (decide
  ((↑n : Int) > IntKind.i64.wrap (2 * (↑l'n : Int))))]
  w')) ∧
  ∀ (g : Nat → Value) (s67 : Bool) (w' : World),
  J [Value.bool s67] w' →
  cnd s67 (R (Ending.returned (Value.bool false)) w')
  (Calls Proofs.Try.prog 14 #[Value.slice p n c] w'
  fun (e : Ending) (w' : World) =>
  ∃ (s : ByteArray),
  ∃ (n_5 : Int),
  e =
  Ending.returned
  (Value.tuple
  #[Value.string s, Value.int IntKind.i64 n_5]) ∧
  cnd (n_5 != 0)
  (R (Ending.returned (Value.bool false)) w')
  (∃ (I : List Value → World → Prop),
  ∃ (μ : List Value → World → Nat),
  I [Value.int IntKind.i64 0] w' ∧
  ∀ (g : Nat → Value) (i : Int) (w' : World),
  I [Value.int IntKind.i64 i] w' →
  cnd (decide (i < (↑l'n : Int)))
  (∃ (J : List Value → World → Prop),
  cnd
  (decide
  (IntKind.i64.wrap (i + 1) <
  (↑l'n : Int)))
  ((0 ≤ IntKind.i64.wrap (i + 1) ∧
  IntKind.i64.wrap (i + 1) <
  (↑n_2 : Int)) ∧
  Deref p_1 fun (a : Addr) =>
  ∃ (n : Int),
  w'.cell?
  (a.add
  ((IntKind.i64.wrap
  (i +
  1)).toNat *
  1)) =
  some
  (Value.int IntKind.i64
  n) ∧
  J
  [Value.int IntKind.i64
  n]
  w')
  (J
  [Value.int IntKind.i64
  (IntKind.i64.wrap
  (4 * (↑n : Int)))]
  w') ∧
  ∀ (g : Nat → Value) (next : Int)
  (w'_1 : World),
  J [Value.int IntKind.i64 next]
  w'_1 →
  ∃ (J :
  List Value → World → Prop),
  ((0 ≤ i ∧ i < (↑n_2 : Int)) ∧
  Deref p_1
  fun (a : Addr) =>
  ∃ (n : Int),
  w'_1.cell?
  (a.add
  (i.toNat *
  1)) =
  some
  (Value.int
  IntKind.i64
  n) ∧
  cnd (decide (n < 0))
  (J
  [Value.bool
  true]
  w'_1)
  ((0 ≤ i ∧
  i <
  (↑n_2 :
  Int)) ∧
  Deref p_1
  fun
  (a :
  Addr) =>
  ∃ (n : Int),
  w'_1.cell?
  (a.add
  (i.toNat *
  1)) =
  some
  (Value.int
  IntKind.i64
  n) ∧
  cnd
  (n.tmod
  4 !=
  0)
  (J
  [Value.bool
  true]
  w'_1)
  ((0 ≤
  i ∧
  i <
  (↑n_2 :
  Int)) ∧
  Deref
  p_1
  fun
  (a :
  Addr) =>
  ∃ (n
  :
  Int),
  w'_1.cell?
  (a.add
  (i.toNat *
  1)) =
  some
  (Value.int
  IntKind.i64
  n) ∧
  cnd
  (decide
  (next ≤
  n))
  (J
  [Value.bool
  true]
  w'_1)
  ((0 ≤
  i ∧
  i <
  (↑n_2 :
  Int)) ∧
  Deref
  p_1
  fun
  (a :
  Addr) =>
  ∃
  (n
  :
  Int),
  w'_1.cell?
  (a.add
  (i.toNat *
  1)) =
  some
  (Value.int
  IntKind.i64
  n) ∧
  cnd
  (decide
  (next >
  IntKind.i64.wrap
  (n +
  8)))
  (J
  [Value.bool
  true]
  w'_1)
  (cnd
  (i ==
  0)
  ((0 ≤
  i ∧
  i <
  (↑n_2 :
  Int)) ∧
  Deref
  p_1
  fun
  (a :
  Addr) =>
  ∃
  (n
  :
  Int),
  w'_1.cell?
  (a.add
  (i.toNat *
  1)) =
  some
  (Value.int
  IntKind.i64
  n) ∧
  J
  [Value.bool
  (n !=
  0)]
  w'_1)
  (J
  [Value.bool
  false]
  w'_1)))))) ∧
  ∀ (g : Nat → Value)
  (s134 : Bool)
  (w'_2 : World),
  J [Value.bool s134] w'_2 →
  cnd s134
  (R
  (Ending.returned
  (Value.bool
  false))
  w'_2)
  ((0 ≤ i ∧
  i <
  (↑n_4 : Int)) ∧
  Deref p_2
  fun (a : Addr) =>
  ∃ (n_6 : Int),
  w'_2.cell?
  (a.add
  (i.toNat *
  1)) =
  some
  (Value.int
  IntKind.i64
  n_6) ∧
  cnd
  (decide
  (n_6 < 0))
  (∃ (J :
  List
  Value →
  World →
  Prop),
  ((0 ≤ i ∧
  i <
  (↑n_2 :
  Int)) ∧
  Deref
  p_1
  fun
  (a :
  Addr) =>
  ∃
  (n_7
  :
  Int),
  (∀
  (w' :
  World),
  Later
  w'_2
  w' →
  w'.cell?
  (a.add
  (i.toNat *
  1)) =
  some
  (Value.int
  IntKind.i64
  n_7)) ∧
  cnd
  (next !=
  IntKind.i64.wrap
  (n_7 +
  4))
  (∀
  (w' :
  World),
  Later
  w'_2
  w' →
  J
  [Value.bool
  true]
  w')
  ((0 ≤
  i ∧
  i <
  (↑n_2 :
  Int)) ∧
  Deref
  p_1
  fun
  (a :
  Addr) =>
  ∃
  (n_8
  :
  Int),
  (∀
  (w' :
  World),
  Later
  w'_2
  w' →
  w'.cell?
  (a.add
  (i.toNat *
  1)) =
  some
  (Value.int
  IntKind.i64
  n_8)) ∧
  cnd
  (decide
  (IntKind.i64.wrap
  (n_8.tdiv
  4) ≥
  (↑n :
  Int)))
  (∀
  (w' :
  World),
  Later
  w'_2
  w' →
  J
  [Value.bool
  true]
  w')
  ((0 ≤
  i ∧
  i <
  (↑n_2 :
  Int)) ∧
  Deref
  p_1
  fun
  (a :
  Addr) =>
  ∃
  (n_9
  :
  Int),
  (∀
  (w' :
  World),
  Later
  w'_2
  w' →
  w'.cell?
  (a.add
  (i.toNat *
  1)) =
  some
  (Value.int
  IntKind.i64
  n_9)) ∧
  (0 ≤
  IntKind.i64.wrap
  (n_9.tdiv
  4) ∧
  IntKind.i64.wrap
  (n_9.tdiv
  4) <
  (↑n :
  Int)) ∧
  Deref
  p
  fun
  (a :
  Addr) =>
  ∃
  (n
  :
  Int),
  ∃
  (n_10
  :
  Int),
  ∃
  (n_11
  :
  Int),
  ∃
  (n_12
  :
  Int),
  ∃
  (n_13
  :
  Int),
  (∀
  (w' :
  World),
  Later
  w'_2
  w' →
  w'.cell?
  (a.add
  ((IntKind.i64.wrap
  (n_9.tdiv
  4)).toNat *
  5)) =
  some
  (Value.int
  IntKind.u8
  n) ∧
  w'.cell?
  ((a.add
  ((IntKind.i64.wrap
  (n_9.tdiv
  4)).toNat *
  5)).add
  1) =
  some
  (Value.int
  IntKind.u8
  n_10) ∧
  w'.cell?
  ((a.add
  ((IntKind.i64.wrap
  (n_9.tdiv
  4)).toNat *
  5)).add
  2) =
  some
  (Value.int
  IntKind.u8
  n_11) ∧
  w'.cell?
  ((a.add
  ((IntKind.i64.wrap
  (n_9.tdiv
  4)).toNat *
  5)).add
  3) =
  some
  (Value.int
  IntKind.u8
  n_12) ∧
  w'.cell?
  ((a.add
  ((IntKind.i64.wrap
  (n_9.tdiv
  4)).toNat *
  5)).add
  4) =
  some
  (Value.int
  IntKind.i64
  n_13) ∧
  True) ∧
  (0 ≤
  i ∧
  i <
  (↑l'n :
  Int)) ∧
  Deref
  l'
  fun
  (a :
  Addr) =>
  ∃
  (n_14
  :
  Int),
  ∃
  (n_15
  :
  Int),
  ∃
  (n_16
  :
  Int),
  ∃
  (n_17
  :
  Int),
  ∃
  (n_18
  :
  Int),
  (∀
  (w' :
  World),
  Later
  w'_2
  w' →
  w'.cell?
  ((a.add
  (i.toNat *
  7)).add
  1) =
  some
  (Value.int
  IntKind.u8
  n_14) ∧
  w'.cell?
  (((a.add
  (i.toNat *
  7)).add
  1).add
  1) =
  some
  (Value.int
  IntKind.u8
  n_15) ∧
  w'.cell?
  (((a.add
  (i.toNat *
  7)).add
  1).add
  2) =
  some
  (Value.int
  IntKind.u8
  n_16) ∧
  w'.cell?
  (((a.add
  (i.toNat *
  7)).add
  1).add
  3) =
  some
  (Value.int
  IntKind.u8
  n_17) ∧
  w'.cell?
  (((a.add
  (i.toNat *
  7)).add
  1).add
  4) =
  some
  (Value.int
  IntKind.i64
  n_18) ∧
  True) ∧
  ∃
  (b
  :
  Bool),
  EqRuns
  Proofs.Try.prog
  BinOp.neq
  35
  (Operand.tmp
  165)
  (Operand.tmp
  170)
  (Value.agg
  #[Value.int
  IntKind.u8
  n,
  Value.int
  IntKind.u8
  n_10,
  Value.int
  IntKind.u8
  n_11,
  Value.int
  IntKind.u8
  n_12,
  Value.int
  IntKind.i64
  n_13])
  (Value.agg
  #[Value.int
  IntKind.u8
  n_14,
  Value.int
  IntKind.u8
  n_15,
  Value.int
  IntKind.u8
  n_16,
  Value.int
  IntKind.u8
  n_17,
  Value.int
  IntKind.i64
  n_18])
  b ∧
  ∀
  (w' :
  World),
  Later
  w'_2
  w' →
  J
  [Value.bool
  b]
  w'))) ∧
  ∀
  (g :
  Nat →
  Value)
  (s172 :
  Bool)
  (w'_3 :
  World),
  J
  [Value.bool
  s172]
  w'_3 →
  cnd
  s172
  (R
  (Ending.returned
  (Value.bool
  false))
  w'_3)
  (Goes
  I
  μ
  [Value.int
  IntKind.i64
  i]
  w'
  [Value.int
  IntKind.i64
  (IntKind.i64.wrap
  (i +
  1))]
  w'_3))
  (∃ (J :
  List
  Value →
  World →
  Prop),
  ((0 ≤ i ∧
  i <
  (↑l'n :
  Int)) ∧
  Deref
  l'
  fun
  (a :
  Addr) =>
  ∃
  (n_7
  :
  Int),
  ∃
  (n_8
  :
  Int),
  ∃
  (n_9
  :
  Int),
  ∃
  (n_10
  :
  Int),
  ∃
  (n_11
  :
  Int),
  ∃
  (n_12
  :
  Int),
  ∃
  (n_13
  :
  Int),
  (∀
  (w' :
  World),
  Later
  w'_2
  w' →
  w'.cell?
  (a.add
  (i.toNat *
  7)) =
  some
  (Value.int
  IntKind.i64
  n_7) ∧
  w'.cell?
  ((a.add
  (i.toNat *
  7)).add
  1) =
  some
  (Value.int
  IntKind.u8
  n_8) ∧
  w'.cell?
  ((a.add
  (i.toNat *
  7)).add
  2) =
  some
  (Value.int
  IntKind.u8
  n_9) ∧
  w'.cell?
  ((a.add
  (i.toNat *
  7)).add
  3) =
  some
  (Value.int
  IntKind.u8
  n_10) ∧
  w'.cell?
  ((a.add
  (i.toNat *
  7)).add
  4) =
  some
  (Value.int
  IntKind.u8
  n_11) ∧
  w'.cell?
  ((a.add
  (i.toNat *
  7)).add
  5) =
  some
  (Value.int
  IntKind.i64
  n_12) ∧
  w'.cell?
  ((a.add
  (i.toNat *
  7)).add
  6) =
  some
  (Value.int
  IntKind.i64
  n_13) ∧
  True) ∧
  (0 ≤
  i ∧
  i <
  (↑n_2 :
  Int)) ∧
  Deref
  p_1
  fun
  (a :
  Addr) =>
  ∃
  (n_14
  :
  Int),
  (∀
  (w' :
  World),
  Later
  w'_2
  w' →
  w'.cell?
  (a.add
  (i.toNat *
  1)) =
  some
  (Value.int
  IntKind.i64
  n_14)) ∧
  (0 ≤
  i ∧
  i <
  (↑n_4 :
  Int)) ∧
  Deref
  p_2
  fun
  (a :
  Addr) =>
  ∃
  (n_15
  :
  Int),
  (∀
  (w' :
  World),
  Later
  w'_2
  w' →
  w'.cell?
  (a.add
  (i.toNat *
  1)) =
  some
  (Value.int
  IntKind.i64
  n_15)) ∧
  (0 ≤
  n_15 ∧
  n_15 <
  (↑n_2 :
  Int)) ∧
  Deref
  p_1
  fun
  (a :
  Addr) =>
  ∃
  (n_16
  :
  Int),
  (∀
  (w' :
  World),
  Later
  w'_2
  w' →
  w'.cell?
  (a.add
  (n_15.toNat *
  1)) =
  some
  (Value.int
  IntKind.i64
  n_16)) ∧
  ∃
  (b
  :
  Bool),
  (∀
  (w' :
  World),
  Later
  w'_2
  w' →
  Calls
  Proofs.Try.prog
  15
  #[Value.slice
  p
  n
  c,
  Value.agg
  #[Value.int
  IntKind.i64
  n_7,
  Value.int
  IntKind.u8
  n_8,
  Value.int
  IntKind.u8
  n_9,
  Value.int
  IntKind.u8
  n_10,
  Value.int
  IntKind.u8
  n_11,
  Value.int
  IntKind.i64
  n_12,
  Value.int
  IntKind.i64
  n_13],
  Value.int
  IntKind.i64
  n_14,
  Value.int
  IntKind.i64
  n_16,
  Value.int
  IntKind.i64
  next,
  Value.bool
  true]
  w'
  fun
  (e :
  Ending)
  (w'' :
  World) =>
  e =
  Ending.returned
  (Value.bool
  b) ∧
  Later
  w'
  w'') ∧
  cnd
  (!b)
  (∀
  (w' :
  World),
  Later
  w'_2
  w' →
  J
  [Value.bool
  true]
  w')
  ((0 ≤
  i ∧
  i <
  (↑l'n :
  Int)) ∧
  Deref
  l'
  fun
  (a :
  Addr) =>
  ∃
  (n_17
  :
  Int),
  (∀
  (w' :
  World),
  Later
  w'_2
  w' →
  w'.cell?
  ((a.add
  (i.toNat *
  7)).add
  1) =
  some
  (Value.int
  IntKind.u8
  n_17)) ∧
  cnd
  (n_17 !=
  32)
  ((0 ≤
  i ∧
  i <
  (↑l'n :
  Int)) ∧
  Deref
  l'
  fun
  (a :
  Addr) =>
  ∃
  (n_18
  :
  Int),
  ∃
  (n_19
  :
  Int),
  ∃
  (n_20
  :
  Int),
  ∃
  (n_21
  :
  Int),
  ∃
  (n_22
  :
  Int),
  ∃
  (n_23
  :
  Int),
  ∃
  (n_24
  :
  Int),
  (∀
  (w' :
  World),
  Later
  w'_2
  w' →
  w'.cell?
  (a.add
  (i.toNat *
  7)) =
  some
  (Value.int
  IntKind.i64
  n_18) ∧
  w'.cell?
  ((a.add
  (i.toNat *
  7)).add
  1) =
  some
  (Value.int
  IntKind.u8
  n_19) ∧
  w'.cell?
  ((a.add
  (i.toNat *
  7)).add
  2) =
  some
  (Value.int
  IntKind.u8
  n_20) ∧
  w'.cell?
  ((a.add
  (i.toNat *
  7)).add
  3) =
  some
  (Value.int
  IntKind.u8
  n_21) ∧
  w'.cell?
  ((a.add
  (i.toNat *
  7)).add
  4) =
  some
  (Value.int
  IntKind.u8
  n_22) ∧
  w'.cell?
  ((a.add
  (i.toNat *
  7)).add
  5) =
  some
  (Value.int
  IntKind.i64
  n_23) ∧
  w'.cell?
  ((a.add
  (i.toNat *
  7)).add
  6) =
  some
  (Value.int
  IntKind.i64
  n_24) ∧
  True) ∧
  (0 ≤
  i ∧
  i <
  (↑n_2 :
  Int)) ∧
  Deref
  p_1
  fun
  (a :
  Addr) =>
  ∃
  (n_25
  :
  Int),
  (∀
  (w' :
  World),
  Later
  w'_2
  w' →
  w'.cell?
  (a.add
  (i.toNat *
  1)) =
  some
  (Value.int
  IntKind.i64
  n_25)) ∧
  (0 ≤
  i ∧
  i <
  (↑n_4 :
  Int)) ∧
  Deref
  p_2
  fun
  (a :
  Addr) =>
  ∃
  (n_26
  :
  Int),
  (∀
  (w' :
  World),
  Later
  w'_2
  w' →
  w'.cell?
  (a.add
  (i.toNat *
  1)) =
  some
  (Value.int
  IntKind.i64
  n_26)) ∧
  (0 ≤
  n_26 ∧
  n_26 <
  (↑n_2 :
  Int)) ∧
  Deref
  p_1
  fun
  (a :
  Addr) =>
  ∃
  (n_27
  :
  Int),
  (∀
  (w' :
  World),
  Later
  w'_2
  w' →
  w'.cell?
  (a.add
  (n_26.toNat *
  1)) =
  some
  (Value.int
  IntKind.i64
  n_27)) ∧
  ∃
  (b
  :
  Bool),
  (∀
  (w' :
  World),
  Later
  w'_2
  w' →
  Calls
  Proofs.Try.prog
  15
  #[Value.slice
  p
  n
  c,
  Value.agg
  #[Value.int
  IntKind.i64
  n_18,
  Value.int
  IntKind.u8
  n_19,
  Value.int
  IntKind.u8
  n_20,
  Value.int
  IntKind.u8
  n_21,
  Value.int
  IntKind.u8
  n_22,
  Value.int
  IntKind.i64
  n_23,
  Value.int
  IntKind.i64
  n_24],
  Value.int
  IntKind.i64
  n_25,
  Value.int
  IntKind.i64
  n_27,
  Value.int
  IntKind.i64
  next,
  Value.bool
  false]
  w'
  fun
  (e :
  Ending)
  (w'' :
  World) =>
  e =
  Ending.returned
  (Value.bool
  b) ∧
  Later
  w'
  w'') ∧
  ∀
  (w' :
  World),
  Later
  w'_2
  w' →
  J
  [Value.bool
  !b]
  w')
  (∀
  (w' :
  World),
  Later
  w'_2
  w' →
  J
  [Value.bool
  false]
  w'))) ∧
  ∀
  (g :
  Nat →
  Value)
  (s221 :
  Bool)
  (w'_3 :
  World),
  J
  [Value.bool
  s221]
  w'_3 →
  cnd
  s221
  (R
  (Ending.returned
  (Value.bool
  false))
  w'_3)
  (Goes
  I
  μ
  [Value.int
  IntKind.i64
  i]
  w'
  [Value.int
  IntKind.i64
  (IntKind.i64.wrap
  (i +
  1))]
  w'_3))))
  (Calls Proofs.Try.prog 7 #[] w'
  fun (e : Ending) (w' : World) =>
  ∃ (b : Bool),
  e = Ending.returned (Value.bool b) ∧
  R (Ending.returned (Value.bool b))
  w'))))))
theorem law29_FixGoes.vc_eq (l' : Option Addr) (l'n : Nat) (l'c : Nat) (w : World) (R : Ending → World → Prop) : fnV Try.prog law29_FixGoes.H 5 [Value.slice l' l'n l'c] w R = law29_FixGoes.vc l' l'n l'c w R := by kernel_rfl
theorem law29_FixGoes.calls {l' : Option Addr} {l'n : Nat} {l'c : Nat} {w : World} {R : Ending → World → Prop} (h : law29_FixGoes.vc l' l'n l'c w R) : Calls Try.prog 5 ([Value.slice l' l'n l'c] : List Value).toArray w R := calls_of_eq (law29_FixGoes.vc_eq l' l'n l'c w R) h

end Go.Proofs.Ytglakmkedoklmaa
