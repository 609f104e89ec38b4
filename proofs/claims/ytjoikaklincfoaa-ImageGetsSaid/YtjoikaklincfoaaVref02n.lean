/-
The explicit conditions of some functions of the program, printed by this repo's own program over VcTop: what is proved is that each is the condition.
Conditions: none.
-/
import Derived.Test.YtjoikaklincfoaaVcTop
import Derived.Test.YtjoikaklincfoaaProg
namespace Go.Proofs.Ytjoikaklincfoaa
open Go Go.Vc Go.RowKit
set_option linter.unusedVariables false
set_option maxRecDepth 100000

/- function 35: sacristy/sacristyref02.named -/
abbrev ref02_named.N : FuncId := 35
def ref02_named.H : Hints := { conds := [(9095, [(95, .one .bool)])], regs := [(1, [(5, .one .bool)]), (2, [(6, .one .bool)]), (3, [(7, .one .bool)]), (4, [(93, .one .bool)])] }
def ref02_named.vc (form' : Int) (x'_0 : Int) (x'_1 : Int) (x'_2 : Int) (x'_3 : Int) (x'_4 : Int) (w : World) (R : Ending → World → Prop) : Prop :=
  ∀ (w' : World),
  w' =
  w.alloc
  (Obj.cells
  #[Value.int IntKind.u8 x'_0, Value.int IntKind.u8 x'_1, Value.int IntKind.u8 x'_2, Value.int IntKind.u8 x'_3,
  Value.int IntKind.i64 x'_4]
  39) →
  ∃ (J : List Value → World → Prop),
  cnd (form' == 1) (J [Value.bool true] w')
  (cnd (form' == 2) (J [Value.bool true] w')
  (cnd (form' == 3) (J [Value.bool true] w')
  (cnd (form' == 4) (J [Value.bool true] w') (J [Value.bool (form' == 7)] w')))) ∧
  ∀ (g : Nat → Value) (rd : Bool) (w' : World),
  J [Value.bool rd] w' →
  ∃ (J : List Value → World → Prop),
  cnd (form' == 1) (J [Value.bool true] w')
  (cnd (form' == 2) (J [Value.bool true] w')
  (cnd (form' == 3) (J [Value.bool true] w')
  (cnd (form' == 5) (J [Value.bool true] w') (J [Value.bool (form' == 6)] w')))) ∧
  ∀ (g : Nat → Value) (rs1 : Bool) (w' : World),
  J [Value.bool rs1] w' →
  ∃ (J : List Value → World → Prop),
  cnd (form' == 1) (J [Value.bool true] w')
  (cnd (form' == 5) (J [Value.bool true] w') (J [Value.bool (form' == 6)] w')) ∧
  ∀ (g : Nat → Value) (rs2 : Bool) (w' : World),
  J [Value.bool rs2] w' →
  ∃ (J : List Value → World → Prop),
  cnd (!rd)
  (∃ (n : Int),
  w'.cell? (Addr.mk w.heap.size 1 none) = some (Value.int IntKind.u8 n) ∧
  cnd (n != 0) (J [Value.bool true] w')
  (cnd (!rs1)
  (∃ (n : Int),
  w'.cell? (Addr.mk w.heap.size 2 none) = some (Value.int IntKind.u8 n) ∧
  cnd (n != 0) (J [Value.bool true] w')
  (cnd (!rs2)
  (∃ (n : Int),
  w'.cell? (Addr.mk w.heap.size 3 none) =
  some (Value.int IntKind.u8 n) ∧
  cnd (n != 0) (J [Value.bool true] w')
  (∃ (n : Int),
  w'.cell? (Addr.mk w.heap.size 1 none) =
  some (Value.int IntKind.u8 n) ∧
  cnd (decide (n > 31)) (J [Value.bool true] w')
  (∃ (n : Int),
  w'.cell? (Addr.mk w.heap.size 2 none) =
  some (Value.int IntKind.u8 n) ∧
  cnd (decide (n > 31)) (J [Value.bool true] w')
  (∃ (n : Int),
  w'.cell? (Addr.mk w.heap.size 3 none) =
  some (Value.int IntKind.u8 n) ∧
  J [Value.bool (decide (n > 31))] w'))))
  (∃ (n : Int),
  w'.cell? (Addr.mk w.heap.size 1 none) =
  some (Value.int IntKind.u8 n) ∧
  cnd (decide (n > 31)) (J [Value.bool true] w')
  (∃ (n : Int),
  w'.cell? (Addr.mk w.heap.size 2 none) =
  some (Value.int IntKind.u8 n) ∧
  cnd (decide (n > 31)) (J [Value.bool true] w')
  (∃ (n : Int),
  w'.cell? (Addr.mk w.heap.size 3 none) =
  some (Value.int IntKind.u8 n) ∧
  J [Value.bool (decide (n > 31))] w')))))
  (cnd (!rs2)
  (∃ (n : Int),
  w'.cell? (Addr.mk w.heap.size 3 none) = some (Value.int IntKind.u8 n) ∧
  cnd (n != 0) (J [Value.bool true] w')
  (∃ (n : Int),
  w'.cell? (Addr.mk w.heap.size 1 none) =
  some (Value.int IntKind.u8 n) ∧
  cnd (decide (n > 31)) (J [Value.bool true] w')
  (∃ (n : Int),
  w'.cell? (Addr.mk w.heap.size 2 none) =
  some (Value.int IntKind.u8 n) ∧
  cnd (decide (n > 31)) (J [Value.bool true] w')
  (∃ (n : Int),
  w'.cell? (Addr.mk w.heap.size 3 none) =
  some (Value.int IntKind.u8 n) ∧
  J [Value.bool (decide (n > 31))] w'))))
  (∃ (n : Int),
  w'.cell? (Addr.mk w.heap.size 1 none) = some (Value.int IntKind.u8 n) ∧
  cnd (decide (n > 31)) (J [Value.bool true] w')
  (∃ (n : Int),
  w'.cell? (Addr.mk w.heap.size 2 none) =
  some (Value.int IntKind.u8 n) ∧
  cnd (decide (n > 31)) (J [Value.bool true] w')
  (∃ (n : Int),
  w'.cell? (Addr.mk w.heap.size 3 none) =
  some (Value.int IntKind.u8 n) ∧
  J [Value.bool (decide (n > 31))] w'))))))
  (cnd (!rs1)
  (∃ (n : Int),
  w'.cell? (Addr.mk w.heap.size 2 none) = some (Value.int IntKind.u8 n) ∧
  cnd (n != 0) (J [Value.bool true] w')
  (cnd (!rs2)
  (∃ (n : Int),
  w'.cell? (Addr.mk w.heap.size 3 none) = some (Value.int IntKind.u8 n) ∧
  cnd (n != 0) (J [Value.bool true] w')
  (∃ (n : Int),
  w'.cell? (Addr.mk w.heap.size 1 none) =
  some (Value.int IntKind.u8 n) ∧
  cnd (decide (n > 31)) (J [Value.bool true] w')
  (∃ (n : Int),
  w'.cell? (Addr.mk w.heap.size 2 none) =
  some (Value.int IntKind.u8 n) ∧
  cnd (decide (n > 31)) (J [Value.bool true] w')
  (∃ (n : Int),
  w'.cell? (Addr.mk w.heap.size 3 none) =
  some (Value.int IntKind.u8 n) ∧
  J [Value.bool (decide (n > 31))] w'))))
  (∃ (n : Int),
  w'.cell? (Addr.mk w.heap.size 1 none) = some (Value.int IntKind.u8 n) ∧
  cnd (decide (n > 31)) (J [Value.bool true] w')
  (∃ (n : Int),
  w'.cell? (Addr.mk w.heap.size 2 none) =
  some (Value.int IntKind.u8 n) ∧
  cnd (decide (n > 31)) (J [Value.bool true] w')
  (∃ (n : Int),
  w'.cell? (Addr.mk w.heap.size 3 none) =
  some (Value.int IntKind.u8 n) ∧
  J [Value.bool (decide (n > 31))] w')))))
  (cnd (!rs2)
  (∃ (n : Int),
  w'.cell? (Addr.mk w.heap.size 3 none) = some (Value.int IntKind.u8 n) ∧
  cnd (n != 0) (J [Value.bool true] w')
  (∃ (n : Int),
  w'.cell? (Addr.mk w.heap.size 1 none) = some (Value.int IntKind.u8 n) ∧
  cnd (decide (n > 31)) (J [Value.bool true] w')
  (∃ (n : Int),
  w'.cell? (Addr.mk w.heap.size 2 none) =
  some (Value.int IntKind.u8 n) ∧
  cnd (decide (n > 31)) (J [Value.bool true] w')
  (∃ (n : Int),
  w'.cell? (Addr.mk w.heap.size 3 none) =
  some (Value.int IntKind.u8 n) ∧
  J [Value.bool (decide (n > 31))] w'))))
  (∃ (n : Int),
  w'.cell? (Addr.mk w.heap.size 1 none) = some (Value.int IntKind.u8 n) ∧
  cnd (decide (n > 31)) (J [Value.bool true] w')
  (∃ (n : Int),
  w'.cell? (Addr.mk w.heap.size 2 none) = some (Value.int IntKind.u8 n) ∧
  cnd (decide (n > 31)) (J [Value.bool true] w')
  (∃ (n : Int),
  w'.cell? (Addr.mk w.heap.size 3 none) =
  some (Value.int IntKind.u8 n) ∧
  J [Value.bool (decide (n > 31))] w'))))) ∧
  ∀ (g : Nat → Value) (s93 : Bool) (w' : World),
  J [Value.bool s93] w' →
  cnd s93 (R (Ending.returned (Value.bool false)) w')
  (∃ (J : List Value → World → Prop),
  cnd (form' == 2) (J [Value.bool (form' == 2)] w')
  (J [Value.bool (form' == 5)] w') ∧
  ∀ (g : Nat → Value) (s95 : Bool) (w' : World),
  J [Value.bool s95] w' →
  cnd s95
  (∃ (n : Int),
  w'.cell? (Addr.mk w.heap.size 4 none) =
  some (Value.int IntKind.i64 n) ∧
  Calls Proofs.Try.prog 42
  #[Value.int IntKind.i64 n, Value.int IntKind.i64 12] w'
  fun (e : Ending) (w' : World) =>
  ∃ (b : Bool),
  e = Ending.returned (Value.bool b) ∧
  R (Ending.returned (Value.bool b)) w')
  (cnd (form' == 3)
  (∃ (n : Int),
  w'.cell? (Addr.mk w.heap.size 4 none) =
  some (Value.int IntKind.i64 n) ∧
  cnd (decide (n ≥ 0))
  (∃ (n : Int),
  w'.cell? (Addr.mk w.heap.size 4 none) =
  some (Value.int IntKind.i64 n) ∧
  R (Ending.returned (Value.bool (decide (n ≤ 63)))) w')
  (R (Ending.returned (Value.bool false)) w'))
  (cnd (form' == 4)
  (∃ (n : Int),
  w'.cell? (Addr.mk w.heap.size 4 none) =
  some (Value.int IntKind.i64 n) ∧
  Calls Proofs.Try.prog 42
  #[Value.int IntKind.i64 n, Value.int IntKind.i64 32] w'
  fun (e : Ending) (w' : World) =>
  ∃ (b : Bool),
  e = Ending.returned (Value.bool b) ∧
  cnd b
  (∃ (n : Int),
  w'.cell? (Addr.mk w.heap.size 4 none) =
  some (Value.int IntKind.i64 n) ∧
  R (Ending.returned (Value.bool (n.tmod 4096 == 0)))
  w')
  (R (Ending.returned (Value.bool false)) w'))
  (cnd (form' == 6)
  (∃ (n : Int),
  w'.cell? (Addr.mk w.heap.size 4 none) =
  some (Value.int IntKind.i64 n) ∧
  Calls Proofs.Try.prog 42
  #[Value.int IntKind.i64 n, Value.int IntKind.i64 13] w'
  fun (e : Ending) (w' : World) =>
  ∃ (b : Bool),
  e = Ending.returned (Value.bool b) ∧
  cnd b
  (∃ (n : Int),
  w'.cell? (Addr.mk w.heap.size 4 none) =
  some (Value.int IntKind.i64 n) ∧
  R (Ending.returned (Value.bool (n.tmod 2 == 0)))
  w')
  (R (Ending.returned (Value.bool false)) w'))
  (cnd (form' == 7)
  (∃ (n : Int),
  w'.cell? (Addr.mk w.heap.size 4 none) =
  some (Value.int IntKind.i64 n) ∧
  Calls Proofs.Try.prog 42
  #[Value.int IntKind.i64 n, Value.int IntKind.i64 21] w'
  fun (e : Ending) (w' : World) =>
  ∃ (b : Bool),
  e = Ending.returned (Value.bool b) ∧
  cnd b
  (∃ (n : Int),
  w'.cell? (Addr.mk w.heap.size 4 none) =
  some (Value.int IntKind.i64 n) ∧
  R (Ending.returned (Value.bool (n.tmod 2 == 0)))
  w')
  (R (Ending.returned (Value.bool false)) w'))
  (∃ (n : Int),
  w'.cell? (Addr.mk w.heap.size 4 none) =
  some (Value.int IntKind.i64 n) ∧
  R (Ending.returned (Value.bool (n == 0))) w'))))))
theorem ref02_named.vc_eq (form' : Int) (x'_0 : Int) (x'_1 : Int) (x'_2 : Int) (x'_3 : Int) (x'_4 : Int) (w : World) (R : Ending → World → Prop) : fnV Try.prog ref02_named.H 35 [Value.int IntKind.i64 form',
  Value.agg
  #[Value.int IntKind.u8 x'_0, Value.int IntKind.u8 x'_1, Value.int IntKind.u8 x'_2, Value.int IntKind.u8 x'_3,
  Value.int IntKind.i64 x'_4]] w R = ref02_named.vc form' x'_0 x'_1 x'_2 x'_3 x'_4 w R := by kernel_rfl
theorem ref02_named.calls {form' : Int} {x'_0 : Int} {x'_1 : Int} {x'_2 : Int} {x'_3 : Int} {x'_4 : Int} {w : World} {R : Ending → World → Prop} (h : ref02_named.vc form' x'_0 x'_1 x'_2 x'_3 x'_4 w R) : Calls Try.prog 35 ([Value.int IntKind.i64 form',
  Value.agg
  #[Value.int IntKind.u8 x'_0, Value.int IntKind.u8 x'_1, Value.int IntKind.u8 x'_2, Value.int IntKind.u8 x'_3,
  Value.int IntKind.i64 x'_4]] : List Value).toArray w R := calls_of_eq (ref02_named.vc_eq form' x'_0 x'_1 x'_2 x'_3 x'_4 w R) h

end Go.Proofs.Ytjoikaklincfoaa
