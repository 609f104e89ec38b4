/-
The explicit conditions of some functions of the program, printed by this repo's own program over VcTop: what is proved is that each is the condition.
Conditions: none.
-/
import Derived.Test.YtjoikaklincfoaaVcTop
import Derived.Test.YtjoikaklincfoaaProg
namespace Go.Proofs.Ytjoikaklincfoaa
open Go Go.Vc Go.RowKit
set_option linter.unusedVariables false
set_option maxRecDepth 100000

/- function 51: (sacristy/insn.form).may -/
abbrev sacristy_insn_form_may.N : FuncId := 51
def sacristy_insn_form_may.H : Hints := { conds := [(4005, [(5, .one .bool)]), (3005, [(5, .one .bool)]), (8030, [(30, .one .bool)]), (7030, [(30, .one .bool)])], regs := [(1, [(5, .one .bool)]), (2, [(5, .one .bool)]), (3, [(5, .one .bool)])] }
def sacristy_insn_form_may.vc (f'_0 : Bool) (f'_1 : Bool) (f'_2 : Bool) (f'_3 : Int) (f'_4 : Int) (f'_5 : Option Addr) (f'_5n : Nat) (f'_5c : Nat) (x'_0 : Int) (x'_1 : Int) (x'_2 : Int) (x'_3 : Int) (x'_4 : Int) (w : World) (R : Ending → World → Prop) : Prop :=
  ∀ (w' : World),
  w' =
  w.alloc
  (Obj.cells
  #[Value.bool f'_0, Value.bool f'_1, Value.bool f'_2, Value.int IntKind.i64 f'_3, Value.int IntKind.i64 f'_4,
  Value.slice f'_5 f'_5n f'_5c]
  91) →
  ∀ (w'_1 : World),
  w'_1 =
  w'.alloc
  (Obj.cells
  #[Value.int IntKind.u8 x'_0, Value.int IntKind.u8 x'_1, Value.int IntKind.u8 x'_2,
  Value.int IntKind.u8 x'_3, Value.int IntKind.i64 x'_4]
  39) →
  ∃ (J : List Value → World → Prop),
  (∃ (n : Int),
  w'_1.cell? (Addr.mk w'.heap.size 1 none) = some (Value.int IntKind.u8 n) ∧
  cnd (n != 0)
  (∃ (b : Bool), w'_1.cell? (Addr.mk w.heap.size 0 none) = some (Value.bool b) ∧ J [Value.bool !b] w'_1)
  (J [Value.bool false] w'_1)) ∧
  ∀ (g : Nat → Value) (s5 : Bool) (w'_2 : World),
  J [Value.bool s5] w'_2 →
  ∃ (J : List Value → World → Prop),
  cnd s5 (J [Value.bool s5] w'_2)
  (∃ (J_1 : List Value → World → Prop),
  (∃ (n : Int),
  w'_2.cell? (Addr.mk w'.heap.size 2 none) = some (Value.int IntKind.u8 n) ∧
  cnd (n != 0)
  (∃ (b : Bool),
  w'_2.cell? (Addr.mk w.heap.size 1 none) = some (Value.bool b) ∧
  J_1 [Value.bool !b] w'_2)
  (J_1 [Value.bool false] w'_2)) ∧
  ∀ (g : Nat → Value) (s5 : Bool) (w'_3 : World),
  J_1 [Value.bool s5] w'_3 →
  ∃ (J_2 : List Value → World → Prop),
  cnd s5 (J_2 [Value.bool s5] w'_3)
  (∃ (J : List Value → World → Prop),
  (∃ (n : Int),
  w'_3.cell? (Addr.mk w'.heap.size 3 none) = some (Value.int IntKind.u8 n) ∧
  cnd (n != 0)
  (∃ (b : Bool),
  w'_3.cell? (Addr.mk w.heap.size 2 none) = some (Value.bool b) ∧
  J [Value.bool !b] w'_3)
  (J [Value.bool false] w'_3)) ∧
  ∀ (g : Nat → Value) (s5 : Bool) (w' : World),
  J [Value.bool s5] w' → J_2 [Value.bool s5] w') ∧
  ∀ (g : Nat → Value) (s5 : Bool) (w' : World),
  J_2 [Value.bool s5] w' → J [Value.bool s5] w') ∧
  ∀ (g : Nat → Value) (s5 : Bool) (w'_3 : World),
  J [Value.bool s5] w'_3 →
  cnd s5 (R (Ending.returned (Value.bool false)) w'_3)
  (∃ (n : Int),
  w'_3.cell? (Addr.mk w'.heap.size 1 none) = some (Value.int IntKind.u8 n) ∧
  ∃ (J : List Value → World → Prop),
  cnd (decide (n > 31)) (J [Value.bool (decide (n > 31))] w'_3)
  (∃ (n : Int),
  w'_3.cell? (Addr.mk w'.heap.size 2 none) = some (Value.int IntKind.u8 n) ∧
  ∃ (J_1 : List Value → World → Prop),
  cnd (decide (n > 31)) (J_1 [Value.bool (decide (n > 31))] w'_3)
  (∃ (n : Int),
  w'_3.cell? (Addr.mk w'.heap.size 3 none) =
  some (Value.int IntKind.u8 n) ∧
  J_1 [Value.bool (decide (n > 31))] w'_3) ∧
  ∀ (g : Nat → Value) (s30 : Bool) (w' : World),
  J_1 [Value.bool s30] w' → J [Value.bool s30] w') ∧
  ∀ (g : Nat → Value) (s30 : Bool) (w'_4 : World),
  J [Value.bool s30] w'_4 →
  cnd s30 (R (Ending.returned (Value.bool false)) w'_4)
  (∃ (b : Bool),
  ∃ (b_1 : Bool),
  ∃ (b_2 : Bool),
  ∃ (n : Int),
  ∃ (n_1 : Int),
  ∃ (p : Option Addr),
  ∃ (n_2 : Nat),
  ∃ (c : Nat),
  (w'_4.cell? (Addr.mk w.heap.size 0 none) = some (Value.bool b) ∧
  w'_4.cell? (Addr.mk w.heap.size 1 none) =
  some (Value.bool b_1) ∧
  w'_4.cell? (Addr.mk w.heap.size 2 none) =
  some (Value.bool b_2) ∧
  w'_4.cell? (Addr.mk w.heap.size 3 none) =
  some (Value.int IntKind.i64 n) ∧
  w'_4.cell? (Addr.mk w.heap.size 4 none) =
  some (Value.int IntKind.i64 n_1) ∧
  w'_4.cell? (Addr.mk w.heap.size 5 none) =
  some (Value.slice p n_2 c) ∧
  True) ∧
  ∃ (n_3 : Int),
  ∃ (n_4 : Int),
  ∃ (n_5 : Int),
  ∃ (n_6 : Int),
  ∃ (n_7 : Int),
  (w'_4.cell? (Addr.mk w'.heap.size 0 none) =
  some (Value.int IntKind.u8 n_3) ∧
  w'_4.cell? (Addr.mk w'.heap.size 1 none) =
  some (Value.int IntKind.u8 n_4) ∧
  w'_4.cell? (Addr.mk w'.heap.size 2 none) =
  some (Value.int IntKind.u8 n_5) ∧
  w'_4.cell? (Addr.mk w'.heap.size 3 none) =
  some (Value.int IntKind.u8 n_6) ∧
  w'_4.cell? (Addr.mk w'.heap.size 4 none) =
  some (Value.int IntKind.i64 n_7) ∧
  True) ∧
  Calls Proofs.Try.prog 61
  #[Value.agg
  #[Value.bool b, Value.bool b_1,
  Value.bool b_2, Value.int IntKind.i64 n,
  Value.int IntKind.i64 n_1,
  Value.slice p n_2 c],
  Value.agg
  #[Value.int IntKind.u8 n_3,
  Value.int IntKind.u8 n_4,
  Value.int IntKind.u8 n_5,
  Value.int IntKind.u8 n_6,
  Value.int IntKind.i64 n_7]]
  w'_4 fun (e : Ending) (w' : World) =>
  ∃ (b : Bool),
  e = Ending.returned (Value.bool b) ∧
  R (Ending.returned (Value.bool b)) w'))
theorem sacristy_insn_form_may.vc_eq (f'_0 : Bool) (f'_1 : Bool) (f'_2 : Bool) (f'_3 : Int) (f'_4 : Int) (f'_5 : Option Addr) (f'_5n : Nat) (f'_5c : Nat) (x'_0 : Int) (x'_1 : Int) (x'_2 : Int) (x'_3 : Int) (x'_4 : Int) (w : World) (R : Ending → World → Prop) : fnV Try.prog sacristy_insn_form_may.H 51 [Value.agg
  #[Value.bool f'_0, Value.bool f'_1, Value.bool f'_2, Value.int IntKind.i64 f'_3, Value.int IntKind.i64 f'_4,
  Value.slice f'_5 f'_5n f'_5c],
  Value.agg
  #[Value.int IntKind.u8 x'_0, Value.int IntKind.u8 x'_1, Value.int IntKind.u8 x'_2, Value.int IntKind.u8 x'_3,
  Value.int IntKind.i64 x'_4]] w R = sacristy_insn_form_may.vc f'_0 f'_1 f'_2 f'_3 f'_4 f'_5 f'_5n f'_5c x'_0 x'_1 x'_2 x'_3 x'_4 w R := by kernel_rfl
theorem sacristy_insn_form_may.calls {f'_0 : Bool} {f'_1 : Bool} {f'_2 : Bool} {f'_3 : Int} {f'_4 : Int} {f'_5 : Option Addr} {f'_5n : Nat} {f'_5c : Nat} {x'_0 : Int} {x'_1 : Int} {x'_2 : Int} {x'_3 : Int} {x'_4 : Int} {w : World} {R : Ending → World → Prop} (h : sacristy_insn_form_may.vc f'_0 f'_1 f'_2 f'_3 f'_4 f'_5 f'_5n f'_5c x'_0 x'_1 x'_2 x'_3 x'_4 w R) : Calls Try.prog 51 ([Value.agg
  #[Value.bool f'_0, Value.bool f'_1, Value.bool f'_2, Value.int IntKind.i64 f'_3, Value.int IntKind.i64 f'_4,
  Value.slice f'_5 f'_5n f'_5c],
  Value.agg
  #[Value.int IntKind.u8 x'_0, Value.int IntKind.u8 x'_1, Value.int IntKind.u8 x'_2, Value.int IntKind.u8 x'_3,
  Value.int IntKind.i64 x'_4]] : List Value).toArray w R := calls_of_eq (sacristy_insn_form_may.vc_eq f'_0 f'_1 f'_2 f'_3 f'_4 f'_5 f'_5n f'_5c x'_0 x'_1 x'_2 x'_3 x'_4 w R) h

end Go.Proofs.Ytjoikaklincfoaa
