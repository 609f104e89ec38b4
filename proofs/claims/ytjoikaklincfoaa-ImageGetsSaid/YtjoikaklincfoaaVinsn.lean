/-
The explicit conditions of some functions of the program, printed by this repo's own program over VcTop: what is proved is that each is the condition.
Conditions: none.
-/
import Derived.Test.YtjoikaklincfoaaVcTop
import Derived.Test.YtjoikaklincfoaaProg
namespace Go.Proofs.Ytjoikaklincfoaa
open Go Go.Vc Go.RowKit
set_option linter.unusedVariables false
set_option maxRecDepth 100000

/- function 54: sacristy/insn.two -/
abbrev insn_two.N : FuncId := 54
def insn_two.H : Hints := {  }
def insn_two.vc (w : World) (R : Ending → World → Prop) : Prop :=
  ∀ (w' : World),
  w' =
  w.alloc
  (Obj.cells
  #[Value.bool false, Value.bool false, Value.bool false, Value.int IntKind.i64 0, Value.int IntKind.i64 0,
  Value.slice none 0 0]
  91) →
  SetsAt w' (Addr.mk w.heap.size 0 none) 0
  [Value.bool true, Value.bool true, Value.bool true, Value.int IntKind.i64 0, Value.int IntKind.i64 0,
  Value.slice none 0 0] ∧
  ∀ (w'_1 : World),
  w'_1 =
  setCellsAt w' (Addr.mk w.heap.size 0 none) 0
  [Value.bool true, Value.bool true, Value.bool true, Value.int IntKind.i64 0, Value.int IntKind.i64 0,
  Value.slice none 0 0] →
  ∃ (b : Bool),
  ∃ (b_1 : Bool),
  ∃ (b_2 : Bool),
  ∃ (n : Int),
  ∃ (n_1 : Int),
  ∃ (p : Option Addr),
  ∃ (n_2 : Nat),
  ∃ (c : Nat),
  (w'_1.cell? (Addr.mk w.heap.size 0 none) = some (Value.bool b) ∧
  w'_1.cell? (Addr.mk w.heap.size 1 none) = some (Value.bool b_1) ∧
  w'_1.cell? (Addr.mk w.heap.size 2 none) = some (Value.bool b_2) ∧
  w'_1.cell? (Addr.mk w.heap.size 3 none) = some (Value.int IntKind.i64 n) ∧
  w'_1.cell? (Addr.mk w.heap.size 4 none) = some (Value.int IntKind.i64 n_1) ∧
  w'_1.cell? (Addr.mk w.heap.size 5 none) = some (Value.slice p n_2 c) ∧ True) ∧
  R
  (Ending.returned
  (Value.agg
  #[Value.bool b, Value.bool b_1, Value.bool b_2, Value.int IntKind.i64 n,
  Value.int IntKind.i64 n_1, Value.slice p n_2 c]))
  w'_1
theorem insn_two.vc_eq (w : World) (R : Ending → World → Prop) : fnV Try.prog insn_two.H 54 [] w R = insn_two.vc w R := by kernel_rfl
theorem insn_two.calls {w : World} {R : Ending → World → Prop} (h : insn_two.vc w R) : Calls Try.prog 54 ([] : List Value).toArray w R := calls_of_eq (insn_two.vc_eq w R) h

/- function 55: sacristy/insn.number -/
abbrev insn_number.N : FuncId := 55
def insn_number.H : Hints := {  }
def insn_number.vc (w : World) (R : Ending → World → Prop) : Prop :=
  ∀ (w' : World),
  w' =
  w.alloc
  (Obj.cells
  #[Value.bool false, Value.bool false, Value.bool false, Value.int IntKind.i64 0, Value.int IntKind.i64 0,
  Value.slice none 0 0]
  91) →
  ∀ (w'_1 : World),
  w'_1 = w'.alloc (Obj.cells #[Value.int IntKind.i64 0, Value.int IntKind.i64 11, Value.int IntKind.i64 20] 99) →
  SetsAt w'_1 (Addr.mk w.heap.size 0 none) 0
  [Value.bool true, Value.bool true, Value.bool false, Value.int IntKind.i64 12, Value.int IntKind.i64 0,
  Value.slice (some (Addr.mk w'.heap.size 0 none)) 1 1] ∧
  ∀ (w'_2 : World),
  w'_2 =
  setCellsAt w'_1 (Addr.mk w.heap.size 0 none) 0
  [Value.bool true, Value.bool true, Value.bool false, Value.int IntKind.i64 12,
  Value.int IntKind.i64 0, Value.slice (some (Addr.mk w'.heap.size 0 none)) 1 1] →
  ∃ (b : Bool),
  ∃ (b_1 : Bool),
  ∃ (b_2 : Bool),
  ∃ (n : Int),
  ∃ (n_1 : Int),
  ∃ (p : Option Addr),
  ∃ (n_2 : Nat),
  ∃ (c : Nat),
  (w'_2.cell? (Addr.mk w.heap.size 0 none) = some (Value.bool b) ∧
  w'_2.cell? (Addr.mk w.heap.size 1 none) = some (Value.bool b_1) ∧
  w'_2.cell? (Addr.mk w.heap.size 2 none) = some (Value.bool b_2) ∧
  w'_2.cell? (Addr.mk w.heap.size 3 none) = some (Value.int IntKind.i64 n) ∧
  w'_2.cell? (Addr.mk w.heap.size 4 none) = some (Value.int IntKind.i64 n_1) ∧
  w'_2.cell? (Addr.mk w.heap.size 5 none) = some (Value.slice p n_2 c) ∧ True) ∧
  R
  (Ending.returned
  (Value.agg
  #[Value.bool b, Value.bool b_1, Value.bool b_2, Value.int IntKind.i64 n,
  Value.int IntKind.i64 n_1, Value.slice p n_2 c]))
  w'_2
theorem insn_number.vc_eq (w : World) (R : Ending → World → Prop) : fnV Try.prog insn_number.H 55 [] w R = insn_number.vc w R := by kernel_rfl
theorem insn_number.calls {w : World} {R : Ending → World → Prop} (h : insn_number.vc w R) : Calls Try.prog 55 ([] : List Value).toArray w R := calls_of_eq (insn_number.vc_eq w R) h

/- function 56: sacristy/insn.shift -/
abbrev insn_shift.N : FuncId := 56
def insn_shift.H : Hints := {  }
def insn_shift.vc (w : World) (R : Ending → World → Prop) : Prop :=
  ∀ (w' : World),
  w' =
  w.alloc
  (Obj.cells
  #[Value.bool false, Value.bool false, Value.bool false, Value.int IntKind.i64 0, Value.int IntKind.i64 0,
  Value.slice none 0 0]
  91) →
  ∀ (w'_1 : World),
  w'_1 = w'.alloc (Obj.cells #[Value.int IntKind.i64 0, Value.int IntKind.i64 5, Value.int IntKind.i64 20] 99) →
  SetsAt w'_1 (Addr.mk w.heap.size 0 none) 0
  [Value.bool true, Value.bool true, Value.bool false, Value.int IntKind.i64 (-1), Value.int IntKind.i64 0,
  Value.slice (some (Addr.mk w'.heap.size 0 none)) 1 1] ∧
  ∀ (w'_2 : World),
  w'_2 =
  setCellsAt w'_1 (Addr.mk w.heap.size 0 none) 0
  [Value.bool true, Value.bool true, Value.bool false, Value.int IntKind.i64 (-1),
  Value.int IntKind.i64 0, Value.slice (some (Addr.mk w'.heap.size 0 none)) 1 1] →
  ∃ (b : Bool),
  ∃ (b_1 : Bool),
  ∃ (b_2 : Bool),
  ∃ (n : Int),
  ∃ (n_1 : Int),
  ∃ (p : Option Addr),
  ∃ (n_2 : Nat),
  ∃ (c : Nat),
  (w'_2.cell? (Addr.mk w.heap.size 0 none) = some (Value.bool b) ∧
  w'_2.cell? (Addr.mk w.heap.size 1 none) = some (Value.bool b_1) ∧
  w'_2.cell? (Addr.mk w.heap.size 2 none) = some (Value.bool b_2) ∧
  w'_2.cell? (Addr.mk w.heap.size 3 none) = some (Value.int IntKind.i64 n) ∧
  w'_2.cell? (Addr.mk w.heap.size 4 none) = some (Value.int IntKind.i64 n_1) ∧
  w'_2.cell? (Addr.mk w.heap.size 5 none) = some (Value.slice p n_2 c) ∧ True) ∧
  R
  (Ending.returned
  (Value.agg
  #[Value.bool b, Value.bool b_1, Value.bool b_2, Value.int IntKind.i64 n,
  Value.int IntKind.i64 n_1, Value.slice p n_2 c]))
  w'_2
theorem insn_shift.vc_eq (w : World) (R : Ending → World → Prop) : fnV Try.prog insn_shift.H 56 [] w R = insn_shift.vc w R := by kernel_rfl
theorem insn_shift.calls {w : World} {R : Ending → World → Prop} (h : insn_shift.vc w R) : Calls Try.prog 56 ([] : List Value).toArray w R := calls_of_eq (insn_shift.vc_eq w R) h

/- function 57: sacristy/insn.large -/
abbrev insn_large.N : FuncId := 57
def insn_large.H : Hints := {  }
def insn_large.vc (w : World) (R : Ending → World → Prop) : Prop :=
  ∀ (w' : World),
  w' =
  w.alloc
  (Obj.cells
  #[Value.bool false, Value.bool false, Value.bool false, Value.int IntKind.i64 0, Value.int IntKind.i64 0,
  Value.slice none 0 0]
  91) →
  ∀ (w'_1 : World),
  w'_1 = w'.alloc (Obj.cells #[Value.int IntKind.i64 12, Value.int IntKind.i64 31, Value.int IntKind.i64 12] 99) →
  SetsAt w'_1 (Addr.mk w.heap.size 0 none) 0
  [Value.bool true, Value.bool false, Value.bool false, Value.int IntKind.i64 32, Value.int IntKind.i64 4096,
  Value.slice (some (Addr.mk w'.heap.size 0 none)) 1 1] ∧
  ∀ (w'_2 : World),
  w'_2 =
  setCellsAt w'_1 (Addr.mk w.heap.size 0 none) 0
  [Value.bool true, Value.bool false, Value.bool false, Value.int IntKind.i64 32,
  Value.int IntKind.i64 4096, Value.slice (some (Addr.mk w'.heap.size 0 none)) 1 1] →
  ∃ (b : Bool),
  ∃ (b_1 : Bool),
  ∃ (b_2 : Bool),
  ∃ (n : Int),
  ∃ (n_1 : Int),
  ∃ (p : Option Addr),
  ∃ (n_2 : Nat),
  ∃ (c : Nat),
  (w'_2.cell? (Addr.mk w.heap.size 0 none) = some (Value.bool b) ∧
  w'_2.cell? (Addr.mk w.heap.size 1 none) = some (Value.bool b_1) ∧
  w'_2.cell? (Addr.mk w.heap.size 2 none) = some (Value.bool b_2) ∧
  w'_2.cell? (Addr.mk w.heap.size 3 none) = some (Value.int IntKind.i64 n) ∧
  w'_2.cell? (Addr.mk w.heap.size 4 none) = some (Value.int IntKind.i64 n_1) ∧
  w'_2.cell? (Addr.mk w.heap.size 5 none) = some (Value.slice p n_2 c) ∧ True) ∧
  R
  (Ending.returned
  (Value.agg
  #[Value.bool b, Value.bool b_1, Value.bool b_2, Value.int IntKind.i64 n,
  Value.int IntKind.i64 n_1, Value.slice p n_2 c]))
  w'_2
theorem insn_large.vc_eq (w : World) (R : Ending → World → Prop) : fnV Try.prog insn_large.H 57 [] w R = insn_large.vc w R := by kernel_rfl
theorem insn_large.calls {w : World} {R : Ending → World → Prop} (h : insn_large.vc w R) : Calls Try.prog 57 ([] : List Value).toArray w R := calls_of_eq (insn_large.vc_eq w R) h

/- function 58: sacristy/insn.store -/
abbrev insn_store.N : FuncId := 58
def insn_store.H : Hints := {  }
def insn_store.vc (w : World) (R : Ending → World → Prop) : Prop :=
  ∀ (w' : World),
  w' =
  w.alloc
  (Obj.cells
  #[Value.bool false, Value.bool false, Value.bool false, Value.int IntKind.i64 0, Value.int IntKind.i64 0,
  Value.slice none 0 0]
  91) →
  ∀ (w'_1 : World),
  w'_1 =
  w'.alloc
  (Obj.cells
  #[Value.int IntKind.i64 0, Value.int IntKind.i64 4, Value.int IntKind.i64 7, Value.int IntKind.i64 5,
  Value.int IntKind.i64 11, Value.int IntKind.i64 25]
  99) →
  SetsAt w'_1 (Addr.mk w.heap.size 0 none) 0
  [Value.bool false, Value.bool true, Value.bool true, Value.int IntKind.i64 12, Value.int IntKind.i64 0,
  Value.slice (some (Addr.mk w'.heap.size 0 none)) 2 2] ∧
  ∀ (w'_2 : World),
  w'_2 =
  setCellsAt w'_1 (Addr.mk w.heap.size 0 none) 0
  [Value.bool false, Value.bool true, Value.bool true, Value.int IntKind.i64 12,
  Value.int IntKind.i64 0, Value.slice (some (Addr.mk w'.heap.size 0 none)) 2 2] →
  ∃ (b : Bool),
  ∃ (b_1 : Bool),
  ∃ (b_2 : Bool),
  ∃ (n : Int),
  ∃ (n_1 : Int),
  ∃ (p : Option Addr),
  ∃ (n_2 : Nat),
  ∃ (c : Nat),
  (w'_2.cell? (Addr.mk w.heap.size 0 none) = some (Value.bool b) ∧
  w'_2.cell? (Addr.mk w.heap.size 1 none) = some (Value.bool b_1) ∧
  w'_2.cell? (Addr.mk w.heap.size 2 none) = some (Value.bool b_2) ∧
  w'_2.cell? (Addr.mk w.heap.size 3 none) = some (Value.int IntKind.i64 n) ∧
  w'_2.cell? (Addr.mk w.heap.size 4 none) = some (Value.int IntKind.i64 n_1) ∧
  w'_2.cell? (Addr.mk w.heap.size 5 none) = some (Value.slice p n_2 c) ∧ True) ∧
  R
  (Ending.returned
  (Value.agg
  #[Value.bool b, Value.bool b_1, Value.bool b_2, Value.int IntKind.i64 n,
  Value.int IntKind.i64 n_1, Value.slice p n_2 c]))
  w'_2
theorem insn_store.vc_eq (w : World) (R : Ending → World → Prop) : fnV Try.prog insn_store.H 58 [] w R = insn_store.vc w R := by kernel_rfl
theorem insn_store.calls {w : World} {R : Ending → World → Prop} (h : insn_store.vc w R) : Calls Try.prog 58 ([] : List Value).toArray w R := calls_of_eq (insn_store.vc_eq w R) h

/- function 59: sacristy/insn.branch -/
abbrev insn_branch.N : FuncId := 59
def insn_branch.H : Hints := {  }
def insn_branch.vc (w : World) (R : Ending → World → Prop) : Prop :=
  ∀ (w' : World),
  w' =
  w.alloc
  (Obj.cells
  #[Value.bool false, Value.bool false, Value.bool false, Value.int IntKind.i64 0, Value.int IntKind.i64 0,
  Value.slice none 0 0]
  91) →
  ∀ (w'_1 : World),
  w'_1 =
  w'.alloc
  (Obj.cells
  #[Value.int IntKind.i64 11, Value.int IntKind.i64 11, Value.int IntKind.i64 7, Value.int IntKind.i64 1,
  Value.int IntKind.i64 4, Value.int IntKind.i64 8, Value.int IntKind.i64 5, Value.int IntKind.i64 10,
  Value.int IntKind.i64 25, Value.int IntKind.i64 12, Value.int IntKind.i64 12, Value.int IntKind.i64 31]
  99) →
  SetsAt w'_1 (Addr.mk w.heap.size 0 none) 0
  [Value.bool false, Value.bool true, Value.bool true, Value.int IntKind.i64 13, Value.int IntKind.i64 2,
  Value.slice (some (Addr.mk w'.heap.size 0 none)) 4 4] ∧
  ∀ (w'_2 : World),
  w'_2 =
  setCellsAt w'_1 (Addr.mk w.heap.size 0 none) 0
  [Value.bool false, Value.bool true, Value.bool true, Value.int IntKind.i64 13,
  Value.int IntKind.i64 2, Value.slice (some (Addr.mk w'.heap.size 0 none)) 4 4] →
  ∃ (b : Bool),
  ∃ (b_1 : Bool),
  ∃ (b_2 : Bool),
  ∃ (n : Int),
  ∃ (n_1 : Int),
  ∃ (p : Option Addr),
  ∃ (n_2 : Nat),
  ∃ (c : Nat),
  (w'_2.cell? (Addr.mk w.heap.size 0 none) = some (Value.bool b) ∧
  w'_2.cell? (Addr.mk w.heap.size 1 none) = some (Value.bool b_1) ∧
  w'_2.cell? (Addr.mk w.heap.size 2 none) = some (Value.bool b_2) ∧
  w'_2.cell? (Addr.mk w.heap.size 3 none) = some (Value.int IntKind.i64 n) ∧
  w'_2.cell? (Addr.mk w.heap.size 4 none) = some (Value.int IntKind.i64 n_1) ∧
  w'_2.cell? (Addr.mk w.heap.size 5 none) = some (Value.slice p n_2 c) ∧ True) ∧
  R
  (Ending.returned
  (Value.agg
  #[Value.bool b, Value.bool b_1, Value.bool b_2, Value.int IntKind.i64 n,
  Value.int IntKind.i64 n_1, Value.slice p n_2 c]))
  w'_2
theorem insn_branch.vc_eq (w : World) (R : Ending → World → Prop) : fnV Try.prog insn_branch.H 59 [] w R = insn_branch.vc w R := by kernel_rfl
theorem insn_branch.calls {w : World} {R : Ending → World → Prop} (h : insn_branch.vc w R) : Calls Try.prog 59 ([] : List Value).toArray w R := calls_of_eq (insn_branch.vc_eq w R) h

/- function 60: sacristy/insn.jump -/
abbrev insn_jump.N : FuncId := 60
def insn_jump.H : Hints := {  }
def insn_jump.vc (w : World) (R : Ending → World → Prop) : Prop :=
  ∀ (w' : World),
  w' =
  w.alloc
  (Obj.cells
  #[Value.bool false, Value.bool false, Value.bool false, Value.int IntKind.i64 0, Value.int IntKind.i64 0,
  Value.slice none 0 0]
  91) →
  ∀ (w'_1 : World),
  w'_1 =
  w'.alloc
  (Obj.cells
  #[Value.int IntKind.i64 12, Value.int IntKind.i64 19, Value.int IntKind.i64 12, Value.int IntKind.i64 11,
  Value.int IntKind.i64 11, Value.int IntKind.i64 20, Value.int IntKind.i64 1, Value.int IntKind.i64 10,
  Value.int IntKind.i64 21, Value.int IntKind.i64 20, Value.int IntKind.i64 20, Value.int IntKind.i64 31]
  99) →
  SetsAt w'_1 (Addr.mk w.heap.size 0 none) 0
  [Value.bool true, Value.bool false, Value.bool false, Value.int IntKind.i64 21, Value.int IntKind.i64 2,
  Value.slice (some (Addr.mk w'.heap.size 0 none)) 4 4] ∧
  ∀ (w'_2 : World),
  w'_2 =
  setCellsAt w'_1 (Addr.mk w.heap.size 0 none) 0
  [Value.bool true, Value.bool false, Value.bool false, Value.int IntKind.i64 21,
  Value.int IntKind.i64 2, Value.slice (some (Addr.mk w'.heap.size 0 none)) 4 4] →
  ∃ (b : Bool),
  ∃ (b_1 : Bool),
  ∃ (b_2 : Bool),
  ∃ (n : Int),
  ∃ (n_1 : Int),
  ∃ (p : Option Addr),
  ∃ (n_2 : Nat),
  ∃ (c : Nat),
  (w'_2.cell? (Addr.mk w.heap.size 0 none) = some (Value.bool b) ∧
  w'_2.cell? (Addr.mk w.heap.size 1 none) = some (Value.bool b_1) ∧
  w'_2.cell? (Addr.mk w.heap.size 2 none) = some (Value.bool b_2) ∧
  w'_2.cell? (Addr.mk w.heap.size 3 none) = some (Value.int IntKind.i64 n) ∧
  w'_2.cell? (Addr.mk w.heap.size 4 none) = some (Value.int IntKind.i64 n_1) ∧
  w'_2.cell? (Addr.mk w.heap.size 5 none) = some (Value.slice p n_2 c) ∧ True) ∧
  R
  (Ending.returned
  (Value.agg
  #[Value.bool b, Value.bool b_1, Value.bool b_2, Value.int IntKind.i64 n,
  Value.int IntKind.i64 n_1, Value.slice p n_2 c]))
  w'_2
theorem insn_jump.vc_eq (w : World) (R : Ending → World → Prop) : fnV Try.prog insn_jump.H 60 [] w R = insn_jump.vc w R := by kernel_rfl
theorem insn_jump.calls {w : World} {R : Ending → World → Prop} (h : insn_jump.vc w R) : Calls Try.prog 60 ([] : List Value).toArray w R := calls_of_eq (insn_jump.vc_eq w R) h

/- function 61: (sacristy/insn.form).fits -/
abbrev sacristy_insn_form_fits.N : FuncId := 61
def sacristy_insn_form_fits.H : Hints := {  }
def sacristy_insn_form_fits.vc (f'_0 : Bool) (f'_1 : Bool) (f'_2 : Bool) (f'_3 : Int) (f'_4 : Int) (f'_5 : Option Addr) (f'_5n : Nat) (f'_5c : Nat) (x'_0 : Int) (x'_1 : Int) (x'_2 : Int) (x'_3 : Int) (x'_4 : Int) (w : World) (R : Ending → World → Prop) : Prop :=
  ∀ (w' : World),
  w' =
  w.alloc
  (Obj.cells
  #[Value.bool f'_0, Value.bool f'_1, Value.bool f'_2, Value.int IntKind.i64 f'_3, Value.int IntKind.i64 f'_4,
  Value.slice f'_5 f'_5n f'_5c]
  91) →
  ∀ (w'_1 : World),
  w'_1 =
  w'.alloc
  (Obj.cells
  #[Value.int IntKind.u8 x'_0, Value.int IntKind.u8 x'_1, Value.int IntKind.u8 x'_2,
  Value.int IntKind.u8 x'_3, Value.int IntKind.i64 x'_4]
  39) →
  ∃ (n : Int),
  w'_1.cell? (Addr.mk w.heap.size 3 none) = some (Value.int IntKind.i64 n) ∧
  cnd (decide (n < 0))
  (∃ (n : Int),
  w'_1.cell? (Addr.mk w'.heap.size 4 none) = some (Value.int IntKind.i64 n) ∧
  cnd (decide (n ≥ 0))
  (∃ (n : Int),
  w'_1.cell? (Addr.mk w'.heap.size 4 none) = some (Value.int IntKind.i64 n) ∧
  R (Ending.returned (Value.bool (decide (n < 64)))) w'_1)
  (R (Ending.returned (Value.bool false)) w'_1))
  (∃ (n : Int),
  w'_1.cell? (Addr.mk w.heap.size 3 none) = some (Value.int IntKind.i64 n) ∧
  cnd (n == 0)
  (∃ (n : Int),
  w'_1.cell? (Addr.mk w'.heap.size 4 none) = some (Value.int IntKind.i64 n) ∧
  R (Ending.returned (Value.bool (n == 0))) w'_1)
  (∃ (n : Int),
  w'_1.cell? (Addr.mk w'.heap.size 4 none) = some (Value.int IntKind.i64 n) ∧
  ∃ (n_1 : Int),
  w'_1.cell? (Addr.mk w.heap.size 3 none) = some (Value.int IntKind.i64 n_1) ∧
  Calls Proofs.Try.prog 63 #[Value.int IntKind.i64 n, Value.int IntKind.i64 n_1] w'_1
  fun (e : Ending) (w'_2 : World) =>
  ∃ (b : Bool),
  e = Ending.returned (Value.bool b) ∧
  cnd b
  (∃ (n : Int),
  w'_2.cell? (Addr.mk w.heap.size 4 none) = some (Value.int IntKind.i64 n) ∧
  cnd (n == 0) (R (Ending.returned (Value.bool true)) w'_2)
  (∃ (n : Int),
  w'_2.cell? (Addr.mk w'.heap.size 4 none) = some (Value.int IntKind.i64 n) ∧
  ∃ (n_2 : Int),
  w'_2.cell? (Addr.mk w.heap.size 4 none) =
  some (Value.int IntKind.i64 n_2) ∧
  cnd (decide (n_2 = 0)) False
  (R (Ending.returned (Value.bool (n.tmod n_2 == 0))) w'_2)))
  (R (Ending.returned (Value.bool false)) w'_2)))
theorem sacristy_insn_form_fits.vc_eq (f'_0 : Bool) (f'_1 : Bool) (f'_2 : Bool) (f'_3 : Int) (f'_4 : Int) (f'_5 : Option Addr) (f'_5n : Nat) (f'_5c : Nat) (x'_0 : Int) (x'_1 : Int) (x'_2 : Int) (x'_3 : Int) (x'_4 : Int) (w : World) (R : Ending → World → Prop) : fnV Try.prog sacristy_insn_form_fits.H 61 [Value.agg
  #[Value.bool f'_0, Value.bool f'_1, Value.bool f'_2, Value.int IntKind.i64 f'_3, Value.int IntKind.i64 f'_4,
  Value.slice f'_5 f'_5n f'_5c],
  Value.agg
  #[Value.int IntKind.u8 x'_0, Value.int IntKind.u8 x'_1, Value.int IntKind.u8 x'_2, Value.int IntKind.u8 x'_3,
  Value.int IntKind.i64 x'_4]] w R = sacristy_insn_form_fits.vc f'_0 f'_1 f'_2 f'_3 f'_4 f'_5 f'_5n f'_5c x'_0 x'_1 x'_2 x'_3 x'_4 w R := by kernel_rfl
theorem sacristy_insn_form_fits.calls {f'_0 : Bool} {f'_1 : Bool} {f'_2 : Bool} {f'_3 : Int} {f'_4 : Int} {f'_5 : Option Addr} {f'_5n : Nat} {f'_5c : Nat} {x'_0 : Int} {x'_1 : Int} {x'_2 : Int} {x'_3 : Int} {x'_4 : Int} {w : World} {R : Ending → World → Prop} (h : sacristy_insn_form_fits.vc f'_0 f'_1 f'_2 f'_3 f'_4 f'_5 f'_5n f'_5c x'_0 x'_1 x'_2 x'_3 x'_4 w R) : Calls Try.prog 61 ([Value.agg
  #[Value.bool f'_0, Value.bool f'_1, Value.bool f'_2, Value.int IntKind.i64 f'_3, Value.int IntKind.i64 f'_4,
  Value.slice f'_5 f'_5n f'_5c],
  Value.agg
  #[Value.int IntKind.u8 x'_0, Value.int IntKind.u8 x'_1, Value.int IntKind.u8 x'_2, Value.int IntKind.u8 x'_3,
  Value.int IntKind.i64 x'_4]] : List Value).toArray w R := calls_of_eq (sacristy_insn_form_fits.vc_eq f'_0 f'_1 f'_2 f'_3 f'_4 f'_5 f'_5n f'_5c x'_0 x'_1 x'_2 x'_3 x'_4 w R) h

/- function 52: sacristy/insn.laid -/
abbrev insn_laid.N : FuncId := 52
def insn_laid.H : Hints := { loops := [(3, [(4, .one (.int .u32)), (10, .one (.int .i64))])] }
def insn_laid.vc (v' : Int) (spans' : Option Addr) (spans'n : Nat) (spans'c : Nat) (w : World) (R : Ending → World → Prop) : Prop :=
  ∃ (I : List Value → World → Prop),
  ∃ (μ : List Value → World → Nat),
  I [Value.int IntKind.u32 0, Value.int IntKind.i64 0] w ∧
  ∀ (g : Nat → Value) (w s10 : Int) (w' : World),
  I [Value.int IntKind.u32 w, Value.int IntKind.i64 s10] w' →
  cnd (decide (s10 < (↑spans'n : Int)))
  ((0 ≤ s10 ∧ s10 < (↑spans'n : Int)) ∧
  Deref spans' fun (a : Addr) =>
  ∃ (n : Int),
  ∃ (n_1 : Int),
  ∃ (n_2 : Int),
  (w'.cell? (a.add (s10.toNat * 3)) = some (Value.int IntKind.i64 n) ∧
  w'.cell? ((a.add (s10.toNat * 3)).add 1) = some (Value.int IntKind.i64 n_1) ∧
  w'.cell? ((a.add (s10.toNat * 3)).add 2) = some (Value.int IntKind.i64 n_2) ∧ True) ∧
  ∀ (w'_1 : World),
  w'_1 =
  w'.alloc
  (Obj.cells #[Value.int IntKind.i64 0, Value.int IntKind.i64 0, Value.int IntKind.i64 0]
  99) →
  SetsAt w'_1 (Addr.mk w'.heap.size 0 none) 0
  [Value.int IntKind.i64 n, Value.int IntKind.i64 n_1, Value.int IntKind.i64 n_2] ∧
  ∀ (w'_2 : World),
  w'_2 =
  setCellsAt w'_1 (Addr.mk w'.heap.size 0 none) 0
  [Value.int IntKind.i64 n, Value.int IntKind.i64 n_1, Value.int IntKind.i64 n_2] →
  ∃ (n : Int),
  w'_2.cell? (Addr.mk w'.heap.size 1 none) = some (Value.int IntKind.i64 n) ∧
  ∃ (n_3 : Int),
  w'_2.cell? (Addr.mk w'.heap.size 0 none) = some (Value.int IntKind.i64 n_3) ∧
  cnd (decide (IntKind.i64.wrap (IntKind.i64.wrap (n - n_3) + 1) < 0)) False
  (∃ (n_4 : Int),
  (∀ (w'_3 : World),
  Later w'_2 w'_3 →
  w'_3.cell? (Addr.mk w'.heap.size 0 none) =
  some (Value.int IntKind.i64 n_4)) ∧
  cnd (decide (n_4 < 0)) False
  (∃ (n_5 : Int),
  (∀ (w'_3 : World),
  Later w'_2 w'_3 →
  w'_3.cell? (Addr.mk w'.heap.size 2 none) =
  some (Value.int IntKind.i64 n_5)) ∧
  cnd (decide (n_5 < 0)) False
  (∀ (w'_3 : World),
  Later w'_2 w'_3 →
  Goes I μ
  [Value.int IntKind.u32 w, Value.int IntKind.i64 s10] w'
  [Value.int IntKind.u32
  (bits BinOp.or IntKind.u32 w
  (IntKind.u32.wrap
  (IntKind.u32.wrap
  (bits BinOp.and IntKind.u64
  ((IntKind.u64.wrap v').fdiv
  (2 ^ min n_4.toNat 64))
  (IntKind.u64.wrap
  (IntKind.u64.wrap
  (1 *
  2 ^
  min
  (IntKind.i64.wrap
  (IntKind.i64.wrap
  (n - n_3) +
  1)).toNat
  64) -
  1))) *
  2 ^ min n_5.toNat 32))),
  Value.int IntKind.i64 (IntKind.i64.wrap (s10 + 1))]
  w'_3))))
  (R (Ending.returned (Value.int IntKind.u32 w)) w')
theorem insn_laid.vc_eq (v' : Int) (spans' : Option Addr) (spans'n : Nat) (spans'c : Nat) (w : World) (R : Ending → World → Prop) : fnV Try.prog insn_laid.H 52 [Value.int IntKind.i64 v', Value.slice spans' spans'n spans'c] w R = insn_laid.vc v' spans' spans'n spans'c w R := by kernel_rfl
theorem insn_laid.calls {v' : Int} {spans' : Option Addr} {spans'n : Nat} {spans'c : Nat} {w : World} {R : Ending → World → Prop} (h : insn_laid.vc v' spans' spans'n spans'c w R) : Calls Try.prog 52 ([Value.int IntKind.i64 v', Value.slice spans' spans'n spans'c] : List Value).toArray w R := calls_of_eq (insn_laid.vc_eq v' spans' spans'n spans'c w R) h

/- function 40: sacristy/insn.Encode -/
abbrev insn_Encode.N : FuncId := 40
def insn_Encode.H : Hints := {  }
def insn_Encode.vc (x'_0 : Int) (x'_1 : Int) (x'_2 : Int) (x'_3 : Int) (x'_4 : Int) (w : World) (R : Ending → World → Prop) : Prop :=
  ∀ (w' : World),
  w' =
  w.alloc
  (Obj.cells
  #[Value.int IntKind.u8 x'_0, Value.int IntKind.u8 x'_1, Value.int IntKind.u8 x'_2, Value.int IntKind.u8 x'_3,
  Value.int IntKind.i64 x'_4]
  39) →
  Calls Proofs.Try.prog 50 #[] w' fun (e : Ending) (w' : World) =>
  ∃ (cs : Array Value),
  cs.size = 315 ∧
  e = Ending.returned (Value.agg cs) ∧
  ∀ (w'_1 : World),
  w'_1 =
  w'.alloc
  (Obj.cells
  #[Value.int IntKind.u32 0, Value.int IntKind.u32 0, Value.int IntKind.u32 0, Value.bool false,
  Value.bool false, Value.bool false, Value.int IntKind.i64 0, Value.int IntKind.i64 0,
  Value.slice none 0 0, Value.int IntKind.u32 0, Value.int IntKind.u32 0, Value.int IntKind.u32 0,
  Value.bool false, Value.bool false, Value.bool false, Value.int IntKind.i64 0,
  Value.int IntKind.i64 0, Value.slice none 0 0, Value.int IntKind.u32 0, Value.int IntKind.u32 0,
  Value.int IntKind.u32 0, Value.bool false, Value.bool false, Value.bool false,
  Value.int IntKind.i64 0, Value.int IntKind.i64 0, Value.slice none 0 0, Value.int IntKind.u32 0,
  Value.int IntKind.u32 0, Value.int IntKind.u32 0, Value.bool false, Value.bool false,
  Value.bool false, Value.int IntKind.i64 0, Value.int IntKind.i64 0, Value.slice none 0 0,
  Value.int IntKind.u32 0, Value.int IntKind.u32 0, Value.int IntKind.u32 0, Value.bool false,
  Value.bool false, Value.bool false, Value.int IntKind.i64 0, Value.int IntKind.i64 0,
  Value.slice none 0 0, Value.int IntKind.u32 0, Value.int IntKind.u32 0, Value.int IntKind.u32 0,
  Value.bool false, Value.bool false, Value.bool false, Value.int IntKind.i64 0,
  Value.int IntKind.i64 0, Value.slice none 0 0, Value.int IntKind.u32 0, Value.int IntKind.u32 0,
  Value.int IntKind.u32 0, Value.bool false, Value.bool false, Value.bool false,
  Value.int IntKind.i64 0, Value.int IntKind.i64 0, Value.slice none 0 0, Value.int IntKind.u32 0,
  Value.int IntKind.u32 0, Value.int IntKind.u32 0, Value.bool false, Value.bool false,
  Value.bool false, Value.int IntKind.i64 0, Value.int IntKind.i64 0, Value.slice none 0 0,
  Value.int IntKind.u32 0, Value.int IntKind.u32 0, Value.int IntKind.u32 0, Value.bool false,
  Value.bool false, Value.bool false, Value.int IntKind.i64 0, Value.int IntKind.i64 0,
  Value.slice none 0 0, Value.int IntKind.u32 0, Value.int IntKind.u32 0, Value.int IntKind.u32 0,
  Value.bool false, Value.bool false, Value.bool false, Value.int IntKind.i64 0,
  Value.int IntKind.i64 0, Value.slice none 0 0, Value.int IntKind.u32 0, Value.int IntKind.u32 0,
  Value.int IntKind.u32 0, Value.bool false, Value.bool false, Value.bool false,
  Value.int IntKind.i64 0, Value.int IntKind.i64 0, Value.slice none 0 0, Value.int IntKind.u32 0,
  Value.int IntKind.u32 0, Value.int IntKind.u32 0, Value.bool false, Value.bool false,
  Value.bool false, Value.int IntKind.i64 0, Value.int IntKind.i64 0, Value.slice none 0 0,
  Value.int IntKind.u32 0, Value.int IntKind.u32 0, Value.int IntKind.u32 0, Value.bool false,
  Value.bool false, Value.bool false, Value.int IntKind.i64 0, Value.int IntKind.i64 0,
  Value.slice none 0 0, Value.int IntKind.u32 0, Value.int IntKind.u32 0, Value.int IntKind.u32 0,
  Value.bool false, Value.bool false, Value.bool false, Value.int IntKind.i64 0,
  Value.int IntKind.i64 0, Value.slice none 0 0, Value.int IntKind.u32 0, Value.int IntKind.u32 0,
  Value.int IntKind.u32 0, Value.bool false, Value.bool false, Value.bool false,
  Value.int IntKind.i64 0, Value.int IntKind.i64 0, Value.slice none 0 0, Value.int IntKind.u32 0,
  Value.int IntKind.u32 0, Value.int IntKind.u32 0, Value.bool false, Value.bool false,
  Value.bool false, Value.int IntKind.i64 0, Value.int IntKind.i64 0, Value.slice none 0 0,
  Value.int IntKind.u32 0, Value.int IntKind.u32 0, Value.int IntKind.u32 0, Value.bool false,
  Value.bool false, Value.bool false, Value.int IntKind.i64 0, Value.int IntKind.i64 0,
  Value.slice none 0 0, Value.int IntKind.u32 0, Value.int IntKind.u32 0, Value.int IntKind.u32 0,
  Value.bool false, Value.bool false, Value.bool false, Value.int IntKind.i64 0,
  Value.int IntKind.i64 0, Value.slice none 0 0, Value.int IntKind.u32 0, Value.int IntKind.u32 0,
  Value.int IntKind.u32 0, Value.bool false, Value.bool false, Value.bool false,
  Value.int IntKind.i64 0, Value.int IntKind.i64 0, Value.slice none 0 0, Value.int IntKind.u32 0,
  Value.int IntKind.u32 0, Value.int IntKind.u32 0, Value.bool false, Value.bool false,
  Value.bool false, Value.int IntKind.i64 0, Value.int IntKind.i64 0, Value.slice none 0 0,
  Value.int IntKind.u32 0, Value.int IntKind.u32 0, Value.int IntKind.u32 0, Value.bool false,
  Value.bool false, Value.bool false, Value.int IntKind.i64 0, Value.int IntKind.i64 0,
  Value.slice none 0 0, Value.int IntKind.u32 0, Value.int IntKind.u32 0, Value.int IntKind.u32 0,
  Value.bool false, Value.bool false, Value.bool false, Value.int IntKind.i64 0,
  Value.int IntKind.i64 0, Value.slice none 0 0, Value.int IntKind.u32 0, Value.int IntKind.u32 0,
  Value.int IntKind.u32 0, Value.bool false, Value.bool false, Value.bool false,
  Value.int IntKind.i64 0, Value.int IntKind.i64 0, Value.slice none 0 0, Value.int IntKind.u32 0,
  Value.int IntKind.u32 0, Value.int IntKind.u32 0, Value.bool false, Value.bool false,
  Value.bool false, Value.int IntKind.i64 0, Value.int IntKind.i64 0, Value.slice none 0 0,
  Value.int IntKind.u32 0, Value.int IntKind.u32 0, Value.int IntKind.u32 0, Value.bool false,
  Value.bool false, Value.bool false, Value.int IntKind.i64 0, Value.int IntKind.i64 0,
  Value.slice none 0 0, Value.int IntKind.u32 0, Value.int IntKind.u32 0, Value.int IntKind.u32 0,
  Value.bool false, Value.bool false, Value.bool false, Value.int IntKind.i64 0,
  Value.int IntKind.i64 0, Value.slice none 0 0, Value.int IntKind.u32 0, Value.int IntKind.u32 0,
  Value.int IntKind.u32 0, Value.bool false, Value.bool false, Value.bool false,
  Value.int IntKind.i64 0, Value.int IntKind.i64 0, Value.slice none 0 0, Value.int IntKind.u32 0,
  Value.int IntKind.u32 0, Value.int IntKind.u32 0, Value.bool false, Value.bool false,
  Value.bool false, Value.int IntKind.i64 0, Value.int IntKind.i64 0, Value.slice none 0 0,
  Value.int IntKind.u32 0, Value.int IntKind.u32 0, Value.int IntKind.u32 0, Value.bool false,
  Value.bool false, Value.bool false, Value.int IntKind.i64 0, Value.int IntKind.i64 0,
  Value.slice none 0 0, Value.int IntKind.u32 0, Value.int IntKind.u32 0, Value.int IntKind.u32 0,
  Value.bool false, Value.bool false, Value.bool false, Value.int IntKind.i64 0,
  Value.int IntKind.i64 0, Value.slice none 0 0, Value.int IntKind.u32 0, Value.int IntKind.u32 0,
  Value.int IntKind.u32 0, Value.bool false, Value.bool false, Value.bool false,
  Value.int IntKind.i64 0, Value.int IntKind.i64 0, Value.slice none 0 0, Value.int IntKind.u32 0,
  Value.int IntKind.u32 0, Value.int IntKind.u32 0, Value.bool false, Value.bool false,
  Value.bool false, Value.int IntKind.i64 0, Value.int IntKind.i64 0, Value.slice none 0 0,
  Value.int IntKind.u32 0, Value.int IntKind.u32 0, Value.int IntKind.u32 0, Value.bool false,
  Value.bool false, Value.bool false, Value.int IntKind.i64 0, Value.int IntKind.i64 0,
  Value.slice none 0 0, Value.int IntKind.u32 0, Value.int IntKind.u32 0, Value.int IntKind.u32 0,
  Value.bool false, Value.bool false, Value.bool false, Value.int IntKind.i64 0,
  Value.int IntKind.i64 0, Value.slice none 0 0, Value.int IntKind.u32 0, Value.int IntKind.u32 0,
  Value.int IntKind.u32 0, Value.bool false, Value.bool false, Value.bool false,
  Value.int IntKind.i64 0, Value.int IntKind.i64 0, Value.slice none 0 0]
  94) →
  cnd (decide (cs.size = 315))
  (SetsAt w'_1 (Addr.mk w'.heap.size 0 none) 0 cs.toList ∧
  ∀ (w'_2 : World),
  w'_2 = setCellsAt w'_1 (Addr.mk w'.heap.size 0 none) 0 cs.toList →
  ∃ (n : Int),
  (∀ (w' : World),
  Later w'_2 w' → w'.cell? (Addr.mk w.heap.size 0 none) = some (Value.int IntKind.u8 n)) ∧
  cnd (decide (IntKind.i64.wrap n ≥ 35))
  (∀ (w' : World),
  Later w'_2 w' →
  R (Ending.returned (Value.tuple #[Value.int IntKind.u32 0, Value.int IntKind.i64 2]))
  w')
  (∃ (n : Int),
  (∀ (w' : World),
  Later w'_2 w' →
  w'.cell? (Addr.mk w.heap.size 0 none) = some (Value.int IntKind.u8 n)) ∧
  (0 ≤ n ∧ n < 35) ∧
  ∃ (n_1 : Int),
  (∀ (w'_3 : World),
  Later w'_2 w'_3 →
  w'_3.cell? ((Addr.mk w'.heap.size 0 none).add (n.toNat * 9)) =
  some (Value.int IntKind.u32 n_1)) ∧
  cnd (n_1 == 0)
  (∀ (w' : World),
  Later w'_2 w' →
  R
  (Ending.returned
  (Value.tuple #[Value.int IntKind.u32 0, Value.int IntKind.i64 2]))
  w')
  (∃ (n : Int),
  (∀ (w' : World),
  Later w'_2 w' →
  w'.cell? (Addr.mk w.heap.size 0 none) =
  some (Value.int IntKind.u8 n)) ∧
  (0 ≤ n ∧ n < 35) ∧
  ∃ (b : Bool),
  ∃ (b_1 : Bool),
  ∃ (b_2 : Bool),
  ∃ (n_2 : Int),
  ∃ (n_3 : Int),
  ∃ (p : Option Addr),
  ∃ (n_4 : Nat),
  ∃ (c : Nat),
  (∀ (w'_3 : World),
  Later w'_2 w'_3 →
  w'_3.cell?
  (((Addr.mk w'.heap.size 0 none).add
  (n.toNat * 9)).add
  3) =
  some (Value.bool b) ∧
  w'_3.cell?
  ((((Addr.mk w'.heap.size 0 none).add
  (n.toNat * 9)).add
  3).add
  1) =
  some (Value.bool b_1) ∧
  w'_3.cell?
  ((((Addr.mk w'.heap.size 0 none).add
  (n.toNat * 9)).add
  3).add
  2) =
  some (Value.bool b_2) ∧
  w'_3.cell?
  ((((Addr.mk w'.heap.size 0 none).add
  (n.toNat * 9)).add
  3).add
  3) =
  some (Value.int IntKind.i64 n_2) ∧
  w'_3.cell?
  ((((Addr.mk w'.heap.size 0 none).add
  (n.toNat * 9)).add
  3).add
  4) =
  some (Value.int IntKind.i64 n_3) ∧
  w'_3.cell?
  ((((Addr.mk w'.heap.size 0
  none).add
  (n.toNat * 9)).add
  3).add
  5) =
  some (Value.slice p n_4 c) ∧
  True) ∧
  ∃ (n : Int),
  ∃ (n_5 : Int),
  ∃ (n_6 : Int),
  ∃ (n_7 : Int),
  ∃ (n_8 : Int),
  (∀ (w' : World),
  Later w'_2 w' →
  w'.cell?
  (Addr.mk w.heap.size 0 none) =
  some (Value.int IntKind.u8 n) ∧
  w'.cell?
  (Addr.mk w.heap.size 1 none) =
  some
  (Value.int IntKind.u8 n_5) ∧
  w'.cell?
  (Addr.mk w.heap.size 2
  none) =
  some
  (Value.int IntKind.u8 n_6) ∧
  w'.cell?
  (Addr.mk w.heap.size 3
  none) =
  some
  (Value.int IntKind.u8
  n_7) ∧
  w'.cell?
  (Addr.mk w.heap.size 4
  none) =
  some
  (Value.int IntKind.i64
  n_8) ∧
  True) ∧
  ∃ (b_3 : Bool),
  (∀ (w' : World),
  Later w'_2 w' →
  Calls Proofs.Try.prog 51
  #[Value.agg
  #[Value.bool b,
  Value.bool b_1,
  Value.bool b_2,
  Value.int IntKind.i64 n_2,
  Value.int IntKind.i64 n_3,
  Value.slice p n_4 c],
  Value.agg
  #[Value.int IntKind.u8 n,
  Value.int IntKind.u8 n_5,
  Value.int IntKind.u8 n_6,
  Value.int IntKind.u8 n_7,
  Value.int IntKind.i64
  n_8]]
  w'
  fun (e : Ending)
  (w'' : World) =>
  e =
  Ending.returned
  (Value.bool b_3) ∧
  Later w' w'') ∧
  ∀ (w'_3 : World),
  Later w'_2 w'_3 →
  cnd (!b_3)
  (R
  (Ending.returned
  (Value.tuple
  #[Value.int IntKind.u32 0,
  Value.int IntKind.i64
  2]))
  w'_3)
  (∃ (n : Int),
  w'_3.cell?
  (Addr.mk w.heap.size 0
  none) =
  some
  (Value.int IntKind.u8
  n) ∧
  (0 ≤ n ∧ n < 35) ∧
  ∃ (n_9 : Int),
  ∃ (n_10 : Int),
  ∃ (n_11 : Int),
  ∃ (b : Bool),
  ∃ (b_4 : Bool),
  ∃ (b_5 : Bool),
  ∃ (n_12 :
  Int),
  ∃ (n_13 :
  Int),
  ∃ (p :
  Option
  Addr),
  ∃ (n_14
  :
  Nat),
  ∃ (c :
  Nat),
  (w'_3.cell?
  ((Addr.mk
  w'.heap.size
  0
  none).add
  (n.toNat *
  9)) =
  some
  (Value.int
  IntKind.u32
  n_9) ∧
  w'_3.cell?
  (((Addr.mk
  w'.heap.size
  0
  none).add
  (n.toNat *
  9)).add
  1) =
  some
  (Value.int
  IntKind.u32
  n_10) ∧
  w'_3.cell?
  (((Addr.mk
  w'.heap.size
  0
  none).add
  (n.toNat *
  9)).add
  2) =
  some
  (Value.int
  IntKind.u32
  n_11) ∧
  w'_3.cell?
  (((Addr.mk
  w'.heap.size
  0
  none).add
  (n.toNat *
  9)).add
  3) =
  some
  (Value.bool
  b) ∧
  w'_3.cell?
  (((Addr.mk
  w'.heap.size
  0
  none).add
  (n.toNat *
  9)).add
  4) =
  some
  (Value.bool
  b_4) ∧
  w'_3.cell?
  (((Addr.mk
  w'.heap.size
  0
  none).add
  (n.toNat *
  9)).add
  5) =
  some
  (Value.bool
  b_5) ∧
  w'_3.cell?
  (((Addr.mk
  w'.heap.size
  0
  none).add
  (n.toNat *
  9)).add
  6) =
  some
  (Value.int
  IntKind.i64
  n_12) ∧
  w'_3.cell?
  (((Addr.mk
  w'.heap.size
  0
  none).add
  (n.toNat *
  9)).add
  7) =
  some
  (Value.int
  IntKind.i64
  n_13) ∧
  w'_3.cell?
  (((Addr.mk
  w'.heap.size
  0
  none).add
  (n.toNat *
  9)).add
  8) =
  some
  (Value.slice
  p
  n_14
  c) ∧
  True) ∧
  ∀
  (w' :
  World),
  w' =
  w'_3.alloc
  (Obj.cells
  #[Value.int
  IntKind.u32
  0,
  Value.int
  IntKind.u32
  0,
  Value.int
  IntKind.u32
  0,
  Value.bool
  false,
  Value.bool
  false,
  Value.bool
  false,
  Value.int
  IntKind.i64
  0,
  Value.int
  IntKind.i64
  0,
  Value.slice
  none
  0
  0]
  93) →
  SetsAt
  w'
  (Addr.mk
  w'_3.heap.size
  0
  none)
  0
  [Value.int
  IntKind.u32
  n_9,
  Value.int
  IntKind.u32
  n_10,
  Value.int
  IntKind.u32
  n_11,
  Value.bool
  b,
  Value.bool
  b_4,
  Value.bool
  b_5,
  Value.int
  IntKind.i64
  n_12,
  Value.int
  IntKind.i64
  n_13,
  Value.slice
  p
  n_14
  c] ∧
  ∀
  (w'_4 :
  World),
  w'_4 =
  setCellsAt
  w'
  (Addr.mk
  w'_3.heap.size
  0
  none)
  0
  [Value.int
  IntKind.u32
  n_9,
  Value.int
  IntKind.u32
  n_10,
  Value.int
  IntKind.u32
  n_11,
  Value.bool
  b,
  Value.bool
  b_4,
  Value.bool
  b_5,
  Value.int
  IntKind.i64
  n_12,
  Value.int
  IntKind.i64
  n_13,
  Value.slice
  p
  n_14
  c] →
  ∃
  (n
  :
  Int),
  w'_4.cell?
  (Addr.mk
  w.heap.size
  1
  none) =
  some
  (Value.int
  IntKind.u8
  n) ∧
  ∃
  (n_15
  :
  Int),
  w'_4.cell?
  (Addr.mk
  w.heap.size
  2
  none) =
  some
  (Value.int
  IntKind.u8
  n_15) ∧
  ∃
  (n_16
  :
  Int),
  w'_4.cell?
  (Addr.mk
  w.heap.size
  3
  none) =
  some
  (Value.int
  IntKind.u8
  n_16) ∧
  ∃
  (n_17
  :
  Int),
  (∀
  (w' :
  World),
  Later
  w'_4
  w' →
  w'.cell?
  (Addr.mk
  w'_3.heap.size
  0
  none) =
  some
  (Value.int
  IntKind.u32
  n_17)) ∧
  ∃
  (n_18
  :
  Int),
  (∀
  (w' :
  World),
  Later
  w'_4
  w' →
  w'.cell?
  (Addr.mk
  w'_3.heap.size
  1
  none) =
  some
  (Value.int
  IntKind.u32
  n_18)) ∧
  ∃
  (n_19
  :
  Int),
  (∀
  (w' :
  World),
  Later
  w'_4
  w' →
  w'.cell?
  (Addr.mk
  w'_3.heap.size
  2
  none) =
  some
  (Value.int
  IntKind.u32
  n_19)) ∧
  ∃
  (n_20
  :
  Int),
  (∀
  (w' :
  World),
  Later
  w'_4
  w' →
  w'.cell?
  (Addr.mk
  w.heap.size
  4
  none) =
  some
  (Value.int
  IntKind.i64
  n_20)) ∧
  ∃
  (p
  :
  Option
  Addr),
  ∃
  (n_21
  :
  Nat),
  ∃
  (c
  :
  Nat),
  (∀
  (w' :
  World),
  Later
  w'_4
  w' →
  w'.cell?
  (Addr.mk
  w'_3.heap.size
  8
  none) =
  some
  (Value.slice
  p
  n_21
  c)) ∧
  ∃
  (n_22
  :
  Int),
  (∀
  (w' :
  World),
  Later
  w'_4
  w' →
  Calls
  Proofs.Try.prog
  52
  #[Value.int
  IntKind.i64
  n_20,
  Value.slice
  p
  n_21
  c]
  w'
  fun
  (e :
  Ending)
  (w'' :
  World) =>
  e =
  Ending.returned
  (Value.int
  IntKind.u32
  n_22) ∧
  Later
  w'
  w'') ∧
  ∀
  (w' :
  World),
  Later
  w'_4
  w' →
  R
  (Ending.returned
  (Value.tuple
  #[Value.int
  IntKind.u32
  (bits
  BinOp.or
  IntKind.u32
  (bits
  BinOp.or
  IntKind.u32
  (bits
  BinOp.or
  IntKind.u32
  (bits
  BinOp.or
  IntKind.u32
  n_17
  (IntKind.u32.wrap
  (n_18 *
  4096)))
  (IntKind.u32.wrap
  (n_19 *
  33554432)))
  (bits
  BinOp.or
  IntKind.u32
  (bits
  BinOp.or
  IntKind.u32
  (IntKind.u32.wrap
  (IntKind.u32.wrap
  n *
  128))
  (IntKind.u32.wrap
  (IntKind.u32.wrap
  n_15 *
  32768)))
  (IntKind.u32.wrap
  (IntKind.u32.wrap
  n_16 *
  1048576))))
  n_22),
  Value.int
  IntKind.i64
  0]))
  w'))))
  False
theorem insn_Encode.vc_eq (x'_0 : Int) (x'_1 : Int) (x'_2 : Int) (x'_3 : Int) (x'_4 : Int) (w : World) (R : Ending → World → Prop) : fnV Try.prog insn_Encode.H 40 [Value.agg
  #[Value.int IntKind.u8 x'_0, Value.int IntKind.u8 x'_1, Value.int IntKind.u8 x'_2, Value.int IntKind.u8 x'_3,
  Value.int IntKind.i64 x'_4]] w R = insn_Encode.vc x'_0 x'_1 x'_2 x'_3 x'_4 w R := by kernel_rfl
theorem insn_Encode.calls {x'_0 : Int} {x'_1 : Int} {x'_2 : Int} {x'_3 : Int} {x'_4 : Int} {w : World} {R : Ending → World → Prop} (h : insn_Encode.vc x'_0 x'_1 x'_2 x'_3 x'_4 w R) : Calls Try.prog 40 ([Value.agg
  #[Value.int IntKind.u8 x'_0, Value.int IntKind.u8 x'_1, Value.int IntKind.u8 x'_2, Value.int IntKind.u8 x'_3,
  Value.int IntKind.i64 x'_4]] : List Value).toArray w R := calls_of_eq (insn_Encode.vc_eq x'_0 x'_1 x'_2 x'_3 x'_4 w R) h

end Go.Proofs.Ytjoikaklincfoaa
