/-
The explicit conditions of some functions of the program, printed by this repo's own program over VcTop: what is proved is that each is the condition.
Conditions: none.
-/
import Derived.Test.YtjoikaklincfoaaVcTop
import Derived.Test.YtjoikaklincfoaaProg
namespace Go.Proofs.Ytjoikaklincfoaa
open Go Go.Vc Go.RowKit
set_option linter.unusedVariables false
set_option maxRecDepth 100000

/- function 32: sacristy/sacristyref02.two -/
abbrev ref02_two.N : FuncId := 32
def ref02_two.H : Hints := {  }
def ref02_two.vc (op' : Int) (w : World) (R : Ending → World → Prop) : Prop :=
  ∀ (w' : World),
  w' =
  w.alloc
  (Obj.cells #[Value.int IntKind.u32 0, Value.int IntKind.u32 0, Value.int IntKind.u32 0, Value.int IntKind.i64 0]
  60) →
  ∀ (w'_1 : World),
  w'_1 =
  w'.alloc
  (Obj.cells
  #[Value.int IntKind.u32 0, Value.int IntKind.u32 0, Value.int IntKind.u32 1, Value.int IntKind.u32 2,
  Value.int IntKind.u32 3, Value.int IntKind.u32 4, Value.int IntKind.u32 5, Value.int IntKind.u32 5,
  Value.int IntKind.u32 6, Value.int IntKind.u32 7, Value.int IntKind.u32 0, Value.int IntKind.u32 3,
  Value.int IntKind.u32 5, Value.int IntKind.u32 7]
  42) →
  cnd (decide (op' < 1))
  (SetsAt w'_1 (Addr.mk w.heap.size 0 none) 0
  [Value.int IntKind.u32 0, Value.int IntKind.u32 0, Value.int IntKind.u32 0, Value.int IntKind.i64 0] ∧
  ∀ (w' : World),
  w' =
  setCellsAt w'_1 (Addr.mk w.heap.size 0 none) 0
  [Value.int IntKind.u32 0, Value.int IntKind.u32 0, Value.int IntKind.u32 0,
  Value.int IntKind.i64 0] →
  ∃ (n : Int),
  ∃ (n_1 : Int),
  ∃ (n_2 : Int),
  ∃ (n_3 : Int),
  (w'.cell? (Addr.mk w.heap.size 0 none) = some (Value.int IntKind.u32 n) ∧
  w'.cell? (Addr.mk w.heap.size 1 none) = some (Value.int IntKind.u32 n_1) ∧
  w'.cell? (Addr.mk w.heap.size 2 none) = some (Value.int IntKind.u32 n_2) ∧
  w'.cell? (Addr.mk w.heap.size 3 none) = some (Value.int IntKind.i64 n_3) ∧ True) ∧
  R
  (Ending.returned
  (Value.tuple
  #[Value.agg
  #[Value.int IntKind.u32 n, Value.int IntKind.u32 n_1, Value.int IntKind.u32 n_2,
  Value.int IntKind.i64 n_3],
  Value.bool false]))
  w')
  (cnd (decide (op' > 14))
  (SetsAt w'_1 (Addr.mk w.heap.size 0 none) 0
  [Value.int IntKind.u32 0, Value.int IntKind.u32 0, Value.int IntKind.u32 0, Value.int IntKind.i64 0] ∧
  ∀ (w' : World),
  w' =
  setCellsAt w'_1 (Addr.mk w.heap.size 0 none) 0
  [Value.int IntKind.u32 0, Value.int IntKind.u32 0, Value.int IntKind.u32 0,
  Value.int IntKind.i64 0] →
  ∃ (n : Int),
  ∃ (n_1 : Int),
  ∃ (n_2 : Int),
  ∃ (n_3 : Int),
  (w'.cell? (Addr.mk w.heap.size 0 none) = some (Value.int IntKind.u32 n) ∧
  w'.cell? (Addr.mk w.heap.size 1 none) = some (Value.int IntKind.u32 n_1) ∧
  w'.cell? (Addr.mk w.heap.size 2 none) = some (Value.int IntKind.u32 n_2) ∧
  w'.cell? (Addr.mk w.heap.size 3 none) = some (Value.int IntKind.i64 n_3) ∧ True) ∧
  R
  (Ending.returned
  (Value.tuple
  #[Value.agg
  #[Value.int IntKind.u32 n, Value.int IntKind.u32 n_1, Value.int IntKind.u32 n_2,
  Value.int IntKind.i64 n_3],
  Value.bool false]))
  w')
  ((0 ≤ IntKind.u8.wrap (op' - 1) ∧ IntKind.u8.wrap (op' - 1) < 14) ∧
  ∃ (n : Int),
  w'_1.cell? ((Addr.mk w'.heap.size 0 none).add ((IntKind.u8.wrap (op' - 1)).toNat * 1)) =
  some (Value.int IntKind.u32 n) ∧
  ∀ (w' : World),
  w' =
  w'_1.alloc
  (Obj.cells
  #[Value.int IntKind.u32 0, Value.int IntKind.u32 0, Value.int IntKind.u32 0,
  Value.int IntKind.i64 0]
  60) →
  SetsAt w' (Addr.mk w'_1.heap.size 0 none) 0
  [Value.int IntKind.u32 51, Value.int IntKind.u32 n, Value.int IntKind.u32 0,
  Value.int IntKind.i64 1] ∧
  ∀ (w'_2 : World),
  w'_2 =
  setCellsAt w' (Addr.mk w'_1.heap.size 0 none) 0
  [Value.int IntKind.u32 51, Value.int IntKind.u32 n, Value.int IntKind.u32 0,
  Value.int IntKind.i64 1] →
  cnd (op' == 2)
  (((w'_2.cell? (Addr.mk w'_1.heap.size 2 none)).isSome = true ∧
  w'_2.frozen? (Addr.mk w'_1.heap.size 2 none) = false) ∧
  ∀ (w' : World),
  w' = w'_2.setCell (Addr.mk w'_1.heap.size 2 none) (Value.int IntKind.u32 32) →
  cnd (decide (op' ≥ 11))
  (((w'.cell? (Addr.mk w'_1.heap.size 2 none)).isSome = true ∧
  w'.frozen? (Addr.mk w'_1.heap.size 2 none) = false) ∧
  ∀ (w'_3 : World),
  w'_3 = w'.setCell (Addr.mk w'_1.heap.size 2 none) (Value.int IntKind.u32 1) →
  ∃ (n : Int),
  ∃ (n_1 : Int),
  ∃ (n_2 : Int),
  ∃ (n_3 : Int),
  (w'_3.cell? (Addr.mk w'_1.heap.size 0 none) =
  some (Value.int IntKind.u32 n) ∧
  w'_3.cell? (Addr.mk w'_1.heap.size 1 none) =
  some (Value.int IntKind.u32 n_1) ∧
  w'_3.cell? (Addr.mk w'_1.heap.size 2 none) =
  some (Value.int IntKind.u32 n_2) ∧
  w'_3.cell? (Addr.mk w'_1.heap.size 3 none) =
  some (Value.int IntKind.i64 n_3) ∧
  True) ∧
  SetsAt w'_3 (Addr.mk w.heap.size 0 none) 0
  [Value.int IntKind.u32 n, Value.int IntKind.u32 n_1,
  Value.int IntKind.u32 n_2, Value.int IntKind.i64 n_3] ∧
  ∀ (w' : World),
  w' =
  setCellsAt w'_3 (Addr.mk w.heap.size 0 none) 0
  [Value.int IntKind.u32 n, Value.int IntKind.u32 n_1,
  Value.int IntKind.u32 n_2,
  Value.int IntKind.i64 n_3] →
  ∃ (n : Int),
  ∃ (n_4 : Int),
  ∃ (n_5 : Int),
  ∃ (n_6 : Int),
  (w'.cell? (Addr.mk w.heap.size 0 none) =
  some (Value.int IntKind.u32 n) ∧
  w'.cell? (Addr.mk w.heap.size 1 none) =
  some (Value.int IntKind.u32 n_4) ∧
  w'.cell? (Addr.mk w.heap.size 2 none) =
  some (Value.int IntKind.u32 n_5) ∧
  w'.cell? (Addr.mk w.heap.size 3 none) =
  some (Value.int IntKind.i64 n_6) ∧
  True) ∧
  R
  (Ending.returned
  (Value.tuple
  #[Value.agg
  #[Value.int IntKind.u32 n,
  Value.int IntKind.u32 n_4,
  Value.int IntKind.u32 n_5,
  Value.int IntKind.i64 n_6],
  Value.bool true]))
  w')
  (∃ (n : Int),
  ∃ (n_1 : Int),
  ∃ (n_2 : Int),
  ∃ (n_3 : Int),
  (w'.cell? (Addr.mk w'_1.heap.size 0 none) =
  some (Value.int IntKind.u32 n) ∧
  w'.cell? (Addr.mk w'_1.heap.size 1 none) =
  some (Value.int IntKind.u32 n_1) ∧
  w'.cell? (Addr.mk w'_1.heap.size 2 none) =
  some (Value.int IntKind.u32 n_2) ∧
  w'.cell? (Addr.mk w'_1.heap.size 3 none) =
  some (Value.int IntKind.i64 n_3) ∧
  True) ∧
  SetsAt w' (Addr.mk w.heap.size 0 none) 0
  [Value.int IntKind.u32 n, Value.int IntKind.u32 n_1,
  Value.int IntKind.u32 n_2, Value.int IntKind.i64 n_3] ∧
  ∀ (w'_3 : World),
  w'_3 =
  setCellsAt w' (Addr.mk w.heap.size 0 none) 0
  [Value.int IntKind.u32 n, Value.int IntKind.u32 n_1,
  Value.int IntKind.u32 n_2, Value.int IntKind.i64 n_3] →
  ∃ (n : Int),
  ∃ (n_4 : Int),
  ∃ (n_5 : Int),
  ∃ (n_6 : Int),
  (w'_3.cell? (Addr.mk w.heap.size 0 none) =
  some (Value.int IntKind.u32 n) ∧
  w'_3.cell? (Addr.mk w.heap.size 1 none) =
  some (Value.int IntKind.u32 n_4) ∧
  w'_3.cell? (Addr.mk w.heap.size 2 none) =
  some (Value.int IntKind.u32 n_5) ∧
  w'_3.cell? (Addr.mk w.heap.size 3 none) =
  some (Value.int IntKind.i64 n_6) ∧
  True) ∧
  R
  (Ending.returned
  (Value.tuple
  #[Value.agg
  #[Value.int IntKind.u32 n,
  Value.int IntKind.u32 n_4,
  Value.int IntKind.u32 n_5,
  Value.int IntKind.i64 n_6],
  Value.bool true]))
  w'_3))
  (cnd (op' == 8)
  (((w'_2.cell? (Addr.mk w'_1.heap.size 2 none)).isSome = true ∧
  w'_2.frozen? (Addr.mk w'_1.heap.size 2 none) = false) ∧
  ∀ (w' : World),
  w' = w'_2.setCell (Addr.mk w'_1.heap.size 2 none) (Value.int IntKind.u32 32) →
  cnd (decide (op' ≥ 11))
  (((w'.cell? (Addr.mk w'_1.heap.size 2 none)).isSome = true ∧
  w'.frozen? (Addr.mk w'_1.heap.size 2 none) = false) ∧
  ∀ (w'_3 : World),
  w'_3 =
  w'.setCell (Addr.mk w'_1.heap.size 2 none) (Value.int IntKind.u32 1) →
  ∃ (n : Int),
  ∃ (n_1 : Int),
  ∃ (n_2 : Int),
  ∃ (n_3 : Int),
  (w'_3.cell? (Addr.mk w'_1.heap.size 0 none) =
  some (Value.int IntKind.u32 n) ∧
  w'_3.cell? (Addr.mk w'_1.heap.size 1 none) =
  some (Value.int IntKind.u32 n_1) ∧
  w'_3.cell? (Addr.mk w'_1.heap.size 2 none) =
  some (Value.int IntKind.u32 n_2) ∧
  w'_3.cell? (Addr.mk w'_1.heap.size 3 none) =
  some (Value.int IntKind.i64 n_3) ∧
  True) ∧
  SetsAt w'_3 (Addr.mk w.heap.size 0 none) 0
  [Value.int IntKind.u32 n, Value.int IntKind.u32 n_1,
  Value.int IntKind.u32 n_2, Value.int IntKind.i64 n_3] ∧
  ∀ (w' : World),
  w' =
  setCellsAt w'_3 (Addr.mk w.heap.size 0 none) 0
  [Value.int IntKind.u32 n, Value.int IntKind.u32 n_1,
  Value.int IntKind.u32 n_2,
  Value.int IntKind.i64 n_3] →
  ∃ (n : Int),
  ∃ (n_4 : Int),
  ∃ (n_5 : Int),
  ∃ (n_6 : Int),
  (w'.cell? (Addr.mk w.heap.size 0 none) =
  some (Value.int IntKind.u32 n) ∧
  w'.cell? (Addr.mk w.heap.size 1 none) =
  some (Value.int IntKind.u32 n_4) ∧
  w'.cell? (Addr.mk w.heap.size 2 none) =
  some (Value.int IntKind.u32 n_5) ∧
  w'.cell? (Addr.mk w.heap.size 3 none) =
  some (Value.int IntKind.i64 n_6) ∧
  True) ∧
  R
  (Ending.returned
  (Value.tuple
  #[Value.agg
  #[Value.int IntKind.u32 n,
  Value.int IntKind.u32 n_4,
  Value.int IntKind.u32 n_5,
  Value.int IntKind.i64 n_6],
  Value.bool true]))
  w')
  (∃ (n : Int),
  ∃ (n_1 : Int),
  ∃ (n_2 : Int),
  ∃ (n_3 : Int),
  (w'.cell? (Addr.mk w'_1.heap.size 0 none) =
  some (Value.int IntKind.u32 n) ∧
  w'.cell? (Addr.mk w'_1.heap.size 1 none) =
  some (Value.int IntKind.u32 n_1) ∧
  w'.cell? (Addr.mk w'_1.heap.size 2 none) =
  some (Value.int IntKind.u32 n_2) ∧
  w'.cell? (Addr.mk w'_1.heap.size 3 none) =
  some (Value.int IntKind.i64 n_3) ∧
  True) ∧
  SetsAt w' (Addr.mk w.heap.size 0 none) 0
  [Value.int IntKind.u32 n, Value.int IntKind.u32 n_1,
  Value.int IntKind.u32 n_2, Value.int IntKind.i64 n_3] ∧
  ∀ (w'_3 : World),
  w'_3 =
  setCellsAt w' (Addr.mk w.heap.size 0 none) 0
  [Value.int IntKind.u32 n, Value.int IntKind.u32 n_1,
  Value.int IntKind.u32 n_2, Value.int IntKind.i64 n_3] →
  ∃ (n : Int),
  ∃ (n_4 : Int),
  ∃ (n_5 : Int),
  ∃ (n_6 : Int),
  (w'_3.cell? (Addr.mk w.heap.size 0 none) =
  some (Value.int IntKind.u32 n) ∧
  w'_3.cell? (Addr.mk w.heap.size 1 none) =
  some (Value.int IntKind.u32 n_4) ∧
  w'_3.cell? (Addr.mk w.heap.size 2 none) =
  some (Value.int IntKind.u32 n_5) ∧
  w'_3.cell? (Addr.mk w.heap.size 3 none) =
  some (Value.int IntKind.i64 n_6) ∧
  True) ∧
  R
  (Ending.returned
  (Value.tuple
  #[Value.agg
  #[Value.int IntKind.u32 n,
  Value.int IntKind.u32 n_4,
  Value.int IntKind.u32 n_5,
  Value.int IntKind.i64 n_6],
  Value.bool true]))
  w'_3))
  (cnd (decide (op' ≥ 11))
  (((w'_2.cell? (Addr.mk w'_1.heap.size 2 none)).isSome = true ∧
  w'_2.frozen? (Addr.mk w'_1.heap.size 2 none) = false) ∧
  ∀ (w' : World),
  w' = w'_2.setCell (Addr.mk w'_1.heap.size 2 none) (Value.int IntKind.u32 1) →
  ∃ (n : Int),
  ∃ (n_1 : Int),
  ∃ (n_2 : Int),
  ∃ (n_3 : Int),
  (w'.cell? (Addr.mk w'_1.heap.size 0 none) =
  some (Value.int IntKind.u32 n) ∧
  w'.cell? (Addr.mk w'_1.heap.size 1 none) =
  some (Value.int IntKind.u32 n_1) ∧
  w'.cell? (Addr.mk w'_1.heap.size 2 none) =
  some (Value.int IntKind.u32 n_2) ∧
  w'.cell? (Addr.mk w'_1.heap.size 3 none) =
  some (Value.int IntKind.i64 n_3) ∧
  True) ∧
  SetsAt w' (Addr.mk w.heap.size 0 none) 0
  [Value.int IntKind.u32 n, Value.int IntKind.u32 n_1,
  Value.int IntKind.u32 n_2, Value.int IntKind.i64 n_3] ∧
  ∀ (w'_3 : World),
  w'_3 =
  setCellsAt w' (Addr.mk w.heap.size 0 none) 0
  [Value.int IntKind.u32 n, Value.int IntKind.u32 n_1,
  Value.int IntKind.u32 n_2, Value.int IntKind.i64 n_3] →
  ∃ (n : Int),
  ∃ (n_4 : Int),
  ∃ (n_5 : Int),
  ∃ (n_6 : Int),
  (w'_3.cell? (Addr.mk w.heap.size 0 none) =
  some (Value.int IntKind.u32 n) ∧
  w'_3.cell? (Addr.mk w.heap.size 1 none) =
  some (Value.int IntKind.u32 n_4) ∧
  w'_3.cell? (Addr.mk w.heap.size 2 none) =
  some (Value.int IntKind.u32 n_5) ∧
  w'_3.cell? (Addr.mk w.heap.size 3 none) =
  some (Value.int IntKind.i64 n_6) ∧
  True) ∧
  R
  (Ending.returned
  (Value.tuple
  #[Value.agg
  #[Value.int IntKind.u32 n,
  Value.int IntKind.u32 n_4,
  Value.int IntKind.u32 n_5,
  Value.int IntKind.i64 n_6],
  Value.bool true]))
  w'_3)
  (∃ (n : Int),
  ∃ (n_1 : Int),
  ∃ (n_2 : Int),
  ∃ (n_3 : Int),
  (w'_2.cell? (Addr.mk w'_1.heap.size 0 none) = some (Value.int IntKind.u32 n) ∧
  w'_2.cell? (Addr.mk w'_1.heap.size 1 none) =
  some (Value.int IntKind.u32 n_1) ∧
  w'_2.cell? (Addr.mk w'_1.heap.size 2 none) =
  some (Value.int IntKind.u32 n_2) ∧
  w'_2.cell? (Addr.mk w'_1.heap.size 3 none) =
  some (Value.int IntKind.i64 n_3) ∧
  True) ∧
  SetsAt w'_2 (Addr.mk w.heap.size 0 none) 0
  [Value.int IntKind.u32 n, Value.int IntKind.u32 n_1,
  Value.int IntKind.u32 n_2, Value.int IntKind.i64 n_3] ∧
  ∀ (w' : World),
  w' =
  setCellsAt w'_2 (Addr.mk w.heap.size 0 none) 0
  [Value.int IntKind.u32 n, Value.int IntKind.u32 n_1,
  Value.int IntKind.u32 n_2, Value.int IntKind.i64 n_3] →
  ∃ (n : Int),
  ∃ (n_4 : Int),
  ∃ (n_5 : Int),
  ∃ (n_6 : Int),
  (w'.cell? (Addr.mk w.heap.size 0 none) =
  some (Value.int IntKind.u32 n) ∧
  w'.cell? (Addr.mk w.heap.size 1 none) =
  some (Value.int IntKind.u32 n_4) ∧
  w'.cell? (Addr.mk w.heap.size 2 none) =
  some (Value.int IntKind.u32 n_5) ∧
  w'.cell? (Addr.mk w.heap.size 3 none) =
  some (Value.int IntKind.i64 n_6) ∧
  True) ∧
  R
  (Ending.returned
  (Value.tuple
  #[Value.agg
  #[Value.int IntKind.u32 n,
  Value.int IntKind.u32 n_4,
  Value.int IntKind.u32 n_5,
  Value.int IntKind.i64 n_6],
  Value.bool true]))
  w')))))
theorem ref02_two.vc_eq (op' : Int) (w : World) (R : Ending → World → Prop) : fnV Try.prog ref02_two.H 32 [Value.int IntKind.u8 op'] w R = ref02_two.vc op' w R := by kernel_rfl
theorem ref02_two.calls {op' : Int} {w : World} {R : Ending → World → Prop} (h : ref02_two.vc op' w R) : Calls Try.prog 32 ([Value.int IntKind.u8 op'] : List Value).toArray w R := calls_of_eq (ref02_two.vc_eq op' w R) h

/- function 24: sacristy/sacristyref02.Of -/
abbrev ref02_Of.N : FuncId := 24
def ref02_Of.H : Hints := {  }
def ref02_Of.vc (op' : Int) (w : World) (R : Ending → World → Prop) : Prop :=
  ∀ (w' : World),
  w' =
  w.alloc
  (Obj.cells #[Value.int IntKind.u32 0, Value.int IntKind.u32 0, Value.int IntKind.u32 0, Value.int IntKind.i64 0]
  60) →
  Calls Proofs.Try.prog 32 #[Value.int IntKind.u8 op'] w' fun (e : Ending) (w' : World) =>
  ∃ (n : Int),
  ∃ (n_1 : Int),
  ∃ (n_2 : Int),
  ∃ (n_3 : Int),
  ∃ (b : Bool),
  e =
  Ending.returned
  (Value.tuple
  #[Value.agg
  #[Value.int IntKind.u32 n, Value.int IntKind.u32 n_1, Value.int IntKind.u32 n_2,
  Value.int IntKind.i64 n_3],
  Value.bool b]) ∧
  ∀ (w'_1 : World),
  w'_1 =
  w'.alloc
  (Obj.cells
  #[Value.int IntKind.u32 0, Value.int IntKind.u32 0, Value.int IntKind.u32 0,
  Value.int IntKind.i64 0]
  60) →
  SetsAt w'_1 (Addr.mk w'.heap.size 0 none) 0
  [Value.int IntKind.u32 n, Value.int IntKind.u32 n_1, Value.int IntKind.u32 n_2,
  Value.int IntKind.i64 n_3] ∧
  ∀ (w'_2 : World),
  w'_2 =
  setCellsAt w'_1 (Addr.mk w'.heap.size 0 none) 0
  [Value.int IntKind.u32 n, Value.int IntKind.u32 n_1, Value.int IntKind.u32 n_2,
  Value.int IntKind.i64 n_3] →
  cnd b
  (∃ (n : Int),
  ∃ (n_4 : Int),
  ∃ (n_5 : Int),
  ∃ (n_6 : Int),
  (w'_2.cell? (Addr.mk w'.heap.size 0 none) = some (Value.int IntKind.u32 n) ∧
  w'_2.cell? (Addr.mk w'.heap.size 1 none) = some (Value.int IntKind.u32 n_4) ∧
  w'_2.cell? (Addr.mk w'.heap.size 2 none) =
  some (Value.int IntKind.u32 n_5) ∧
  w'_2.cell? (Addr.mk w'.heap.size 3 none) =
  some (Value.int IntKind.i64 n_6) ∧
  True) ∧
  SetsAt w'_2 (Addr.mk w.heap.size 0 none) 0
  [Value.int IntKind.u32 n, Value.int IntKind.u32 n_4,
  Value.int IntKind.u32 n_5, Value.int IntKind.i64 n_6] ∧
  ∀ (w' : World),
  w' =
  setCellsAt w'_2 (Addr.mk w.heap.size 0 none) 0
  [Value.int IntKind.u32 n, Value.int IntKind.u32 n_4,
  Value.int IntKind.u32 n_5, Value.int IntKind.i64 n_6] →
  ∃ (n : Int),
  ∃ (n_7 : Int),
  ∃ (n_8 : Int),
  ∃ (n_9 : Int),
  (w'.cell? (Addr.mk w.heap.size 0 none) =
  some (Value.int IntKind.u32 n) ∧
  w'.cell? (Addr.mk w.heap.size 1 none) =
  some (Value.int IntKind.u32 n_7) ∧
  w'.cell? (Addr.mk w.heap.size 2 none) =
  some (Value.int IntKind.u32 n_8) ∧
  w'.cell? (Addr.mk w.heap.size 3 none) =
  some (Value.int IntKind.i64 n_9) ∧
  True) ∧
  R
  (Ending.returned
  (Value.tuple
  #[Value.agg
  #[Value.int IntKind.u32 n, Value.int IntKind.u32 n_7,
  Value.int IntKind.u32 n_8,
  Value.int IntKind.i64 n_9],
  Value.bool true]))
  w')
  (cnd (op' == 15)
  (SetsAt w'_2 (Addr.mk w.heap.size 0 none) 0
  [Value.int IntKind.u32 19, Value.int IntKind.u32 0, Value.int IntKind.u32 0,
  Value.int IntKind.i64 2] ∧
  ∀ (w' : World),
  w' =
  setCellsAt w'_2 (Addr.mk w.heap.size 0 none) 0
  [Value.int IntKind.u32 19, Value.int IntKind.u32 0, Value.int IntKind.u32 0,
  Value.int IntKind.i64 2] →
  ∃ (n : Int),
  ∃ (n_4 : Int),
  ∃ (n_5 : Int),
  ∃ (n_6 : Int),
  (w'.cell? (Addr.mk w.heap.size 0 none) = some (Value.int IntKind.u32 n) ∧
  w'.cell? (Addr.mk w.heap.size 1 none) =
  some (Value.int IntKind.u32 n_4) ∧
  w'.cell? (Addr.mk w.heap.size 2 none) =
  some (Value.int IntKind.u32 n_5) ∧
  w'.cell? (Addr.mk w.heap.size 3 none) =
  some (Value.int IntKind.i64 n_6) ∧
  True) ∧
  R
  (Ending.returned
  (Value.tuple
  #[Value.agg
  #[Value.int IntKind.u32 n, Value.int IntKind.u32 n_4,
  Value.int IntKind.u32 n_5, Value.int IntKind.i64 n_6],
  Value.bool true]))
  w')
  (cnd (op' == 16)
  (SetsAt w'_2 (Addr.mk w.heap.size 0 none) 0
  [Value.int IntKind.u32 19, Value.int IntKind.u32 3, Value.int IntKind.u32 0,
  Value.int IntKind.i64 2] ∧
  ∀ (w' : World),
  w' =
  setCellsAt w'_2 (Addr.mk w.heap.size 0 none) 0
  [Value.int IntKind.u32 19, Value.int IntKind.u32 3, Value.int IntKind.u32 0,
  Value.int IntKind.i64 2] →
  ∃ (n : Int),
  ∃ (n_4 : Int),
  ∃ (n_5 : Int),
  ∃ (n_6 : Int),
  (w'.cell? (Addr.mk w.heap.size 0 none) =
  some (Value.int IntKind.u32 n) ∧
  w'.cell? (Addr.mk w.heap.size 1 none) =
  some (Value.int IntKind.u32 n_4) ∧
  w'.cell? (Addr.mk w.heap.size 2 none) =
  some (Value.int IntKind.u32 n_5) ∧
  w'.cell? (Addr.mk w.heap.size 3 none) =
  some (Value.int IntKind.i64 n_6) ∧
  True) ∧
  R
  (Ending.returned
  (Value.tuple
  #[Value.agg
  #[Value.int IntKind.u32 n, Value.int IntKind.u32 n_4,
  Value.int IntKind.u32 n_5, Value.int IntKind.i64 n_6],
  Value.bool true]))
  w')
  (cnd (op' == 17)
  (SetsAt w'_2 (Addr.mk w.heap.size 0 none) 0
  [Value.int IntKind.u32 19, Value.int IntKind.u32 4, Value.int IntKind.u32 0,
  Value.int IntKind.i64 2] ∧
  ∀ (w' : World),
  w' =
  setCellsAt w'_2 (Addr.mk w.heap.size 0 none) 0
  [Value.int IntKind.u32 19, Value.int IntKind.u32 4,
  Value.int IntKind.u32 0, Value.int IntKind.i64 2] →
  ∃ (n : Int),
  ∃ (n_4 : Int),
  ∃ (n_5 : Int),
  ∃ (n_6 : Int),
  (w'.cell? (Addr.mk w.heap.size 0 none) =
  some (Value.int IntKind.u32 n) ∧
  w'.cell? (Addr.mk w.heap.size 1 none) =
  some (Value.int IntKind.u32 n_4) ∧
  w'.cell? (Addr.mk w.heap.size 2 none) =
  some (Value.int IntKind.u32 n_5) ∧
  w'.cell? (Addr.mk w.heap.size 3 none) =
  some (Value.int IntKind.i64 n_6) ∧
  True) ∧
  R
  (Ending.returned
  (Value.tuple
  #[Value.agg
  #[Value.int IntKind.u32 n, Value.int IntKind.u32 n_4,
  Value.int IntKind.u32 n_5, Value.int IntKind.i64 n_6],
  Value.bool true]))
  w')
  (cnd (op' == 18)
  (SetsAt w'_2 (Addr.mk w.heap.size 0 none) 0
  [Value.int IntKind.u32 19, Value.int IntKind.u32 6, Value.int IntKind.u32 0,
  Value.int IntKind.i64 2] ∧
  ∀ (w' : World),
  w' =
  setCellsAt w'_2 (Addr.mk w.heap.size 0 none) 0
  [Value.int IntKind.u32 19, Value.int IntKind.u32 6,
  Value.int IntKind.u32 0, Value.int IntKind.i64 2] →
  ∃ (n : Int),
  ∃ (n_4 : Int),
  ∃ (n_5 : Int),
  ∃ (n_6 : Int),
  (w'.cell? (Addr.mk w.heap.size 0 none) =
  some (Value.int IntKind.u32 n) ∧
  w'.cell? (Addr.mk w.heap.size 1 none) =
  some (Value.int IntKind.u32 n_4) ∧
  w'.cell? (Addr.mk w.heap.size 2 none) =
  some (Value.int IntKind.u32 n_5) ∧
  w'.cell? (Addr.mk w.heap.size 3 none) =
  some (Value.int IntKind.i64 n_6) ∧
  True) ∧
  R
  (Ending.returned
  (Value.tuple
  #[Value.agg
  #[Value.int IntKind.u32 n, Value.int IntKind.u32 n_4,
  Value.int IntKind.u32 n_5, Value.int IntKind.i64 n_6],
  Value.bool true]))
  w')
  (cnd (op' == 19)
  (SetsAt w'_2 (Addr.mk w.heap.size 0 none) 0
  [Value.int IntKind.u32 19, Value.int IntKind.u32 7, Value.int IntKind.u32 0,
  Value.int IntKind.i64 2] ∧
  ∀ (w' : World),
  w' =
  setCellsAt w'_2 (Addr.mk w.heap.size 0 none) 0
  [Value.int IntKind.u32 19, Value.int IntKind.u32 7,
  Value.int IntKind.u32 0, Value.int IntKind.i64 2] →
  ∃ (n : Int),
  ∃ (n_4 : Int),
  ∃ (n_5 : Int),
  ∃ (n_6 : Int),
  (w'.cell? (Addr.mk w.heap.size 0 none) =
  some (Value.int IntKind.u32 n) ∧
  w'.cell? (Addr.mk w.heap.size 1 none) =
  some (Value.int IntKind.u32 n_4) ∧
  w'.cell? (Addr.mk w.heap.size 2 none) =
  some (Value.int IntKind.u32 n_5) ∧
  w'.cell? (Addr.mk w.heap.size 3 none) =
  some (Value.int IntKind.i64 n_6) ∧
  True) ∧
  R
  (Ending.returned
  (Value.tuple
  #[Value.agg
  #[Value.int IntKind.u32 n, Value.int IntKind.u32 n_4,
  Value.int IntKind.u32 n_5,
  Value.int IntKind.i64 n_6],
  Value.bool true]))
  w')
  (cnd (op' == 20)
  (SetsAt w'_2 (Addr.mk w.heap.size 0 none) 0
  [Value.int IntKind.u32 19, Value.int IntKind.u32 1,
  Value.int IntKind.u32 0, Value.int IntKind.i64 3] ∧
  ∀ (w' : World),
  w' =
  setCellsAt w'_2 (Addr.mk w.heap.size 0 none) 0
  [Value.int IntKind.u32 19, Value.int IntKind.u32 1,
  Value.int IntKind.u32 0, Value.int IntKind.i64 3] →
  ∃ (n : Int),
  ∃ (n_4 : Int),
  ∃ (n_5 : Int),
  ∃ (n_6 : Int),
  (w'.cell? (Addr.mk w.heap.size 0 none) =
  some (Value.int IntKind.u32 n) ∧
  w'.cell? (Addr.mk w.heap.size 1 none) =
  some (Value.int IntKind.u32 n_4) ∧
  w'.cell? (Addr.mk w.heap.size 2 none) =
  some (Value.int IntKind.u32 n_5) ∧
  w'.cell? (Addr.mk w.heap.size 3 none) =
  some (Value.int IntKind.i64 n_6) ∧
  True) ∧
  R
  (Ending.returned
  (Value.tuple
  #[Value.agg
  #[Value.int IntKind.u32 n,
  Value.int IntKind.u32 n_4,
  Value.int IntKind.u32 n_5,
  Value.int IntKind.i64 n_6],
  Value.bool true]))
  w')
  (cnd (op' == 21)
  (SetsAt w'_2 (Addr.mk w.heap.size 0 none) 0
  [Value.int IntKind.u32 19, Value.int IntKind.u32 5,
  Value.int IntKind.u32 0, Value.int IntKind.i64 3] ∧
  ∀ (w' : World),
  w' =
  setCellsAt w'_2 (Addr.mk w.heap.size 0 none) 0
  [Value.int IntKind.u32 19, Value.int IntKind.u32 5,
  Value.int IntKind.u32 0, Value.int IntKind.i64 3] →
  ∃ (n : Int),
  ∃ (n_4 : Int),
  ∃ (n_5 : Int),
  ∃ (n_6 : Int),
  (w'.cell? (Addr.mk w.heap.size 0 none) =
  some (Value.int IntKind.u32 n) ∧
  w'.cell? (Addr.mk w.heap.size 1 none) =
  some (Value.int IntKind.u32 n_4) ∧
  w'.cell? (Addr.mk w.heap.size 2 none) =
  some (Value.int IntKind.u32 n_5) ∧
  w'.cell? (Addr.mk w.heap.size 3 none) =
  some (Value.int IntKind.i64 n_6) ∧
  True) ∧
  R
  (Ending.returned
  (Value.tuple
  #[Value.agg
  #[Value.int IntKind.u32 n,
  Value.int IntKind.u32 n_4,
  Value.int IntKind.u32 n_5,
  Value.int IntKind.i64 n_6],
  Value.bool true]))
  w')
  (cnd (op' == 22)
  (SetsAt w'_2 (Addr.mk w.heap.size 0 none) 0
  [Value.int IntKind.u32 19, Value.int IntKind.u32 5,
  Value.int IntKind.u32 32, Value.int IntKind.i64 3] ∧
  ∀ (w' : World),
  w' =
  setCellsAt w'_2 (Addr.mk w.heap.size 0 none) 0
  [Value.int IntKind.u32 19, Value.int IntKind.u32 5,
  Value.int IntKind.u32 32, Value.int IntKind.i64 3] →
  ∃ (n : Int),
  ∃ (n_4 : Int),
  ∃ (n_5 : Int),
  ∃ (n_6 : Int),
  (w'.cell? (Addr.mk w.heap.size 0 none) =
  some (Value.int IntKind.u32 n) ∧
  w'.cell? (Addr.mk w.heap.size 1 none) =
  some (Value.int IntKind.u32 n_4) ∧
  w'.cell? (Addr.mk w.heap.size 2 none) =
  some (Value.int IntKind.u32 n_5) ∧
  w'.cell? (Addr.mk w.heap.size 3 none) =
  some (Value.int IntKind.i64 n_6) ∧
  True) ∧
  R
  (Ending.returned
  (Value.tuple
  #[Value.agg
  #[Value.int IntKind.u32 n,
  Value.int IntKind.u32 n_4,
  Value.int IntKind.u32 n_5,
  Value.int IntKind.i64 n_6],
  Value.bool true]))
  w')
  (cnd (op' == 23)
  (SetsAt w'_2 (Addr.mk w.heap.size 0 none) 0
  [Value.int IntKind.u32 55, Value.int IntKind.u32 0,
  Value.int IntKind.u32 0, Value.int IntKind.i64 4] ∧
  ∀ (w' : World),
  w' =
  setCellsAt w'_2 (Addr.mk w.heap.size 0 none) 0
  [Value.int IntKind.u32 55, Value.int IntKind.u32 0,
  Value.int IntKind.u32 0, Value.int IntKind.i64 4] →
  ∃ (n : Int),
  ∃ (n_4 : Int),
  ∃ (n_5 : Int),
  ∃ (n_6 : Int),
  (w'.cell? (Addr.mk w.heap.size 0 none) =
  some (Value.int IntKind.u32 n) ∧
  w'.cell? (Addr.mk w.heap.size 1 none) =
  some (Value.int IntKind.u32 n_4) ∧
  w'.cell? (Addr.mk w.heap.size 2 none) =
  some (Value.int IntKind.u32 n_5) ∧
  w'.cell? (Addr.mk w.heap.size 3 none) =
  some (Value.int IntKind.i64 n_6) ∧
  True) ∧
  R
  (Ending.returned
  (Value.tuple
  #[Value.agg
  #[Value.int IntKind.u32 n,
  Value.int IntKind.u32 n_4,
  Value.int IntKind.u32 n_5,
  Value.int IntKind.i64 n_6],
  Value.bool true]))
  w')
  (cnd (op' == 24)
  (SetsAt w'_2 (Addr.mk w.heap.size 0 none) 0
  [Value.int IntKind.u32 3, Value.int IntKind.u32 4,
  Value.int IntKind.u32 0, Value.int IntKind.i64 2] ∧
  ∀ (w' : World),
  w' =
  setCellsAt w'_2 (Addr.mk w.heap.size 0 none) 0
  [Value.int IntKind.u32 3, Value.int IntKind.u32 4,
  Value.int IntKind.u32 0, Value.int IntKind.i64 2] →
  ∃ (n : Int),
  ∃ (n_4 : Int),
  ∃ (n_5 : Int),
  ∃ (n_6 : Int),
  (w'.cell? (Addr.mk w.heap.size 0 none) =
  some (Value.int IntKind.u32 n) ∧
  w'.cell? (Addr.mk w.heap.size 1 none) =
  some (Value.int IntKind.u32 n_4) ∧
  w'.cell? (Addr.mk w.heap.size 2 none) =
  some (Value.int IntKind.u32 n_5) ∧
  w'.cell? (Addr.mk w.heap.size 3 none) =
  some (Value.int IntKind.i64 n_6) ∧
  True) ∧
  R
  (Ending.returned
  (Value.tuple
  #[Value.agg
  #[Value.int IntKind.u32 n,
  Value.int IntKind.u32 n_4,
  Value.int IntKind.u32 n_5,
  Value.int IntKind.i64 n_6],
  Value.bool true]))
  w')
  (cnd (op' == 25)
  (SetsAt w'_2 (Addr.mk w.heap.size 0 none) 0
  [Value.int IntKind.u32 3, Value.int IntKind.u32 3,
  Value.int IntKind.u32 0, Value.int IntKind.i64 2] ∧
  ∀ (w' : World),
  w' =
  setCellsAt w'_2 (Addr.mk w.heap.size 0 none) 0
  [Value.int IntKind.u32 3, Value.int IntKind.u32 3,
  Value.int IntKind.u32 0, Value.int IntKind.i64 2] →
  ∃ (n : Int),
  ∃ (n_4 : Int),
  ∃ (n_5 : Int),
  ∃ (n_6 : Int),
  (w'.cell? (Addr.mk w.heap.size 0 none) =
  some (Value.int IntKind.u32 n) ∧
  w'.cell? (Addr.mk w.heap.size 1 none) =
  some (Value.int IntKind.u32 n_4) ∧
  w'.cell? (Addr.mk w.heap.size 2 none) =
  some (Value.int IntKind.u32 n_5) ∧
  w'.cell? (Addr.mk w.heap.size 3 none) =
  some (Value.int IntKind.i64 n_6) ∧
  True) ∧
  R
  (Ending.returned
  (Value.tuple
  #[Value.agg
  #[Value.int IntKind.u32 n,
  Value.int IntKind.u32 n_4,
  Value.int IntKind.u32 n_5,
  Value.int IntKind.i64 n_6],
  Value.bool true]))
  w')
  (cnd (op' == 26)
  (SetsAt w'_2 (Addr.mk w.heap.size 0 none) 0
  [Value.int IntKind.u32 35, Value.int IntKind.u32 0,
  Value.int IntKind.u32 0, Value.int IntKind.i64 5] ∧
  ∀ (w' : World),
  w' =
  setCellsAt w'_2 (Addr.mk w.heap.size 0 none) 0
  [Value.int IntKind.u32 35, Value.int IntKind.u32 0,
  Value.int IntKind.u32 0, Value.int IntKind.i64 5] →
  ∃ (n : Int),
  ∃ (n_4 : Int),
  ∃ (n_5 : Int),
  ∃ (n_6 : Int),
  (w'.cell? (Addr.mk w.heap.size 0 none) =
  some (Value.int IntKind.u32 n) ∧
  w'.cell? (Addr.mk w.heap.size 1 none) =
  some (Value.int IntKind.u32 n_4) ∧
  w'.cell? (Addr.mk w.heap.size 2 none) =
  some (Value.int IntKind.u32 n_5) ∧
  w'.cell? (Addr.mk w.heap.size 3 none) =
  some (Value.int IntKind.i64 n_6) ∧
  True) ∧
  R
  (Ending.returned
  (Value.tuple
  #[Value.agg
  #[Value.int IntKind.u32 n,
  Value.int IntKind.u32 n_4,
  Value.int IntKind.u32 n_5,
  Value.int IntKind.i64 n_6],
  Value.bool true]))
  w')
  (cnd (op' == 27)
  (SetsAt w'_2 (Addr.mk w.heap.size 0 none) 0
  [Value.int IntKind.u32 35, Value.int IntKind.u32 3,
  Value.int IntKind.u32 0, Value.int IntKind.i64 5] ∧
  ∀ (w' : World),
  w' =
  setCellsAt w'_2 (Addr.mk w.heap.size 0 none) 0
  [Value.int IntKind.u32 35, Value.int IntKind.u32 3,
  Value.int IntKind.u32 0, Value.int IntKind.i64 5] →
  ∃ (n : Int),
  ∃ (n_4 : Int),
  ∃ (n_5 : Int),
  ∃ (n_6 : Int),
  (w'.cell? (Addr.mk w.heap.size 0 none) =
  some (Value.int IntKind.u32 n) ∧
  w'.cell? (Addr.mk w.heap.size 1 none) =
  some (Value.int IntKind.u32 n_4) ∧
  w'.cell? (Addr.mk w.heap.size 2 none) =
  some (Value.int IntKind.u32 n_5) ∧
  w'.cell? (Addr.mk w.heap.size 3 none) =
  some (Value.int IntKind.i64 n_6) ∧
  True) ∧
  R
  (Ending.returned
  (Value.tuple
  #[Value.agg
  #[Value.int IntKind.u32 n,
  Value.int IntKind.u32 n_4,
  Value.int IntKind.u32 n_5,
  Value.int IntKind.i64 n_6],
  Value.bool true]))
  w')
  (cnd (op' == 28)
  (SetsAt w'_2 (Addr.mk w.heap.size 0 none) 0
  [Value.int IntKind.u32 99, Value.int IntKind.u32 0,
  Value.int IntKind.u32 0, Value.int IntKind.i64 6] ∧
  ∀ (w' : World),
  w' =
  setCellsAt w'_2 (Addr.mk w.heap.size 0 none) 0
  [Value.int IntKind.u32 99, Value.int IntKind.u32 0,
  Value.int IntKind.u32 0,
  Value.int IntKind.i64 6] →
  ∃ (n : Int),
  ∃ (n_4 : Int),
  ∃ (n_5 : Int),
  ∃ (n_6 : Int),
  (w'.cell? (Addr.mk w.heap.size 0 none) =
  some (Value.int IntKind.u32 n) ∧
  w'.cell? (Addr.mk w.heap.size 1 none) =
  some (Value.int IntKind.u32 n_4) ∧
  w'.cell? (Addr.mk w.heap.size 2 none) =
  some (Value.int IntKind.u32 n_5) ∧
  w'.cell? (Addr.mk w.heap.size 3 none) =
  some (Value.int IntKind.i64 n_6) ∧
  True) ∧
  R
  (Ending.returned
  (Value.tuple
  #[Value.agg
  #[Value.int IntKind.u32 n,
  Value.int IntKind.u32 n_4,
  Value.int IntKind.u32 n_5,
  Value.int IntKind.i64 n_6],
  Value.bool true]))
  w')
  (cnd (op' == 29)
  (SetsAt w'_2 (Addr.mk w.heap.size 0 none) 0
  [Value.int IntKind.u32 99, Value.int IntKind.u32 1,
  Value.int IntKind.u32 0, Value.int IntKind.i64 6] ∧
  ∀ (w' : World),
  w' =
  setCellsAt w'_2 (Addr.mk w.heap.size 0 none) 0
  [Value.int IntKind.u32 99,
  Value.int IntKind.u32 1,
  Value.int IntKind.u32 0,
  Value.int IntKind.i64 6] →
  ∃ (n : Int),
  ∃ (n_4 : Int),
  ∃ (n_5 : Int),
  ∃ (n_6 : Int),
  (w'.cell? (Addr.mk w.heap.size 0 none) =
  some (Value.int IntKind.u32 n) ∧
  w'.cell? (Addr.mk w.heap.size 1 none) =
  some (Value.int IntKind.u32 n_4) ∧
  w'.cell? (Addr.mk w.heap.size 2 none) =
  some (Value.int IntKind.u32 n_5) ∧
  w'.cell?
  (Addr.mk w.heap.size 3 none) =
  some (Value.int IntKind.i64 n_6) ∧
  True) ∧
  R
  (Ending.returned
  (Value.tuple
  #[Value.agg
  #[Value.int IntKind.u32 n,
  Value.int IntKind.u32 n_4,
  Value.int IntKind.u32 n_5,
  Value.int IntKind.i64 n_6],
  Value.bool true]))
  w')
  (cnd (op' == 30)
  (SetsAt w'_2 (Addr.mk w.heap.size 0 none) 0
  [Value.int IntKind.u32 99, Value.int IntKind.u32 6,
  Value.int IntKind.u32 0, Value.int IntKind.i64 6] ∧
  ∀ (w' : World),
  w' =
  setCellsAt w'_2 (Addr.mk w.heap.size 0 none) 0
  [Value.int IntKind.u32 99,
  Value.int IntKind.u32 6,
  Value.int IntKind.u32 0,
  Value.int IntKind.i64 6] →
  ∃ (n : Int),
  ∃ (n_4 : Int),
  ∃ (n_5 : Int),
  ∃ (n_6 : Int),
  (w'.cell? (Addr.mk w.heap.size 0 none) =
  some (Value.int IntKind.u32 n) ∧
  w'.cell? (Addr.mk w.heap.size 1 none) =
  some (Value.int IntKind.u32 n_4) ∧
  w'.cell?
  (Addr.mk w.heap.size 2 none) =
  some (Value.int IntKind.u32 n_5) ∧
  w'.cell?
  (Addr.mk w.heap.size 3 none) =
  some
  (Value.int IntKind.i64 n_6) ∧
  True) ∧
  R
  (Ending.returned
  (Value.tuple
  #[Value.agg
  #[Value.int IntKind.u32 n,
  Value.int IntKind.u32 n_4,
  Value.int IntKind.u32 n_5,
  Value.int IntKind.i64 n_6],
  Value.bool true]))
  w')
  (cnd (op' == 31)
  (SetsAt w'_2 (Addr.mk w.heap.size 0 none) 0
  [Value.int IntKind.u32 99, Value.int IntKind.u32 7,
  Value.int IntKind.u32 0,
  Value.int IntKind.i64 6] ∧
  ∀ (w' : World),
  w' =
  setCellsAt w'_2 (Addr.mk w.heap.size 0 none) 0
  [Value.int IntKind.u32 99,
  Value.int IntKind.u32 7,
  Value.int IntKind.u32 0,
  Value.int IntKind.i64 6] →
  ∃ (n : Int),
  ∃ (n_4 : Int),
  ∃ (n_5 : Int),
  ∃ (n_6 : Int),
  (w'.cell? (Addr.mk w.heap.size 0 none) =
  some (Value.int IntKind.u32 n) ∧
  w'.cell?
  (Addr.mk w.heap.size 1 none) =
  some (Value.int IntKind.u32 n_4) ∧
  w'.cell?
  (Addr.mk w.heap.size 2 none) =
  some
  (Value.int IntKind.u32 n_5) ∧
  w'.cell?
  (Addr.mk w.heap.size 3
  none) =
  some
  (Value.int IntKind.i64
  n_6) ∧
  True) ∧
  R
  (Ending.returned
  (Value.tuple
  #[Value.agg
  #[Value.int IntKind.u32 n,
  Value.int IntKind.u32 n_4,
  Value.int IntKind.u32 n_5,
  Value.int IntKind.i64 n_6],
  Value.bool true]))
  w')
  (cnd (op' == 32)
  (SetsAt w'_2 (Addr.mk w.heap.size 0 none) 0
  [Value.int IntKind.u32 111,
  Value.int IntKind.u32 0,
  Value.int IntKind.u32 0,
  Value.int IntKind.i64 7] ∧
  ∀ (w' : World),
  w' =
  setCellsAt w'_2 (Addr.mk w.heap.size 0 none) 0
  [Value.int IntKind.u32 111,
  Value.int IntKind.u32 0,
  Value.int IntKind.u32 0,
  Value.int IntKind.i64 7] →
  ∃ (n : Int),
  ∃ (n_4 : Int),
  ∃ (n_5 : Int),
  ∃ (n_6 : Int),
  (w'.cell? (Addr.mk w.heap.size 0 none) =
  some (Value.int IntKind.u32 n) ∧
  w'.cell?
  (Addr.mk w.heap.size 1 none) =
  some
  (Value.int IntKind.u32 n_4) ∧
  w'.cell?
  (Addr.mk w.heap.size 2
  none) =
  some
  (Value.int IntKind.u32
  n_5) ∧
  w'.cell?
  (Addr.mk w.heap.size 3
  none) =
  some
  (Value.int IntKind.i64
  n_6) ∧
  True) ∧
  R
  (Ending.returned
  (Value.tuple
  #[Value.agg
  #[Value.int IntKind.u32 n,
  Value.int IntKind.u32 n_4,
  Value.int IntKind.u32 n_5,
  Value.int IntKind.i64
  n_6],
  Value.bool true]))
  w')
  (cnd (op' == 33)
  (SetsAt w'_2 (Addr.mk w.heap.size 0 none) 0
  [Value.int IntKind.u32 103,
  Value.int IntKind.u32 0,
  Value.int IntKind.u32 0,
  Value.int IntKind.i64 2] ∧
  ∀ (w' : World),
  w' =
  setCellsAt w'_2 (Addr.mk w.heap.size 0 none)
  0
  [Value.int IntKind.u32 103,
  Value.int IntKind.u32 0,
  Value.int IntKind.u32 0,
  Value.int IntKind.i64 2] →
  ∃ (n : Int),
  ∃ (n_4 : Int),
  ∃ (n_5 : Int),
  ∃ (n_6 : Int),
  (w'.cell?
  (Addr.mk w.heap.size 0 none) =
  some (Value.int IntKind.u32 n) ∧
  w'.cell?
  (Addr.mk w.heap.size 1
  none) =
  some
  (Value.int IntKind.u32
  n_4) ∧
  w'.cell?
  (Addr.mk w.heap.size 2
  none) =
  some
  (Value.int IntKind.u32
  n_5) ∧
  w'.cell?
  (Addr.mk w.heap.size 3
  none) =
  some
  (Value.int IntKind.i64
  n_6) ∧
  True) ∧
  R
  (Ending.returned
  (Value.tuple
  #[Value.agg
  #[Value.int IntKind.u32 n,
  Value.int IntKind.u32
  n_4,
  Value.int IntKind.u32
  n_5,
  Value.int IntKind.i64
  n_6],
  Value.bool true]))
  w')
  (cnd (op' == 34)
  (SetsAt w'_2 (Addr.mk w.heap.size 0 none) 0
  [Value.int IntKind.u32 115,
  Value.int IntKind.u32 0,
  Value.int IntKind.u32 0,
  Value.int IntKind.i64 8] ∧
  ∀ (w' : World),
  w' =
  setCellsAt w'_2
  (Addr.mk w.heap.size 0 none) 0
  [Value.int IntKind.u32 115,
  Value.int IntKind.u32 0,
  Value.int IntKind.u32 0,
  Value.int IntKind.i64 8] →
  ∃ (n : Int),
  ∃ (n_4 : Int),
  ∃ (n_5 : Int),
  ∃ (n_6 : Int),
  (w'.cell?
  (Addr.mk w.heap.size 0
  none) =
  some
  (Value.int IntKind.u32 n) ∧
  w'.cell?
  (Addr.mk w.heap.size 1
  none) =
  some
  (Value.int IntKind.u32
  n_4) ∧
  w'.cell?
  (Addr.mk w.heap.size 2
  none) =
  some
  (Value.int IntKind.u32
  n_5) ∧
  w'.cell?
  (Addr.mk w.heap.size 3
  none) =
  some
  (Value.int IntKind.i64
  n_6) ∧
  True) ∧
  R
  (Ending.returned
  (Value.tuple
  #[Value.agg
  #[Value.int IntKind.u32
  n,
  Value.int IntKind.u32
  n_4,
  Value.int IntKind.u32
  n_5,
  Value.int IntKind.i64
  n_6],
  Value.bool true]))
  w')
  (SetsAt w'_2 (Addr.mk w.heap.size 0 none) 0
  [Value.int IntKind.u32 0,
  Value.int IntKind.u32 0,
  Value.int IntKind.u32 0,
  Value.int IntKind.i64 0] ∧
  ∀ (w' : World),
  w' =
  setCellsAt w'_2
  (Addr.mk w.heap.size 0 none) 0
  [Value.int IntKind.u32 0,
  Value.int IntKind.u32 0,
  Value.int IntKind.u32 0,
  Value.int IntKind.i64 0] →
  ∃ (n : Int),
  ∃ (n_4 : Int),
  ∃ (n_5 : Int),
  ∃ (n_6 : Int),
  (w'.cell?
  (Addr.mk w.heap.size 0
  none) =
  some
  (Value.int IntKind.u32 n) ∧
  w'.cell?
  (Addr.mk w.heap.size 1
  none) =
  some
  (Value.int IntKind.u32
  n_4) ∧
  w'.cell?
  (Addr.mk w.heap.size 2
  none) =
  some
  (Value.int IntKind.u32
  n_5) ∧
  w'.cell?
  (Addr.mk w.heap.size 3
  none) =
  some
  (Value.int IntKind.i64
  n_6) ∧
  True) ∧
  R
  (Ending.returned
  (Value.tuple
  #[Value.agg
  #[Value.int IntKind.u32
  n,
  Value.int IntKind.u32
  n_4,
  Value.int IntKind.u32
  n_5,
  Value.int IntKind.i64
  n_6],
  Value.bool false]))
  w')))))))))))))))))))))
theorem ref02_Of.vc_eq (op' : Int) (w : World) (R : Ending → World → Prop) : fnV Try.prog ref02_Of.H 24 [Value.int IntKind.u8 op'] w R = ref02_Of.vc op' w R := by kernel_rfl
theorem ref02_Of.calls {op' : Int} {w : World} {R : Ending → World → Prop} (h : ref02_Of.vc op' w R) : Calls Try.prog 24 ([Value.int IntKind.u8 op'] : List Value).toArray w R := calls_of_eq (ref02_Of.vc_eq op' w R) h

/- function 43: sacristy/sacristyref02.bits -/
abbrev ref02_bits.N : FuncId := 43
def ref02_bits.H : Hints := { loops := [(4, [(9, .one (.int .u32)), (10, .one (.int .i64))])] }
def ref02_bits.vc (v' : Int) (from' : Int) (to' : Int) (at' : Int) (w : World) (R : Ending → World → Prop) : Prop :=
  ∃ (I : List Value → World → Prop),
  ∃ (μ : List Value → World → Nat),
  I [Value.int IntKind.u32 0, Value.int IntKind.i64 from'] w ∧
  ∀ (g : Nat → Value) (w i : Int) (w' : World),
  I [Value.int IntKind.u32 w, Value.int IntKind.i64 i] w' →
  cnd (decide (i ≤ to'))
  (cnd (decide (IntKind.u64.wrap i < 0)) False
  (cnd (decide (IntKind.u64.wrap (IntKind.i64.wrap (IntKind.i64.wrap (at' + i) - from')) < 0)) False
  (Goes I μ [Value.int IntKind.u32 w, Value.int IntKind.i64 i] w'
  [Value.int IntKind.u32
  (IntKind.u32.wrap
  (w +
  IntKind.u32.wrap
  (IntKind.u32.wrap
  (((IntKind.u64.wrap v').fdiv (2 ^ min (IntKind.u64.wrap i).toNat 64)).tmod 2) *
  2 ^
  min (IntKind.u64.wrap (IntKind.i64.wrap (IntKind.i64.wrap (at' + i) - from'))).toNat
  32))),
  Value.int IntKind.i64 (IntKind.i64.wrap (i + 1))]
  w')))
  (R (Ending.returned (Value.int IntKind.u32 w)) w')
theorem ref02_bits.vc_eq (v' : Int) (from' : Int) (to' : Int) (at' : Int) (w : World) (R : Ending → World → Prop) : fnV Try.prog ref02_bits.H 43 [Value.int IntKind.i64 v', Value.int IntKind.i64 from', Value.int IntKind.i64 to', Value.int IntKind.i64 at'] w R = ref02_bits.vc v' from' to' at' w R := by kernel_rfl
theorem ref02_bits.calls {v' : Int} {from' : Int} {to' : Int} {at' : Int} {w : World} {R : Ending → World → Prop} (h : ref02_bits.vc v' from' to' at' w R) : Calls Try.prog 43 ([Value.int IntKind.i64 v', Value.int IntKind.i64 from', Value.int IntKind.i64 to', Value.int IntKind.i64 at'] : List Value).toArray w R := calls_of_eq (ref02_bits.vc_eq v' from' to' at' w R) h

/- function 36: sacristy/sacristyref02.number -/
abbrev ref02_number.N : FuncId := 36
def ref02_number.H : Hints := {  }
def ref02_number.vc (form' : Int) (v' : Int) (w : World) (R : Ending → World → Prop) : Prop :=
  cnd (form' == 2)
  (Calls Proofs.Try.prog 43
  #[Value.int IntKind.i64 v', Value.int IntKind.i64 0, Value.int IntKind.i64 11, Value.int IntKind.i64 20] w
  fun (e : Ending) (w' : World) =>
  ∃ (n : Int), e = Ending.returned (Value.int IntKind.u32 n) ∧ R (Ending.returned (Value.int IntKind.u32 n)) w')
  (cnd (form' == 3)
  (Calls Proofs.Try.prog 43
  #[Value.int IntKind.i64 v', Value.int IntKind.i64 0, Value.int IntKind.i64 5, Value.int IntKind.i64 20] w
  fun (e : Ending) (w' : World) =>
  ∃ (n : Int), e = Ending.returned (Value.int IntKind.u32 n) ∧ R (Ending.returned (Value.int IntKind.u32 n)) w')
  (cnd (form' == 4)
  (Calls Proofs.Try.prog 43
  #[Value.int IntKind.i64 v', Value.int IntKind.i64 12, Value.int IntKind.i64 31, Value.int IntKind.i64 12] w
  fun (e : Ending) (w' : World) =>
  ∃ (n : Int), e = Ending.returned (Value.int IntKind.u32 n) ∧ R (Ending.returned (Value.int IntKind.u32 n)) w')
  (cnd (form' == 5)
  (Calls Proofs.Try.prog 43
  #[Value.int IntKind.i64 v', Value.int IntKind.i64 0, Value.int IntKind.i64 4, Value.int IntKind.i64 7] w
  fun (e : Ending) (w' : World) =>
  ∃ (n : Int),
  e = Ending.returned (Value.int IntKind.u32 n) ∧
  Calls Proofs.Try.prog 43
  #[Value.int IntKind.i64 v', Value.int IntKind.i64 5, Value.int IntKind.i64 11, Value.int IntKind.i64 25]
  w' fun (e : Ending) (w' : World) =>
  ∃ (n_1 : Int),
  e = Ending.returned (Value.int IntKind.u32 n_1) ∧
  R (Ending.returned (Value.int IntKind.u32 (IntKind.u32.wrap (n + n_1)))) w')
  (cnd (form' == 6)
  (Calls Proofs.Try.prog 43
  #[Value.int IntKind.i64 v', Value.int IntKind.i64 11, Value.int IntKind.i64 11, Value.int IntKind.i64 7] w
  fun (e : Ending) (w' : World) =>
  ∃ (n : Int),
  e = Ending.returned (Value.int IntKind.u32 n) ∧
  Calls Proofs.Try.prog 43
  #[Value.int IntKind.i64 v', Value.int IntKind.i64 1, Value.int IntKind.i64 4, Value.int IntKind.i64 8]
  w' fun (e : Ending) (w' : World) =>
  ∃ (n_1 : Int),
  e = Ending.returned (Value.int IntKind.u32 n_1) ∧
  Calls Proofs.Try.prog 43
  #[Value.int IntKind.i64 v', Value.int IntKind.i64 5, Value.int IntKind.i64 10,
  Value.int IntKind.i64 25]
  w' fun (e : Ending) (w' : World) =>
  ∃ (n_2 : Int),
  e = Ending.returned (Value.int IntKind.u32 n_2) ∧
  Calls Proofs.Try.prog 43
  #[Value.int IntKind.i64 v', Value.int IntKind.i64 12, Value.int IntKind.i64 12,
  Value.int IntKind.i64 31]
  w' fun (e : Ending) (w' : World) =>
  ∃ (n_3 : Int),
  e = Ending.returned (Value.int IntKind.u32 n_3) ∧
  R
  (Ending.returned
  (Value.int IntKind.u32
  (IntKind.u32.wrap (IntKind.u32.wrap (IntKind.u32.wrap (n + n_1) + n_2) + n_3))))
  w')
  (cnd (form' == 7)
  (Calls Proofs.Try.prog 43
  #[Value.int IntKind.i64 v', Value.int IntKind.i64 12, Value.int IntKind.i64 19, Value.int IntKind.i64 12]
  w fun (e : Ending) (w' : World) =>
  ∃ (n : Int),
  e = Ending.returned (Value.int IntKind.u32 n) ∧
  Calls Proofs.Try.prog 43
  #[Value.int IntKind.i64 v', Value.int IntKind.i64 11, Value.int IntKind.i64 11,
  Value.int IntKind.i64 20]
  w' fun (e : Ending) (w' : World) =>
  ∃ (n_1 : Int),
  e = Ending.returned (Value.int IntKind.u32 n_1) ∧
  Calls Proofs.Try.prog 43
  #[Value.int IntKind.i64 v', Value.int IntKind.i64 1, Value.int IntKind.i64 10,
  Value.int IntKind.i64 21]
  w' fun (e : Ending) (w' : World) =>
  ∃ (n_2 : Int),
  e = Ending.returned (Value.int IntKind.u32 n_2) ∧
  Calls Proofs.Try.prog 43
  #[Value.int IntKind.i64 v', Value.int IntKind.i64 20, Value.int IntKind.i64 20,
  Value.int IntKind.i64 31]
  w' fun (e : Ending) (w' : World) =>
  ∃ (n_3 : Int),
  e = Ending.returned (Value.int IntKind.u32 n_3) ∧
  R
  (Ending.returned
  (Value.int IntKind.u32
  (IntKind.u32.wrap
  (IntKind.u32.wrap (IntKind.u32.wrap (n + n_1) + n_2) + n_3))))
  w')
  (R (Ending.returned (Value.int IntKind.u32 0)) w))))))
theorem ref02_number.vc_eq (form' : Int) (v' : Int) (w : World) (R : Ending → World → Prop) : fnV Try.prog ref02_number.H 36 [Value.int IntKind.i64 form', Value.int IntKind.i64 v'] w R = ref02_number.vc form' v' w R := by kernel_rfl
theorem ref02_number.calls {form' : Int} {v' : Int} {w : World} {R : Ending → World → Prop} (h : ref02_number.vc form' v' w R) : Calls Try.prog 36 ([Value.int IntKind.i64 form', Value.int IntKind.i64 v'] : List Value).toArray w R := calls_of_eq (ref02_number.vc_eq form' v' w R) h

/- function 26: sacristy/sacristyref02.Encode -/
abbrev ref02_Encode.N : FuncId := 26
def ref02_Encode.H : Hints := {  }
def ref02_Encode.vc (x'_0 : Int) (x'_1 : Int) (x'_2 : Int) (x'_3 : Int) (x'_4 : Int) (w : World) (R : Ending → World → Prop) : Prop :=
  ∀ (w' : World),
  w' =
  w.alloc
  (Obj.cells
  #[Value.int IntKind.u8 x'_0, Value.int IntKind.u8 x'_1, Value.int IntKind.u8 x'_2, Value.int IntKind.u8 x'_3,
  Value.int IntKind.i64 x'_4]
  39) →
  ∃ (n : Int),
  w'.cell? (Addr.mk w.heap.size 0 none) = some (Value.int IntKind.u8 n) ∧
  Calls Proofs.Try.prog 24 #[Value.int IntKind.u8 n] w' fun (e : Ending) (w' : World) =>
  ∃ (n : Int),
  ∃ (n_1 : Int),
  ∃ (n_2 : Int),
  ∃ (n_3 : Int),
  ∃ (b : Bool),
  e =
  Ending.returned
  (Value.tuple
  #[Value.agg
  #[Value.int IntKind.u32 n, Value.int IntKind.u32 n_1, Value.int IntKind.u32 n_2,
  Value.int IntKind.i64 n_3],
  Value.bool b]) ∧
  ∀ (w'_1 : World),
  w'_1 =
  w'.alloc
  (Obj.cells
  #[Value.int IntKind.u32 0, Value.int IntKind.u32 0, Value.int IntKind.u32 0,
  Value.int IntKind.i64 0]
  60) →
  SetsAt w'_1 (Addr.mk w'.heap.size 0 none) 0
  [Value.int IntKind.u32 n, Value.int IntKind.u32 n_1, Value.int IntKind.u32 n_2,
  Value.int IntKind.i64 n_3] ∧
  ∀ (w'_2 : World),
  w'_2 =
  setCellsAt w'_1 (Addr.mk w'.heap.size 0 none) 0
  [Value.int IntKind.u32 n, Value.int IntKind.u32 n_1, Value.int IntKind.u32 n_2,
  Value.int IntKind.i64 n_3] →
  cnd (!b)
  (R (Ending.returned (Value.tuple #[Value.int IntKind.u32 0, Value.int IntKind.i64 2]))
  w'_2)
  (∃ (n : Int),
  w'_2.cell? (Addr.mk w'.heap.size 3 none) = some (Value.int IntKind.i64 n) ∧
  ∃ (n_4 : Int),
  ∃ (n_5 : Int),
  ∃ (n_6 : Int),
  ∃ (n_7 : Int),
  ∃ (n_8 : Int),
  (w'_2.cell? (Addr.mk w.heap.size 0 none) =
  some (Value.int IntKind.u8 n_4) ∧
  w'_2.cell? (Addr.mk w.heap.size 1 none) =
  some (Value.int IntKind.u8 n_5) ∧
  w'_2.cell? (Addr.mk w.heap.size 2 none) =
  some (Value.int IntKind.u8 n_6) ∧
  w'_2.cell? (Addr.mk w.heap.size 3 none) =
  some (Value.int IntKind.u8 n_7) ∧
  w'_2.cell? (Addr.mk w.heap.size 4 none) =
  some (Value.int IntKind.i64 n_8) ∧
  True) ∧
  Calls Proofs.Try.prog 35
  #[Value.int IntKind.i64 n,
  Value.agg
  #[Value.int IntKind.u8 n_4, Value.int IntKind.u8 n_5,
  Value.int IntKind.u8 n_6, Value.int IntKind.u8 n_7,
  Value.int IntKind.i64 n_8]]
  w'_2 fun (e : Ending) (w'_3 : World) =>
  ∃ (b : Bool),
  e = Ending.returned (Value.bool b) ∧
  cnd (!b)
  (R
  (Ending.returned
  (Value.tuple
  #[Value.int IntKind.u32 0, Value.int IntKind.i64 2]))
  w'_3)
  (∃ (n : Int),
  (∀ (w'_4 : World),
  Later w'_3 w'_4 →
  w'_4.cell? (Addr.mk w'.heap.size 0 none) =
  some (Value.int IntKind.u32 n)) ∧
  ∃ (n_9 : Int),
  (∀ (w' : World),
  Later w'_3 w' →
  w'.cell? (Addr.mk w.heap.size 1 none) =
  some (Value.int IntKind.u8 n_9)) ∧
  ∃ (n_10 : Int),
  (∀ (w'_4 : World),
  Later w'_3 w'_4 →
  w'_4.cell? (Addr.mk w'.heap.size 1 none) =
  some (Value.int IntKind.u32 n_10)) ∧
  ∃ (n_11 : Int),
  (∀ (w' : World),
  Later w'_3 w' →
  w'.cell? (Addr.mk w.heap.size 2 none) =
  some (Value.int IntKind.u8 n_11)) ∧
  ∃ (n_12 : Int),
  (∀ (w' : World),
  Later w'_3 w' →
  w'.cell?
  (Addr.mk w.heap.size 3 none) =
  some (Value.int IntKind.u8 n_12)) ∧
  ∃ (n_13 : Int),
  (∀ (w'_4 : World),
  Later w'_3 w'_4 →
  w'_4.cell?
  (Addr.mk w'.heap.size 2
  none) =
  some
  (Value.int IntKind.u32
  n_13)) ∧
  ∃ (n_14 : Int),
  (∀ (w'_4 : World),
  Later w'_3 w'_4 →
  w'_4.cell?
  (Addr.mk w'.heap.size 3
  none) =
  some
  (Value.int IntKind.i64
  n_14)) ∧
  ∃ (n_15 : Int),
  (∀ (w' : World),
  Later w'_3 w' →
  w'.cell?
  (Addr.mk w.heap.size 4
  none) =
  some
  (Value.int IntKind.i64
  n_15)) ∧
  ∃ (n_16 : Int),
  (∀ (w' : World),
  Later w'_3 w' →
  Calls Proofs.Try.prog
  36
  #[Value.int
  IntKind.i64
  n_14,
  Value.int
  IntKind.i64
  n_15]
  w'
  fun (e : Ending)
  (w'' : World) =>
  e =
  Ending.returned
  (Value.int
  IntKind.u32
  n_16) ∧
  Later w' w'') ∧
  ∀ (w' : World),
  Later w'_3 w' →
  R
  (Ending.returned
  (Value.tuple
  #[Value.int
  IntKind.u32
  (IntKind.u32.wrap
  (IntKind.u32.wrap
  (IntKind.u32.wrap
  (IntKind.u32.wrap
  (IntKind.u32.wrap
  (IntKind.u32.wrap
  (n +
  IntKind.u32.wrap
  (IntKind.u32.wrap
  n_9 *
  128)) +
  IntKind.u32.wrap
  (n_10 *
  4096)) +
  IntKind.u32.wrap
  (IntKind.u32.wrap
  n_11 *
  32768)) +
  IntKind.u32.wrap
  (IntKind.u32.wrap
  n_12 *
  1048576)) +
  IntKind.u32.wrap
  (n_13 *
  33554432)) +
  n_16)),
  Value.int
  IntKind.i64
  0]))
  w'))
theorem ref02_Encode.vc_eq (x'_0 : Int) (x'_1 : Int) (x'_2 : Int) (x'_3 : Int) (x'_4 : Int) (w : World) (R : Ending → World → Prop) : fnV Try.prog ref02_Encode.H 26 [Value.agg
  #[Value.int IntKind.u8 x'_0, Value.int IntKind.u8 x'_1, Value.int IntKind.u8 x'_2, Value.int IntKind.u8 x'_3,
  Value.int IntKind.i64 x'_4]] w R = ref02_Encode.vc x'_0 x'_1 x'_2 x'_3 x'_4 w R := by kernel_rfl
theorem ref02_Encode.calls {x'_0 : Int} {x'_1 : Int} {x'_2 : Int} {x'_3 : Int} {x'_4 : Int} {w : World} {R : Ending → World → Prop} (h : ref02_Encode.vc x'_0 x'_1 x'_2 x'_3 x'_4 w R) : Calls Try.prog 26 ([Value.agg
  #[Value.int IntKind.u8 x'_0, Value.int IntKind.u8 x'_1, Value.int IntKind.u8 x'_2, Value.int IntKind.u8 x'_3,
  Value.int IntKind.i64 x'_4]] : List Value).toArray w R := calls_of_eq (ref02_Encode.vc_eq x'_0 x'_1 x'_2 x'_3 x'_4 w R) h

end Go.Proofs.Ytjoikaklincfoaa
