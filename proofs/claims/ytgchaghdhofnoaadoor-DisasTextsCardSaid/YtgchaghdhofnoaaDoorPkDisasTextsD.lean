/-
Texts of this claim, merged: Vref02, Vref02n, Vref01, Ref01B, Ref02, Ref03D, Vinsna, Vstrs, Strs, VcArg, VcRow, InsnA, InsnJ, VcGrow, VcRows, VcKept, DisT.
Conditions: each theorem's own.
-/
import Derived.Test.YtgchaghdhofnoaaDoorPkDisasTextsC
import Derived.Test.YtgchaghdhofnoaaDoorProg
import Derived.Lib.Builder
import Derived.Lib.AppendStr
import Derived.Lib.UnsafeStr
import Derived.Laws.Pointers
import Derived.Laws.Externs
import Derived.Deep.Slices
import Derived.ChangeShapes
import Derived.WideShapes
import Derived.OpenVars
import Derived.ProofKit
import Derived.OpenShut
import Derived.Laws.CopyRow
import Derived.Laws.CopyOwn
import Derived.Deep.Upon
import Derived.Lib.BufferWrite
import Derived.Lib.ItoaNum

/-
The explicit conditions of some functions of the program, printed by this repo's own program over VcTop: what is proved is that each is the condition.
Conditions: none.
-/
namespace Go.Proofs.YtgchaghdhofnoaaDoor
open Go Go.Vc Go.RowKit
set_option linter.unusedVariables false
set_option maxRecDepth 100000

/- function 43: sacristy/sacristyref02.two -/
abbrev ref02_two.N : FuncId := 43
def ref02_two.H : Hints := {  }
def ref02_two.vc (op' : Int) (w : World) (R : Ending → World → Prop) : Prop :=
  ∀ (w' : World),
  w' =
  w.alloc
  (Obj.cells #[Value.int IntKind.u32 0, Value.int IntKind.u32 0, Value.int IntKind.u32 0, Value.int IntKind.i64 0]
  45) →
  ∀ (w'_1 : World),
  w'_1 =
  w'.alloc
  (Obj.cells
  #[Value.int IntKind.u32 0, Value.int IntKind.u32 0, Value.int IntKind.u32 1, Value.int IntKind.u32 2,
  Value.int IntKind.u32 3, Value.int IntKind.u32 4, Value.int IntKind.u32 5, Value.int IntKind.u32 5,
  Value.int IntKind.u32 6, Value.int IntKind.u32 7, Value.int IntKind.u32 0, Value.int IntKind.u32 3,
  Value.int IntKind.u32 5, Value.int IntKind.u32 7]
  22) →
  cnd (decide (op' < 1))
  (SetsAt w'_1 (Addr.mk w.heap.size 0 none) 0
  [Value.int IntKind.u32 0, Value.int IntKind.u32 0, Value.int IntKind.u32 0, Value.int IntKind.i64 0] ∧
  ∀ (w' : World),
  w' =
  setCellsAt w'_1 (Addr.mk w.heap.size 0 none) 0
  [Value.int IntKind.u32 0, Value.int IntKind.u32 0, Value.int IntKind.u32 0,
  Value.int IntKind.i64 0] →
  ∃ (n : Int),
  ∃ (n_1 : Int),
  ∃ (n_2 : Int),
  ∃ (n_3 : Int),
  (w'.cell? (Addr.mk w.heap.size 0 none) = some (Value.int IntKind.u32 n) ∧
  w'.cell? (Addr.mk w.heap.size 1 none) = some (Value.int IntKind.u32 n_1) ∧
  w'.cell? (Addr.mk w.heap.size 2 none) = some (Value.int IntKind.u32 n_2) ∧
  w'.cell? (Addr.mk w.heap.size 3 none) = some (Value.int IntKind.i64 n_3) ∧ True) ∧
  R
  (Ending.returned
  (Value.tuple
  #[Value.agg
  #[Value.int IntKind.u32 n, Value.int IntKind.u32 n_1, Value.int IntKind.u32 n_2,
  Value.int IntKind.i64 n_3],
  Value.bool false]))
  w')
  (cnd (decide (op' > 14))
  (SetsAt w'_1 (Addr.mk w.heap.size 0 none) 0
  [Value.int IntKind.u32 0, Value.int IntKind.u32 0, Value.int IntKind.u32 0, Value.int IntKind.i64 0] ∧
  ∀ (w' : World),
  w' =
  setCellsAt w'_1 (Addr.mk w.heap.size 0 none) 0
  [Value.int IntKind.u32 0, Value.int IntKind.u32 0, Value.int IntKind.u32 0,
  Value.int IntKind.i64 0] →
  ∃ (n : Int),
  ∃ (n_1 : Int),
  ∃ (n_2 : Int),
  ∃ (n_3 : Int),
  (w'.cell? (Addr.mk w.heap.size 0 none) = some (Value.int IntKind.u32 n) ∧
  w'.cell? (Addr.mk w.heap.size 1 none) = some (Value.int IntKind.u32 n_1) ∧
  w'.cell? (Addr.mk w.heap.size 2 none) = some (Value.int IntKind.u32 n_2) ∧
  w'.cell? (Addr.mk w.heap.size 3 none) = some (Value.int IntKind.i64 n_3) ∧ True) ∧
  R
  (Ending.returned
  (Value.tuple
  #[Value.agg
  #[Value.int IntKind.u32 n, Value.int IntKind.u32 n_1, Value.int IntKind.u32 n_2,
  Value.int IntKind.i64 n_3],
  Value.bool false]))
  w')
  ((0 ≤ IntKind.u8.wrap (op' - 1) ∧ IntKind.u8.wrap (op' - 1) < 14) ∧
  ∃ (n : Int),
  w'_1.cell? ((Addr.mk w'.heap.size 0 none).add ((IntKind.u8.wrap (op' - 1)).toNat * 1)) =
  some (Value.int IntKind.u32 n) ∧
  ∀ (w' : World),
  w' =
  w'_1.alloc
  (Obj.cells
  #[Value.int IntKind.u32 0, Value.int IntKind.u32 0, Value.int IntKind.u32 0,
  Value.int IntKind.i64 0]
  45) →
  SetsAt w' (Addr.mk w'_1.heap.size 0 none) 0
  [Value.int IntKind.u32 51, Value.int IntKind.u32 n, Value.int IntKind.u32 0,
  Value.int IntKind.i64 1] ∧
  ∀ (w'_2 : World),
  w'_2 =
  setCellsAt w' (Addr.mk w'_1.heap.size 0 none) 0
  [Value.int IntKind.u32 51, Value.int IntKind.u32 n, Value.int IntKind.u32 0,
  Value.int IntKind.i64 1] →
  cnd (op' == 2)
  (((w'_2.cell? (Addr.mk w'_1.heap.size 2 none)).isSome = true ∧
  w'_2.frozen? (Addr.mk w'_1.heap.size 2 none) = false) ∧
  ∀ (w' : World),
  w' = w'_2.setCell (Addr.mk w'_1.heap.size 2 none) (Value.int IntKind.u32 32) →
  cnd (decide (op' ≥ 11))
  (((w'.cell? (Addr.mk w'_1.heap.size 2 none)).isSome = true ∧
  w'.frozen? (Addr.mk w'_1.heap.size 2 none) = false) ∧
  ∀ (w'_3 : World),
  w'_3 = w'.setCell (Addr.mk w'_1.heap.size 2 none) (Value.int IntKind.u32 1) →
  ∃ (n : Int),
  ∃ (n_1 : Int),
  ∃ (n_2 : Int),
  ∃ (n_3 : Int),
  (w'_3.cell? (Addr.mk w'_1.heap.size 0 none) =
  some (Value.int IntKind.u32 n) ∧
  w'_3.cell? (Addr.mk w'_1.heap.size 1 none) =
  some (Value.int IntKind.u32 n_1) ∧
  w'_3.cell? (Addr.mk w'_1.heap.size 2 none) =
  some (Value.int IntKind.u32 n_2) ∧
  w'_3.cell? (Addr.mk w'_1.heap.size 3 none) =
  some (Value.int IntKind.i64 n_3) ∧
  True) ∧
  SetsAt w'_3 (Addr.mk w.heap.size 0 none) 0
  [Value.int IntKind.u32 n, Value.int IntKind.u32 n_1,
  Value.int IntKind.u32 n_2, Value.int IntKind.i64 n_3] ∧
  ∀ (w' : World),
  w' =
  setCellsAt w'_3 (Addr.mk w.heap.size 0 none) 0
  [Value.int IntKind.u32 n, Value.int IntKind.u32 n_1,
  Value.int IntKind.u32 n_2,
  Value.int IntKind.i64 n_3] →
  ∃ (n : Int),
  ∃ (n_4 : Int),
  ∃ (n_5 : Int),
  ∃ (n_6 : Int),
  (w'.cell? (Addr.mk w.heap.size 0 none) =
  some (Value.int IntKind.u32 n) ∧
  w'.cell? (Addr.mk w.heap.size 1 none) =
  some (Value.int IntKind.u32 n_4) ∧
  w'.cell? (Addr.mk w.heap.size 2 none) =
  some (Value.int IntKind.u32 n_5) ∧
  w'.cell? (Addr.mk w.heap.size 3 none) =
  some (Value.int IntKind.i64 n_6) ∧
  True) ∧
  R
  (Ending.returned
  (Value.tuple
  #[Value.agg
  #[Value.int IntKind.u32 n,
  Value.int IntKind.u32 n_4,
  Value.int IntKind.u32 n_5,
  Value.int IntKind.i64 n_6],
  Value.bool true]))
  w')
  (∃ (n : Int),
  ∃ (n_1 : Int),
  ∃ (n_2 : Int),
  ∃ (n_3 : Int),
  (w'.cell? (Addr.mk w'_1.heap.size 0 none) =
  some (Value.int IntKind.u32 n) ∧
  w'.cell? (Addr.mk w'_1.heap.size 1 none) =
  some (Value.int IntKind.u32 n_1) ∧
  w'.cell? (Addr.mk w'_1.heap.size 2 none) =
  some (Value.int IntKind.u32 n_2) ∧
  w'.cell? (Addr.mk w'_1.heap.size 3 none) =
  some (Value.int IntKind.i64 n_3) ∧
  True) ∧
  SetsAt w' (Addr.mk w.heap.size 0 none) 0
  [Value.int IntKind.u32 n, Value.int IntKind.u32 n_1,
  Value.int IntKind.u32 n_2, Value.int IntKind.i64 n_3] ∧
  ∀ (w'_3 : World),
  w'_3 =
  setCellsAt w' (Addr.mk w.heap.size 0 none) 0
  [Value.int IntKind.u32 n, Value.int IntKind.u32 n_1,
  Value.int IntKind.u32 n_2, Value.int IntKind.i64 n_3] →
  ∃ (n : Int),
  ∃ (n_4 : Int),
  ∃ (n_5 : Int),
  ∃ (n_6 : Int),
  (w'_3.cell? (Addr.mk w.heap.size 0 none) =
  some (Value.int IntKind.u32 n) ∧
  w'_3.cell? (Addr.mk w.heap.size 1 none) =
  some (Value.int IntKind.u32 n_4) ∧
  w'_3.cell? (Addr.mk w.heap.size 2 none) =
  some (Value.int IntKind.u32 n_5) ∧
  w'_3.cell? (Addr.mk w.heap.size 3 none) =
  some (Value.int IntKind.i64 n_6) ∧
  True) ∧
  R
  (Ending.returned
  (Value.tuple
  #[Value.agg
  #[Value.int IntKind.u32 n,
  Value.int IntKind.u32 n_4,
  Value.int IntKind.u32 n_5,
  Value.int IntKind.i64 n_6],
  Value.bool true]))
  w'_3))
  (cnd (op' == 8)
  (((w'_2.cell? (Addr.mk w'_1.heap.size 2 none)).isSome = true ∧
  w'_2.frozen? (Addr.mk w'_1.heap.size 2 none) = false) ∧
  ∀ (w' : World),
  w' = w'_2.setCell (Addr.mk w'_1.heap.size 2 none) (Value.int IntKind.u32 32) →
  cnd (decide (op' ≥ 11))
  (((w'.cell? (Addr.mk w'_1.heap.size 2 none)).isSome = true ∧
  w'.frozen? (Addr.mk w'_1.heap.size 2 none) = false) ∧
  ∀ (w'_3 : World),
  w'_3 =
  w'.setCell (Addr.mk w'_1.heap.size 2 none) (Value.int IntKind.u32 1) →
  ∃ (n : Int),
  ∃ (n_1 : Int),
  ∃ (n_2 : Int),
  ∃ (n_3 : Int),
  (w'_3.cell? (Addr.mk w'_1.heap.size 0 none) =
  some (Value.int IntKind.u32 n) ∧
  w'_3.cell? (Addr.mk w'_1.heap.size 1 none) =
  some (Value.int IntKind.u32 n_1) ∧
  w'_3.cell? (Addr.mk w'_1.heap.size 2 none) =
  some (Value.int IntKind.u32 n_2) ∧
  w'_3.cell? (Addr.mk w'_1.heap.size 3 none) =
  some (Value.int IntKind.i64 n_3) ∧
  True) ∧
  SetsAt w'_3 (Addr.mk w.heap.size 0 none) 0
  [Value.int IntKind.u32 n, Value.int IntKind.u32 n_1,
  Value.int IntKind.u32 n_2, Value.int IntKind.i64 n_3] ∧
  ∀ (w' : World),
  w' =
  setCellsAt w'_3 (Addr.mk w.heap.size 0 none) 0
  [Value.int IntKind.u32 n, Value.int IntKind.u32 n_1,
  Value.int IntKind.u32 n_2,
  Value.int IntKind.i64 n_3] →
  ∃ (n : Int),
  ∃ (n_4 : Int),
  ∃ (n_5 : Int),
  ∃ (n_6 : Int),
  (w'.cell? (Addr.mk w.heap.size 0 none) =
  some (Value.int IntKind.u32 n) ∧
  w'.cell? (Addr.mk w.heap.size 1 none) =
  some (Value.int IntKind.u32 n_4) ∧
  w'.cell? (Addr.mk w.heap.size 2 none) =
  some (Value.int IntKind.u32 n_5) ∧
  w'.cell? (Addr.mk w.heap.size 3 none) =
  some (Value.int IntKind.i64 n_6) ∧
  True) ∧
  R
  (Ending.returned
  (Value.tuple
  #[Value.agg
  #[Value.int IntKind.u32 n,
  Value.int IntKind.u32 n_4,
  Value.int IntKind.u32 n_5,
  Value.int IntKind.i64 n_6],
  Value.bool true]))
  w')
  (∃ (n : Int),
  ∃ (n_1 : Int),
  ∃ (n_2 : Int),
  ∃ (n_3 : Int),
  (w'.cell? (Addr.mk w'_1.heap.size 0 none) =
  some (Value.int IntKind.u32 n) ∧
  w'.cell? (Addr.mk w'_1.heap.size 1 none) =
  some (Value.int IntKind.u32 n_1) ∧
  w'.cell? (Addr.mk w'_1.heap.size 2 none) =
  some (Value.int IntKind.u32 n_2) ∧
  w'.cell? (Addr.mk w'_1.heap.size 3 none) =
  some (Value.int IntKind.i64 n_3) ∧
  True) ∧
  SetsAt w' (Addr.mk w.heap.size 0 none) 0
  [Value.int IntKind.u32 n, Value.int IntKind.u32 n_1,
  Value.int IntKind.u32 n_2, Value.int IntKind.i64 n_3] ∧
  ∀ (w'_3 : World),
  w'_3 =
  setCellsAt w' (Addr.mk w.heap.size 0 none) 0
  [Value.int IntKind.u32 n, Value.int IntKind.u32 n_1,
  Value.int IntKind.u32 n_2, Value.int IntKind.i64 n_3] →
  ∃ (n : Int),
  ∃ (n_4 : Int),
  ∃ (n_5 : Int),
  ∃ (n_6 : Int),
  (w'_3.cell? (Addr.mk w.heap.size 0 none) =
  some (Value.int IntKind.u32 n) ∧
  w'_3.cell? (Addr.mk w.heap.size 1 none) =
  some (Value.int IntKind.u32 n_4) ∧
  w'_3.cell? (Addr.mk w.heap.size 2 none) =
  some (Value.int IntKind.u32 n_5) ∧
  w'_3.cell? (Addr.mk w.heap.size 3 none) =
  some (Value.int IntKind.i64 n_6) ∧
  True) ∧
  R
  (Ending.returned
  (Value.tuple
  #[Value.agg
  #[Value.int IntKind.u32 n,
  Value.int IntKind.u32 n_4,
  Value.int IntKind.u32 n_5,
  Value.int IntKind.i64 n_6],
  Value.bool true]))
  w'_3))
  (cnd (decide (op' ≥ 11))
  (((w'_2.cell? (Addr.mk w'_1.heap.size 2 none)).isSome = true ∧
  w'_2.frozen? (Addr.mk w'_1.heap.size 2 none) = false) ∧
  ∀ (w' : World),
  w' = w'_2.setCell (Addr.mk w'_1.heap.size 2 none) (Value.int IntKind.u32 1) →
  ∃ (n : Int),
  ∃ (n_1 : Int),
  ∃ (n_2 : Int),
  ∃ (n_3 : Int),
  (w'.cell? (Addr.mk w'_1.heap.size 0 none) =
  some (Value.int IntKind.u32 n) ∧
  w'.cell? (Addr.mk w'_1.heap.size 1 none) =
  some (Value.int IntKind.u32 n_1) ∧
  w'.cell? (Addr.mk w'_1.heap.size 2 none) =
  some (Value.int IntKind.u32 n_2) ∧
  w'.cell? (Addr.mk w'_1.heap.size 3 none) =
  some (Value.int IntKind.i64 n_3) ∧
  True) ∧
  SetsAt w' (Addr.mk w.heap.size 0 none) 0
  [Value.int IntKind.u32 n, Value.int IntKind.u32 n_1,
  Value.int IntKind.u32 n_2, Value.int IntKind.i64 n_3] ∧
  ∀ (w'_3 : World),
  w'_3 =
  setCellsAt w' (Addr.mk w.heap.size 0 none) 0
  [Value.int IntKind.u32 n, Value.int IntKind.u32 n_1,
  Value.int IntKind.u32 n_2, Value.int IntKind.i64 n_3] →
  ∃ (n : Int),
  ∃ (n_4 : Int),
  ∃ (n_5 : Int),
  ∃ (n_6 : Int),
  (w'_3.cell? (Addr.mk w.heap.size 0 none) =
  some (Value.int IntKind.u32 n) ∧
  w'_3.cell? (Addr.mk w.heap.size 1 none) =
  some (Value.int IntKind.u32 n_4) ∧
  w'_3.cell? (Addr.mk w.heap.size 2 none) =
  some (Value.int IntKind.u32 n_5) ∧
  w'_3.cell? (Addr.mk w.heap.size 3 none) =
  some (Value.int IntKind.i64 n_6) ∧
  True) ∧
  R
  (Ending.returned
  (Value.tuple
  #[Value.agg
  #[Value.int IntKind.u32 n,
  Value.int IntKind.u32 n_4,
  Value.int IntKind.u32 n_5,
  Value.int IntKind.i64 n_6],
  Value.bool true]))
  w'_3)
  (∃ (n : Int),
  ∃ (n_1 : Int),
  ∃ (n_2 : Int),
  ∃ (n_3 : Int),
  (w'_2.cell? (Addr.mk w'_1.heap.size 0 none) = some (Value.int IntKind.u32 n) ∧
  w'_2.cell? (Addr.mk w'_1.heap.size 1 none) =
  some (Value.int IntKind.u32 n_1) ∧
  w'_2.cell? (Addr.mk w'_1.heap.size 2 none) =
  some (Value.int IntKind.u32 n_2) ∧
  w'_2.cell? (Addr.mk w'_1.heap.size 3 none) =
  some (Value.int IntKind.i64 n_3) ∧
  True) ∧
  SetsAt w'_2 (Addr.mk w.heap.size 0 none) 0
  [Value.int IntKind.u32 n, Value.int IntKind.u32 n_1,
  Value.int IntKind.u32 n_2, Value.int IntKind.i64 n_3] ∧
  ∀ (w' : World),
  w' =
  setCellsAt w'_2 (Addr.mk w.heap.size 0 none) 0
  [Value.int IntKind.u32 n, Value.int IntKind.u32 n_1,
  Value.int IntKind.u32 n_2, Value.int IntKind.i64 n_3] →
  ∃ (n : Int),
  ∃ (n_4 : Int),
  ∃ (n_5 : Int),
  ∃ (n_6 : Int),
  (w'.cell? (Addr.mk w.heap.size 0 none) =
  some (Value.int IntKind.u32 n) ∧
  w'.cell? (Addr.mk w.heap.size 1 none) =
  some (Value.int IntKind.u32 n_4) ∧
  w'.cell? (Addr.mk w.heap.size 2 none) =
  some (Value.int IntKind.u32 n_5) ∧
  w'.cell? (Addr.mk w.heap.size 3 none) =
  some (Value.int IntKind.i64 n_6) ∧
  True) ∧
  R
  (Ending.returned
  (Value.tuple
  #[Value.agg
  #[Value.int IntKind.u32 n,
  Value.int IntKind.u32 n_4,
  Value.int IntKind.u32 n_5,
  Value.int IntKind.i64 n_6],
  Value.bool true]))
  w')))))
theorem ref02_two.vc_eq (op' : Int) (w : World) (R : Ending → World → Prop) : fnV Tryd.prog ref02_two.H 43 [Value.int IntKind.u8 op'] w R = ref02_two.vc op' w R := by kernel_rfl
theorem ref02_two.calls {op' : Int} {w : World} {R : Ending → World → Prop} (h : ref02_two.vc op' w R) : Calls Tryd.prog 43 ([Value.int IntKind.u8 op'] : List Value).toArray w R := calls_of_eq (ref02_two.vc_eq op' w R) h

/- function 18: sacristy/sacristyref02.Of -/
abbrev ref02_Of.N : FuncId := 18
def ref02_Of.H : Hints := {  }
def ref02_Of.vc (op' : Int) (w : World) (R : Ending → World → Prop) : Prop :=
  ∀ (w' : World),
  w' =
  w.alloc
  (Obj.cells #[Value.int IntKind.u32 0, Value.int IntKind.u32 0, Value.int IntKind.u32 0, Value.int IntKind.i64 0]
  45) →
  Calls Proofs.Tryd.prog 43 #[Value.int IntKind.u8 op'] w' fun (e : Ending) (w' : World) =>
  ∃ (n : Int),
  ∃ (n_1 : Int),
  ∃ (n_2 : Int),
  ∃ (n_3 : Int),
  ∃ (b : Bool),
  e =
  Ending.returned
  (Value.tuple
  #[Value.agg
  #[Value.int IntKind.u32 n, Value.int IntKind.u32 n_1, Value.int IntKind.u32 n_2,
  Value.int IntKind.i64 n_3],
  Value.bool b]) ∧
  ∀ (w'_1 : World),
  w'_1 =
  w'.alloc
  (Obj.cells
  #[Value.int IntKind.u32 0, Value.int IntKind.u32 0, Value.int IntKind.u32 0,
  Value.int IntKind.i64 0]
  45) →
  SetsAt w'_1 (Addr.mk w'.heap.size 0 none) 0
  [Value.int IntKind.u32 n, Value.int IntKind.u32 n_1, Value.int IntKind.u32 n_2,
  Value.int IntKind.i64 n_3] ∧
  ∀ (w'_2 : World),
  w'_2 =
  setCellsAt w'_1 (Addr.mk w'.heap.size 0 none) 0
  [Value.int IntKind.u32 n, Value.int IntKind.u32 n_1, Value.int IntKind.u32 n_2,
  Value.int IntKind.i64 n_3] →
  cnd b
  (∃ (n : Int),
  ∃ (n_4 : Int),
  ∃ (n_5 : Int),
  ∃ (n_6 : Int),
  (w'_2.cell? (Addr.mk w'.heap.size 0 none) = some (Value.int IntKind.u32 n) ∧
  w'_2.cell? (Addr.mk w'.heap.size 1 none) = some (Value.int IntKind.u32 n_4) ∧
  w'_2.cell? (Addr.mk w'.heap.size 2 none) =
  some (Value.int IntKind.u32 n_5) ∧
  w'_2.cell? (Addr.mk w'.heap.size 3 none) =
  some (Value.int IntKind.i64 n_6) ∧
  True) ∧
  SetsAt w'_2 (Addr.mk w.heap.size 0 none) 0
  [Value.int IntKind.u32 n, Value.int IntKind.u32 n_4,
  Value.int IntKind.u32 n_5, Value.int IntKind.i64 n_6] ∧
  ∀ (w' : World),
  w' =
  setCellsAt w'_2 (Addr.mk w.heap.size 0 none) 0
  [Value.int IntKind.u32 n, Value.int IntKind.u32 n_4,
  Value.int IntKind.u32 n_5, Value.int IntKind.i64 n_6] →
  ∃ (n : Int),
  ∃ (n_7 : Int),
  ∃ (n_8 : Int),
  ∃ (n_9 : Int),
  (w'.cell? (Addr.mk w.heap.size 0 none) =
  some (Value.int IntKind.u32 n) ∧
  w'.cell? (Addr.mk w.heap.size 1 none) =
  some (Value.int IntKind.u32 n_7) ∧
  w'.cell? (Addr.mk w.heap.size 2 none) =
  some (Value.int IntKind.u32 n_8) ∧
  w'.cell? (Addr.mk w.heap.size 3 none) =
  some (Value.int IntKind.i64 n_9) ∧
  True) ∧
  R
  (Ending.returned
  (Value.tuple
  #[Value.agg
  #[Value.int IntKind.u32 n, Value.int IntKind.u32 n_7,
  Value.int IntKind.u32 n_8,
  Value.int IntKind.i64 n_9],
  Value.bool true]))
  w')
  (cnd (op' == 15)
  (SetsAt w'_2 (Addr.mk w.heap.size 0 none) 0
  [Value.int IntKind.u32 19, Value.int IntKind.u32 0, Value.int IntKind.u32 0,
  Value.int IntKind.i64 2] ∧
  ∀ (w' : World),
  w' =
  setCellsAt w'_2 (Addr.mk w.heap.size 0 none) 0
  [Value.int IntKind.u32 19, Value.int IntKind.u32 0, Value.int IntKind.u32 0,
  Value.int IntKind.i64 2] →
  ∃ (n : Int),
  ∃ (n_4 : Int),
  ∃ (n_5 : Int),
  ∃ (n_6 : Int),
  (w'.cell? (Addr.mk w.heap.size 0 none) = some (Value.int IntKind.u32 n) ∧
  w'.cell? (Addr.mk w.heap.size 1 none) =
  some (Value.int IntKind.u32 n_4) ∧
  w'.cell? (Addr.mk w.heap.size 2 none) =
  some (Value.int IntKind.u32 n_5) ∧
  w'.cell? (Addr.mk w.heap.size 3 none) =
  some (Value.int IntKind.i64 n_6) ∧
  True) ∧
  R
  (Ending.returned
  (Value.tuple
  #[Value.agg
  #[Value.int IntKind.u32 n, Value.int IntKind.u32 n_4,
  Value.int IntKind.u32 n_5, Value.int IntKind.i64 n_6],
  Value.bool true]))
  w')
  (cnd (op' == 16)
  (SetsAt w'_2 (Addr.mk w.heap.size 0 none) 0
  [Value.int IntKind.u32 19, Value.int IntKind.u32 3, Value.int IntKind.u32 0,
  Value.int IntKind.i64 2] ∧
  ∀ (w' : World),
  w' =
  setCellsAt w'_2 (Addr.mk w.heap.size 0 none) 0
  [Value.int IntKind.u32 19, Value.int IntKind.u32 3, Value.int IntKind.u32 0,
  Value.int IntKind.i64 2] →
  ∃ (n : Int),
  ∃ (n_4 : Int),
  ∃ (n_5 : Int),
  ∃ (n_6 : Int),
  (w'.cell? (Addr.mk w.heap.size 0 none) =
  some (Value.int IntKind.u32 n) ∧
  w'.cell? (Addr.mk w.heap.size 1 none) =
  some (Value.int IntKind.u32 n_4) ∧
  w'.cell? (Addr.mk w.heap.size 2 none) =
  some (Value.int IntKind.u32 n_5) ∧
  w'.cell? (Addr.mk w.heap.size 3 none) =
  some (Value.int IntKind.i64 n_6) ∧
  True) ∧
  R
  (Ending.returned
  (Value.tuple
  #[Value.agg
  #[Value.int IntKind.u32 n, Value.int IntKind.u32 n_4,
  Value.int IntKind.u32 n_5, Value.int IntKind.i64 n_6],
  Value.bool true]))
  w')
  (cnd (op' == 17)
  (SetsAt w'_2 (Addr.mk w.heap.size 0 none) 0
  [Value.int IntKind.u32 19, Value.int IntKind.u32 4, Value.int IntKind.u32 0,
  Value.int IntKind.i64 2] ∧
  ∀ (w' : World),
  w' =
  setCellsAt w'_2 (Addr.mk w.heap.size 0 none) 0
  [Value.int IntKind.u32 19, Value.int IntKind.u32 4,
  Value.int IntKind.u32 0, Value.int IntKind.i64 2] →
  ∃ (n : Int),
  ∃ (n_4 : Int),
  ∃ (n_5 : Int),
  ∃ (n_6 : Int),
  (w'.cell? (Addr.mk w.heap.size 0 none) =
  some (Value.int IntKind.u32 n) ∧
  w'.cell? (Addr.mk w.heap.size 1 none) =
  some (Value.int IntKind.u32 n_4) ∧
  w'.cell? (Addr.mk w.heap.size 2 none) =
  some (Value.int IntKind.u32 n_5) ∧
  w'.cell? (Addr.mk w.heap.size 3 none) =
  some (Value.int IntKind.i64 n_6) ∧
  True) ∧
  R
  (Ending.returned
  (Value.tuple
  #[Value.agg
  #[Value.int IntKind.u32 n, Value.int IntKind.u32 n_4,
  Value.int IntKind.u32 n_5, Value.int IntKind.i64 n_6],
  Value.bool true]))
  w')
  (cnd (op' == 18)
  (SetsAt w'_2 (Addr.mk w.heap.size 0 none) 0
  [Value.int IntKind.u32 19, Value.int IntKind.u32 6, Value.int IntKind.u32 0,
  Value.int IntKind.i64 2] ∧
  ∀ (w' : World),
  w' =
  setCellsAt w'_2 (Addr.mk w.heap.size 0 none) 0
  [Value.int IntKind.u32 19, Value.int IntKind.u32 6,
  Value.int IntKind.u32 0, Value.int IntKind.i64 2] →
  ∃ (n : Int),
  ∃ (n_4 : Int),
  ∃ (n_5 : Int),
  ∃ (n_6 : Int),
  (w'.cell? (Addr.mk w.heap.size 0 none) =
  some (Value.int IntKind.u32 n) ∧
  w'.cell? (Addr.mk w.heap.size 1 none) =
  some (Value.int IntKind.u32 n_4) ∧
  w'.cell? (Addr.mk w.heap.size 2 none) =
  some (Value.int IntKind.u32 n_5) ∧
  w'.cell? (Addr.mk w.heap.size 3 none) =
  some (Value.int IntKind.i64 n_6) ∧
  True) ∧
  R
  (Ending.returned
  (Value.tuple
  #[Value.agg
  #[Value.int IntKind.u32 n, Value.int IntKind.u32 n_4,
  Value.int IntKind.u32 n_5, Value.int IntKind.i64 n_6],
  Value.bool true]))
  w')
  (cnd (op' == 19)
  (SetsAt w'_2 (Addr.mk w.heap.size 0 none) 0
  [Value.int IntKind.u32 19, Value.int IntKind.u32 7, Value.int IntKind.u32 0,
  Value.int IntKind.i64 2] ∧
  ∀ (w' : World),
  w' =
  setCellsAt w'_2 (Addr.mk w.heap.size 0 none) 0
  [Value.int IntKind.u32 19, Value.int IntKind.u32 7,
  Value.int IntKind.u32 0, Value.int IntKind.i64 2] →
  ∃ (n : Int),
  ∃ (n_4 : Int),
  ∃ (n_5 : Int),
  ∃ (n_6 : Int),
  (w'.cell? (Addr.mk w.heap.size 0 none) =
  some (Value.int IntKind.u32 n) ∧
  w'.cell? (Addr.mk w.heap.size 1 none) =
  some (Value.int IntKind.u32 n_4) ∧
  w'.cell? (Addr.mk w.heap.size 2 none) =
  some (Value.int IntKind.u32 n_5) ∧
  w'.cell? (Addr.mk w.heap.size 3 none) =
  some (Value.int IntKind.i64 n_6) ∧
  True) ∧
  R
  (Ending.returned
  (Value.tuple
  #[Value.agg
  #[Value.int IntKind.u32 n, Value.int IntKind.u32 n_4,
  Value.int IntKind.u32 n_5,
  Value.int IntKind.i64 n_6],
  Value.bool true]))
  w')
  (cnd (op' == 20)
  (SetsAt w'_2 (Addr.mk w.heap.size 0 none) 0
  [Value.int IntKind.u32 19, Value.int IntKind.u32 1,
  Value.int IntKind.u32 0, Value.int IntKind.i64 3] ∧
  ∀ (w' : World),
  w' =
  setCellsAt w'_2 (Addr.mk w.heap.size 0 none) 0
  [Value.int IntKind.u32 19, Value.int IntKind.u32 1,
  Value.int IntKind.u32 0, Value.int IntKind.i64 3] →
  ∃ (n : Int),
  ∃ (n_4 : Int),
  ∃ (n_5 : Int),
  ∃ (n_6 : Int),
  (w'.cell? (Addr.mk w.heap.size 0 none) =
  some (Value.int IntKind.u32 n) ∧
  w'.cell? (Addr.mk w.heap.size 1 none) =
  some (Value.int IntKind.u32 n_4) ∧
  w'.cell? (Addr.mk w.heap.size 2 none) =
  some (Value.int IntKind.u32 n_5) ∧
  w'.cell? (Addr.mk w.heap.size 3 none) =
  some (Value.int IntKind.i64 n_6) ∧
  True) ∧
  R
  (Ending.returned
  (Value.tuple
  #[Value.agg
  #[Value.int IntKind.u32 n,
  Value.int IntKind.u32 n_4,
  Value.int IntKind.u32 n_5,
  Value.int IntKind.i64 n_6],
  Value.bool true]))
  w')
  (cnd (op' == 21)
  (SetsAt w'_2 (Addr.mk w.heap.size 0 none) 0
  [Value.int IntKind.u32 19, Value.int IntKind.u32 5,
  Value.int IntKind.u32 0, Value.int IntKind.i64 3] ∧
  ∀ (w' : World),
  w' =
  setCellsAt w'_2 (Addr.mk w.heap.size 0 none) 0
  [Value.int IntKind.u32 19, Value.int IntKind.u32 5,
  Value.int IntKind.u32 0, Value.int IntKind.i64 3] →
  ∃ (n : Int),
  ∃ (n_4 : Int),
  ∃ (n_5 : Int),
  ∃ (n_6 : Int),
  (w'.cell? (Addr.mk w.heap.size 0 none) =
  some (Value.int IntKind.u32 n) ∧
  w'.cell? (Addr.mk w.heap.size 1 none) =
  some (Value.int IntKind.u32 n_4) ∧
  w'.cell? (Addr.mk w.heap.size 2 none) =
  some (Value.int IntKind.u32 n_5) ∧
  w'.cell? (Addr.mk w.heap.size 3 none) =
  some (Value.int IntKind.i64 n_6) ∧
  True) ∧
  R
  (Ending.returned
  (Value.tuple
  #[Value.agg
  #[Value.int IntKind.u32 n,
  Value.int IntKind.u32 n_4,
  Value.int IntKind.u32 n_5,
  Value.int IntKind.i64 n_6],
  Value.bool true]))
  w')
  (cnd (op' == 22)
  (SetsAt w'_2 (Addr.mk w.heap.size 0 none) 0
  [Value.int IntKind.u32 19, Value.int IntKind.u32 5,
  Value.int IntKind.u32 32, Value.int IntKind.i64 3] ∧
  ∀ (w' : World),
  w' =
  setCellsAt w'_2 (Addr.mk w.heap.size 0 none) 0
  [Value.int IntKind.u32 19, Value.int IntKind.u32 5,
  Value.int IntKind.u32 32, Value.int IntKind.i64 3] →
  ∃ (n : Int),
  ∃ (n_4 : Int),
  ∃ (n_5 : Int),
  ∃ (n_6 : Int),
  (w'.cell? (Addr.mk w.heap.size 0 none) =
  some (Value.int IntKind.u32 n) ∧
  w'.cell? (Addr.mk w.heap.size 1 none) =
  some (Value.int IntKind.u32 n_4) ∧
  w'.cell? (Addr.mk w.heap.size 2 none) =
  some (Value.int IntKind.u32 n_5) ∧
  w'.cell? (Addr.mk w.heap.size 3 none) =
  some (Value.int IntKind.i64 n_6) ∧
  True) ∧
  R
  (Ending.returned
  (Value.tuple
  #[Value.agg
  #[Value.int IntKind.u32 n,
  Value.int IntKind.u32 n_4,
  Value.int IntKind.u32 n_5,
  Value.int IntKind.i64 n_6],
  Value.bool true]))
  w')
  (cnd (op' == 23)
  (SetsAt w'_2 (Addr.mk w.heap.size 0 none) 0
  [Value.int IntKind.u32 55, Value.int IntKind.u32 0,
  Value.int IntKind.u32 0, Value.int IntKind.i64 4] ∧
  ∀ (w' : World),
  w' =
  setCellsAt w'_2 (Addr.mk w.heap.size 0 none) 0
  [Value.int IntKind.u32 55, Value.int IntKind.u32 0,
  Value.int IntKind.u32 0, Value.int IntKind.i64 4] →
  ∃ (n : Int),
  ∃ (n_4 : Int),
  ∃ (n_5 : Int),
  ∃ (n_6 : Int),
  (w'.cell? (Addr.mk w.heap.size 0 none) =
  some (Value.int IntKind.u32 n) ∧
  w'.cell? (Addr.mk w.heap.size 1 none) =
  some (Value.int IntKind.u32 n_4) ∧
  w'.cell? (Addr.mk w.heap.size 2 none) =
  some (Value.int IntKind.u32 n_5) ∧
  w'.cell? (Addr.mk w.heap.size 3 none) =
  some (Value.int IntKind.i64 n_6) ∧
  True) ∧
  R
  (Ending.returned
  (Value.tuple
  #[Value.agg
  #[Value.int IntKind.u32 n,
  Value.int IntKind.u32 n_4,
  Value.int IntKind.u32 n_5,
  Value.int IntKind.i64 n_6],
  Value.bool true]))
  w')
  (cnd (op' == 24)
  (SetsAt w'_2 (Addr.mk w.heap.size 0 none) 0
  [Value.int IntKind.u32 3, Value.int IntKind.u32 4,
  Value.int IntKind.u32 0, Value.int IntKind.i64 2] ∧
  ∀ (w' : World),
  w' =
  setCellsAt w'_2 (Addr.mk w.heap.size 0 none) 0
  [Value.int IntKind.u32 3, Value.int IntKind.u32 4,
  Value.int IntKind.u32 0, Value.int IntKind.i64 2] →
  ∃ (n : Int),
  ∃ (n_4 : Int),
  ∃ (n_5 : Int),
  ∃ (n_6 : Int),
  (w'.cell? (Addr.mk w.heap.size 0 none) =
  some (Value.int IntKind.u32 n) ∧
  w'.cell? (Addr.mk w.heap.size 1 none) =
  some (Value.int IntKind.u32 n_4) ∧
  w'.cell? (Addr.mk w.heap.size 2 none) =
  some (Value.int IntKind.u32 n_5) ∧
  w'.cell? (Addr.mk w.heap.size 3 none) =
  some (Value.int IntKind.i64 n_6) ∧
  True) ∧
  R
  (Ending.returned
  (Value.tuple
  #[Value.agg
  #[Value.int IntKind.u32 n,
  Value.int IntKind.u32 n_4,
  Value.int IntKind.u32 n_5,
  Value.int IntKind.i64 n_6],
  Value.bool true]))
  w')
  (cnd (op' == 25)
  (SetsAt w'_2 (Addr.mk w.heap.size 0 none) 0
  [Value.int IntKind.u32 3, Value.int IntKind.u32 3,
  Value.int IntKind.u32 0, Value.int IntKind.i64 2] ∧
  ∀ (w' : World),
  w' =
  setCellsAt w'_2 (Addr.mk w.heap.size 0 none) 0
  [Value.int IntKind.u32 3, Value.int IntKind.u32 3,
  Value.int IntKind.u32 0, Value.int IntKind.i64 2] →
  ∃ (n : Int),
  ∃ (n_4 : Int),
  ∃ (n_5 : Int),
  ∃ (n_6 : Int),
  (w'.cell? (Addr.mk w.heap.size 0 none) =
  some (Value.int IntKind.u32 n) ∧
  w'.cell? (Addr.mk w.heap.size 1 none) =
  some (Value.int IntKind.u32 n_4) ∧
  w'.cell? (Addr.mk w.heap.size 2 none) =
  some (Value.int IntKind.u32 n_5) ∧
  w'.cell? (Addr.mk w.heap.size 3 none) =
  some (Value.int IntKind.i64 n_6) ∧
  True) ∧
  R
  (Ending.returned
  (Value.tuple
  #[Value.agg
  #[Value.int IntKind.u32 n,
  Value.int IntKind.u32 n_4,
  Value.int IntKind.u32 n_5,
  Value.int IntKind.i64 n_6],
  Value.bool true]))
  w')
  (cnd (op' == 26)
  (SetsAt w'_2 (Addr.mk w.heap.size 0 none) 0
  [Value.int IntKind.u32 35, Value.int IntKind.u32 0,
  Value.int IntKind.u32 0, Value.int IntKind.i64 5] ∧
  ∀ (w' : World),
  w' =
  setCellsAt w'_2 (Addr.mk w.heap.size 0 none) 0
  [Value.int IntKind.u32 35, Value.int IntKind.u32 0,
  Value.int IntKind.u32 0, Value.int IntKind.i64 5] →
  ∃ (n : Int),
  ∃ (n_4 : Int),
  ∃ (n_5 : Int),
  ∃ (n_6 : Int),
  (w'.cell? (Addr.mk w.heap.size 0 none) =
  some (Value.int IntKind.u32 n) ∧
  w'.cell? (Addr.mk w.heap.size 1 none) =
  some (Value.int IntKind.u32 n_4) ∧
  w'.cell? (Addr.mk w.heap.size 2 none) =
  some (Value.int IntKind.u32 n_5) ∧
  w'.cell? (Addr.mk w.heap.size 3 none) =
  some (Value.int IntKind.i64 n_6) ∧
  True) ∧
  R
  (Ending.returned
  (Value.tuple
  #[Value.agg
  #[Value.int IntKind.u32 n,
  Value.int IntKind.u32 n_4,
  Value.int IntKind.u32 n_5,
  Value.int IntKind.i64 n_6],
  Value.bool true]))
  w')
  (cnd (op' == 27)
  (SetsAt w'_2 (Addr.mk w.heap.size 0 none) 0
  [Value.int IntKind.u32 35, Value.int IntKind.u32 3,
  Value.int IntKind.u32 0, Value.int IntKind.i64 5] ∧
  ∀ (w' : World),
  w' =
  setCellsAt w'_2 (Addr.mk w.heap.size 0 none) 0
  [Value.int IntKind.u32 35, Value.int IntKind.u32 3,
  Value.int IntKind.u32 0, Value.int IntKind.i64 5] →
  ∃ (n : Int),
  ∃ (n_4 : Int),
  ∃ (n_5 : Int),
  ∃ (n_6 : Int),
  (w'.cell? (Addr.mk w.heap.size 0 none) =
  some (Value.int IntKind.u32 n) ∧
  w'.cell? (Addr.mk w.heap.size 1 none) =
  some (Value.int IntKind.u32 n_4) ∧
  w'.cell? (Addr.mk w.heap.size 2 none) =
  some (Value.int IntKind.u32 n_5) ∧
  w'.cell? (Addr.mk w.heap.size 3 none) =
  some (Value.int IntKind.i64 n_6) ∧
  True) ∧
  R
  (Ending.returned
  (Value.tuple
  #[Value.agg
  #[Value.int IntKind.u32 n,
  Value.int IntKind.u32 n_4,
  Value.int IntKind.u32 n_5,
  Value.int IntKind.i64 n_6],
  Value.bool true]))
  w')
  (cnd (op' == 28)
  (SetsAt w'_2 (Addr.mk w.heap.size 0 none) 0
  [Value.int IntKind.u32 99, Value.int IntKind.u32 0,
  Value.int IntKind.u32 0, Value.int IntKind.i64 6] ∧
  ∀ (w' : World),
  w' =
  setCellsAt w'_2 (Addr.mk w.heap.size 0 none) 0
  [Value.int IntKind.u32 99, Value.int IntKind.u32 0,
  Value.int IntKind.u32 0,
  Value.int IntKind.i64 6] →
  ∃ (n : Int),
  ∃ (n_4 : Int),
  ∃ (n_5 : Int),
  ∃ (n_6 : Int),
  (w'.cell? (Addr.mk w.heap.size 0 none) =
  some (Value.int IntKind.u32 n) ∧
  w'.cell? (Addr.mk w.heap.size 1 none) =
  some (Value.int IntKind.u32 n_4) ∧
  w'.cell? (Addr.mk w.heap.size 2 none) =
  some (Value.int IntKind.u32 n_5) ∧
  w'.cell? (Addr.mk w.heap.size 3 none) =
  some (Value.int IntKind.i64 n_6) ∧
  True) ∧
  R
  (Ending.returned
  (Value.tuple
  #[Value.agg
  #[Value.int IntKind.u32 n,
  Value.int IntKind.u32 n_4,
  Value.int IntKind.u32 n_5,
  Value.int IntKind.i64 n_6],
  Value.bool true]))
  w')
  (cnd (op' == 29)
  (SetsAt w'_2 (Addr.mk w.heap.size 0 none) 0
  [Value.int IntKind.u32 99, Value.int IntKind.u32 1,
  Value.int IntKind.u32 0, Value.int IntKind.i64 6] ∧
  ∀ (w' : World),
  w' =
  setCellsAt w'_2 (Addr.mk w.heap.size 0 none) 0
  [Value.int IntKind.u32 99,
  Value.int IntKind.u32 1,
  Value.int IntKind.u32 0,
  Value.int IntKind.i64 6] →
  ∃ (n : Int),
  ∃ (n_4 : Int),
  ∃ (n_5 : Int),
  ∃ (n_6 : Int),
  (w'.cell? (Addr.mk w.heap.size 0 none) =
  some (Value.int IntKind.u32 n) ∧
  w'.cell? (Addr.mk w.heap.size 1 none) =
  some (Value.int IntKind.u32 n_4) ∧
  w'.cell? (Addr.mk w.heap.size 2 none) =
  some (Value.int IntKind.u32 n_5) ∧
  w'.cell?
  (Addr.mk w.heap.size 3 none) =
  some (Value.int IntKind.i64 n_6) ∧
  True) ∧
  R
  (Ending.returned
  (Value.tuple
  #[Value.agg
  #[Value.int IntKind.u32 n,
  Value.int IntKind.u32 n_4,
  Value.int IntKind.u32 n_5,
  Value.int IntKind.i64 n_6],
  Value.bool true]))
  w')
  (cnd (op' == 30)
  (SetsAt w'_2 (Addr.mk w.heap.size 0 none) 0
  [Value.int IntKind.u32 99, Value.int IntKind.u32 6,
  Value.int IntKind.u32 0, Value.int IntKind.i64 6] ∧
  ∀ (w' : World),
  w' =
  setCellsAt w'_2 (Addr.mk w.heap.size 0 none) 0
  [Value.int IntKind.u32 99,
  Value.int IntKind.u32 6,
  Value.int IntKind.u32 0,
  Value.int IntKind.i64 6] →
  ∃ (n : Int),
  ∃ (n_4 : Int),
  ∃ (n_5 : Int),
  ∃ (n_6 : Int),
  (w'.cell? (Addr.mk w.heap.size 0 none) =
  some (Value.int IntKind.u32 n) ∧
  w'.cell? (Addr.mk w.heap.size 1 none) =
  some (Value.int IntKind.u32 n_4) ∧
  w'.cell?
  (Addr.mk w.heap.size 2 none) =
  some (Value.int IntKind.u32 n_5) ∧
  w'.cell?
  (Addr.mk w.heap.size 3 none) =
  some
  (Value.int IntKind.i64 n_6) ∧
  True) ∧
  R
  (Ending.returned
  (Value.tuple
  #[Value.agg
  #[Value.int IntKind.u32 n,
  Value.int IntKind.u32 n_4,
  Value.int IntKind.u32 n_5,
  Value.int IntKind.i64 n_6],
  Value.bool true]))
  w')
  (cnd (op' == 31)
  (SetsAt w'_2 (Addr.mk w.heap.size 0 none) 0
  [Value.int IntKind.u32 99, Value.int IntKind.u32 7,
  Value.int IntKind.u32 0,
  Value.int IntKind.i64 6] ∧
  ∀ (w' : World),
  w' =
  setCellsAt w'_2 (Addr.mk w.heap.size 0 none) 0
  [Value.int IntKind.u32 99,
  Value.int IntKind.u32 7,
  Value.int IntKind.u32 0,
  Value.int IntKind.i64 6] →
  ∃ (n : Int),
  ∃ (n_4 : Int),
  ∃ (n_5 : Int),
  ∃ (n_6 : Int),
  (w'.cell? (Addr.mk w.heap.size 0 none) =
  some (Value.int IntKind.u32 n) ∧
  w'.cell?
  (Addr.mk w.heap.size 1 none) =
  some (Value.int IntKind.u32 n_4) ∧
  w'.cell?
  (Addr.mk w.heap.size 2 none) =
  some
  (Value.int IntKind.u32 n_5) ∧
  w'.cell?
  (Addr.mk w.heap.size 3
  none) =
  some
  (Value.int IntKind.i64
  n_6) ∧
  True) ∧
  R
  (Ending.returned
  (Value.tuple
  #[Value.agg
  #[Value.int IntKind.u32 n,
  Value.int IntKind.u32 n_4,
  Value.int IntKind.u32 n_5,
  Value.int IntKind.i64 n_6],
  Value.bool true]))
  w')
  (cnd (op' == 32)
  (SetsAt w'_2 (Addr.mk w.heap.size 0 none) 0
  [Value.int IntKind.u32 111,
  Value.int IntKind.u32 0,
  Value.int IntKind.u32 0,
  Value.int IntKind.i64 7] ∧
  ∀ (w' : World),
  w' =
  setCellsAt w'_2 (Addr.mk w.heap.size 0 none) 0
  [Value.int IntKind.u32 111,
  Value.int IntKind.u32 0,
  Value.int IntKind.u32 0,
  Value.int IntKind.i64 7] →
  ∃ (n : Int),
  ∃ (n_4 : Int),
  ∃ (n_5 : Int),
  ∃ (n_6 : Int),
  (w'.cell? (Addr.mk w.heap.size 0 none) =
  some (Value.int IntKind.u32 n) ∧
  w'.cell?
  (Addr.mk w.heap.size 1 none) =
  some
  (Value.int IntKind.u32 n_4) ∧
  w'.cell?
  (Addr.mk w.heap.size 2
  none) =
  some
  (Value.int IntKind.u32
  n_5) ∧
  w'.cell?
  (Addr.mk w.heap.size 3
  none) =
  some
  (Value.int IntKind.i64
  n_6) ∧
  True) ∧
  R
  (Ending.returned
  (Value.tuple
  #[Value.agg
  #[Value.int IntKind.u32 n,
  Value.int IntKind.u32 n_4,
  Value.int IntKind.u32 n_5,
  Value.int IntKind.i64
  n_6],
  Value.bool true]))
  w')
  (cnd (op' == 33)
  (SetsAt w'_2 (Addr.mk w.heap.size 0 none) 0
  [Value.int IntKind.u32 103,
  Value.int IntKind.u32 0,
  Value.int IntKind.u32 0,
  Value.int IntKind.i64 2] ∧
  ∀ (w' : World),
  w' =
  setCellsAt w'_2 (Addr.mk w.heap.size 0 none)
  0
  [Value.int IntKind.u32 103,
  Value.int IntKind.u32 0,
  Value.int IntKind.u32 0,
  Value.int IntKind.i64 2] →
  ∃ (n : Int),
  ∃ (n_4 : Int),
  ∃ (n_5 : Int),
  ∃ (n_6 : Int),
  (w'.cell?
  (Addr.mk w.heap.size 0 none) =
  some (Value.int IntKind.u32 n) ∧
  w'.cell?
  (Addr.mk w.heap.size 1
  none) =
  some
  (Value.int IntKind.u32
  n_4) ∧
  w'.cell?
  (Addr.mk w.heap.size 2
  none) =
  some
  (Value.int IntKind.u32
  n_5) ∧
  w'.cell?
  (Addr.mk w.heap.size 3
  none) =
  some
  (Value.int IntKind.i64
  n_6) ∧
  True) ∧
  R
  (Ending.returned
  (Value.tuple
  #[Value.agg
  #[Value.int IntKind.u32 n,
  Value.int IntKind.u32
  n_4,
  Value.int IntKind.u32
  n_5,
  Value.int IntKind.i64
  n_6],
  Value.bool true]))
  w')
  (cnd (op' == 34)
  (SetsAt w'_2 (Addr.mk w.heap.size 0 none) 0
  [Value.int IntKind.u32 115,
  Value.int IntKind.u32 0,
  Value.int IntKind.u32 0,
  Value.int IntKind.i64 8] ∧
  ∀ (w' : World),
  w' =
  setCellsAt w'_2
  (Addr.mk w.heap.size 0 none) 0
  [Value.int IntKind.u32 115,
  Value.int IntKind.u32 0,
  Value.int IntKind.u32 0,
  Value.int IntKind.i64 8] →
  ∃ (n : Int),
  ∃ (n_4 : Int),
  ∃ (n_5 : Int),
  ∃ (n_6 : Int),
  (w'.cell?
  (Addr.mk w.heap.size 0
  none) =
  some
  (Value.int IntKind.u32 n) ∧
  w'.cell?
  (Addr.mk w.heap.size 1
  none) =
  some
  (Value.int IntKind.u32
  n_4) ∧
  w'.cell?
  (Addr.mk w.heap.size 2
  none) =
  some
  (Value.int IntKind.u32
  n_5) ∧
  w'.cell?
  (Addr.mk w.heap.size 3
  none) =
  some
  (Value.int IntKind.i64
  n_6) ∧
  True) ∧
  R
  (Ending.returned
  (Value.tuple
  #[Value.agg
  #[Value.int IntKind.u32
  n,
  Value.int IntKind.u32
  n_4,
  Value.int IntKind.u32
  n_5,
  Value.int IntKind.i64
  n_6],
  Value.bool true]))
  w')
  (SetsAt w'_2 (Addr.mk w.heap.size 0 none) 0
  [Value.int IntKind.u32 0,
  Value.int IntKind.u32 0,
  Value.int IntKind.u32 0,
  Value.int IntKind.i64 0] ∧
  ∀ (w' : World),
  w' =
  setCellsAt w'_2
  (Addr.mk w.heap.size 0 none) 0
  [Value.int IntKind.u32 0,
  Value.int IntKind.u32 0,
  Value.int IntKind.u32 0,
  Value.int IntKind.i64 0] →
  ∃ (n : Int),
  ∃ (n_4 : Int),
  ∃ (n_5 : Int),
  ∃ (n_6 : Int),
  (w'.cell?
  (Addr.mk w.heap.size 0
  none) =
  some
  (Value.int IntKind.u32 n) ∧
  w'.cell?
  (Addr.mk w.heap.size 1
  none) =
  some
  (Value.int IntKind.u32
  n_4) ∧
  w'.cell?
  (Addr.mk w.heap.size 2
  none) =
  some
  (Value.int IntKind.u32
  n_5) ∧
  w'.cell?
  (Addr.mk w.heap.size 3
  none) =
  some
  (Value.int IntKind.i64
  n_6) ∧
  True) ∧
  R
  (Ending.returned
  (Value.tuple
  #[Value.agg
  #[Value.int IntKind.u32
  n,
  Value.int IntKind.u32
  n_4,
  Value.int IntKind.u32
  n_5,
  Value.int IntKind.i64
  n_6],
  Value.bool false]))
  w')))))))))))))))))))))
theorem ref02_Of.vc_eq (op' : Int) (w : World) (R : Ending → World → Prop) : fnV Tryd.prog ref02_Of.H 18 [Value.int IntKind.u8 op'] w R = ref02_Of.vc op' w R := by kernel_rfl
theorem ref02_Of.calls {op' : Int} {w : World} {R : Ending → World → Prop} (h : ref02_Of.vc op' w R) : Calls Tryd.prog 18 ([Value.int IntKind.u8 op'] : List Value).toArray w R := calls_of_eq (ref02_Of.vc_eq op' w R) h

/- function 65: sacristy/sacristyref02.bits -/
abbrev ref02_bits.N : FuncId := 65
def ref02_bits.H : Hints := { loops := [(4, [(9, .one (.int .u32)), (10, .one (.int .i64))])] }
def ref02_bits.vc (v' : Int) (from' : Int) (to' : Int) (at' : Int) (w : World) (R : Ending → World → Prop) : Prop :=
  ∃ (I : List Value → World → Prop),
  ∃ (μ : List Value → World → Nat),
  I [Value.int IntKind.u32 0, Value.int IntKind.i64 from'] w ∧
  ∀ (g : Nat → Value) (w i : Int) (w' : World),
  I [Value.int IntKind.u32 w, Value.int IntKind.i64 i] w' →
  cnd (decide (i ≤ to'))
  (cnd (decide (IntKind.u64.wrap i < 0)) False
  (cnd (decide (IntKind.u64.wrap (IntKind.i64.wrap (IntKind.i64.wrap (at' + i) - from')) < 0)) False
  (Goes I μ [Value.int IntKind.u32 w, Value.int IntKind.i64 i] w'
  [Value.int IntKind.u32
  (IntKind.u32.wrap
  (w +
  IntKind.u32.wrap
  (IntKind.u32.wrap
  (((IntKind.u64.wrap v').fdiv (2 ^ min (IntKind.u64.wrap i).toNat 64)).tmod 2) *
  2 ^
  min (IntKind.u64.wrap (IntKind.i64.wrap (IntKind.i64.wrap (at' + i) - from'))).toNat
  32))),
  Value.int IntKind.i64 (IntKind.i64.wrap (i + 1))]
  w')))
  (R (Ending.returned (Value.int IntKind.u32 w)) w')
theorem ref02_bits.vc_eq (v' : Int) (from' : Int) (to' : Int) (at' : Int) (w : World) (R : Ending → World → Prop) : fnV Tryd.prog ref02_bits.H 65 [Value.int IntKind.i64 v', Value.int IntKind.i64 from', Value.int IntKind.i64 to', Value.int IntKind.i64 at'] w R = ref02_bits.vc v' from' to' at' w R := by kernel_rfl
theorem ref02_bits.calls {v' : Int} {from' : Int} {to' : Int} {at' : Int} {w : World} {R : Ending → World → Prop} (h : ref02_bits.vc v' from' to' at' w R) : Calls Tryd.prog 65 ([Value.int IntKind.i64 v', Value.int IntKind.i64 from', Value.int IntKind.i64 to', Value.int IntKind.i64 at'] : List Value).toArray w R := calls_of_eq (ref02_bits.vc_eq v' from' to' at' w R) h

/- function 47: sacristy/sacristyref02.number -/
abbrev ref02_number.N : FuncId := 47
def ref02_number.H : Hints := {  }
def ref02_number.vc (form' : Int) (v' : Int) (w : World) (R : Ending → World → Prop) : Prop :=
  cnd (form' == 2)
  (Calls Proofs.Tryd.prog 65
  #[Value.int IntKind.i64 v', Value.int IntKind.i64 0, Value.int IntKind.i64 11, Value.int IntKind.i64 20] w
  fun (e : Ending) (w' : World) =>
  ∃ (n : Int), e = Ending.returned (Value.int IntKind.u32 n) ∧ R (Ending.returned (Value.int IntKind.u32 n)) w')
  (cnd (form' == 3)
  (Calls Proofs.Tryd.prog 65
  #[Value.int IntKind.i64 v', Value.int IntKind.i64 0, Value.int IntKind.i64 5, Value.int IntKind.i64 20] w
  fun (e : Ending) (w' : World) =>
  ∃ (n : Int), e = Ending.returned (Value.int IntKind.u32 n) ∧ R (Ending.returned (Value.int IntKind.u32 n)) w')
  (cnd (form' == 4)
  (Calls Proofs.Tryd.prog 65
  #[Value.int IntKind.i64 v', Value.int IntKind.i64 12, Value.int IntKind.i64 31, Value.int IntKind.i64 12] w
  fun (e : Ending) (w' : World) =>
  ∃ (n : Int), e = Ending.returned (Value.int IntKind.u32 n) ∧ R (Ending.returned (Value.int IntKind.u32 n)) w')
  (cnd (form' == 5)
  (Calls Proofs.Tryd.prog 65
  #[Value.int IntKind.i64 v', Value.int IntKind.i64 0, Value.int IntKind.i64 4, Value.int IntKind.i64 7] w
  fun (e : Ending) (w' : World) =>
  ∃ (n : Int),
  e = Ending.returned (Value.int IntKind.u32 n) ∧
  Calls Proofs.Tryd.prog 65
  #[Value.int IntKind.i64 v', Value.int IntKind.i64 5, Value.int IntKind.i64 11, Value.int IntKind.i64 25]
  w' fun (e : Ending) (w' : World) =>
  ∃ (n_1 : Int),
  e = Ending.returned (Value.int IntKind.u32 n_1) ∧
  R (Ending.returned (Value.int IntKind.u32 (IntKind.u32.wrap (n + n_1)))) w')
  (cnd (form' == 6)
  (Calls Proofs.Tryd.prog 65
  #[Value.int IntKind.i64 v', Value.int IntKind.i64 11, Value.int IntKind.i64 11, Value.int IntKind.i64 7] w
  fun (e : Ending) (w' : World) =>
  ∃ (n : Int),
  e = Ending.returned (Value.int IntKind.u32 n) ∧
  Calls Proofs.Tryd.prog 65
  #[Value.int IntKind.i64 v', Value.int IntKind.i64 1, Value.int IntKind.i64 4, Value.int IntKind.i64 8]
  w' fun (e : Ending) (w' : World) =>
  ∃ (n_1 : Int),
  e = Ending.returned (Value.int IntKind.u32 n_1) ∧
  Calls Proofs.Tryd.prog 65
  #[Value.int IntKind.i64 v', Value.int IntKind.i64 5, Value.int IntKind.i64 10,
  Value.int IntKind.i64 25]
  w' fun (e : Ending) (w' : World) =>
  ∃ (n_2 : Int),
  e = Ending.returned (Value.int IntKind.u32 n_2) ∧
  Calls Proofs.Tryd.prog 65
  #[Value.int IntKind.i64 v', Value.int IntKind.i64 12, Value.int IntKind.i64 12,
  Value.int IntKind.i64 31]
  w' fun (e : Ending) (w' : World) =>
  ∃ (n_3 : Int),
  e = Ending.returned (Value.int IntKind.u32 n_3) ∧
  R
  (Ending.returned
  (Value.int IntKind.u32
  (IntKind.u32.wrap (IntKind.u32.wrap (IntKind.u32.wrap (n + n_1) + n_2) + n_3))))
  w')
  (cnd (form' == 7)
  (Calls Proofs.Tryd.prog 65
  #[Value.int IntKind.i64 v', Value.int IntKind.i64 12, Value.int IntKind.i64 19, Value.int IntKind.i64 12]
  w fun (e : Ending) (w' : World) =>
  ∃ (n : Int),
  e = Ending.returned (Value.int IntKind.u32 n) ∧
  Calls Proofs.Tryd.prog 65
  #[Value.int IntKind.i64 v', Value.int IntKind.i64 11, Value.int IntKind.i64 11,
  Value.int IntKind.i64 20]
  w' fun (e : Ending) (w' : World) =>
  ∃ (n_1 : Int),
  e = Ending.returned (Value.int IntKind.u32 n_1) ∧
  Calls Proofs.Tryd.prog 65
  #[Value.int IntKind.i64 v', Value.int IntKind.i64 1, Value.int IntKind.i64 10,
  Value.int IntKind.i64 21]
  w' fun (e : Ending) (w' : World) =>
  ∃ (n_2 : Int),
  e = Ending.returned (Value.int IntKind.u32 n_2) ∧
  Calls Proofs.Tryd.prog 65
  #[Value.int IntKind.i64 v', Value.int IntKind.i64 20, Value.int IntKind.i64 20,
  Value.int IntKind.i64 31]
  w' fun (e : Ending) (w' : World) =>
  ∃ (n_3 : Int),
  e = Ending.returned (Value.int IntKind.u32 n_3) ∧
  R
  (Ending.returned
  (Value.int IntKind.u32
  (IntKind.u32.wrap
  (IntKind.u32.wrap (IntKind.u32.wrap (n + n_1) + n_2) + n_3))))
  w')
  (R (Ending.returned (Value.int IntKind.u32 0)) w))))))
theorem ref02_number.vc_eq (form' : Int) (v' : Int) (w : World) (R : Ending → World → Prop) : fnV Tryd.prog ref02_number.H 47 [Value.int IntKind.i64 form', Value.int IntKind.i64 v'] w R = ref02_number.vc form' v' w R := by kernel_rfl
theorem ref02_number.calls {form' : Int} {v' : Int} {w : World} {R : Ending → World → Prop} (h : ref02_number.vc form' v' w R) : Calls Tryd.prog 47 ([Value.int IntKind.i64 form', Value.int IntKind.i64 v'] : List Value).toArray w R := calls_of_eq (ref02_number.vc_eq form' v' w R) h

/- function 20: sacristy/sacristyref02.Encode -/
abbrev ref02_Encode.N : FuncId := 20
def ref02_Encode.H : Hints := {  }
def ref02_Encode.vc (x'_0 : Int) (x'_1 : Int) (x'_2 : Int) (x'_3 : Int) (x'_4 : Int) (w : World) (R : Ending → World → Prop) : Prop :=
  ∀ (w' : World),
  w' =
  w.alloc
  (Obj.cells
  #[Value.int IntKind.u8 x'_0, Value.int IntKind.u8 x'_1, Value.int IntKind.u8 x'_2, Value.int IntKind.u8 x'_3,
  Value.int IntKind.i64 x'_4]
  24) →
  ∃ (n : Int),
  w'.cell? (Addr.mk w.heap.size 0 none) = some (Value.int IntKind.u8 n) ∧
  Calls Proofs.Tryd.prog 18 #[Value.int IntKind.u8 n] w' fun (e : Ending) (w' : World) =>
  ∃ (n : Int),
  ∃ (n_1 : Int),
  ∃ (n_2 : Int),
  ∃ (n_3 : Int),
  ∃ (b : Bool),
  e =
  Ending.returned
  (Value.tuple
  #[Value.agg
  #[Value.int IntKind.u32 n, Value.int IntKind.u32 n_1, Value.int IntKind.u32 n_2,
  Value.int IntKind.i64 n_3],
  Value.bool b]) ∧
  ∀ (w'_1 : World),
  w'_1 =
  w'.alloc
  (Obj.cells
  #[Value.int IntKind.u32 0, Value.int IntKind.u32 0, Value.int IntKind.u32 0,
  Value.int IntKind.i64 0]
  45) →
  SetsAt w'_1 (Addr.mk w'.heap.size 0 none) 0
  [Value.int IntKind.u32 n, Value.int IntKind.u32 n_1, Value.int IntKind.u32 n_2,
  Value.int IntKind.i64 n_3] ∧
  ∀ (w'_2 : World),
  w'_2 =
  setCellsAt w'_1 (Addr.mk w'.heap.size 0 none) 0
  [Value.int IntKind.u32 n, Value.int IntKind.u32 n_1, Value.int IntKind.u32 n_2,
  Value.int IntKind.i64 n_3] →
  cnd (!b)
  (R (Ending.returned (Value.tuple #[Value.int IntKind.u32 0, Value.int IntKind.i64 2]))
  w'_2)
  (∃ (n : Int),
  w'_2.cell? (Addr.mk w'.heap.size 3 none) = some (Value.int IntKind.i64 n) ∧
  ∃ (n_4 : Int),
  ∃ (n_5 : Int),
  ∃ (n_6 : Int),
  ∃ (n_7 : Int),
  ∃ (n_8 : Int),
  (w'_2.cell? (Addr.mk w.heap.size 0 none) =
  some (Value.int IntKind.u8 n_4) ∧
  w'_2.cell? (Addr.mk w.heap.size 1 none) =
  some (Value.int IntKind.u8 n_5) ∧
  w'_2.cell? (Addr.mk w.heap.size 2 none) =
  some (Value.int IntKind.u8 n_6) ∧
  w'_2.cell? (Addr.mk w.heap.size 3 none) =
  some (Value.int IntKind.u8 n_7) ∧
  w'_2.cell? (Addr.mk w.heap.size 4 none) =
  some (Value.int IntKind.i64 n_8) ∧
  True) ∧
  Calls Proofs.Tryd.prog 46
  #[Value.int IntKind.i64 n,
  Value.agg
  #[Value.int IntKind.u8 n_4, Value.int IntKind.u8 n_5,
  Value.int IntKind.u8 n_6, Value.int IntKind.u8 n_7,
  Value.int IntKind.i64 n_8]]
  w'_2 fun (e : Ending) (w'_3 : World) =>
  ∃ (b : Bool),
  e = Ending.returned (Value.bool b) ∧
  cnd (!b)
  (R
  (Ending.returned
  (Value.tuple
  #[Value.int IntKind.u32 0, Value.int IntKind.i64 2]))
  w'_3)
  (∃ (n : Int),
  (∀ (w'_4 : World),
  Later w'_3 w'_4 →
  w'_4.cell? (Addr.mk w'.heap.size 0 none) =
  some (Value.int IntKind.u32 n)) ∧
  ∃ (n_9 : Int),
  (∀ (w' : World),
  Later w'_3 w' →
  w'.cell? (Addr.mk w.heap.size 1 none) =
  some (Value.int IntKind.u8 n_9)) ∧
  ∃ (n_10 : Int),
  (∀ (w'_4 : World),
  Later w'_3 w'_4 →
  w'_4.cell? (Addr.mk w'.heap.size 1 none) =
  some (Value.int IntKind.u32 n_10)) ∧
  ∃ (n_11 : Int),
  (∀ (w' : World),
  Later w'_3 w' →
  w'.cell? (Addr.mk w.heap.size 2 none) =
  some (Value.int IntKind.u8 n_11)) ∧
  ∃ (n_12 : Int),
  (∀ (w' : World),
  Later w'_3 w' →
  w'.cell?
  (Addr.mk w.heap.size 3 none) =
  some (Value.int IntKind.u8 n_12)) ∧
  ∃ (n_13 : Int),
  (∀ (w'_4 : World),
  Later w'_3 w'_4 →
  w'_4.cell?
  (Addr.mk w'.heap.size 2
  none) =
  some
  (Value.int IntKind.u32
  n_13)) ∧
  ∃ (n_14 : Int),
  (∀ (w'_4 : World),
  Later w'_3 w'_4 →
  w'_4.cell?
  (Addr.mk w'.heap.size 3
  none) =
  some
  (Value.int IntKind.i64
  n_14)) ∧
  ∃ (n_15 : Int),
  (∀ (w' : World),
  Later w'_3 w' →
  w'.cell?
  (Addr.mk w.heap.size 4
  none) =
  some
  (Value.int IntKind.i64
  n_15)) ∧
  ∃ (n_16 : Int),
  (∀ (w' : World),
  Later w'_3 w' →
  Calls Proofs.Tryd.prog
  47
  #[Value.int
  IntKind.i64
  n_14,
  Value.int
  IntKind.i64
  n_15]
  w'
  fun (e : Ending)
  (w'' : World) =>
  e =
  Ending.returned
  (Value.int
  IntKind.u32
  n_16) ∧
  Later w' w'') ∧
  ∀ (w' : World),
  Later w'_3 w' →
  R
  (Ending.returned
  (Value.tuple
  #[Value.int
  IntKind.u32
  (IntKind.u32.wrap
  (IntKind.u32.wrap
  (IntKind.u32.wrap
  (IntKind.u32.wrap
  (IntKind.u32.wrap
  (IntKind.u32.wrap
  (n +
  IntKind.u32.wrap
  (IntKind.u32.wrap
  n_9 *
  128)) +
  IntKind.u32.wrap
  (n_10 *
  4096)) +
  IntKind.u32.wrap
  (IntKind.u32.wrap
  n_11 *
  32768)) +
  IntKind.u32.wrap
  (IntKind.u32.wrap
  n_12 *
  1048576)) +
  IntKind.u32.wrap
  (n_13 *
  33554432)) +
  n_16)),
  Value.int
  IntKind.i64
  0]))
  w'))
theorem ref02_Encode.vc_eq (x'_0 : Int) (x'_1 : Int) (x'_2 : Int) (x'_3 : Int) (x'_4 : Int) (w : World) (R : Ending → World → Prop) : fnV Tryd.prog ref02_Encode.H 20 [Value.agg
  #[Value.int IntKind.u8 x'_0, Value.int IntKind.u8 x'_1, Value.int IntKind.u8 x'_2, Value.int IntKind.u8 x'_3,
  Value.int IntKind.i64 x'_4]] w R = ref02_Encode.vc x'_0 x'_1 x'_2 x'_3 x'_4 w R := by kernel_rfl
theorem ref02_Encode.calls {x'_0 : Int} {x'_1 : Int} {x'_2 : Int} {x'_3 : Int} {x'_4 : Int} {w : World} {R : Ending → World → Prop} (h : ref02_Encode.vc x'_0 x'_1 x'_2 x'_3 x'_4 w R) : Calls Tryd.prog 20 ([Value.agg
  #[Value.int IntKind.u8 x'_0, Value.int IntKind.u8 x'_1, Value.int IntKind.u8 x'_2, Value.int IntKind.u8 x'_3,
  Value.int IntKind.i64 x'_4]] : List Value).toArray w R := calls_of_eq (ref02_Encode.vc_eq x'_0 x'_1 x'_2 x'_3 x'_4 w R) h

end Go.Proofs.YtgchaghdhofnoaaDoor

/-
The explicit conditions of some functions of the program, printed by this repo's own program over VcTop: what is proved is that each is the condition.
Conditions: none.
-/
namespace Go.Proofs.YtgchaghdhofnoaaDoor
open Go Go.Vc Go.RowKit
set_option linter.unusedVariables false
set_option maxRecDepth 100000

/- function 46: sacristy/sacristyref02.named -/
abbrev ref02_named.N : FuncId := 46
def ref02_named.H : Hints := { conds := [(9095, [(95, .one .bool)])], regs := [(1, [(5, .one .bool)]), (2, [(6, .one .bool)]), (3, [(7, .one .bool)]), (4, [(93, .one .bool)])] }
def ref02_named.vc (form' : Int) (x'_0 : Int) (x'_1 : Int) (x'_2 : Int) (x'_3 : Int) (x'_4 : Int) (w : World) (R : Ending → World → Prop) : Prop :=
  ∀ (w' : World),
  w' =
  w.alloc
  (Obj.cells
  #[Value.int IntKind.u8 x'_0, Value.int IntKind.u8 x'_1, Value.int IntKind.u8 x'_2, Value.int IntKind.u8 x'_3,
  Value.int IntKind.i64 x'_4]
  24) →
  ∃ (J : List Value → World → Prop),
  cnd (form' == 1) (J [Value.bool true] w')
  (cnd (form' == 2) (J [Value.bool true] w')
  (cnd (form' == 3) (J [Value.bool true] w')
  (cnd (form' == 4) (J [Value.bool true] w') (J [Value.bool (form' == 7)] w')))) ∧
  ∀ (g : Nat → Value) (rd : Bool) (w' : World),
  J [Value.bool rd] w' →
  ∃ (J : List Value → World → Prop),
  cnd (form' == 1) (J [Value.bool true] w')
  (cnd (form' == 2) (J [Value.bool true] w')
  (cnd (form' == 3) (J [Value.bool true] w')
  (cnd (form' == 5) (J [Value.bool true] w') (J [Value.bool (form' == 6)] w')))) ∧
  ∀ (g : Nat → Value) (rs1 : Bool) (w' : World),
  J [Value.bool rs1] w' →
  ∃ (J : List Value → World → Prop),
  cnd (form' == 1) (J [Value.bool true] w')
  (cnd (form' == 5) (J [Value.bool true] w') (J [Value.bool (form' == 6)] w')) ∧
  ∀ (g : Nat → Value) (rs2 : Bool) (w' : World),
  J [Value.bool rs2] w' →
  ∃ (J : List Value → World → Prop),
  cnd (!rd)
  (∃ (n : Int),
  w'.cell? (Addr.mk w.heap.size 1 none) = some (Value.int IntKind.u8 n) ∧
  cnd (n != 0) (J [Value.bool true] w')
  (cnd (!rs1)
  (∃ (n : Int),
  w'.cell? (Addr.mk w.heap.size 2 none) = some (Value.int IntKind.u8 n) ∧
  cnd (n != 0) (J [Value.bool true] w')
  (cnd (!rs2)
  (∃ (n : Int),
  w'.cell? (Addr.mk w.heap.size 3 none) =
  some (Value.int IntKind.u8 n) ∧
  cnd (n != 0) (J [Value.bool true] w')
  (∃ (n : Int),
  w'.cell? (Addr.mk w.heap.size 1 none) =
  some (Value.int IntKind.u8 n) ∧
  cnd (decide (n > 31)) (J [Value.bool true] w')
  (∃ (n : Int),
  w'.cell? (Addr.mk w.heap.size 2 none) =
  some (Value.int IntKind.u8 n) ∧
  cnd (decide (n > 31)) (J [Value.bool true] w')
  (∃ (n : Int),
  w'.cell? (Addr.mk w.heap.size 3 none) =
  some (Value.int IntKind.u8 n) ∧
  J [Value.bool (decide (n > 31))] w'))))
  (∃ (n : Int),
  w'.cell? (Addr.mk w.heap.size 1 none) =
  some (Value.int IntKind.u8 n) ∧
  cnd (decide (n > 31)) (J [Value.bool true] w')
  (∃ (n : Int),
  w'.cell? (Addr.mk w.heap.size 2 none) =
  some (Value.int IntKind.u8 n) ∧
  cnd (decide (n > 31)) (J [Value.bool true] w')
  (∃ (n : Int),
  w'.cell? (Addr.mk w.heap.size 3 none) =
  some (Value.int IntKind.u8 n) ∧
  J [Value.bool (decide (n > 31))] w')))))
  (cnd (!rs2)
  (∃ (n : Int),
  w'.cell? (Addr.mk w.heap.size 3 none) = some (Value.int IntKind.u8 n) ∧
  cnd (n != 0) (J [Value.bool true] w')
  (∃ (n : Int),
  w'.cell? (Addr.mk w.heap.size 1 none) =
  some (Value.int IntKind.u8 n) ∧
  cnd (decide (n > 31)) (J [Value.bool true] w')
  (∃ (n : Int),
  w'.cell? (Addr.mk w.heap.size 2 none) =
  some (Value.int IntKind.u8 n) ∧
  cnd (decide (n > 31)) (J [Value.bool true] w')
  (∃ (n : Int),
  w'.cell? (Addr.mk w.heap.size 3 none) =
  some (Value.int IntKind.u8 n) ∧
  J [Value.bool (decide (n > 31))] w'))))
  (∃ (n : Int),
  w'.cell? (Addr.mk w.heap.size 1 none) = some (Value.int IntKind.u8 n) ∧
  cnd (decide (n > 31)) (J [Value.bool true] w')
  (∃ (n : Int),
  w'.cell? (Addr.mk w.heap.size 2 none) =
  some (Value.int IntKind.u8 n) ∧
  cnd (decide (n > 31)) (J [Value.bool true] w')
  (∃ (n : Int),
  w'.cell? (Addr.mk w.heap.size 3 none) =
  some (Value.int IntKind.u8 n) ∧
  J [Value.bool (decide (n > 31))] w'))))))
  (cnd (!rs1)
  (∃ (n : Int),
  w'.cell? (Addr.mk w.heap.size 2 none) = some (Value.int IntKind.u8 n) ∧
  cnd (n != 0) (J [Value.bool true] w')
  (cnd (!rs2)
  (∃ (n : Int),
  w'.cell? (Addr.mk w.heap.size 3 none) = some (Value.int IntKind.u8 n) ∧
  cnd (n != 0) (J [Value.bool true] w')
  (∃ (n : Int),
  w'.cell? (Addr.mk w.heap.size 1 none) =
  some (Value.int IntKind.u8 n) ∧
  cnd (decide (n > 31)) (J [Value.bool true] w')
  (∃ (n : Int),
  w'.cell? (Addr.mk w.heap.size 2 none) =
  some (Value.int IntKind.u8 n) ∧
  cnd (decide (n > 31)) (J [Value.bool true] w')
  (∃ (n : Int),
  w'.cell? (Addr.mk w.heap.size 3 none) =
  some (Value.int IntKind.u8 n) ∧
  J [Value.bool (decide (n > 31))] w'))))
  (∃ (n : Int),
  w'.cell? (Addr.mk w.heap.size 1 none) = some (Value.int IntKind.u8 n) ∧
  cnd (decide (n > 31)) (J [Value.bool true] w')
  (∃ (n : Int),
  w'.cell? (Addr.mk w.heap.size 2 none) =
  some (Value.int IntKind.u8 n) ∧
  cnd (decide (n > 31)) (J [Value.bool true] w')
  (∃ (n : Int),
  w'.cell? (Addr.mk w.heap.size 3 none) =
  some (Value.int IntKind.u8 n) ∧
  J [Value.bool (decide (n > 31))] w')))))
  (cnd (!rs2)
  (∃ (n : Int),
  w'.cell? (Addr.mk w.heap.size 3 none) = some (Value.int IntKind.u8 n) ∧
  cnd (n != 0) (J [Value.bool true] w')
  (∃ (n : Int),
  w'.cell? (Addr.mk w.heap.size 1 none) = some (Value.int IntKind.u8 n) ∧
  cnd (decide (n > 31)) (J [Value.bool true] w')
  (∃ (n : Int),
  w'.cell? (Addr.mk w.heap.size 2 none) =
  some (Value.int IntKind.u8 n) ∧
  cnd (decide (n > 31)) (J [Value.bool true] w')
  (∃ (n : Int),
  w'.cell? (Addr.mk w.heap.size 3 none) =
  some (Value.int IntKind.u8 n) ∧
  J [Value.bool (decide (n > 31))] w'))))
  (∃ (n : Int),
  w'.cell? (Addr.mk w.heap.size 1 none) = some (Value.int IntKind.u8 n) ∧
  cnd (decide (n > 31)) (J [Value.bool true] w')
  (∃ (n : Int),
  w'.cell? (Addr.mk w.heap.size 2 none) = some (Value.int IntKind.u8 n) ∧
  cnd (decide (n > 31)) (J [Value.bool true] w')
  (∃ (n : Int),
  w'.cell? (Addr.mk w.heap.size 3 none) =
  some (Value.int IntKind.u8 n) ∧
  J [Value.bool (decide (n > 31))] w'))))) ∧
  ∀ (g : Nat → Value) (s93 : Bool) (w' : World),
  J [Value.bool s93] w' →
  cnd s93 (R (Ending.returned (Value.bool false)) w')
  (∃ (J : List Value → World → Prop),
  cnd (form' == 2) (J [Value.bool (form' == 2)] w')
  (J [Value.bool (form' == 5)] w') ∧
  ∀ (g : Nat → Value) (s95 : Bool) (w' : World),
  J [Value.bool s95] w' →
  cnd s95
  (∃ (n : Int),
  w'.cell? (Addr.mk w.heap.size 4 none) =
  some (Value.int IntKind.i64 n) ∧
  Calls Proofs.Tryd.prog 64
  #[Value.int IntKind.i64 n, Value.int IntKind.i64 12] w'
  fun (e : Ending) (w' : World) =>
  ∃ (b : Bool),
  e = Ending.returned (Value.bool b) ∧
  R (Ending.returned (Value.bool b)) w')
  (cnd (form' == 3)
  (∃ (n : Int),
  w'.cell? (Addr.mk w.heap.size 4 none) =
  some (Value.int IntKind.i64 n) ∧
  cnd (decide (n ≥ 0))
  (∃ (n : Int),
  w'.cell? (Addr.mk w.heap.size 4 none) =
  some (Value.int IntKind.i64 n) ∧
  R (Ending.returned (Value.bool (decide (n ≤ 63)))) w')
  (R (Ending.returned (Value.bool false)) w'))
  (cnd (form' == 4)
  (∃ (n : Int),
  w'.cell? (Addr.mk w.heap.size 4 none) =
  some (Value.int IntKind.i64 n) ∧
  Calls Proofs.Tryd.prog 64
  #[Value.int IntKind.i64 n, Value.int IntKind.i64 32] w'
  fun (e : Ending) (w' : World) =>
  ∃ (b : Bool),
  e = Ending.returned (Value.bool b) ∧
  cnd b
  (∃ (n : Int),
  w'.cell? (Addr.mk w.heap.size 4 none) =
  some (Value.int IntKind.i64 n) ∧
  R (Ending.returned (Value.bool (n.tmod 4096 == 0)))
  w')
  (R (Ending.returned (Value.bool false)) w'))
  (cnd (form' == 6)
  (∃ (n : Int),
  w'.cell? (Addr.mk w.heap.size 4 none) =
  some (Value.int IntKind.i64 n) ∧
  Calls Proofs.Tryd.prog 64
  #[Value.int IntKind.i64 n, Value.int IntKind.i64 13] w'
  fun (e : Ending) (w' : World) =>
  ∃ (b : Bool),
  e = Ending.returned (Value.bool b) ∧
  cnd b
  (∃ (n : Int),
  w'.cell? (Addr.mk w.heap.size 4 none) =
  some (Value.int IntKind.i64 n) ∧
  R (Ending.returned (Value.bool (n.tmod 2 == 0)))
  w')
  (R (Ending.returned (Value.bool false)) w'))
  (cnd (form' == 7)
  (∃ (n : Int),
  w'.cell? (Addr.mk w.heap.size 4 none) =
  some (Value.int IntKind.i64 n) ∧
  Calls Proofs.Tryd.prog 64
  #[Value.int IntKind.i64 n, Value.int IntKind.i64 21] w'
  fun (e : Ending) (w' : World) =>
  ∃ (b : Bool),
  e = Ending.returned (Value.bool b) ∧
  cnd b
  (∃ (n : Int),
  w'.cell? (Addr.mk w.heap.size 4 none) =
  some (Value.int IntKind.i64 n) ∧
  R (Ending.returned (Value.bool (n.tmod 2 == 0)))
  w')
  (R (Ending.returned (Value.bool false)) w'))
  (∃ (n : Int),
  w'.cell? (Addr.mk w.heap.size 4 none) =
  some (Value.int IntKind.i64 n) ∧
  R (Ending.returned (Value.bool (n == 0))) w'))))))
theorem ref02_named.vc_eq (form' : Int) (x'_0 : Int) (x'_1 : Int) (x'_2 : Int) (x'_3 : Int) (x'_4 : Int) (w : World) (R : Ending → World → Prop) : fnV Tryd.prog ref02_named.H 46 [Value.int IntKind.i64 form',
  Value.agg
  #[Value.int IntKind.u8 x'_0, Value.int IntKind.u8 x'_1, Value.int IntKind.u8 x'_2, Value.int IntKind.u8 x'_3,
  Value.int IntKind.i64 x'_4]] w R = ref02_named.vc form' x'_0 x'_1 x'_2 x'_3 x'_4 w R := by kernel_rfl
theorem ref02_named.calls {form' : Int} {x'_0 : Int} {x'_1 : Int} {x'_2 : Int} {x'_3 : Int} {x'_4 : Int} {w : World} {R : Ending → World → Prop} (h : ref02_named.vc form' x'_0 x'_1 x'_2 x'_3 x'_4 w R) : Calls Tryd.prog 46 ([Value.int IntKind.i64 form',
  Value.agg
  #[Value.int IntKind.u8 x'_0, Value.int IntKind.u8 x'_1, Value.int IntKind.u8 x'_2, Value.int IntKind.u8 x'_3,
  Value.int IntKind.i64 x'_4]] : List Value).toArray w R := calls_of_eq (ref02_named.vc_eq form' x'_0 x'_1 x'_2 x'_3 x'_4 w R) h

end Go.Proofs.YtgchaghdhofnoaaDoor

/-
The explicit conditions of some functions of the program, printed by this repo's own program over VcTop: what is proved is that each is the condition.
Conditions: none.
-/
namespace Go.Proofs.YtgchaghdhofnoaaDoor
open Go Go.Vc Go.RowKit
set_option linter.unusedVariables false
set_option maxRecDepth 100000

/- function 63: sacristy/sacristyref01.Sign -/
abbrev ref01_Sign.N : FuncId := 63
def ref01_Sign.H : Hints := { loops := [(6, [(6, .one (.int .u64)), (7, .one (.int .i64))])] }
def ref01_Sign.vc (v' : Int) (bits' : Int) (w : World) (R : Ending → World → Prop) : Prop :=
  cnd (decide (bits' < 1)) (R (Ending.returned (Value.tuple #[Value.int IntKind.u64 0, Value.int IntKind.i64 2])) w)
  (cnd (decide (bits' > 64)) (R (Ending.returned (Value.tuple #[Value.int IntKind.u64 0, Value.int IntKind.i64 2])) w)
  (∃ (I : List Value → World → Prop),
  ∃ (μ : List Value → World → Nat),
  I [Value.int IntKind.u64 0, Value.int IntKind.i64 63] w ∧
  ∀ (g : Nat → Value) (out i : Int) (w' : World),
  I [Value.int IntKind.u64 out, Value.int IntKind.i64 i] w' →
  cnd (decide (i ≥ 0))
  (cnd (decide (IntKind.u64.wrap (gomin i (IntKind.i64.wrap (bits' - 1))) < 0)) False
  (Goes I μ [Value.int IntKind.u64 out, Value.int IntKind.i64 i] w'
  [Value.int IntKind.u64
  (IntKind.u64.wrap
  (IntKind.u64.wrap (out * 2) +
  (v'.fdiv
  (2 ^ min (IntKind.u64.wrap (gomin i (IntKind.i64.wrap (bits' - 1)))).toNat 64)).tmod
  2)),
  Value.int IntKind.i64 (IntKind.i64.wrap (i - 1))]
  w'))
  (R (Ending.returned (Value.tuple #[Value.int IntKind.u64 out, Value.int IntKind.i64 0])) w')))
theorem ref01_Sign.vc_eq (v' : Int) (bits' : Int) (w : World) (R : Ending → World → Prop) : fnV Tryd.prog ref01_Sign.H 63 [Value.int IntKind.u64 v', Value.int IntKind.i64 bits'] w R = ref01_Sign.vc v' bits' w R := by kernel_rfl
theorem ref01_Sign.calls {v' : Int} {bits' : Int} {w : World} {R : Ending → World → Prop} (h : ref01_Sign.vc v' bits' w R) : Calls Tryd.prog 63 ([Value.int IntKind.u64 v', Value.int IntKind.i64 bits'] : List Value).toArray w R := calls_of_eq (ref01_Sign.vc_eq v' bits' w R) h

/- function 64: sacristy/sacristyref01.Fits -/
abbrev ref01_Fits.N : FuncId := 64
def ref01_Fits.H : Hints := {  }
def ref01_Fits.vc (v' : Int) (bits' : Int) (w : World) (R : Ending → World → Prop) : Prop :=
  Calls Proofs.Tryd.prog 63 #[Value.int IntKind.u64 (IntKind.u64.wrap v'), Value.int IntKind.i64 bits'] w
  fun (e : Ending) (w' : World) =>
  ∃ (n : Int),
  ∃ (n_1 : Int),
  e = Ending.returned (Value.tuple #[Value.int IntKind.u64 n, Value.int IntKind.i64 n_1]) ∧
  cnd (n_1 == 0) (R (Ending.returned (Value.bool (n == IntKind.u64.wrap v'))) w')
  (R (Ending.returned (Value.bool false)) w')
theorem ref01_Fits.vc_eq (v' : Int) (bits' : Int) (w : World) (R : Ending → World → Prop) : fnV Tryd.prog ref01_Fits.H 64 [Value.int IntKind.i64 v', Value.int IntKind.i64 bits'] w R = ref01_Fits.vc v' bits' w R := by kernel_rfl
theorem ref01_Fits.calls {v' : Int} {bits' : Int} {w : World} {R : Ending → World → Prop} (h : ref01_Fits.vc v' bits' w R) : Calls Tryd.prog 64 ([Value.int IntKind.i64 v', Value.int IntKind.i64 bits'] : List Value).toArray w R := calls_of_eq (ref01_Fits.vc_eq v' bits' w R) h

/- function 33: sacristy/sacristyref01.Word -/
abbrev ref01_Word.N : FuncId := 33
def ref01_Word.H : Hints := { loops := [(6, [(4, .one (.int .u64)), (5, .one (.int .i64))])] }
def ref01_Word.vc (s' : ByteArray) (w : World) (R : Ending → World → Prop) : Prop :=
  cnd (decide ((↑s'.size : Int) < 1))
  (R (Ending.returned (Value.tuple #[Value.int IntKind.u64 0, Value.int IntKind.i64 2])) w)
  (cnd (decide ((↑s'.size : Int) > 8))
  (R (Ending.returned (Value.tuple #[Value.int IntKind.u64 0, Value.int IntKind.i64 2])) w)
  (∃ (I : List Value → World → Prop),
  ∃ (μ : List Value → World → Nat),
  I [Value.int IntKind.u64 0, Value.int IntKind.i64 (IntKind.i64.wrap ((↑s'.size : Int) - 1))] w ∧
  ∀ (g : Nat → Value) (v i : Int) (w' : World),
  I [Value.int IntKind.u64 v, Value.int IntKind.i64 i] w' →
  cnd (decide (i ≥ 0))
  (0 ≤ i ∧
  ∃ (b : UInt8),
  s'[i.toNat]? = some b ∧
  Goes I μ [Value.int IntKind.u64 v, Value.int IntKind.i64 i] w'
  [Value.int IntKind.u64
  (IntKind.u64.wrap (IntKind.u64.wrap (256 * v) + IntKind.u64.wrap (↑b.toNat : Int))),
  Value.int IntKind.i64 (IntKind.i64.wrap (i - 1))]
  w')
  (R (Ending.returned (Value.tuple #[Value.int IntKind.u64 v, Value.int IntKind.i64 0])) w')))
theorem ref01_Word.vc_eq (s' : ByteArray) (w : World) (R : Ending → World → Prop) : fnV Tryd.prog ref01_Word.H 33 [Value.string s'] w R = ref01_Word.vc s' w R := by kernel_rfl
theorem ref01_Word.calls {s' : ByteArray} {w : World} {R : Ending → World → Prop} (h : ref01_Word.vc s' w R) : Calls Tryd.prog 33 ([Value.string s'] : List Value).toArray w R := calls_of_eq (ref01_Word.vc_eq s' w R) h

end Go.Proofs.YtgchaghdhofnoaaDoor

/-
The contracts of the chapter's reference package, second part: signs, bytes.
Conditions: each number is of its kind, as each theorem says.
-/
namespace Go.Proofs.YtgchaghdhofnoaaDoor
open Go Go.Vc Go.RowKit
set_option linter.unusedVariables false
set_option linter.unusedSimpArgs false
set_option linter.unnecessarySimpa false
set_option maxRecDepth 100000

/-! ### Sign, Fits -/
theorem nat_bit (n i : Nat) : n / 2 ^ i % 2 = n % 2 ^ (i + 1) / 2 ^ i := by
  rw [Nat.pow_succ, Nat.mod_mul_right_div_self]
theorem nat_mod_mod (n : Nat) {i b : Nat} (h : i ≤ b) : n % 2 ^ b % 2 ^ i = n % 2 ^ i := Nat.mod_mod_of_dvd _ (Nat.pow_dvd_pow 2 h)
/-- The bits of what the sign's law makes. -/
theorem sign_bit (n b i : Nat) (h1 : 1 ≤ b) (h2 : b ≤ 64) (hi : i < 64) (X : Nat) (hX : (X : Int) = signI n b % 18446744073709551616) : X / 2 ^ i % 2 = n / 2 ^ min i (b - 1) % 2 := by
  obtain ⟨c, rfl⟩ : ∃ c, b = c + 1 := ⟨b - 1, by omega⟩
  simp only [Nat.add_sub_cancel]
  have hp : 2 ^ (c + 1) = 2 * 2 ^ c := by rw [Nat.pow_succ, Nat.mul_comm]
  have hc : 0 < 2 ^ c := Nat.two_pow_pos c
  have hle : 2 ^ (c + 1) ≤ 2 ^ 64 := Nat.pow_le_pow_right (by decide) h2
  have hr : n % 2 ^ (c + 1) < 2 ^ (c + 1) := Nat.mod_lt _ (by omega)
  have hX' : X = if 2 ^ c ≤ n % 2 ^ (c + 1) then n % 2 ^ (c + 1) + (2 ^ 64 - 2 ^ (c + 1)) else n % 2 ^ (c + 1) := by
    unfold signI at hX
    have e1 : ((n : Int) % 2 ^ (c + 1)) = ((n % 2 ^ (c + 1) : Nat) : Int) := by simp
    have e2 : ((2 : Int) ^ (c + 1 - 1)) = ((2 ^ c : Nat) : Int) := by simp
    have e3 : ((2 : Int) ^ (c + 1)) = ((2 ^ (c + 1) : Nat) : Int) := by simp
    rw [e1, e2, e3] at hX
    generalize n % 2 ^ (c + 1) = r at *
    generalize 2 ^ (c + 1) = N at *
    generalize 2 ^ c = C at *
    split
    · rw [if_pos (by omega)] at hX; omega
    · rw [if_neg (by omega)] at hX; omega
  by_cases hic : i ≤ c
  · rw [Nat.min_eq_left hic, nat_bit, nat_bit]
    congr 1
    have hd : 2 ^ (i + 1) ∣ 2 ^ 64 - 2 ^ (c + 1) := Nat.dvd_sub (Nat.pow_dvd_pow 2 (by omega)) (Nat.pow_dvd_pow 2 (by omega))
    rw [hX']
    split
    · rw [Nat.add_mod, Nat.mod_eq_zero_of_dvd hd, Nat.add_zero, Nat.mod_mod, nat_mod_mod _ (by omega)]
    · rw [nat_mod_mod _ (by omega)]
  · rw [Nat.min_eq_right (by omega), nat_bit n c, hX']
    have hci : 2 ^ (c + 1) ≤ 2 ^ i := Nat.pow_le_pow_right (by decide) (by omega)
    split
    · rename_i hs
      have e1 : n % 2 ^ (c + 1) / 2 ^ c = 1 := Nat.div_eq_of_lt_le (by omega) (by omega)
      rw [e1]
      obtain ⟨d, hd⟩ : ∃ d, i + d = 63 := ⟨63 - i, by omega⟩
      have hpi : (2 : Nat) ^ 64 = 2 ^ i * (2 * 2 ^ d) := by rw [← Nat.pow_succ', ← Nat.pow_add, show i + (d + 1) = 64 by omega]
      have hd1 : 0 < 2 ^ d := Nat.two_pow_pos d
      have hlow : 2 ^ i * (2 * 2 ^ d - 1) ≤ n % 2 ^ (c + 1) + (2 ^ 64 - 2 ^ (c + 1)) := by rw [Nat.mul_sub, ← hpi]; omega
      have hup : n % 2 ^ (c + 1) + (2 ^ 64 - 2 ^ (c + 1)) < 2 ^ i * (2 * 2 ^ d - 1 + 1) := by rw [show 2 * 2 ^ d - 1 + 1 = 2 * 2 ^ d by omega, ← hpi]; omega
      have e2 : (n % 2 ^ (c + 1) + (2 ^ 64 - 2 ^ (c + 1))) / 2 ^ i = 2 * 2 ^ d - 1 := Nat.div_eq_of_lt_le (by rw [Nat.mul_comm]; exact hlow) (by rw [Nat.mul_comm]; exact hup)
      rw [e2]; omega
    · rename_i hs
      rw [Nat.div_eq_of_lt (show n % 2 ^ (c + 1) < 2 ^ i by omega), Nat.div_eq_of_lt (show n % 2 ^ (c + 1) < 2 ^ c by omega)]
theorem ref01_Sign_ok (v bits : Int) (hv : 0 ≤ v) (hb : -9223372036854775808 ≤ bits) (hb1 : bits < 9223372036854775808) (w : World) :
    Calls Tryd.prog ref01_Sign.N #[u64v v, i64v bits] w (Gives (pairv (u64v (signv v bits)) (i64v (signe bits))) w) := by
  refine ref01_Sign.calls ?_
  unfold ref01_Sign.vc
  obtain ⟨n, rfl⟩ := Int.eq_ofNat_of_zero_le hv
  by_cases h : 1 ≤ bits ∧ bits ≤ 64
  · have e3 : signe bits = 0 := by unfold signe; rw [if_pos h]
    have e2 : signv n bits = signI n bits.toNat % 18446744073709551616 := by unfold signv; rw [if_pos h]
    rw [e3, e2]
    obtain ⟨X, hX⟩ := Int.eq_ofNat_of_zero_le (Int.emod_nonneg (signI n bits.toNat) (show (18446744073709551616 : Int) ≠ 0 by decide))
    have hXlt := Int.emod_lt_of_pos (signI n bits.toNat) (show (0 : Int) < 18446744073709551616 by decide)
    rw [hX]
    rw [hX] at hXlt
    refine cnd_false (by simp; omega) (cnd_false (by simp; omega) ?_)
    refine ⟨fun vs w' => ∃ k : Nat, k ≤ 64 ∧ vs = [u64v ((X / 2 ^ k : Nat) : Int), i64v ((k : Int) - 1)] ∧ w' = w, fun vs _ => match vs with | [_, .int _ i] => (i + 1).toNat | _ => 0, ⟨64, by omega, ?_, rfl⟩, ?_⟩
    · rw [Nat.div_eq_of_lt (show X < 2 ^ 64 by omega)]; rfl
    rintro g out i w' ⟨k, hk, hs, rfl⟩
    simp only [List.cons.injEq, Value.int.injEq, true_and, and_true] at hs
    obtain ⟨rfl, rfl⟩ := hs
    refine cnd_of (fun hlt => ?_) (fun hge => ?_)
    · have hlt := of_decide_eq_true hlt
      obtain ⟨m, rfl⟩ : ∃ m, k = m + 1 := ⟨k - 1, by omega⟩
      have eg : gomin (((m + 1 : Nat) : Int) - 1) (IntKind.i64.wrap (bits - 1)) = ((min m (bits.toNat - 1) : Nat) : Int) := by
        rw [i64_in (by omega) (by omega)]; unfold gomin; split <;> omega
      rw [eg, u64_in (x := ((min m (bits.toNat - 1) : Nat) : Int)) (by omega) (by omega)]
      refine cnd_false (A := False) (decide_eq_false (Int.not_lt.mpr (Int.natCast_nonneg (min m (bits.toNat - 1))))) ?_
      have hb := sign_bit n bits.toNat m (by omega) (by omega) (by omega) X hX.symm
      have e4 : ((n : Int).fdiv (2 ^ min ((min m (bits.toNat - 1) : Nat) : Int).toNat 64)).tmod 2 = ((n / 2 ^ min m (bits.toNat - 1) % 2 : Nat) : Int) := by
        rw [bit_of _ (by omega), show min ((min m (bits.toNat - 1) : Nat) : Int).toNat 64 = min m (bits.toNat - 1) by omega]; simp
      rw [e4, ← hb, i64_down m (by omega)]
      have hx : X / 2 ^ (m + 1) = X / 2 ^ m / 2 := by rw [Nat.pow_succ, Nat.div_div_eq_div_mul]
      have hxle : X / 2 ^ m ≤ X := Nat.div_le_self _ _
      refine ⟨⟨m, by omega, ?_, rfl⟩, by simp only; omega⟩
      rw [hx, wrap_u64, wrap_u64]
      clear hb e4 eg hX
      generalize X / 2 ^ m = Y at *
      congr 2
      omega
    · have hge := of_decide_eq_false hge
      obtain rfl : k = 0 := by omega
      rw [Nat.pow_zero, Nat.div_one]
      exact ⟨rfl, Later.refl _⟩
  · have e2 : signv n bits = 0 := by unfold signv; rw [if_neg h]
    have e3 : signe bits = 2 := by unfold signe; rw [if_neg h]
    rw [e2, e3]
    by_cases h1 : bits < 1
    · exact cnd_true (by simpa using h1) ⟨rfl, Later.refl _⟩
    · exact cnd_false (by simpa using h1) (cnd_true (by simp; omega) ⟨rfl, Later.refl _⟩)
theorem ref01_Fits_ok (v bits : Int) (hv : -9223372036854775808 ≤ v) (hv1 : v < 9223372036854775808) (hb : -9223372036854775808 ≤ bits) (hb1 : bits < 9223372036854775808) (w : World) :
    Calls Tryd.prog ref01_Fits.N #[i64v v, i64v bits] w (Gives (.bool (fitsv v bits)) w) := by
  refine ref01_Fits.calls ?_
  unfold ref01_Fits.vc
  refine (ref01_Sign_ok _ bits (by rw [wrap_u64]; omega) hb hb1 _).mono fun e w' ⟨he, hl⟩ => ⟨_, _, he, ?_⟩
  by_cases h : 1 ≤ bits ∧ bits ≤ 64
  · have e2 : signv (IntKind.u64.wrap v) bits = signI v bits.toNat % 18446744073709551616 := by
      unfold signv; rw [if_pos h, wrap_u64, signI_mod _ _ (by omega)]
    have e3 : signe bits = 0 := by unfold signe; rw [if_pos h]
    have hr := signI_range v bits.toNat (by omega)
    have hp := pow_le63 bits.toNat (by omega) (by omega)
    rw [e2, e3, wrap_u64]
    refine cnd_true rfl ⟨?_, hl⟩
    congr 2
    rw [Bool.eq_iff_iff]
    simp only [fitsv, beq_iff_eq, decide_eq_true_eq]
    refine ⟨fun he => ⟨h.1, h.2, by omega, by omega⟩, fun he => by rw [signI_of_range v _ (by omega) (by omega) (by omega)]⟩
  · have e3 : signe bits = 2 := by unfold signe; rw [if_neg h]
    rw [e3]
    refine cnd_false rfl ⟨?_, hl⟩
    have : fitsv v bits = false := by unfold fitsv; rw [decide_eq_false_iff_not]; intro hh; exact h ⟨hh.1, hh.2.1⟩
    rw [this]

/-! ### Bytes, Word -/
theorem rowU8 : RowTy Tryd.prog 72 5 1 1 := RowTy.of (.int .u8 0) (by kernel_rfl) (by kernel_rfl) rfl (by decide)
theorem ref01_Word_ok (s : ByteArray) (hs : s.size < 9223372036854775808) (w : World) :
    Calls Tryd.prog ref01_Word.N #[.string s] w (Gives (if 1 ≤ s.size ∧ s.size ≤ 8 then pairv (u64v (wordL s.data.toList)) okv else pairv (u64v 0) (i64v 2)) w) := by
  refine ref01_Word.calls ?_
  unfold ref01_Word.vc
  have hlen : s.data.toList.length = s.size := by simp
  by_cases h : 1 ≤ s.size ∧ s.size ≤ 8
  · rw [if_pos h]
    refine cnd_false (by simp; omega) (cnd_false (by simp; omega) ?_)
    refine ⟨fun vs w' => ∃ k : Nat, k ≤ s.size ∧ vs = [u64v (wordL (s.data.toList.drop k)), i64v ((k : Int) - 1)] ∧ w' = w, fun vs _ => match vs with | [_, .int _ i] => (i + 1).toNat | _ => 0, ⟨s.size, by omega, ?_, rfl⟩, ?_⟩
    · rw [List.drop_of_length_le (by omega), i64_in (by omega) (by omega)]; rfl
    rintro g v i w' ⟨k, hk, hs', rfl⟩
    simp only [List.cons.injEq, Value.int.injEq, true_and, and_true] at hs'
    obtain ⟨rfl, rfl⟩ := hs'
    refine cnd_of (fun hlt => ?_) (fun hge => ?_)
    · have hlt := of_decide_eq_true hlt
      obtain ⟨m, rfl⟩ : ∃ m, k = m + 1 := ⟨k - 1, by omega⟩
      obtain ⟨b, hbk⟩ : ∃ b, s.data.toList[m]'(by omega) = b := ⟨_, rfl⟩
      refine ⟨by omega, b, ?_, ?_⟩
      · rw [show ((((m + 1 : Nat) : Int) - 1).toNat) = m by omega, ← hbk]; exact get_byte (by omega)
      have hb8 : b.toNat < 256 := b.toNat_lt
      have hdrop : s.data.toList.drop m = b :: s.data.toList.drop (m + 1) := by
        rw [List.drop_eq_getElem_cons (by omega), hbk]
      have hwl := wordL_lt (s.data.toList.drop (m + 1))
      rw [List.length_drop] at hwl
      have hp : (2 : Nat) ^ (8 * (s.data.toList.length - (m + 1))) ≤ 2 ^ 56 := Nat.pow_le_pow_right (by decide) (by omega)
      refine ⟨⟨m, by omega, ?_, rfl⟩, ?_⟩
      · rw [hdrop, wordL, i64_down m (by omega)]
        congr 2
        rw [wrap_u64, wrap_u64, wrap_u64]
        omega
      · simp only
        rw [i64_down m (by omega)]; omega
    · have hge := of_decide_eq_false hge
      obtain rfl : k = 0 := by omega
      rw [List.drop_zero]
      exact ⟨rfl, Later.refl _⟩
  · rw [if_neg h]
    by_cases h1 : s.size < 1
    · exact cnd_true (by simp; omega) ⟨rfl, Later.refl _⟩
    · exact cnd_false (by simp; omega) (cnd_true (by simp; omega) ⟨rfl, Later.refl _⟩)
end Go.Proofs.YtgchaghdhofnoaaDoor

/-
The contracts of the chapter's reference package: it comes to the same words.
Conditions: each number is of its kind.
-/
namespace Go.Proofs.YtgchaghdhofnoaaDoor
open Go Go.Vc Go.RowKit
set_option linter.unusedVariables false
set_option linter.unusedSimpArgs false
set_option linter.unnecessarySimpa false
set_option maxRecDepth 100000

/-! ### rows -/
def formD (m : Int) : FD := if m = 1 then twoD else if m = 2 then numberD else if m = 3 then shiftD else if m = 4 then largeD else if m = 5 then storeD else if m = 6 then branchD else if m = 7 then jumpD else bareD
def tabR : List (Int × Int × Int × Int) :=
  [(51, 0, 0, 1), (51, 0, 32, 1), (51, 1, 0, 1), (51, 2, 0, 1), (51, 3, 0, 1), (51, 4, 0, 1), (51, 5, 0, 1), (51, 5, 32, 1), (51, 6, 0, 1), (51, 7, 0, 1), (51, 0, 1, 1), (51, 3, 1, 1), (51, 5, 1, 1), (51, 7, 1, 1),
   (19, 0, 0, 2), (19, 3, 0, 2), (19, 4, 0, 2), (19, 6, 0, 2), (19, 7, 0, 2), (19, 1, 0, 3), (19, 5, 0, 3), (19, 5, 32, 3), (55, 0, 0, 4), (3, 4, 0, 2), (3, 3, 0, 2),
   (35, 0, 0, 5), (35, 3, 0, 5), (99, 0, 0, 6), (99, 1, 0, 6), (99, 6, 0, 6), (99, 7, 0, 6), (111, 0, 0, 7), (103, 0, 0, 2), (115, 0, 0, 8)]
theorem tabR_is : tabR.map (fun x => (x.1, x.2.1, x.2.2.1, formD x.2.2.2)) = tabL := rfl
theorem tabR_forms : tabR.all (fun x => decide (1 ≤ x.2.2.2 ∧ x.2.2.2 ≤ 8)) = true := by decide
abbrev rrow (c f g m : Int) : Value := .agg #[u32v c, u32v f, u32v g, i64v m]
theorem ret4 {w0 w : World} {L : List Blk} (h : Trk w0 w L) (k : Nat) {b : Nat} {cs : List Value} {c f g m : Int} (hk : L[k]? = some (b, cs)) (hc : cs.length = 4) {R : Int → Int → Int → Int → World → Prop} (hR : ∀ w', Trk w0 w' (L.set k (b, [u32v c, u32v f, u32v g, i64v m])) → R c f g m w') :
    SetsAt w ⟨b, 0, none⟩ 0 [u32v c, u32v f, u32v g, i64v m] ∧ ∀ w', w' = setCellsAt w ⟨b, 0, none⟩ 0 [u32v c, u32v f, u32v g, i64v m] →
      ∃ n n1 n2 n3, (w'.cell? ⟨b, 0, none⟩ = some (u32v n) ∧ w'.cell? ⟨b, 1, none⟩ = some (u32v n1) ∧ w'.cell? ⟨b, 2, none⟩ = some (u32v n2) ∧ w'.cell? ⟨b, 3, none⟩ = some (i64v n3) ∧ True) ∧ R n n1 n2 n3 w' := by
  have hkl : k < L.length := (List.getElem?_eq_some_iff.1 hk).1
  refine h.setAll k hk (by simp [hc]) (ones rfl) fun w' h' => ?_
  have hk' : (L.set k (b, [u32v c, u32v f, u32v g, i64v m]))[k]? = some (b, [u32v c, u32v f, u32v g, i64v m]) := by rw [List.getElem?_set]; simp [hkl]
  exact ⟨c, f, g, m, ⟨h'.cell k hk' rfl, h'.cell k hk' rfl, h'.cell k hk' rfl, h'.cell k hk' rfl, trivial⟩, hR w' h'⟩
set_option maxHeartbeats 3200000 in
theorem ref02_two_yes (op : Int) (h1 : 1 ≤ op) (h2 : op ≤ 14) (x : Int × Int × Int × Int) (hx : tabR[(op - 1).toNat]? = some x) (w : World) :
    Calls Tryd.prog ref02_two.N #[u8v op] w (Gives (pairv (rrow x.1 x.2.1 x.2.2.1 x.2.2.2) (.bool true)) w) := by
  refine ref02_two.calls ?_
  unfold ref02_two.vc
  intro w1 e1 w2 e2
  have L := ((Trk.start w).alloc e1).alloc e2
  have : op = 1 ∨ op = 2 ∨ op = 3 ∨ op = 4 ∨ op = 5 ∨ op = 6 ∨ op = 7 ∨ op = 8 ∨ op = 9 ∨ op = 10 ∨ op = 11 ∨ op = 12 ∨ op = 13 ∨ op = 14 := by omega
  rcases this with rfl | rfl | rfl | rfl | rfl | rfl | rfl | rfl | rfl | rfl | rfl | rfl | rfl | rfl
  all_goals obtain rfl := Option.some.inj hx
  all_goals refine cnd_false rfl (cnd_false rfl ⟨⟨by decide, by decide⟩, _, by rw [add_block]; exact L.cell 1 rfl rfl, fun w3 e3 => ?_⟩)
  all_goals refine (L.alloc e3).setAll 2 rfl (by rfl) (ones rfl) fun w4 L4 => ?_
  all_goals first
    | exact cnd_false rfl (cnd_false rfl (cnd_false rfl ⟨_, _, _, _, ⟨L4.cell 2 rfl rfl, L4.cell 2 rfl rfl, L4.cell 2 rfl rfl, L4.cell 2 rfl rfl, trivial⟩, ret4 L4 0 rfl rfl fun w' h' => ⟨rfl, h'.to⟩⟩))
    | exact cnd_true rfl (L4.set1 2 rfl (by decide) fun w5 L5 => cnd_false rfl ⟨_, _, _, _, ⟨L5.cell 2 rfl rfl, L5.cell 2 rfl rfl, L5.cell 2 rfl rfl, L5.cell 2 rfl rfl, trivial⟩, ret4 L5 0 rfl rfl fun w' h' => ⟨rfl, h'.to⟩⟩)
    | exact cnd_false rfl (cnd_true rfl (L4.set1 2 rfl (by decide) fun w5 L5 => cnd_false rfl ⟨_, _, _, _, ⟨L5.cell 2 rfl rfl, L5.cell 2 rfl rfl, L5.cell 2 rfl rfl, L5.cell 2 rfl rfl, trivial⟩, ret4 L5 0 rfl rfl fun w' h' => ⟨rfl, h'.to⟩⟩))
    | exact cnd_false rfl (cnd_false rfl (cnd_true rfl (L4.set1 2 rfl (by decide) fun w5 L5 => ⟨_, _, _, _, ⟨L5.cell 2 rfl rfl, L5.cell 2 rfl rfl, L5.cell 2 rfl rfl, L5.cell 2 rfl rfl, trivial⟩, ret4 L5 0 rfl rfl fun w' h' => ⟨rfl, h'.to⟩⟩)))
theorem ref02_two_no (op : Int) (h : op < 1 ∨ 14 < op) (w : World) : Calls Tryd.prog ref02_two.N #[u8v op] w (Gives (pairv (rrow 0 0 0 0) (.bool false)) w) := by
  refine ref02_two.calls ?_
  unfold ref02_two.vc
  intro w1 e1 w2 e2
  have L := ((Trk.start w).alloc e1).alloc e2
  refine cnd_of (fun h1 => ret4 L 0 rfl rfl fun w' h' => ⟨rfl, h'.to⟩) (fun h1 => ?_)
  have h1 := of_decide_eq_false h1
  exact cnd_true (decide_eq_true (by omega)) (ret4 L 0 rfl rfl fun w' h' => ⟨rfl, h'.to⟩)
set_option maxHeartbeats 3200000 in
theorem ref02_Of_yes (op : Int) (h1 : 1 ≤ op) (h2 : op ≤ 34) (x : Int × Int × Int × Int) (hx : tabR[(op - 1).toNat]? = some x) (w : World) :
    Calls Tryd.prog ref02_Of.N #[u8v op] w (Gives (pairv (rrow x.1 x.2.1 x.2.2.1 x.2.2.2) (.bool true)) w) := by
  refine ref02_Of.calls ?_
  unfold ref02_Of.vc
  intro w1 e1
  have L := (Trk.start w).alloc e1
  by_cases h14 : op ≤ 14
  · refine (ref02_two_yes op h1 h14 x hx w1).mono fun e w2 ⟨he, l2⟩ => ⟨_, _, _, _, _, he, fun w3 e3 => ?_⟩
    refine ((L.later l2).alloc e3).setAll 1 rfl (by rfl) (ones rfl) fun w4 L4 => ?_
    exact cnd_true rfl ⟨_, _, _, _, ⟨L4.cell 1 rfl rfl, L4.cell 1 rfl rfl, L4.cell 1 rfl rfl, L4.cell 1 rfl rfl, trivial⟩, ret4 L4 0 rfl rfl fun w' h' => ⟨rfl, h'.to⟩⟩
  · refine (ref02_two_no op (.inr (by omega)) w1).mono fun e w2 ⟨he, l2⟩ => ⟨_, _, _, _, _, he, fun w3 e3 => ?_⟩
    refine ((L.later l2).alloc e3).setAll 1 rfl (by rfl) (ones rfl) fun w4 L4 => ?_
    have : op = 15 ∨ op = 16 ∨ op = 17 ∨ op = 18 ∨ op = 19 ∨ op = 20 ∨ op = 21 ∨ op = 22 ∨ op = 23 ∨ op = 24 ∨ op = 25 ∨ op = 26 ∨ op = 27 ∨ op = 28 ∨ op = 29 ∨ op = 30 ∨ op = 31 ∨ op = 32 ∨ op = 33 ∨ op = 34 := by omega
    rcases this with rfl | rfl | rfl | rfl | rfl | rfl | rfl | rfl | rfl | rfl | rfl | rfl | rfl | rfl | rfl | rfl | rfl | rfl | rfl | rfl
    all_goals obtain rfl := Option.some.inj hx
    all_goals repeat refine cnd_false rfl ?_
    all_goals refine cnd_true rfl ?_
    all_goals exact ret4 L4 0 rfl rfl fun w' h' => ⟨rfl, h'.to⟩
theorem ref02_Of_no (op : Int) (h : op < 1 ∨ 34 < op) (w : World) : Calls Tryd.prog ref02_Of.N #[u8v op] w (Gives (pairv (rrow 0 0 0 0) (.bool false)) w) := by
  refine ref02_Of.calls ?_
  unfold ref02_Of.vc
  intro w1 e1
  have L := (Trk.start w).alloc e1
  refine (ref02_two_no op (by omega) w1).mono fun e w2 ⟨he, l2⟩ => ⟨_, _, _, _, _, he, fun w3 e3 => ?_⟩
  refine ((L.later l2).alloc e3).setAll 1 rfl (by rfl) (ones rfl) fun w4 L4 => ?_
  refine cnd_false rfl ?_
  have ne : ∀ k : Int, 15 ≤ k → k ≤ 34 → (op == k) = false := fun k h1 h2 => by rw [beq_eq_false_iff_ne]; omega
  repeat refine cnd_false (ne _ (by decide) (by decide)) ?_
  exact ret4 L4 0 rfl rfl fun w' h' => ⟨rfl, h'.to⟩
/-! ### what is named -/
theorem ref02_named_ok (m o d a b v : Int) (hm : 1 ≤ m ∧ m ≤ 8) (hv : I64 v) (w : World) : Calls Tryd.prog ref02_named.N #[i64v m, insv o d a b v] w (Gives (.bool (mayF (formD m) d a b v)) w) := by
  refine ref02_named.calls ?_
  unfold ref02_named.vc
  intro w1 e1
  have L := (Trk.start w).alloc e1
  have hD : ∀ (p : FD → Bool) (q : Bool), (q = p (formD m)) → q = p (formD m) := fun _ _ h => h
  refine ⟨fun vs w' => vs = [.bool (formD m).rd] ∧ w' = w1, ?_, ?_⟩
  · have : m = 1 ∨ m = 2 ∨ m = 3 ∨ m = 4 ∨ m = 5 ∨ m = 6 ∨ m = 7 ∨ m = 8 := by omega
    rcases this with rfl | rfl | rfl | rfl | rfl | rfl | rfl | rfl
    all_goals first
      | exact cnd_true rfl ⟨rfl, rfl⟩
      | exact cnd_false rfl (cnd_true rfl ⟨rfl, rfl⟩)
      | exact cnd_false rfl (cnd_false rfl (cnd_true rfl ⟨rfl, rfl⟩))
      | exact cnd_false rfl (cnd_false rfl (cnd_false rfl (cnd_true rfl ⟨rfl, rfl⟩)))
      | exact cnd_false rfl (cnd_false rfl (cnd_false rfl (cnd_false rfl ⟨rfl, rfl⟩)))
  rintro g rd w2 ⟨hs, rfl⟩
  obtain rfl : rd = (formD m).rd := by simpa using hs
  refine ⟨fun vs w' => vs = [.bool (formD m).rs1] ∧ w' = w2, ?_, ?_⟩
  · have : m = 1 ∨ m = 2 ∨ m = 3 ∨ m = 4 ∨ m = 5 ∨ m = 6 ∨ m = 7 ∨ m = 8 := by omega
    rcases this with rfl | rfl | rfl | rfl | rfl | rfl | rfl | rfl
    all_goals first
      | exact cnd_true rfl ⟨rfl, rfl⟩
      | exact cnd_false rfl (cnd_true rfl ⟨rfl, rfl⟩)
      | exact cnd_false rfl (cnd_false rfl (cnd_true rfl ⟨rfl, rfl⟩))
      | exact cnd_false rfl (cnd_false rfl (cnd_false rfl (cnd_true rfl ⟨rfl, rfl⟩)))
      | exact cnd_false rfl (cnd_false rfl (cnd_false rfl (cnd_false rfl ⟨rfl, rfl⟩)))
  rintro g rs1 w3 ⟨hs, rfl⟩
  obtain rfl : rs1 = (formD m).rs1 := by simpa using hs
  refine ⟨fun vs w' => vs = [.bool (formD m).rs2] ∧ w' = w3, ?_, ?_⟩
  · have : m = 1 ∨ m = 2 ∨ m = 3 ∨ m = 4 ∨ m = 5 ∨ m = 6 ∨ m = 7 ∨ m = 8 := by omega
    rcases this with rfl | rfl | rfl | rfl | rfl | rfl | rfl | rfl
    all_goals first
      | exact cnd_true rfl ⟨rfl, rfl⟩
      | exact cnd_false rfl (cnd_true rfl ⟨rfl, rfl⟩)
      | exact cnd_false rfl (cnd_false rfl ⟨rfl, rfl⟩)
  rintro g rs2 w4 ⟨hs, rfl⟩
  obtain rfl : rs2 = (formD m).rs2 := by simpa using hs
  refine ⟨fun vs w' => vs = [.bool (((d != 0 && !(formD m).rd) || (a != 0 && !(formD m).rs1) || (b != 0 && !(formD m).rs2)) || (decide (d > 31) || decide (a > 31) || decide (b > 31)))] ∧ w' = w4, ?_, ?_⟩
  · have big : ∀ Q : Bool → Prop, Q (decide (d > 31) || decide (a > 31) || decide (b > 31)) →
        ∃ n, w4.cell? ⟨w.heap.size, 1, none⟩ = some (u8v n) ∧ cnd (decide (n > 31)) (Q true) (∃ n, w4.cell? ⟨w.heap.size, 2, none⟩ = some (u8v n) ∧ cnd (decide (n > 31)) (Q true) (∃ n, w4.cell? ⟨w.heap.size, 3, none⟩ = some (u8v n) ∧ Q (decide (n > 31)))) := by
      intro Q hQ
      refine ⟨_, L.cell 0 rfl rfl, cnd_of (fun h => ?_) (fun h => ⟨_, L.cell 0 rfl rfl, cnd_of (fun h' => ?_) (fun h' => ⟨_, L.cell 0 rfl rfl, ?_⟩)⟩)⟩
      · rw [h, Bool.true_or, Bool.true_or] at hQ; exact hQ
      · rw [h, h', Bool.false_or, Bool.true_or] at hQ; exact hQ
      · rw [h, h', Bool.false_or, Bool.false_or] at hQ; exact hQ
    have third : ∀ Q : Bool → Prop, Q ((b != 0 && !(formD m).rs2) || (decide (d > 31) || decide (a > 31) || decide (b > 31))) →
        cnd (!(formD m).rs2) (∃ n, w4.cell? ⟨w.heap.size, 3, none⟩ = some (u8v n) ∧ cnd (n != 0) (Q true) (∃ n, w4.cell? ⟨w.heap.size, 1, none⟩ = some (u8v n) ∧ cnd (decide (n > 31)) (Q true) (∃ n, w4.cell? ⟨w.heap.size, 2, none⟩ = some (u8v n) ∧ cnd (decide (n > 31)) (Q true) (∃ n, w4.cell? ⟨w.heap.size, 3, none⟩ = some (u8v n) ∧ Q (decide (n > 31))))))
          (∃ n, w4.cell? ⟨w.heap.size, 1, none⟩ = some (u8v n) ∧ cnd (decide (n > 31)) (Q true) (∃ n, w4.cell? ⟨w.heap.size, 2, none⟩ = some (u8v n) ∧ cnd (decide (n > 31)) (Q true) (∃ n, w4.cell? ⟨w.heap.size, 3, none⟩ = some (u8v n) ∧ Q (decide (n > 31))))) := by
      intro Q hQ
      refine cnd_of (fun h => ⟨_, L.cell 0 rfl rfl, cnd_of (fun h' => ?_) (fun h' => big Q ?_)⟩) (fun h => big Q ?_)
      · rw [h, h', Bool.true_and, Bool.true_or] at hQ; exact hQ
      · rw [h, h', Bool.false_and, Bool.false_or] at hQ; exact hQ
      · rw [h, Bool.and_false, Bool.false_or] at hQ; exact hQ
    refine cnd_of (fun h => ⟨_, L.cell 0 rfl rfl, cnd_of (fun h' => ?_) (fun h' => cnd_of (fun k => ⟨_, L.cell 0 rfl rfl, cnd_of (fun k' => ?_) (fun k' => third (fun q => ([.bool q] : List Value) = _ ∧ w4 = w4) ?_)⟩) (fun k => third (fun q => ([.bool q] : List Value) = _ ∧ w4 = w4) ?_))⟩)
      (fun h => cnd_of (fun k => ⟨_, L.cell 0 rfl rfl, cnd_of (fun k' => ?_) (fun k' => third (fun q => ([.bool q] : List Value) = _ ∧ w4 = w4) ?_)⟩) (fun k => third (fun q => ([.bool q] : List Value) = _ ∧ w4 = w4) ?_))
    all_goals refine ⟨?_, rfl⟩
    · simp only [h, h', Bool.false_and, Bool.true_and, Bool.and_false, Bool.and_true, Bool.false_or, Bool.true_or]
    · simp only [h, h', k, k', Bool.false_and, Bool.true_and, Bool.and_false, Bool.and_true, Bool.false_or, Bool.true_or]
    · simp only [h, h', k, k', Bool.false_and, Bool.true_and, Bool.and_false, Bool.and_true, Bool.false_or, Bool.true_or]
    · simp only [h, h', k, Bool.false_and, Bool.true_and, Bool.and_false, Bool.and_true, Bool.false_or, Bool.true_or]
    · simp only [h, k, k', Bool.false_and, Bool.true_and, Bool.and_false, Bool.and_true, Bool.false_or, Bool.true_or]
    · simp only [h, k, k', Bool.false_and, Bool.true_and, Bool.and_false, Bool.and_true, Bool.false_or, Bool.true_or]
    · simp only [h, k, Bool.false_and, Bool.true_and, Bool.and_false, Bool.and_true, Bool.false_or, Bool.true_or]
  rintro g s w5 ⟨hs, rfl⟩
  obtain rfl := (by simpa using hs : s = (((d != 0 && !(formD m).rd) || (a != 0 && !(formD m).rs1) || (b != 0 && !(formD m).rs2)) || (decide (d > 31) || decide (a > 31) || decide (b > 31))))
  have hmay : mayF (formD m) d a b v = (!(((d != 0 && !(formD m).rd) || (a != 0 && !(formD m).rs1) || (b != 0 && !(formD m).rs2)) || (decide (d > 31) || decide (a > 31) || decide (b > 31))) && fitsF (formD m).nb (formD m).step v) := by
    have hq : ∀ A B C : Bool, (!A && (!B && C)) = (!(A || B) && C) := by decide
    unfold mayF
    exact hq _ _ _
  rw [hmay]
  refine cnd_of (fun h => ?_) (fun h => ?_)
  · rw [h]
    exact ⟨rfl, L.to⟩
  rw [h, Bool.not_false, Bool.true_and]
  have F := fun (k : Int) (h1 : -9223372036854775808 ≤ k) (h2 : k < 9223372036854775808) => ref01_Fits_ok v k hv.1 hv.2 h1 h2 w5
  have L5 := fun (w' : World) (h' : Later w5 w') => L.later h'
  refine ⟨fun vs w' => vs = [.bool (m == 2 || m == 5)] ∧ w' = w5, ?_, ?_⟩
  · exact cnd_of (fun h => ⟨by rw [h]; rfl, rfl⟩) (fun h => ⟨by rw [h]; rfl, rfl⟩)
  rintro g s w6 ⟨hs, rfl⟩
  obtain rfl : s = (m == 2 || m == 5) := by simpa using hs
  have : m = 1 ∨ m = 2 ∨ m = 3 ∨ m = 4 ∨ m = 5 ∨ m = 6 ∨ m = 7 ∨ m = 8 := by omega
  have st : ∀ (k step : Int), step ≠ 0 → fitsF k step v = (if k < 0 then decide (0 ≤ v) && decide (v < 64) else if k = 0 then v == 0 else fitsv v k && (v.tmod step == 0)) := by
    intro k step hne
    unfold fitsF
    rw [show (step == 0) = false from by simpa using hne, Bool.false_or]
  have s0 : ∀ (k : Int), 0 < k → fitsF k 0 v = fitsv v k := by
    intro k hk
    unfold fitsF
    rw [if_neg (by omega), if_neg (by omega)]
    show (fitsv v k && (true || _)) = _
    rw [Bool.true_or, Bool.and_true]
  have s1 : ∀ (k step : Int), 0 < k → step ≠ 0 → fitsF k step v = (fitsv v k && (v.tmod step == 0)) := by
    intro k step hk hne
    rw [st k step hne, if_neg (by omega), if_neg (by omega)]
  have number : fitsF 12 0 v = fitsv v 12 := s0 12 (by decide)
  have zero : fitsF 0 0 v = (v == 0) := rfl
  have step : ∀ (k q : Int), 0 < k → k < 100 → q ≠ 0 → ∃ n, w6.cell? ⟨w.heap.size, 4, none⟩ = some (i64v n) ∧ Calls Tryd.prog ref01_Fits.N #[i64v n, i64v k] w6 fun e w' => ∃ b : Bool, e = .returned (.bool b) ∧ cnd b (∃ n, w'.cell? ⟨w.heap.size, 4, none⟩ = some (i64v n) ∧ Gives (.bool (fitsF k q v)) w (.returned (.bool (n.tmod q == 0))) w') (Gives (.bool (fitsF k q v)) w (.returned (.bool false)) w') := by
    intro k q h1 h2 h3
    refine ⟨_, L.cell 0 rfl rfl, (F k (by omega) (by omega)).mono fun e w7 ⟨he, l7⟩ => ⟨_, he, cnd_of (fun h => ⟨_, (L.later l7).cell 0 rfl rfl, ?_, (L.later l7).to⟩) (fun h => ⟨?_, (L.later l7).to⟩)⟩⟩
    · rw [s1 k q h1 h3, h, Bool.true_and]
    · rw [s1 k q h1 h3, h, Bool.false_and]
  rcases this with rfl | rfl | rfl | rfl | rfl | rfl | rfl | rfl
  · exact cnd_false rfl (cnd_false rfl (cnd_false rfl (cnd_false rfl (cnd_false rfl ⟨_, L.cell 0 rfl rfl, rfl, L.to⟩))))
  · refine cnd_true rfl ⟨_, L.cell 0 rfl rfl, (F 12 (by decide) (by decide)).mono fun e w7 ⟨he, l7⟩ => ⟨_, he, ?_, (L.later l7).to⟩⟩
    rw [show fitsF (formD 2).nb (formD 2).step v = fitsv v 12 from number]
  · refine cnd_false rfl (cnd_true rfl ⟨_, L.cell 0 rfl rfl, cnd_of (fun h => ⟨_, L.cell 0 rfl rfl, ?_, L.to⟩) (fun h => ⟨?_, L.to⟩)⟩)
    · show Ending.returned (.bool (decide (v ≤ 63))) = .returned (.bool (decide (0 ≤ v) && decide (v < 64)))
      rw [show decide (0 ≤ v) = true from h, Bool.true_and, decide_eq_decide.2 (show v ≤ 63 ↔ v < 64 by omega)]
    · show Ending.returned (.bool false) = .returned (.bool (decide (0 ≤ v) && decide (v < 64)))
      rw [show decide (0 ≤ v) = false from h, Bool.false_and]
  · exact cnd_false rfl (cnd_false rfl (cnd_true rfl (step 32 4096 (by decide) (by decide) (by decide))))
  · refine cnd_true rfl ⟨_, L.cell 0 rfl rfl, (F 12 (by decide) (by decide)).mono fun e w7 ⟨he, l7⟩ => ⟨_, he, ?_, (L.later l7).to⟩⟩
    rw [show fitsF (formD 5).nb (formD 5).step v = fitsv v 12 from number]
  · exact cnd_false rfl (cnd_false rfl (cnd_false rfl (cnd_true rfl (step 13 2 (by decide) (by decide) (by decide)))))
  · exact cnd_false rfl (cnd_false rfl (cnd_false rfl (cnd_false rfl (cnd_true rfl (step 21 2 (by decide) (by decide) (by decide))))))
  · exact cnd_false rfl (cnd_false rfl (cnd_false rfl (cnd_false rfl (cnd_false rfl ⟨_, L.cell 0 rfl rfl, rfl, L.to⟩))))
/-! ### bits -/
theorem ref02_bits_ok (v fr to at_ : Int) (h : spanOk 0 (fr, to, at_)) (w : World) : Calls Tryd.prog ref02_bits.N #[i64v v, i64v fr, i64v to, i64v at_] w (Gives (u32v (bitsv v fr to at_)) w) := by
  obtain ⟨h1, h2, h3, h4, h5⟩ := h
  simp only at h1 h2 h3 h4 h5
  refine ref02_bits.calls ?_
  unfold ref02_bits.vc
  refine ⟨fun vs w' => ∃ (k : Nat), vs = [.int .u32 (v % 18446744073709551616 / 2 ^ fr.toNat % 2 ^ k * 2 ^ at_.toNat), .int .i64 (fr + k)] ∧ fr + k ≤ to + 1 ∧ Later w w', fun vs _ => match vs with | [_, .int _ i] => (to + 1 - i).toNat | _ => 0,
    ⟨0, by simp [Int.emod_one], by omega, Later.refl _⟩, ?_⟩
  rintro g _ _ w1 ⟨k, hs, hk, l1⟩
  simp only [List.cons.injEq, Value.int.injEq, true_and, and_true] at hs
  obtain ⟨rfl, rfl⟩ := hs
  refine cnd_of (fun h => ?_) (fun h => ?_)
  · have h := of_decide_eq_true h
    have e1 : IntKind.u64.wrap (fr + k) = fr + k := u64_in (by omega) (by omega)
    have e2 : IntKind.i64.wrap (IntKind.i64.wrap (at_ + (fr + k)) - fr) = at_ + k := by
      rw [i64_in (x := at_ + (fr + k)) (by omega) (by omega), i64_in (by omega) (by omega)]
      omega
    have e3 : IntKind.u64.wrap (at_ + k) = at_ + k := u64_in (by omega) (by omega)
    have e4 : IntKind.i64.wrap (fr + k + 1) = fr + ((k + 1 : Nat) : Int) := by rw [i64_in (by omega) (by omega)]; omega
    rw [e1, e2, e3, e4, wrap_u64]
    refine cnd_false (decide_eq_false (by omega)) (cnd_false (decide_eq_false (by omega)) ?_)
    rw [show min (fr + (k : Int)).toNat 64 = fr.toNat + k by omega, show min (at_ + (k : Int)).toNat 32 = at_.toNat + k by omega]
    have hX0 : 0 ≤ v % 18446744073709551616 := by omega
    obtain ⟨X, hX⟩ := Int.eq_ofNat_of_zero_le hX0
    have hpf : (0 : Int) < 2 ^ (fr.toNat + k) := two_pow_pos _
    rw [hX, fdiv_nn _ (Int.le_of_lt hpf)]
    have eq1 : (X : Int) / 2 ^ (fr.toNat + k) = (X : Int) / 2 ^ fr.toNat / 2 ^ k := by
      rw [Int.pow_add, Int.ediv_ediv_of_nonneg (Int.le_of_lt (two_pow_pos _))]
    rw [eq1]
    obtain ⟨Y, hY⟩ := Int.eq_ofNat_of_zero_le (show 0 ≤ (X : Int) / 2 ^ fr.toNat from Int.ediv_nonneg (by omega) (Int.le_of_lt (two_pow_pos _)))
    rw [hY]
    have hb0 : 0 ≤ (Y : Int) / 2 ^ k := Int.ediv_nonneg (by omega) (Int.le_of_lt (two_pow_pos _))
    rw [tmod_nn _ hb0]
    obtain ⟨B, hB⟩ : ∃ B, B = (Y : Int) / 2 ^ k % 2 := ⟨_, rfl⟩
    have hB0 : 0 ≤ B ∧ B ≤ 1 := by omega
    rw [← hB, u32_in (x := B) (by omega) (by omega)]
    -- the sum
    have hstep : (Y : Int) % 2 ^ (k + 1) = (Y : Int) % 2 ^ k + B * 2 ^ k := by
      rw [hB]
      have := Nat.mod_pow_succ (b := 2) (x := Y) (k := k)
      have h2 : ((Y % 2 ^ (k + 1) : Nat) : Int) = ((Y % 2 ^ k + 2 ^ k * (Y / 2 ^ k % 2) : Nat) : Int) := by rw [this]
      push_cast at h2
      rw [h2, Int.mul_comm (2 ^ k)]
    have hpk := two_pow_pos k
    have hpa := two_pow_pos at_.toNat
    have hYk0 := Int.emod_nonneg (Y : Int) (Int.ne_of_gt hpk)
    have hYk1 := Int.emod_lt_of_pos (Y : Int) hpk
    have etot : (Y : Int) % 2 ^ k * 2 ^ at_.toNat + B * 2 ^ (at_.toNat + k) = (Y : Int) % 2 ^ (k + 1) * 2 ^ at_.toNat := by
      rw [hstep, Int.add_mul, Int.mul_assoc, Int.pow_add, Int.mul_comm (2 ^ at_.toNat) (2 ^ k)]
    have htop : (2 : Int) ^ (at_.toNat + k + 1) ≤ 4294967296 := by
      have := pow32 (a := at_ + k + 1) (by omega)
      rwa [show (at_ + (k : Int) + 1).toNat = at_.toNat + k + 1 by omega] at this
    have hk1 : (Y : Int) % 2 ^ (k + 1) < 2 ^ (k + 1) := Int.emod_lt_of_pos _ (two_pow_pos _)
    have hk0 : 0 ≤ (Y : Int) % 2 ^ (k + 1) := Int.emod_nonneg _ (Int.ne_of_gt (two_pow_pos _))
    have hlt : (Y : Int) % 2 ^ (k + 1) * 2 ^ at_.toNat < 4294967296 := by
      have a1 : ((Y : Int) % 2 ^ (k + 1)) * 2 ^ at_.toNat < 2 ^ (k + 1) * 2 ^ at_.toNat := Int.mul_lt_mul_of_pos_right hk1 hpa
      have a2 : (2 : Int) ^ (k + 1) * 2 ^ at_.toNat = 2 ^ (at_.toNat + k + 1) := by rw [← Int.pow_add]; congr 1; omega
      omega
    have hge : 0 ≤ (Y : Int) % 2 ^ (k + 1) * 2 ^ at_.toNat := Int.mul_nonneg hk0 (Int.le_of_lt hpa)
    have hleft : 0 ≤ (Y : Int) % 2 ^ k * 2 ^ at_.toNat := Int.mul_nonneg hYk0 (Int.le_of_lt hpa)
    have hright : 0 ≤ B * 2 ^ (at_.toNat + k) := Int.mul_nonneg hB0.1 (Int.le_of_lt (two_pow_pos _))
    rw [u32_in (x := B * 2 ^ (at_.toNat + k)) hright (by omega), u32_in (by omega) (by omega), etot]
    refine ⟨⟨k + 1, ?_, by omega, l1⟩, ?_⟩
    · rfl
    · simp only
      omega
  · have h := of_decide_eq_false h
    have hk : k = (to - fr + 1).toNat := by omega
    subst hk
    exact ⟨rfl, l1⟩
/-! ### where the number stands; the word -/
theorem ref02_number_ok (m v : Int) (hm : 1 ≤ m ∧ m ≤ 8) (w : World) : Calls Tryd.prog ref02_number.N #[i64v m, i64v v] w (Gives (u32v (laidv v (formD m).spans)) w) := by
  refine ref02_number.calls ?_
  unfold ref02_number.vc
  have B := fun (fr to at_ : Int) (h : spanOk 0 (fr, to, at_)) (w' : World) => ref02_bits_ok v fr to at_ h w'
  have : m = 1 ∨ m = 2 ∨ m = 3 ∨ m = 4 ∨ m = 5 ∨ m = 6 ∨ m = 7 ∨ m = 8 := by omega
  rcases this with rfl | rfl | rfl | rfl | rfl | rfl | rfl | rfl
  · exact cnd_false rfl (cnd_false rfl (cnd_false rfl (cnd_false rfl (cnd_false rfl (cnd_false rfl ⟨rfl, Later.refl _⟩)))))
  · refine cnd_true rfl ((B 0 11 20 (by simp only [spanOk]; decide) w).mono fun e w1 ⟨he, l1⟩ => ⟨_, he, ?_, l1⟩)
    show Ending.returned (u32v (bitsv v 0 11 20)) = .returned (u32v (bitsv v 0 11 20 + 0))
    rw [Int.add_zero]
  · refine cnd_false rfl (cnd_true rfl ((B 0 5 20 (by simp only [spanOk]; decide) w).mono fun e w1 ⟨he, l1⟩ => ⟨_, he, ?_, l1⟩))
    show Ending.returned (u32v (bitsv v 0 5 20)) = .returned (u32v (bitsv v 0 5 20 + 0))
    rw [Int.add_zero]
  · refine cnd_false rfl (cnd_false rfl (cnd_true rfl ((B 12 31 12 (by simp only [spanOk]; decide) w).mono fun e w1 ⟨he, l1⟩ => ⟨_, he, ?_, l1⟩)))
    show Ending.returned (u32v (bitsv v 12 31 12)) = .returned (u32v (bitsv v 12 31 12 + 0))
    rw [Int.add_zero]
  · refine cnd_false rfl (cnd_false rfl (cnd_false rfl (cnd_true rfl ((B 0 4 7 (by simp only [spanOk]; decide) w).mono fun e w1 ⟨he, l1⟩ => ⟨_, he, (B 5 11 25 (by simp only [spanOk]; decide) w1).mono fun e w2 ⟨he, l2⟩ => ⟨_, he, ?_, l1.trans l2⟩⟩))))
    obtain ⟨q, q0, q1, hq⟩ := bitsv_q v 0 4 7 32 128 (by decide) (by decide)
    obtain ⟨r, r0, r1, hr⟩ := bitsv_q v 5 11 25 128 33554432 (by decide) (by decide)
    show Ending.returned (u32v _) = .returned (u32v (bitsv v 0 4 7 + (bitsv v 5 11 25 + 0)))
    rw [hq, hr, u32_in (by omega) (by omega), Int.add_zero]
  · refine cnd_false rfl (cnd_false rfl (cnd_false rfl (cnd_false rfl (cnd_true rfl ((B 11 11 7 (by simp only [spanOk]; decide) w).mono fun e w1 ⟨he, l1⟩ => ⟨_, he, (B 1 4 8 (by simp only [spanOk]; decide) w1).mono fun e w2 ⟨he, l2⟩ => ⟨_, he,
      (B 5 10 25 (by simp only [spanOk]; decide) w2).mono fun e w3 ⟨he, l3⟩ => ⟨_, he, (B 12 12 31 (by simp only [spanOk]; decide) w3).mono fun e w4 ⟨he, l4⟩ => ⟨_, he, ?_, l1.trans (l2.trans (l3.trans l4))⟩⟩⟩⟩)))))
    obtain ⟨q, q0, q1, hq⟩ := bitsv_q v 11 11 7 2 128 (by decide) (by decide)
    obtain ⟨r, r0, r1, hr⟩ := bitsv_q v 1 4 8 16 256 (by decide) (by decide)
    obtain ⟨s, s0, s1, hs⟩ := bitsv_q v 5 10 25 64 33554432 (by decide) (by decide)
    obtain ⟨t, t0, t1, ht⟩ := bitsv_q v 12 12 31 2 2147483648 (by decide) (by decide)
    show Ending.returned (u32v _) = .returned (u32v (bitsv v 11 11 7 + (bitsv v 1 4 8 + (bitsv v 5 10 25 + (bitsv v 12 12 31 + 0)))))
    rw [hq, hr, hs, ht, u32_in (x := q * 128 + r * 256) (by omega) (by omega), u32_in (x := q * 128 + r * 256 + s * 33554432) (by omega) (by omega), u32_in (by omega) (by omega), Int.add_zero]
    congr 2
    omega
  · refine cnd_false rfl (cnd_false rfl (cnd_false rfl (cnd_false rfl (cnd_false rfl (cnd_true rfl ((B 12 19 12 (by simp only [spanOk]; decide) w).mono fun e w1 ⟨he, l1⟩ => ⟨_, he, (B 11 11 20 (by simp only [spanOk]; decide) w1).mono fun e w2 ⟨he, l2⟩ => ⟨_, he,
      (B 1 10 21 (by simp only [spanOk]; decide) w2).mono fun e w3 ⟨he, l3⟩ => ⟨_, he, (B 20 20 31 (by simp only [spanOk]; decide) w3).mono fun e w4 ⟨he, l4⟩ => ⟨_, he, ?_, l1.trans (l2.trans (l3.trans l4))⟩⟩⟩⟩))))))
    obtain ⟨q, q0, q1, hq⟩ := bitsv_q v 12 19 12 256 4096 (by decide) (by decide)
    obtain ⟨r, r0, r1, hr⟩ := bitsv_q v 11 11 20 2 1048576 (by decide) (by decide)
    obtain ⟨s, s0, s1, hs⟩ := bitsv_q v 1 10 21 1024 2097152 (by decide) (by decide)
    obtain ⟨t, t0, t1, ht⟩ := bitsv_q v 20 20 31 2 2147483648 (by decide) (by decide)
    show Ending.returned (u32v _) = .returned (u32v (bitsv v 12 19 12 + (bitsv v 11 11 20 + (bitsv v 1 10 21 + (bitsv v 20 20 31 + 0)))))
    rw [hq, hr, hs, ht, u32_in (x := q * 4096 + r * 1048576) (by omega) (by omega), u32_in (x := q * 4096 + r * 1048576 + s * 2097152) (by omega) (by omega), u32_in (by omega) (by omega), Int.add_zero]
    congr 2
    omega
  · exact cnd_false rfl (cnd_false rfl (cnd_false rfl (cnd_false rfl (cnd_false rfl (cnd_false rfl ⟨rfl, Later.refl _⟩)))))
theorem ref02_Encode_ok (o d a b v : Int) (ho : U8 o) (hd : U8 d) (ha : U8 a) (hb : U8 b) (hv : I64 v) (w : World) :
    Calls Tryd.prog ref02_Encode.N #[insv o d a b v] w (Gives (encR (encv o d a b v)) w) := by
  refine ref02_Encode.calls ?_
  unfold ref02_Encode.vc
  intro w1 e1
  have L := (Trk.start w).alloc e1
  refine ⟨_, L.cell 0 rfl rfl, ?_⟩
  by_cases hin : 1 ≤ o ∧ o ≤ 34
  · obtain ⟨x, hx, hro, hmem⟩ := row_of hin.1 (by omega)
    have hl : (o - 1).toNat < tabR.length := by show _ < 34; omega
    obtain ⟨y, hy⟩ : ∃ y, tabR[(o - 1).toNat]? = some y := ⟨_, List.getElem?_eq_getElem hl⟩
    have hxy : x = (y.1, y.2.1, y.2.2.1, formD y.2.2.2) := by
      have := congrArg (fun l => l[(o - 1).toNat]?) tabR_is
      simp only [List.getElem?_map, hy, Option.map_some, hx, Option.some.injEq] at this
      exact this.symm
    have hm := of_decide_eq_true (List.all_eq_true.1 tabR_forms y (List.mem_of_getElem? hy))
    refine (ref02_Of_yes o hin.1 hin.2 y hy w1).mono fun e w2 ⟨he, l2⟩ => ⟨_, _, _, _, _, he, fun w3 e3 => ?_⟩
    refine ((L.later l2).alloc e3).setAll 1 rfl (by rfl) (ones rfl) fun w4 L4 => cnd_false rfl ?_
    refine ⟨_, L4.cell 1 rfl rfl, _, _, _, _, _, ⟨L4.cell 0 rfl rfl, L4.cell 0 rfl rfl, L4.cell 0 rfl rfl, L4.cell 0 rfl rfl, L4.cell 0 rfl rfl, trivial⟩, ?_⟩
    refine (ref02_named_ok y.2.2.2 o d a b v hm hv w4).mono fun e w5 ⟨he, l5⟩ => ⟨_, he, ?_⟩
    have L5 := L4.later l5
    have hF := tab_forms x hmem
    subst hxy
    refine cnd_of (fun h => ?_) (fun h => ?_)
    · have h : mayF (formD y.2.2.2) d a b v = false := by simpa using h
      refine ⟨?_, L5.to⟩
      unfold encv
      rw [hro]
      simp only [h]
      rfl
    · have h : mayF (formD y.2.2.2) d a b v = true := by simpa using h
      have hs := word_sum _ d a b v (hF.parts d a b v hd.1 ha.1 hb.1 h)
      refine ⟨_, fun w' h' => (L5.later h').cell 1 rfl rfl, _, fun w' h' => (L5.later h').cell 0 rfl rfl, _, fun w' h' => (L5.later h').cell 1 rfl rfl, _, fun w' h' => (L5.later h').cell 0 rfl rfl, _, fun w' h' => (L5.later h').cell 0 rfl rfl, _, fun w' h' => (L5.later h').cell 1 rfl rfl,
        _, fun w' h' => (L5.later h').cell 1 rfl rfl, _, fun w' h' => (L5.later h').cell 0 rfl rfl, _, fun w' h' => ref02_number_ok y.2.2.2 v hm w', fun w' h' => ⟨?_, (L5.later h').to⟩⟩
      unfold encv
      rw [hro]
      simp only [h, if_true]
      obtain ⟨hs0, hs1, hs2⟩ := hs
      unfold baseS at hs1 hs2 ⊢
      simp only at hs1 hs2 ⊢
      show Ending.returned (.tuple #[u32v _, i64v 0]) = .returned (.tuple #[u32v _, i64v 0])
      congr 5
      generalize laidv v (formD y.2.2.2).spans = M at *
      obtain ⟨⟨p0, p1, p2, p3, p4, p5⟩, ⟨p6, p7, p8, p9, p10, p11⟩, -⟩ := hF.parts d a b v hd.1 ha.1 hb.1 h
      simp only at p0 p1 p2 p3 p4 p5
      simp only [wrap_u32]
      omega
  · refine (ref02_Of_no o (by omega) w1).mono fun e w2 ⟨he, l2⟩ => ⟨_, _, _, _, _, he, fun w3 e3 => ?_⟩
    refine ((L.later l2).alloc e3).setAll 1 rfl (by rfl) (ones rfl) fun w4 L4 => cnd_true rfl ⟨?_, L4.to⟩
    unfold encv
    rw [row_none (by omega)]
    rfl
end Go.Proofs.YtgchaghdhofnoaaDoor

/-
The contracts of package sacristyref03 as far as its Decode: it answers as disas does.
Conditions: the word is one of 32 bits.
-/
namespace Go.Proofs.YtgchaghdhofnoaaDoor
open Go Go.Vc Go.RowKit
set_option linter.unusedVariables false
set_option linter.unusedSimpArgs false
set_option linter.unnecessarySimpa false
set_option maxRecDepth 100000

theorem ref03_field_ok {w : Int} (hw : W32 w) (at_ n : Nat) (ha : at_ ≤ 32) (hn : n ≤ 31) (w0 : World) : Calls Tryd.prog ref03_field.N #[u32v w, i64v at_, i64v n] w0 (Gives (u32v (fldI w at_ n)) w0) := by
  refine ref03_field.calls ?_
  unfold ref03_field.vc
  obtain ⟨p0, p1⟩ := pow_le31 n hn
  have e1 : IntKind.u64.wrap ((at_ : Nat) : Int) = at_ := by rw [u64_in (by omega) (by omega)]
  have e2 : IntKind.u64.wrap ((n : Nat) : Int) = n := by rw [u64_in (by omega) (by omega)]
  rw [e1, e2]
  have e3 : min ((at_ : Nat) : Int).toNat 32 = at_ := by omega
  have e4 : min ((n : Nat) : Int).toNat 32 = n := by omega
  have e5 : ((2 : Int) ^ n) = ((2 ^ n : Nat) : Int) := by simp
  rw [e3, e4, Int.one_mul, e5, u32_in (x := ((2 ^ n : Nat) : Int)) (by omega) (by omega), ← e5]
  have hp := two_pow_pos n
  refine cnd_false (by simp) (cnd_false (by simp) (cnd_false (by simp; omega) ⟨?_, Later.refl _⟩))
  rw [fdiv_nn _ (Int.le_of_lt (two_pow_pos _)), tmod_nn _ (Int.ediv_nonneg hw.1 (Int.le_of_lt (two_pow_pos _)))]
  rfl
theorem ref03_signed_ok {v : Int} (hv : W32 v) (n : Int) (hn : 0 ≤ n ∧ n ≤ 64) (w0 : World) : Calls Tryd.prog ref03_signed.N #[u32v v, i64v n] w0 (Gives (i64v (sgn v n)) w0) := by
  refine ref03_signed.calls ?_
  unfold ref03_signed.vc
  rw [wrap_u64, Int.emod_eq_of_lt hv.1 (Int.lt_trans hv.2 (by decide))]
  exact (ref01_Sign_ok v n hv.1 (by omega) (by omega) w0).mono fun e w1 ⟨he, l1⟩ => ⟨_, _, he, rfl, l1⟩

/-! ### guess: by its form -/
def numK (k : Nat) (w : Int) : Int :=
  if k = 1 then sgn (fldI w 20 12) 12
  else if k = 2 then fldI w 20 6
  else if k = 3 then sgn (fldI w 12 20 * 4096) 32
  else if k = 4 then sgn (fldI w 25 7 * 32 + fldI w 7 5) 12
  else if k = 5 then sgn (fldI w 8 4 * 2 + fldI w 25 6 * 32 + fldI w 7 1 * 2048 + fldI w 31 1 * 4096) 13
  else if k = 6 then sgn (fldI w 21 10 * 2 + fldI w 20 1 * 2048 + fldI w 12 8 * 4096 + fldI w 31 1 * 1048576) 21
  else 0
def numC (o : Int) : Nat := if (15 ≤ o ∧ o ≤ 19) ∨ o = 24 ∨ o = 25 ∨ o = 33 then 1 else if 20 ≤ o ∧ o ≤ 22 then 2 else if o = 23 then 3 else if o = 26 ∨ o = 27 then 4 else if 28 ≤ o ∧ o ≤ 31 then 5 else if o = 32 then 6 else 0
theorem numS_K (o w : Int) : numS o w = numK (numC o) w := by
  unfold numS numC
  repeat' split
  all_goals rfl
def fK (m : Int) : Nat := (m - 1).toNat
def fRd (m w : Int) : Int := if m = 1 ∨ m = 2 ∨ m = 3 ∨ m = 4 ∨ m = 7 then fldI w 7 5 else 0
def fR1 (m w : Int) : Int := if m = 1 ∨ m = 2 ∨ m = 3 ∨ m = 5 ∨ m = 6 then fldI w 15 5 else 0
def fR2 (m w : Int) : Int := if m = 1 ∨ m = 5 ∨ m = 6 then fldI w 20 5 else 0
def fNum (m w : Int) : Int := if m = 8 then 0 else numK (fK m) w
def fCells (o m w : Int) : List Value := [u8v o, u8v (fRd m w), u8v (fR1 m w), u8v (fR2 m w), i64v (fNum m w)]
theorem forms_all : ∀ k : Fin 34, ∃ x, tabR[k.1]? = some x ∧ (1 ≤ x.2.2.2 ∧ x.2.2.2 ≤ 8) ∧ hasRdS ((k.1 : Int) + 1) = decide (x.2.2.2 = 1 ∨ x.2.2.2 = 2 ∨ x.2.2.2 = 3 ∨ x.2.2.2 = 4 ∨ x.2.2.2 = 7) ∧
    hasRs1S ((k.1 : Int) + 1) = decide (x.2.2.2 = 1 ∨ x.2.2.2 = 2 ∨ x.2.2.2 = 3 ∨ x.2.2.2 = 5 ∨ x.2.2.2 = 6) ∧ hasRs2S ((k.1 : Int) + 1) = decide (x.2.2.2 = 1 ∨ x.2.2.2 = 5 ∨ x.2.2.2 = 6) ∧ numC ((k.1 : Int) + 1) = (if x.2.2.2 = 8 then 0 else fK x.2.2.2) := by
  have h : ∀ k : Fin 34, (match tabR[k.1]? with | some x => decide ((1 ≤ x.2.2.2 ∧ x.2.2.2 ≤ 8) ∧ hasRdS ((k.1 : Int) + 1) = decide (x.2.2.2 = 1 ∨ x.2.2.2 = 2 ∨ x.2.2.2 = 3 ∨ x.2.2.2 = 4 ∨ x.2.2.2 = 7) ∧
    hasRs1S ((k.1 : Int) + 1) = decide (x.2.2.2 = 1 ∨ x.2.2.2 = 2 ∨ x.2.2.2 = 3 ∨ x.2.2.2 = 5 ∨ x.2.2.2 = 6) ∧ hasRs2S ((k.1 : Int) + 1) = decide (x.2.2.2 = 1 ∨ x.2.2.2 = 5 ∨ x.2.2.2 = 6) ∧ numC ((k.1 : Int) + 1) = (if x.2.2.2 = 8 then 0 else fK x.2.2.2)) | none => false) = true := by decide
  intro k
  have := h k
  split at this
  · rename_i x hx
    exact ⟨x, hx, by simpa using this⟩
  · cases this
theorem forms_gs {k : Fin 34} {x : Int × Int × Int × Int} (hx : tabR[k.1]? = some x) (w : Int) : (1 ≤ x.2.2.2 ∧ x.2.2.2 ≤ 8) ∧ fCells ((k.1 : Int) + 1) x.2.2.2 w = gsCells ((k.1 : Int) + 1) w := by
  obtain ⟨y, hy, h0, h1, h2, h3, h4⟩ := forms_all k
  rw [hx] at hy
  obtain rfl := Option.some.inj hy
  refine ⟨h0, ?_⟩
  unfold fCells gsCells gRd gR1 gR2 fRd fR1 fR2 fNum
  rw [h1, h2, h3, numS_K, h4]
  simp only [decide_eq_true_eq]
  by_cases h8 : x.2.2.2 = 8
  · rw [if_pos h8, if_pos h8]
    rfl
  · rw [if_neg h8, if_neg h8]
theorem ret5 {w0 w : World} {L : List Blk} (h : Trk w0 w L) (j k : Nat) {b c : Nat} {cs : List Value} {o d x y v : Int} (hj : L[j]? = some (c, [u8v o, u8v d, u8v x, u8v y, i64v v])) (hk : L[k]? = some (b, cs)) (hc : cs.length = 5) {R : Int → Int → Int → Int → Int → World → Prop} (hR : ∀ w', Trk w0 w' (L.set k (b, [u8v o, u8v d, u8v x, u8v y, i64v v])) → R o d x y v w') :
    ∃ m m1 m2 m3 m4, (w.cell? ⟨c, 0, none⟩ = some (u8v m) ∧ w.cell? ⟨c, 1, none⟩ = some (u8v m1) ∧ w.cell? ⟨c, 2, none⟩ = some (u8v m2) ∧ w.cell? ⟨c, 3, none⟩ = some (u8v m3) ∧ w.cell? ⟨c, 4, none⟩ = some (i64v m4) ∧ True) ∧
    SetsAt w ⟨b, 0, none⟩ 0 [u8v m, u8v m1, u8v m2, u8v m3, i64v m4] ∧ ∀ w', w' = setCellsAt w ⟨b, 0, none⟩ 0 [u8v m, u8v m1, u8v m2, u8v m3, i64v m4] →
      ∃ n n1 n2 n3 n4, (w'.cell? ⟨b, 0, none⟩ = some (u8v n) ∧ w'.cell? ⟨b, 1, none⟩ = some (u8v n1) ∧ w'.cell? ⟨b, 2, none⟩ = some (u8v n2) ∧ w'.cell? ⟨b, 3, none⟩ = some (u8v n3) ∧ w'.cell? ⟨b, 4, none⟩ = some (i64v n4) ∧ True) ∧ R n n1 n2 n3 n4 w' := by
  have hkl : k < L.length := (List.getElem?_eq_some_iff.1 hk).1
  refine ⟨o, d, x, y, v, ⟨h.cell j hj rfl, h.cell j hj rfl, h.cell j hj rfl, h.cell j hj rfl, h.cell j hj rfl, trivial⟩, ?_⟩
  refine h.setAll k hk (by simp [hc]) (ones rfl) fun w' h' => ?_
  have hk' : (L.set k (b, [u8v o, u8v d, u8v x, u8v y, i64v v]))[k]? = some (b, [u8v o, u8v d, u8v x, u8v y, i64v v]) := by rw [List.getElem?_set]; simp [hkl]
  exact ⟨o, d, x, y, v, ⟨h'.cell k hk' rfl, h'.cell k hk' rfl, h'.cell k hk' rfl, h'.cell k hk' rfl, h'.cell k hk' rfl, trivial⟩, hR w' h'⟩
set_option maxHeartbeats 6400000 in
theorem ref03_guess_ok (o m : Int) (hm : 1 ≤ m ∧ m ≤ 8) {w : Int} (hw : W32 w) (w0 : World) : Calls Tryd.prog ref03_guess.N #[u8v o, i64v m, u32v w] w0 (Gives (.agg (fCells o m w).toArray) w0) := by
  have f (at_ n : Nat) (ha : at_ ≤ 32) (hn : n ≤ 31) := fun w1 => ref03_field_ok hw at_ n ha hn w1
  refine ref03_guess.calls ?_
  unfold ref03_guess.vc
  intro w1 h1 w2 h2
  have L := ((Trk.start w0).alloc h1).alloc h2
  refine L.setAll (l := [u8v o, u8v 0, u8v 0, u8v 0, i64v 0]) 1 rfl rfl (ones rfl) fun w3 L => ?_
  refine (f 7 5 (by omega) (by omega) w3).mono fun e w4 ⟨he, g4⟩ => ⟨_, he, (f 15 5 (by omega) (by omega) w4).mono fun e w5 ⟨he, g5⟩ => ⟨_, he, (f 20 5 (by omega) (by omega) w5).mono fun e w6 ⟨he, g6⟩ => ⟨_, he, ?_⟩⟩⟩
  have L := ((L.later g4).later g5).later g6
  rw [u8_fld, u8_fld, u8_fld]
  have r0 := fldI_range w 20 12
  simp only [show (2 : Int) ^ 12 = 4096 from rfl] at r0
  have : m = 1 ∨ m = 2 ∨ m = 3 ∨ m = 4 ∨ m = 5 ∨ m = 6 ∨ m = 7 ∨ m = 8 := by omega
  rcases this with rfl | rfl | rfl | rfl | rfl | rfl | rfl | rfl
  · refine cnd_true rfl (L.set1 1 rfl (by simp) fun w7 L => L.set1 1 rfl (by simp) fun w8 L => L.set1 1 rfl (by simp) fun w9 L => ret5 L 1 0 rfl rfl rfl fun w' h' => ⟨rfl, h'.to⟩)
  · refine cnd_false rfl (cnd_true rfl ((f 20 12 (by omega) (by omega) w6).mono fun e w7 ⟨he, g7⟩ => ⟨_, he, (ref03_signed_ok ⟨r0.1, by omega⟩ 12 (by omega) w7).mono fun e w8 ⟨he, g8⟩ => ⟨_, he, ?_⟩⟩))
    exact ((L.later g7).later g8).set1 1 rfl (by simp) fun w7 L => L.set1 1 rfl (by simp) fun w8 L => L.set1 1 rfl (by simp) fun w9 L => ret5 L 1 0 rfl rfl rfl fun w' h' => ⟨rfl, h'.to⟩
  · refine cnd_false rfl (cnd_false rfl (cnd_true rfl ((f 20 6 (by omega) (by omega) w6).mono fun e w7 ⟨he, g7⟩ => ⟨_, he, ?_⟩)))
    have r := fldI_range w 20 6
    simp only [show (2 : Int) ^ 6 = 64 from rfl] at r
    rw [i64_in (by omega) (by omega)]
    exact (L.later g7).set1 1 rfl (by simp) fun w7 L => L.set1 1 rfl (by simp) fun w8 L => L.set1 1 rfl (by simp) fun w9 L => ret5 L 1 0 rfl rfl rfl fun w' h' => ⟨rfl, h'.to⟩
  · refine cnd_false rfl (cnd_false rfl (cnd_false rfl (cnd_true rfl ((f 12 20 (by omega) (by omega) w6).mono fun e w7 ⟨he, g7⟩ => ⟨_, he, ?_⟩))))
    have r := fldI_range w 12 20
    simp only [show (2 : Int) ^ 20 = 1048576 from rfl] at r
    rw [u32_in (by omega) (by omega)]
    refine (ref03_signed_ok ⟨by omega, by omega⟩ 32 (by omega) w7).mono fun e w8 ⟨he, g8⟩ => ⟨_, he, ?_⟩
    exact ((L.later g7).later g8).set1 1 rfl (by simp) fun w7 L => L.set1 1 rfl (by simp) fun w8 L => ret5 L 1 0 rfl rfl rfl fun w' h' => ⟨rfl, h'.to⟩
  · refine cnd_false rfl (cnd_false rfl (cnd_false rfl (cnd_false rfl (cnd_true rfl ((f 7 5 (by omega) (by omega) w6).mono fun e w7 ⟨he, g7⟩ => ⟨_, he, (f 25 7 (by omega) (by omega) w7).mono fun e w8 ⟨he, g8⟩ => ⟨_, he, ?_⟩⟩)))))
    have a := fldI_range w 7 5
    have b := fldI_range w 25 7
    simp only [show (2 : Int) ^ 5 = 32 from rfl, show (2 : Int) ^ 7 = 128 from rfl] at a b
    rw [u32_in (x := fldI w 25 7 * 32) (by omega) (by omega), u32_in (by omega) (by omega), Int.add_comm]
    refine (ref03_signed_ok ⟨by omega, by omega⟩ 12 (by omega) w8).mono fun e w9 ⟨he, g9⟩ => ⟨_, he, ?_⟩
    exact (((L.later g7).later g8).later g9).set1 1 rfl (by simp) fun w7 L => L.set1 1 rfl (by simp) fun w8 L => L.set1 1 rfl (by simp) fun w9 L => ret5 L 1 0 rfl rfl rfl fun w' h' => ⟨rfl, h'.to⟩
  · refine cnd_false rfl (cnd_false rfl (cnd_false rfl (cnd_false rfl (cnd_false rfl (cnd_true rfl ((f 8 4 (by omega) (by omega) w6).mono fun e w7 ⟨he, g7⟩ => ⟨_, he, (f 25 6 (by omega) (by omega) w7).mono fun e w8 ⟨he, g8⟩ => ⟨_, he, (f 7 1 (by omega) (by omega) w8).mono fun e w9 ⟨he, g9⟩ => ⟨_, he, (f 31 1 (by omega) (by omega) w9).mono fun e w10 ⟨he, g10⟩ => ⟨_, he, ?_⟩⟩⟩⟩))))))
    have a := fldI_range w 8 4
    have b := fldI_range w 25 6
    have c := fldI_range w 7 1
    have d := fldI_range w 31 1
    simp only [show (2 : Int) ^ 4 = 16 from rfl, show (2 : Int) ^ 6 = 64 from rfl, show (2 : Int) ^ 1 = 2 from rfl] at a b c d
    rw [u32_in (x := fldI w 8 4 * 2) (by omega) (by omega), u32_in (x := fldI w 25 6 * 32) (by omega) (by omega), u32_in (x := fldI w 7 1 * 2048) (by omega) (by omega), u32_in (x := fldI w 31 1 * 4096) (by omega) (by omega),
      u32_in (x := fldI w 8 4 * 2 + fldI w 25 6 * 32) (by omega) (by omega), u32_in (x := fldI w 8 4 * 2 + fldI w 25 6 * 32 + fldI w 7 1 * 2048) (by omega) (by omega), u32_in (by omega) (by omega)]
    refine (ref03_signed_ok ⟨by omega, by omega⟩ 13 (by omega) w10).mono fun e w11 ⟨he, g11⟩ => ⟨_, he, ?_⟩
    exact (((((L.later g7).later g8).later g9).later g10).later g11).set1 1 rfl (by simp) fun w7 L => L.set1 1 rfl (by simp) fun w8 L => L.set1 1 rfl (by simp) fun w9 L => ret5 L 1 0 rfl rfl rfl fun w' h' => ⟨rfl, h'.to⟩
  · refine cnd_false rfl (cnd_false rfl (cnd_false rfl (cnd_false rfl (cnd_false rfl (cnd_false rfl (cnd_true rfl ((f 21 10 (by omega) (by omega) w6).mono fun e w7 ⟨he, g7⟩ => ⟨_, he, (f 20 1 (by omega) (by omega) w7).mono fun e w8 ⟨he, g8⟩ => ⟨_, he, (f 12 8 (by omega) (by omega) w8).mono fun e w9 ⟨he, g9⟩ => ⟨_, he, (f 31 1 (by omega) (by omega) w9).mono fun e w10 ⟨he, g10⟩ => ⟨_, he, ?_⟩⟩⟩⟩)))))))
    have a := fldI_range w 21 10
    have b := fldI_range w 20 1
    have c := fldI_range w 12 8
    have d := fldI_range w 31 1
    simp only [show (2 : Int) ^ 10 = 1024 from rfl, show (2 : Int) ^ 8 = 256 from rfl, show (2 : Int) ^ 1 = 2 from rfl] at a b c d
    rw [u32_in (x := fldI w 21 10 * 2) (by omega) (by omega), u32_in (x := fldI w 20 1 * 2048) (by omega) (by omega), u32_in (x := fldI w 12 8 * 4096) (by omega) (by omega), u32_in (x := fldI w 31 1 * 1048576) (by omega) (by omega),
      u32_in (x := fldI w 21 10 * 2 + fldI w 20 1 * 2048) (by omega) (by omega), u32_in (x := fldI w 21 10 * 2 + fldI w 20 1 * 2048 + fldI w 12 8 * 4096) (by omega) (by omega), u32_in (by omega) (by omega)]
    refine (ref03_signed_ok ⟨by omega, by omega⟩ 21 (by omega) w10).mono fun e w11 ⟨he, g11⟩ => ⟨_, he, ?_⟩
    exact (((((L.later g7).later g8).later g9).later g10).later g11).set1 1 rfl (by simp) fun w7 L => L.set1 1 rfl (by simp) fun w8 L => ret5 L 1 0 rfl rfl rfl fun w' h' => ⟨rfl, h'.to⟩
  · exact cnd_false rfl (cnd_false rfl (cnd_false rfl (cnd_false rfl (cnd_false rfl (cnd_false rfl (cnd_false rfl (ret5 L 1 0 rfl rfl rfl fun w' h' => ⟨rfl, h'.to⟩)))))))

/-! ### Decode -/
theorem decK_at {w : Int} {k : Fin 34} (h : ∀ y : Fin 34, y.1 < k.1 → fitG w y = false) (hk : fitG w k = true) : decK w = some k := by
  have hp : (List.finRange 34).take k.1 ++ [k] <+: List.finRange 34 := by
    have : (List.finRange 34).take k.1 ++ [k] = (List.finRange 34).take (k.1 + 1) := by
      rw [List.take_add_one, List.getElem?_eq_getElem (by rw [List.length_finRange]; exact k.2)]
      simp
    rw [this]
    exact List.take_prefix _ _
  refine decK_some hp (fun y hy => h y ?_) hk
  obtain ⟨i, hi, e⟩ := List.getElem_of_mem hy
  rw [List.getElem_take, List.getElem_finRange] at e
  simp at hi
  rw [← e]
  simp
  omega
set_option maxHeartbeats 3200000 in
theorem ref03_Decode_ok {wv : Int} (hw : W32 wv) (w0 : World) : Calls Tryd.prog ref03_Decode.N #[u32v wv] w0 (Gives (.tuple #[.agg (decI wv).toArray, i64v (decE wv)]) w0) := by
  refine ref03_Decode.calls ?_
  unfold ref03_Decode.vc
  intro w1 h1
  have L := (Trk.start w0).alloc h1
  refine ⟨fun vs w' => ∃ k : Nat, k ≤ 34 ∧ vs = [.int .u8 ((k : Int) + 1)] ∧ (∀ y : Fin 34, y.1 < k → fitG wv y = false) ∧ Later w1 w', fun vs _ => match vs with | [.int _ n] => (40 - n).toNat | _ => 0, ⟨0, by omega, rfl, fun y hy => by omega, Later.refl _⟩, ?_⟩
  rintro g op w2 ⟨k, hk, hs, hj, hl⟩
  simp only [List.cons.injEq, Value.int.injEq, true_and, and_true] at hs
  subst hs
  have L2 := L.later hl
  refine cnd_of (fun h => ?_) fun h => ?_
  · have h34 : k < 34 := by simp only [decide_eq_true_eq] at h; omega
    obtain ⟨x, hx, -⟩ := forms_all ⟨k, h34⟩
    obtain ⟨hm, hgs⟩ := forms_gs hx wv
    have hx' : tabR[(((k : Int) + 1) - 1).toNat]? = some x := by rw [show (((k : Int) + 1) - 1).toNat = k by omega]; exact hx
    refine (ref02_Of_yes ((k : Int) + 1) (by omega) (by omega) x hx' w2).mono fun e w3 ⟨he, g3⟩ => ⟨_, _, _, _, _, he, fun w4 h4 => ?_⟩
    have M := (Trk.here g3).alloc h4
    refine M.setAll (l := [u32v x.1, u32v x.2.1, u32v x.2.2.1, i64v x.2.2.2]) 0 rfl rfl (ones rfl) fun w5 M => ?_
    refine ⟨_, M.cell 0 rfl rfl, (ref03_guess_ok ((k : Int) + 1) x.2.2.2 hm hw w5).mono fun e w6 ⟨he, g6⟩ => ⟨_, _, _, _, _, he, fun w7 h7 => ?_⟩⟩
    have hc : fCells ((k : Int) + 1) x.2.2.2 wv = gsCells ((k : Int) + 1) wv := hgs
    simp only [fCells, gsCells, List.cons.injEq, Value.int.injEq, true_and, and_true] at hc
    obtain ⟨c1, c2, c3, c4⟩ := hc
    rw [c1, c2, c3, c4]
    have M := (M.later g6).alloc h7
    refine M.setAll (l := gsCells ((k : Int) + 1) wv) 1 rfl rfl (ones rfl) fun w8 M => ?_
    refine ⟨_, _, _, _, _, ⟨M.cell 1 rfl rfl, M.cell 1 rfl rfl, M.cell 1 rfl rfl, M.cell 1 rfl rfl, M.cell 1 rfl rfl, trivial⟩, ?_⟩
    have r1 : U8 (gRd ((k : Int) + 1) wv) := by unfold gRd U8; have := fld5 wv 7; split <;> omega
    have r2 : U8 (gR1 ((k : Int) + 1) wv) := by unfold gR1 U8; have := fld5 wv 15; split <;> omega
    have r3 : U8 (gR2 ((k : Int) + 1) wv) := by unfold gR2 U8; have := fld5 wv 20; split <;> omega
    refine (ref02_Encode_ok _ _ _ _ _ ⟨by omega, by omega⟩ r1 r2 r3 (numS_range _ _) w8).mono fun e w9 ⟨he, g9⟩ => ?_
    have M := M.later g9
    have hfit : fitG wv ⟨k, h34⟩ = decide (encG ((k : Int) + 1) wv = some wv) := rfl
    change e = .returned (encR (encG ((k : Int) + 1) wv)) at he
    have out : fitG wv ⟨k, h34⟩ = false → Goes (fun vs w' => ∃ k : Nat, k ≤ 34 ∧ vs = [.int .u8 ((k : Int) + 1)] ∧ (∀ y : Fin 34, y.1 < k → fitG wv y = false) ∧ Later w1 w') (fun vs _ => match vs with | [.int _ n] => (40 - n).toNat | _ => 0) [.int .u8 ((k : Int) + 1)] w2 [.int .u8 (IntKind.u8.wrap ((k : Int) + 1 + 1))] w9 := by
      intro hf
      rw [u8_in (x := (k : Int) + 1 + 1) (by omega) (by omega)]
      refine ⟨⟨k + 1, by omega, by simp, fun y hy => ?_, hl.trans M.to⟩, ?_⟩
      · by_cases h : y.1 = k
        · obtain rfl : y = ⟨k, h34⟩ := Fin.ext h
          exact hf
        · exact hj y (by omega)
      · show (40 - ((k : Int) + 1 + 1)).toNat < (40 - ((k : Int) + 1)).toNat
        omega
    cases hG : encG ((k : Int) + 1) wv with
    | none =>
      rw [hG] at he
      exact ⟨_, _, he, cnd_false rfl (out (by rw [hfit, hG]; simp))⟩
    | some v =>
      rw [hG] at he
      refine ⟨_, _, he, cnd_true rfl (cnd_of (fun hv => ?_) fun hv => out (by rw [hfit, hG]; simpa using hv))⟩
      have hv : v = wv := by simpa using hv
      have hf : fitG wv ⟨k, h34⟩ = true := by rw [hfit, hG, hv]; simp
      have hK := decK_at hj hf
      refine ⟨_, _, _, _, _, ⟨M.cell 1 rfl rfl, M.cell 1 rfl rfl, M.cell 1 rfl rfl, M.cell 1 rfl rfl, M.cell 1 rfl rfl, trivial⟩, ?_⟩
      refine (L2.later M.to).setAll (l := gsCells ((k : Int) + 1) wv) 0 rfl rfl (ones rfl) fun w10 L => ?_
      refine ⟨_, _, _, _, _, ⟨L.cell 0 rfl rfl, L.cell 0 rfl rfl, L.cell 0 rfl rfl, L.cell 0 rfl rfl, L.cell 0 rfl rfl, trivial⟩, ?_, L.to⟩
      rw [decI, decE, hK]
      rfl
  · have : k = 34 := by simp only [decide_eq_false_iff_not] at h; omega
    subst this
    have hK := decK_none (w := wv) fun y _ => hj y y.2
    refine L2.setAll (l := [u8v 0, u8v 0, u8v 0, u8v 0, i64v 0]) 0 rfl rfl (ones rfl) fun w10 L => ?_
    refine ⟨_, _, _, _, _, ⟨L.cell 0 rfl rfl, L.cell 0 rfl rfl, L.cell 0 rfl rfl, L.cell 0 rfl rfl, L.cell 0 rfl rfl, trivial⟩, ?_, L.to⟩
    rw [decI, decE, hK]
end Go.Proofs.YtgchaghdhofnoaaDoor

/-
The explicit conditions of some functions of the program, printed by this repo's own program over VcTop: what is proved is that each is the condition.
Conditions: none.
-/
namespace Go.Proofs.YtgchaghdhofnoaaDoor
open Go Go.Vc Go.RowKit
set_option linter.unusedVariables false
set_option maxRecDepth 100000

/- function 16: sacristy/insn.All -/
abbrev insn_All.N : FuncId := 16
def insn_All.H : Hints := { loops := [(4, [(13, .one (.int .i64))])] }
def insn_All.vc (l' : Option Addr) (l'n : Nat) (l'c : Nat) (w : World) (R : Ending → World → Prop) : Prop :=
  ∀ (w' : World),
  w' = w.alloc (Obj.cells #[Value.pointer none, Value.slice none 0 0] 74) →
  ∃ (I : List Value → World → Prop),
  ∃ (μ : List Value → World → Nat),
  I [Value.int IntKind.i64 0] w' ∧
  ∀ (g : Nat → Value) (s13 : Int) (w' : World),
  I [Value.int IntKind.i64 s13] w' →
  cnd (decide (s13 < (↑l'n : Int)))
  ((0 ≤ s13 ∧ s13 < (↑l'n : Int)) ∧
  Deref l' fun (a : Addr) =>
  ∃ (n : Int),
  ∃ (n_1 : Int),
  ∃ (n_2 : Int),
  ∃ (n_3 : Int),
  ∃ (n_4 : Int),
  (w'.cell? (a.add (s13.toNat * 5)) = some (Value.int IntKind.u8 n) ∧
  w'.cell? ((a.add (s13.toNat * 5)).add 1) = some (Value.int IntKind.u8 n_1) ∧
  w'.cell? ((a.add (s13.toNat * 5)).add 2) = some (Value.int IntKind.u8 n_2) ∧
  w'.cell? ((a.add (s13.toNat * 5)).add 3) = some (Value.int IntKind.u8 n_3) ∧
  w'.cell? ((a.add (s13.toNat * 5)).add 4) = some (Value.int IntKind.i64 n_4) ∧
  True) ∧
  ∀ (w'_1 : World),
  w'_1 =
  w'.alloc
  (Obj.cells
  #[Value.int IntKind.u8 0, Value.int IntKind.u8 0, Value.int IntKind.u8 0,
  Value.int IntKind.u8 0, Value.int IntKind.i64 0]
  24) →
  SetsAt w'_1 (Addr.mk w'.heap.size 0 none) 0
  [Value.int IntKind.u8 n, Value.int IntKind.u8 n_1, Value.int IntKind.u8 n_2,
  Value.int IntKind.u8 n_3, Value.int IntKind.i64 n_4] ∧
  ∀ (w'_2 : World),
  w'_2 =
  setCellsAt w'_1 (Addr.mk w'.heap.size 0 none) 0
  [Value.int IntKind.u8 n, Value.int IntKind.u8 n_1,
  Value.int IntKind.u8 n_2, Value.int IntKind.u8 n_3,
  Value.int IntKind.i64 n_4] →
  ∃ (n : Int),
  ∃ (n_5 : Int),
  ∃ (n_6 : Int),
  ∃ (n_7 : Int),
  ∃ (n_8 : Int),
  (w'_2.cell? (Addr.mk w'.heap.size 0 none) =
  some (Value.int IntKind.u8 n) ∧
  w'_2.cell? (Addr.mk w'.heap.size 1 none) =
  some (Value.int IntKind.u8 n_5) ∧
  w'_2.cell? (Addr.mk w'.heap.size 2 none) =
  some (Value.int IntKind.u8 n_6) ∧
  w'_2.cell? (Addr.mk w'.heap.size 3 none) =
  some (Value.int IntKind.u8 n_7) ∧
  w'_2.cell? (Addr.mk w'.heap.size 4 none) =
  some (Value.int IntKind.i64 n_8) ∧
  True) ∧
  Calls Proofs.Tryd.prog 15
  #[Value.agg
  #[Value.int IntKind.u8 n, Value.int IntKind.u8 n_5,
  Value.int IntKind.u8 n_6, Value.int IntKind.u8 n_7,
  Value.int IntKind.i64 n_8]]
  w'_2 fun (e : Ending) (w'_3 : World) =>
  ∃ (n : Int),
  ∃ (n_9 : Int),
  e =
  Ending.returned
  (Value.tuple
  #[Value.int IntKind.u32 n,
  Value.int IntKind.i64 n_9]) ∧
  cnd (n_9 != 0)
  (R
  (Ending.returned
  (Value.tuple
  #[Value.string (ByteArray.mk #[]),
  Value.int IntKind.i64 n_9]))
  w'_3)
  (Calls Proofs.Tryd.prog 37
  #[Value.int IntKind.u64 (IntKind.u64.wrap n),
  Value.int IntKind.i64 4]
  w'_3 fun (e : Ending) (w'_4 : World) =>
  ∃ (s : ByteArray),
  ∃ (n : Int),
  e =
  Ending.returned
  (Value.tuple
  #[Value.string s,
  Value.int IntKind.i64 n]) ∧
  Calls Proofs.Tryd.prog 38
  #[Value.pointer
  (some (Addr.mk w.heap.size 0 none)),
  Value.string s]
  w'_4 fun (e : Ending) (w'_5 : World) =>
  ∃ (n : Int),
  ∃ (v : Value),
  e =
  Ending.returned
  (Value.tuple
  #[Value.int IntKind.i64 n, v]) ∧
  Goes I μ [Value.int IntKind.i64 s13] w'
  [Value.int IntKind.i64
  (IntKind.i64.wrap (s13 + 1))]
  w'_5))
  (Calls Proofs.Tryd.prog 39 #[Value.pointer (some (Addr.mk w.heap.size 0 none))] w'
  fun (e : Ending) (w' : World) =>
  ∃ (s : ByteArray),
  e = Ending.returned (Value.string s) ∧
  R (Ending.returned (Value.tuple #[Value.string s, Value.int IntKind.i64 0])) w')
theorem insn_All.vc_eq (l' : Option Addr) (l'n : Nat) (l'c : Nat) (w : World) (R : Ending → World → Prop) : fnV Tryd.prog insn_All.H 16 [Value.slice l' l'n l'c] w R = insn_All.vc l' l'n l'c w R := by kernel_rfl
theorem insn_All.calls {l' : Option Addr} {l'n : Nat} {l'c : Nat} {w : World} {R : Ending → World → Prop} (h : insn_All.vc l' l'n l'c w R) : Calls Tryd.prog 16 ([Value.slice l' l'n l'c] : List Value).toArray w R := calls_of_eq (insn_All.vc_eq l' l'n l'c w R) h

end Go.Proofs.YtgchaghdhofnoaaDoor

/-
The explicit conditions of some functions of the program, printed by this repo's own program over VcTop: what is proved is that each is the condition.
Conditions: none.
-/
namespace Go.Proofs.YtgchaghdhofnoaaDoor
open Go Go.Vc Go.RowKit
set_option linter.unusedVariables false
set_option maxRecDepth 100000

/- function 38: (*strings.Builder).WriteString -/
abbrev strings_Builder_WriteString.N : FuncId := 38
def strings_Builder_WriteString.H : Hints := {  }
def strings_Builder_WriteString.vc (b' : Option Addr) (s' : ByteArray) (w : World) (R : Ending → World → Prop) : Prop :=
  Calls Proofs.Tryd.prog 61 #[Value.pointer b'] w fun (e : Ending) (w' : World) =>
  e = Ending.returned (Value.tuple #[]) ∧
  Deref b' fun (a : Addr) =>
  ∃ (p : Option Addr),
  ∃ (n : Nat),
  ∃ (c : Nat),
  w'.cell? (a.add 1) = some (Value.slice p n c) ∧
  RunsV Proofs.Tryd.prog (Builtin.append_ #[72, 9] 72 #[Value.slice p n c, Value.string s']) w'
  fun (v : Value) (w' : World) =>
  ∃ (p : Option Addr),
  ∃ (n : Nat),
  ∃ (c : Nat),
  v = Value.slice p n c ∧
  Deref b' fun (a : Addr) =>
  ((w'.cell? (a.add 1)).isSome = true ∧ w'.frozen? (a.add 1) = false) ∧
  ∀ (w'_1 : World),
  w'_1 = w'.setCell (a.add 1) (Value.slice p n c) →
  R
  (Ending.returned
  (Value.tuple #[Value.int IntKind.i64 (↑s'.size : Int), Value.nilIface]))
  w'_1
theorem strings_Builder_WriteString.vc_eq (b' : Option Addr) (s' : ByteArray) (w : World) (R : Ending → World → Prop) : fnV Tryd.prog strings_Builder_WriteString.H 38 [Value.pointer b', Value.string s'] w R = strings_Builder_WriteString.vc b' s' w R := by kernel_rfl
theorem strings_Builder_WriteString.calls {b' : Option Addr} {s' : ByteArray} {w : World} {R : Ending → World → Prop} (h : strings_Builder_WriteString.vc b' s' w R) : Calls Tryd.prog 38 ([Value.pointer b', Value.string s'] : List Value).toArray w R := calls_of_eq (strings_Builder_WriteString.vc_eq b' s' w R) h

/- function 39: (*strings.Builder).String -/
abbrev strings_Builder_String.N : FuncId := 39
def strings_Builder_String.H : Hints := { tails := [(1, 10)] }
def strings_Builder_String.vc (b' : Option Addr) (w : World) (R : Ending → World → Prop) : Prop :=
  Deref b' fun (a : Addr) =>
  ∃ (p : Option Addr),
  ∃ (n : Nat),
  ∃ (c : Nat),
  (∀ (w' : World), Later w w' → w'.cell? (a.add 1) = some (Value.slice p n c)) ∧
  ∃ (p_1 : Option Addr),
  (∀ (w' : World),
  Later w w' →
  Sem.run Proofs.Tryd.prog (Builtin.unsafeSliceData_ #[72] 94 #[Value.slice p n c]) w' =
  Result.ok (Value.pointer p_1) w') ∧
  Deref b' fun (a : Addr) =>
  ∃ (p : Option Addr),
  ∃ (n : Nat),
  ∃ (c : Nat),
  (∀ (w' : World), Later w w' → w'.cell? (a.add 1) = some (Value.slice p n c)) ∧
  ∀ (w' : World),
  Later w w' →
  RunsV Proofs.Tryd.prog
  (Builtin.unsafeString_ #[94, 3] 9 #[Value.pointer p_1, Value.int IntKind.i64 (↑n : Int)])
  w' fun (v : Value) (w' : World) =>
  ∃ (s : ByteArray), v = Value.string s ∧ R (Ending.returned (Value.string s)) w'
theorem strings_Builder_String.vc_eq (b' : Option Addr) (w : World) (R : Ending → World → Prop) : fnV Tryd.prog strings_Builder_String.H 39 [Value.pointer b'] w R = strings_Builder_String.vc b' w R := by kernel_rfl
theorem strings_Builder_String.calls {b' : Option Addr} {w : World} {R : Ending → World → Prop} (h : strings_Builder_String.vc b' w R) : Calls Tryd.prog 39 ([Value.pointer b'] : List Value).toArray w R := calls_of_eq (strings_Builder_String.vc_eq b' w R) h

/- function 61: (*strings.Builder).copyCheck -/
abbrev strings_Builder_copyCheck.N : FuncId := 61
def strings_Builder_copyCheck.H : Hints := {  }
def strings_Builder_copyCheck.vc (b' : Option Addr) (w : World) (R : Ending → World → Prop) : Prop :=
  Deref b' fun (a : Addr) =>
  ∃ (p : Option Addr),
  w.cell? a = some (Value.pointer p) ∧
  ∃ (b : Bool),
  EqRuns Proofs.Tryd.prog BinOp.eql 71 (Operand.tmp 5) (Operand.const (Value.pointer none)) (Value.pointer p)
  (Value.pointer none) b ∧
  cnd b
  (RunsV Proofs.Tryd.prog (convert 71 109 (Value.pointer b')) w fun (v : Value) (w' : World) =>
  ∃ (p : Option Addr),
  v = Value.pointer p ∧
  RunsC Proofs.Tryd.prog 73 #[Value.pointer p] w' fun (v : Value) (w' : World) =>
  ∃ (p : Option Addr),
  v = Value.pointer p ∧
  RunsV Proofs.Tryd.prog (convert 109 71 (Value.pointer p)) w' fun (v : Value) (w' : World) =>
  ∃ (p : Option Addr),
  v = Value.pointer p ∧
  Deref b' fun (a : Addr) =>
  ((w'.cell? a).isSome = true ∧ w'.frozen? a = false) ∧
  ∀ (w'_1 : World),
  w'_1 = w'.setCell a (Value.pointer p) → R (Ending.returned (Value.tuple #[])) w'_1)
  (Deref b' fun (a_1 : Addr) =>
  ∃ (p_1 : Option Addr),
  w.cell? a_1 = some (Value.pointer p_1) ∧
  ∃ (b_1 : Bool),
  EqRuns Proofs.Tryd.prog BinOp.neq 71 (Operand.tmp 17) (Operand.tmp 18) (Value.pointer p_1)
  (Value.pointer b') b_1 ∧
  cnd b_1
  (RawWp Proofs.Tryd.prog
  (Code.refuse
  "(*strings.Builder).copyCheck builder.go:41: unsupported: a written strings.Builder's value in another place: whether the library's copy check passes hangs on where the compiler lays the two")
  (endQ Proofs.Tryd.prog Proofs.Tryd.prog.funcs[61] R)
  [Value.pointer b', Value.tuple #[], Value.pointer b', Value.pointer (some a),
  Value.pointer (some a), Value.pointer p, Value.bool b, Value.tuple #[], Value.tuple #[],
  Value.tuple #[], Value.tuple #[], Value.tuple #[], Value.tuple #[], Value.tuple #[],
  Value.pointer b', Value.pointer (some a_1), Value.pointer (some a_1), Value.pointer p_1,
  Value.pointer b', Value.bool b_1]
  w)
  (R (Ending.returned (Value.tuple #[])) w))
theorem strings_Builder_copyCheck.vc_eq (b' : Option Addr) (w : World) (R : Ending → World → Prop) : fnV Tryd.prog strings_Builder_copyCheck.H 61 [Value.pointer b'] w R = strings_Builder_copyCheck.vc b' w R := by kernel_rfl
theorem strings_Builder_copyCheck.calls {b' : Option Addr} {w : World} {R : Ending → World → Prop} (h : strings_Builder_copyCheck.vc b' w R) : Calls Tryd.prog 61 ([Value.pointer b'] : List Value).toArray w R := calls_of_eq (strings_Builder_copyCheck.vc_eq b' w R) h

end Go.Proofs.YtgchaghdhofnoaaDoor

/-
The contracts of a strings.Builder that the call has made itself: what is written, and what it holds in the end.
Conditions: no more than 2^47 bytes, as each theorem says.
-/
namespace Go.Proofs.YtgchaghdhofnoaaDoor
open Go Go.Vc Go.RowKit
set_option linter.unusedVariables false
set_option linter.unusedSimpArgs false
set_option linter.unnecessarySimpa false
set_option maxRecDepth 100000

abbrev bT : TypeId := 74
abbrev bE : TypeId := 5
abbrev ptrAt (b : Nat) : Value := .pointer (some ⟨b, 0, none⟩)
theorem bT_info : ∃ j, Tryd.prog.info? bT = some j ∧ j.size = 2 := by
  have h : (Tryd.prog.info? bT).map (·.size) = some 2 := by kernel_rfl
  obtain ⟨j, hj, hs⟩ := Option.map_eq_some_iff.1 h
  exact ⟨j, hj, hs⟩
theorem byte_info : ∃ i, Tryd.prog.info? bE = some i ∧ i.zero = some (.int .u8 0) ∧ i.size = 1 ∧ i.bytes = 1 := by
  have h : (Tryd.prog.info? bE).map (fun i => (i.zero, i.size, i.bytes)) = some (some (.int .u8 0), 1, 1) := by kernel_rfl
  obtain ⟨j, hj, hs⟩ := Option.map_eq_some_iff.1 h
  simp only [Prod.mk.injEq] at hs
  exact ⟨j, hj, hs.1, hs.2.1, hs.2.2⟩
theorem later_builder {w0 w w' : World} {b : Nat} {p : Value} {bs : List Value} (h : Lib.BuilderAt bT bE w0.heap.size b p bs w) (hl : Later w w') : Lib.BuilderAt bT bE w0.heap.size b p bs w' := by
  have hlt := h.lt
  obtain ⟨hB, v, hb, hown, hne⟩ := h
  exact ⟨hB, v, by rw [hl.block hlt]; exact hb, OwnS.later hown hl, hne⟩
/-- The first check of each writing method: behind it the builder holds its own address. -/
theorem bld_copyCheck_ok (w0 : World) (b : Nat) (bs : List Value) (w : World) (h : Lib.IsBuilder bT bE w0.heap.size b bs w) :
    Calls Tryd.prog strings_Builder_copyCheck.N #[ptrAt b] w fun e w' => e = .returned (.tuple #[]) ∧ Lib.BuilderAt bT bE w0.heap.size b (ptrAt b) bs w' ∧ Below w0.heap.size w w' ∧ w.heap.size ≤ w'.heap.size := by
  have eq1 : ∀ (p : Option Addr) (xo yo : Operand), EqRuns Tryd.prog .eql 71 xo yo (.pointer p) (.pointer none) p.isNone := by
    intro p xo yo w
    rw [eqGuard_at_pointer]
    simp only [Sem.run_bind, Sem.run_pure, Result.andThen_ok]
    exact run_eql_pointer_nil w _ p (by kernel_rfl)
  obtain ⟨j, hj, hjs⟩ := bT_info
  refine strings_Builder_copyCheck.calls ?_
  unfold strings_Builder_copyCheck.vc
  refine Deref_some rfl ?_
  rcases h with h | h
  · refine ⟨_, h.cell0, _, eq1 _ _ _, cnd_true rfl ?_⟩
    refine RunsV_of (Lib.run_to_unsafe w ⟨b, 0, none⟩ (t := bT) (by kernel_rfl) (by kernel_rfl) hj (by omega) h.shape (Nat.zero_lt_succ 1)) ⟨_, rfl, ?_⟩
    refine RunsC_of (v := ptrAt b) (w' := w) ?_ ⟨_, rfl, ?_⟩
    · rw [run_callFunc_extern (fn := Tryd.f73) Tryd.func73 (by kernel_rfl) (by kernel_rfl) (by kernel_rfl) (e := Extern.AbiNoEscape.same) (by kernel_rfl), Lib.run_noEscape]
      rfl
    refine RunsV_of (Lib.run_from_unsafe w ⟨b, 0, none⟩ (u := bT) (by kernel_rfl) (by kernel_rfl) hj h.shape (by kernel_rfl)) ⟨_, rfl, Deref_some rfl ?_⟩
    refine ⟨⟨by rw [h.cell0]; rfl, h.frozen0⟩, fun w1 e1 => ?_⟩
    subst e1
    exact ⟨rfl, h.used _, (Below.refl _ _).setCell h.1 _, by simp [World.setCell]⟩
  · refine ⟨_, h.cell0, _, eq1 _ _ _, cnd_false rfl (Deref_some rfl ⟨_, h.cell0, false, ?_, cnd_false rfl ⟨rfl, h, Below.refl _ _, Nat.le_refl _⟩⟩)⟩
    intro w
    rw [eqGuard_at_pointer]
    simp only [Sem.run_bind, Sem.run_pure, Result.andThen_ok]
    exact Lib.run_neq_ptr_same w ⟨b, 0, none⟩ (te := bT) (by kernel_rfl) hj
theorem bld_WriteString_ok (w0 : World) (b : Nat) (bs : List Value) (s : ByteArray) (w : World) (h : Lib.IsBuilder bT bE w0.heap.size b bs w) (hlen : bs.length + s.size ≤ 140737488355328) :
    Calls Tryd.prog strings_Builder_WriteString.N #[ptrAt b, .string s] w fun e w' => e = .returned (.tuple #[.int .i64 s.size, .nilIface]) ∧ Lib.BuilderAt bT bE w0.heap.size b (ptrAt b) (bs ++ Lib.strCells s) w' ∧ Below w0.heap.size w w' := by
  refine strings_Builder_WriteString.calls ?_
  unfold strings_Builder_WriteString.vc
  have hwB : w0.heap.size ≤ w.heap.size := by
    rcases h with h | h <;> exact Nat.le_of_lt (Nat.lt_of_le_of_lt h.1 h.lt)
  refine (bld_copyCheck_ok w0 b bs w h).mono fun e w1 ⟨he, h1, hb1, hsz⟩ => ⟨he, Deref_some rfl ?_⟩
  have hlt := h1.lt
  obtain ⟨hB, v, hbk, hown, hne⟩ := h1
  obtain ⟨i, hi, hz, hs1, hs2⟩ := byte_info
  obtain ⟨p, n, c, rfl⟩ : ∃ p n c, v = .slice p n c := by
    rcases hown.2 with ⟨hv, _⟩ | ⟨g, cap, cur, hv, _⟩
    · exact ⟨_, _, _, hv⟩
    · exact ⟨_, _, _, hv⟩
  refine ⟨p, n, c, by rw [add_block]; rw [Lib.cell_of_heap hbk]; rfl, ?_⟩
  obtain ⟨v', w2, hr, hown', hgrow, _⟩ := Lib.run_append_own_string (P := Tryd.prog) w1 w0.heap.size 72 9 72 bE i (by kernel_rfl) (by kernel_rfl) hi hz hs1 hs2 _ bs.length bs hown s (by unfold maxLen; omega) hlen (by omega)
  obtain ⟨p', n', c', rfl⟩ : ∃ p n c, v' = .slice p n c := by
    rcases hown'.2 with ⟨hv, _⟩ | ⟨g, cap, cur, hv, _⟩
    · exact ⟨_, _, _, hv⟩
    · exact ⟨_, _, _, hv⟩
  have hb2 : w2.heap[b]? = some (.cells #[ptrAt b, .slice p n c] bT (0, 0)) := by
    rw [hgrow.block b hlt (fun e => hne e.symm)]
    exact hbk
  refine RunsV_of hr ⟨p', n', c', rfl, Deref_some rfl ?_⟩
  rw [add_block]
  refine ⟨⟨by rw [Lib.cell_of_heap hb2]; rfl, Lib.frozen_of_heap hb2 1⟩, fun w3 e3 => ⟨rfl, ?_, ?_⟩⟩
  · subst e3
    exact Lib.BuilderAt.put hB hb2 (bs' := bs ++ Lib.strCells s) (by simpa [Lib.strCells_length] using hown') (by decide)
  · subst e3
    exact (hb1.grown hgrow (by omega) (fun k hk => (World.ownsRow.lt hown k hk).1)).setCell (p := ⟨b, 1, none⟩) hB _
/-- What a builder holds, nil its buffer as long as nothing was written. -/
def BldI (w0 : World) (b : Nat) (l : List UInt8) (w : World) : Prop :=
  w0.heap.size ≤ b ∧ ((l = [] ∧ w.heap[b]? = some (.cells #[.pointer none, .slice none 0 0] bT (0, 0))) ∨ (l ≠ [] ∧ Lib.IsBuilder bT bE w0.heap.size b (Lib.byteCells l) w))
theorem BldI.later {w0 w w' : World} {b : Nat} {l : List UInt8} (h : BldI w0 b l w) (hl : Later w w') : BldI w0 b l w' := by
  obtain ⟨h0, ⟨h1, h2⟩ | ⟨h1, h2⟩⟩ := h
  · exact ⟨h0, .inl ⟨h1, by rw [hl.block (Array.getElem?_eq_some_iff.1 h2).1]; exact h2⟩⟩
  · refine ⟨h0, .inr ⟨h1, ?_⟩⟩
    rcases h2 with h2 | h2
    · exact .inl (later_builder h2 hl)
    · exact .inr (later_builder h2 hl)
theorem BldI.start (w : World) : BldI w w.heap.size [] (w.alloc (.cells #[.pointer none, .slice none 0 0] bT)) := ⟨Nat.le_refl _, .inl ⟨rfl, heap_alloc_new w _⟩⟩
theorem BldI.is {w0 w : World} {b : Nat} {l : List UInt8} (h : BldI w0 b l w) : Lib.IsBuilder bT bE w0.heap.size b (Lib.byteCells l) w := by
  obtain ⟨h0, ⟨rfl, h2⟩ | ⟨h1, h2⟩⟩ := h
  · exact .inl ⟨h0, _, h2, World.ownsRow_nil _ _ _ _, by simp [Value.ownBlock]⟩
  · exact h2
theorem bld_write (w0 : World) (b : Nat) (l t : List UInt8) (w : World) (h : BldI w0 b l w) (ht : t ≠ []) (hlen : l.length + t.length ≤ 140737488355328) :
    Calls Tryd.prog strings_Builder_WriteString.N #[ptrAt b, .string ⟨t.toArray⟩] w fun e w' => e = .returned (.tuple #[.int .i64 t.length, .nilIface]) ∧ BldI w0 b (l ++ t) w' ∧ Below w0.heap.size w w' := by
  have hB := h.1
  refine (bld_WriteString_ok w0 b _ ⟨t.toArray⟩ w h.is (by rw [Lib.byteCells_length]; simpa [ByteArray.size] using hlen)).mono fun e w' ⟨he, h1, h2⟩ => ⟨?_, ⟨hB, .inr ⟨by simp [ht], .inr ?_⟩⟩, h2⟩
  · rw [he]
    simp [ByteArray.size]
  · have e : Lib.byteCells (l ++ t) = Lib.byteCells l ++ Lib.strCells ⟨t.toArray⟩ := by
      rw [Lib.strCells_eq]
      simp [Lib.byteCells]
    rw [e]
    exact h1
theorem bld_String_ok (w0 : World) (b : Nat) (l : List UInt8) (w : World) (h : BldI w0 b l w) (hl63 : l.length ≤ 140737488355328) (hw : Later w0 w) :
    Calls Tryd.prog strings_Builder_String.N #[ptrAt b] w fun e w' => e = .returned (.string ⟨l.toArray⟩) ∧ Later w0 w' := by
  refine strings_Builder_String.calls ?_
  unfold strings_Builder_String.vc
  refine Deref_some rfl ?_
  obtain ⟨hB, ⟨rfl, h2⟩ | ⟨h1, h2⟩⟩ := h
  · have hlt : b < w.heap.size := (Array.getElem?_eq_some_iff.1 h2).1
    have c1 : ∀ w', Later w w' → w'.cell? ((Addr.mk b 0 none).add 1) = some (.slice none 0 0) := by
      intro w' h'
      have : w'.heap[b]? = some (.cells #[.pointer none, .slice none 0 0] bT (0, 0)) := by rw [h'.block hlt]; exact h2
      rw [add_block, Lib.cell_of_heap this]; rfl
    refine ⟨_, _, _, c1, _, fun w' h' => Lib.run_unsafeSliceData_nil w' _ _ _ _, Deref_some rfl ⟨_, _, _, c1, fun w' h' => ?_⟩⟩
    exact RunsV_of (Lib.run_unsafeString_none w' _ _ _ _) ⟨_, rfl, rfl, hw.trans h'⟩
  · obtain ⟨p, hat⟩ : ∃ p, Lib.BuilderAt bT bE w0.heap.size b p (Lib.byteCells l) w := by
      rcases h2 with h | h
      · exact ⟨_, h⟩
      · exact ⟨_, h⟩
    have hlt := hat.lt
    obtain ⟨_, v, hbk, hown, hne⟩ := hat
    rw [Lib.byteCells_length] at hown
    have hl0 : l.length ≠ 0 := by simpa using h1
    obtain ⟨g, cap, cur, rfl, hbg, hg, hnc, hcm, hcs, htake⟩ : ∃ g cap cur, v = .slice (some ⟨g, 0, none⟩) l.length cap ∧ w0.heap.size ≤ g ∧ w.heap[g]? = some (.cells cur bE (0, 0)) ∧ l.length ≤ cap ∧ cap ≤ maxLen ∧ cur.size = cap * 1 ∧ cur.toList.take (l.length * 1) = Lib.byteCells l := by
      rcases hown.2 with ⟨_, hz⟩ | ⟨g, cap, cur, hv, r⟩
      · exact absurd hz hl0
      · exact ⟨g, cap, cur, hv, r⟩
    have hglt : g < w.heap.size := (Array.getElem?_eq_some_iff.1 hg).1
    have c1 : ∀ w', Later w w' → w'.cell? ((Addr.mk b 0 none).add 1) = some (.slice (some ⟨g, 0, none⟩) l.length cap) := by
      intro w' h'
      have : w'.heap[b]? = some (.cells #[p, .slice (some ⟨g, 0, none⟩) l.length cap] bT (0, 0)) := by rw [h'.block hlt]; exact hbk
      rw [add_block, Lib.cell_of_heap this]; rfl
    refine ⟨_, _, _, c1, _, fun w' h' => Lib.run_unsafeSliceData_row w' _ _ _ _ _ (by omega), Deref_some rfl ⟨_, _, _, c1, fun w' h' => ?_⟩⟩
    have hg' : w'.heap[g]? = some (.cells cur bE (0, 0)) := by rw [h'.block hglt]; exact hg
    refine RunsV_of (Lib.run_unsafeString_row w' _ _ _ bE (by kernel_rfl) (by kernel_rfl) g cur.size (by simp [World.shape?, hg']) l h1 (by omega) (by omega) ?_) ⟨_, rfl, rfl, ?_⟩
    · intro j x hj
      rw [add_block, Nat.zero_add, Lib.cell_of_heap hg']
      have hjl : j < l.length := (List.getElem?_eq_some_iff.1 hj).1
      have e1 : (Lib.byteCells l)[j]? = some (.int .u8 x.toNat) := by simp [Lib.byteCells, hj]
      rw [← htake, List.getElem?_take, Nat.mul_one, if_pos hjl] at e1
      simpa using e1
    · exact Lib.below_freeze (hw.trans h') (p := ⟨g, 0, none⟩) hbg l.length
end Go.Proofs.YtgchaghdhofnoaaDoor

/-
What is handed in: the cells of a slice whose elements are numbers, or flat structs of numbers.
Conditions: each theorem's hypotheses; nothing is asked of a program.
-/
namespace Go.Vc
open Go.RowKit Go.ChangeShapes Go.WideShapes
set_option linter.unusedVariables false
set_option linter.unusedSimpArgs false
set_option linter.unnecessarySimpa false

section
variable {H : Type} {enc : TypeId × Value → H} {P : Program} {w : World} {base : Nat} {spare : Nat → Bool} {held : Bool}
/-- The fields are numbers of these kinds, a cell each. -/
def intFields (P : Program) : List Field → Nat → List IntKind → Bool
  | [], _, [] => true
  | f :: fs, o, k :: ks => f.offset == o && P.cellsOf f.type == 1 && (match P.underlying f.type with | some (.int k') => k' == k | _ => false) && intFields P fs (o + 1) ks
  | _, _, _ => false
theorem intFields_at {P : Program} : ∀ {fs : List Field} {o : Nat} {ks : List IntKind}, intFields P fs o ks = true → fs.length = ks.length ∧ ∀ i k, ks[i]? = some k → ∃ f, fs[i]? = some f ∧ f.offset = o + i ∧ P.cellsOf f.type = 1 ∧ P.underlying f.type = some (.int k)
  | [], o, [], _ => ⟨rfl, fun i k h => by simp at h⟩
  | [], o, _ :: _, h => by simp [intFields] at h
  | _ :: _, o, [], h => by simp [intFields] at h
  | f :: fs, o, k :: ks, h => by
    simp only [intFields, Bool.and_eq_true, beq_iff_eq] at h
    obtain ⟨⟨⟨h1, h2⟩, h3⟩, h4⟩ := h
    obtain ⟨hl, hr⟩ := intFields_at h4
    refine ⟨by simp [hl], fun i k' hi => ?_⟩
    cases i with
    | zero =>
      obtain rfl : k = k' := by simpa using hi
      refine ⟨f, rfl, h1, h2, ?_⟩
      split at h3
      · rename_i k2 hu
        obtain rfl := eq_of_beq h3
        exact hu
      · cases h3
    | succ i =>
      obtain ⟨f', g1, g2, g3, g4⟩ := hr i k' (by simpa using hi)
      exact ⟨f', by simpa using g1, by omega, g3, g4⟩
/-- The cells of a struct of numbers. -/
theorem ints_struct {e : TypeId} {fs : Array Field} {m : Nat} {cs : List Value} {x : DataW H × List MemPlace} (ks : List IntKind) (he : P.underlying e = some (.struct fs)) (hk : intFields P fs.toList 0 ks = true) (h : DataW.trod enc P w base spare held m e cs = some x) :
    ∃ F : Nat → Int, ∀ j k, ks[j]? = some k → cs[j]? = some (.int k (F j)) ∧ (Lit.int k (F j)).wf = true := by
  obtain ⟨xs, n, _, _, hlen, _, hf⟩ := DataW.trod_struct he h
  obtain ⟨hl, hr⟩ := intFields_at hk
  have each : ∀ j, j < ks.length → ∃ q : Int, ∀ k, ks[j]? = some k → cs[j]? = some (.int k q) ∧ (Lit.int k q).wf = true := by
    intro j hj
    have hk := List.getElem?_eq_getElem hj
    obtain ⟨f, g1, g2, g3, g4⟩ := hr j _ hk
    have h1 := hf j f (by simpa using g1)
    rw [g2, g3, Nat.zero_add] at h1
    have hx : ∃ y, xs[j]? = some y := by
      have hjl : j < xs.length := by
        rename_i hs
        have : j < fs.size := by have := (List.getElem?_eq_some_iff.1 g1).1; simpa using this
        omega
      exact ⟨_, List.getElem?_eq_getElem hjl⟩
    obtain ⟨y, hy⟩ := hx
    rw [hy] at h1
    obtain ⟨q, hq, _, hw⟩ := DataW.trod_int g4 h1
    refine ⟨q, fun k hk' => ?_⟩
    obtain rfl : ks[j] = k := Option.some.inj (hk.symm.trans hk')
    refine ⟨?_, hw⟩
    have : ((cs.drop j).take 1)[0]? = some (Value.int ks[j] q) := by rw [hq]; rfl
    simpa [List.getElem?_take, List.getElem?_drop] using this
  obtain ⟨F, hF⟩ := Deep.choose_lt each
  exact ⟨F, fun j k hj => hF j (List.getElem?_eq_some_iff.1 hj).1 k hj⟩
/-- The elements of a slice that was handed in, each of so many cells. -/
def ArgRow (w : World) (A : Option Addr) (n sz : Nat) (C : Nat → List Value) : Prop := ∀ i, i < n → ∃ ad, A = some ad ∧ (C i).length = sz ∧ ∀ j v, (C i)[j]? = some v → w.cell? ((ad.add (i * sz)).add j) = some v
theorem ArgRow.later {w w' : World} {A : Option Addr} {n sz : Nat} {C : Nat → List Value} (h : ArgRow w A n sz C) (hl : Later w w') : ArgRow w' A n sz C := by
  intro i hi
  obtain ⟨ad, h1, h2, h3⟩ := h i hi
  exact ⟨ad, h1, h2, fun j v hj => hl.cell_some (h3 j v hj)⟩
theorem arg_row {r : Reach} {b0 : Nat} {t e : TypeId} {v : Value} {d : DataW H} {ps : List MemPlace} (ht : P.underlying t = some (.slice e)) (hval : Value.okWide P w r b0 t v) (h : DataW.Trod enc P w base spare held t v d ps) :
    ∃ A n cap C, v = .slice A n cap ∧ n ≤ cap ∧ cap ≤ maxLen ∧ ArgRow w A n (P.cellsOf e) C ∧ ∀ i, i < n → ∃ m x, DataW.trod enc P w base spare held m e (C i) = some x := by
  obtain ⟨A, n, cap, rfl⟩ := okWide_slice ht hval
  obtain ⟨fuel, h⟩ := h
  rcases Deep.open_slice ht h with ⟨hc, _⟩ | ⟨a, len, cap', m, q, D, Pl, hc, _, hl, hm, hmm, _, hx⟩
  · simp only [Value.cells, List.cons.injEq, Value.slice.injEq, and_true] at hc
    obtain ⟨rfl, rfl, rfl⟩ := hc
    exact ⟨none, 0, 0, fun _ => [], rfl, Nat.le_refl _, by decide, fun i hi => absurd hi (Nat.not_lt_zero i), fun i hi => absurd hi (Nat.not_lt_zero i)⟩
  · simp only [Value.cells, List.cons.injEq, Value.slice.injEq, and_true] at hc
    obtain ⟨rfl, rfl, rfl⟩ := hc
    have hnm : n ≤ m := by rw [hmm]; split <;> omega
    obtain ⟨C, hC⟩ := Deep.choose_lt (fun i hi => hx i (Nat.lt_of_lt_of_le hi hnm) : ∀ i, i < n → _)
    refine ⟨some a, n, cap, C, rfl, hl, hm, fun i hi => ?_, fun i hi => ⟨q, _, (hC i hi).2⟩⟩
    obtain ⟨_, h2, h3⟩ := World.cells?_some (hC i hi).1
    refine ⟨a, rfl, h2, fun j v hj => ?_⟩
    have hlt := (List.getElem?_eq_some_iff.1 hj).1
    rw [h3 j (by omega)]
    exact hj
/-- A slice of structs of numbers. -/
def IntRow (w : World) (A : Option Addr) (n : Nat) (ks : List IntKind) (F : Nat → Nat → Int) : Prop :=
  ∀ i, i < n → ∃ ad, A = some ad ∧ ∀ j k, ks[j]? = some k → w.cell? ((ad.add (i * ks.length)).add j) = some (.int k (F i j)) ∧ (Lit.int k (F i j)).wf = true
theorem IntRow.later {w w' : World} {A : Option Addr} {n : Nat} {ks : List IntKind} {F : Nat → Nat → Int} (h : IntRow w A n ks F) (hl : Later w w') : IntRow w' A n ks F := by
  intro i hi
  obtain ⟨ad, h1, h2⟩ := h i hi
  exact ⟨ad, h1, fun j k hj => ⟨hl.cell_some (h2 j k hj).1, (h2 j k hj).2⟩⟩
theorem arg_structs {r : Reach} {b0 : Nat} {t e : TypeId} {fs : Array Field} {v : Value} {d : DataW H} {ps : List MemPlace} (ks : List IntKind) (ht : P.underlying t = some (.slice e)) (he : P.underlying e = some (.struct fs)) (hk : intFields P fs.toList 0 ks = true)
    (hC : P.cellsOf e = ks.length) (hval : Value.okWide P w r b0 t v) (h : DataW.Trod enc P w base spare held t v d ps) :
    ∃ A n cap F, v = .slice A n cap ∧ n ≤ cap ∧ cap ≤ maxLen ∧ IntRow w A n ks F := by
  obtain ⟨A, n, cap, C, rfl, hl, hm, hR, hT⟩ := arg_row ht hval h
  obtain ⟨F, hF⟩ := Deep.choose_lt (p := fun i (F : Nat → Int) => ∀ j k, ks[j]? = some k → (C i)[j]? = some (.int k (F j)) ∧ (Lit.int k (F j)).wf = true) (n := n) (fun i hi => by
    obtain ⟨m, x, hx⟩ := hT i hi
    exact ints_struct ks he hk hx)
  refine ⟨A, n, cap, F, rfl, hl, hm, fun i hi => ?_⟩
  obtain ⟨ad, h1, h2, h3⟩ := hR i hi
  rw [hC] at h3
  exact ⟨ad, h1, fun j k hj => ⟨h3 j _ (hF i hi j k hj).1, (hF i hi j k hj).2⟩⟩
/-- The fields are numbers of these kinds, or structs of such numbers. -/
def nestFields (P : Program) : List Field → Nat → List IntKind → Bool
  | [], _, [] => true
  | [], _, _ :: _ => false
  | f :: fs, o, ks => f.offset == o && (match P.underlying f.type with
    | some (.int k') => (match ks with | k :: ks' => P.cellsOf f.type == 1 && k' == k && nestFields P fs (o + 1) ks' | [] => false)
    | some (.struct gs) => P.cellsOf f.type == gs.size && decide (gs.size ≤ ks.length) && intFields P gs.toList 0 (ks.take gs.size) && nestFields P fs (o + gs.size) (ks.drop gs.size)
    | _ => false)
theorem nest_cells {cs : List Value} : ∀ (fs : List Field) (o : Nat) (ks : List IntKind), nestFields P fs o ks = true →
    (∀ f ∈ fs, ∃ m y, DataW.trod enc P w base spare held m f.type ((cs.drop f.offset).take (P.cellsOf f.type)) = some y) → ∀ j, j < ks.length → ∃ q : Int, ∀ k, ks[j]? = some k → cs[o + j]? = some (.int k q) ∧ (Lit.int k q).wf = true := by
  intro fs
  induction fs with
  | nil =>
    intro o ks h _ j hj
    cases ks with
    | nil => simp at hj
    | cons k ks => simp [nestFields] at h
  | cons f fs ih =>
    intro o ks h hT j hj
    unfold nestFields at h
    simp only [Bool.and_eq_true, beq_iff_eq] at h
    obtain ⟨rfl, h⟩ := h
    obtain ⟨m, y, hy⟩ := hT f List.mem_cons_self
    have hT' := fun g hg => hT g (List.mem_cons_of_mem f hg)
    split at h
    · rename_i k' hu
      split at h
      · rename_i k ks'
        simp only [Bool.and_eq_true, beq_iff_eq] at h
        obtain ⟨⟨hc, hkk⟩, hr⟩ := h
        subst hkk
        cases j with
        | zero =>
          rw [hc] at hy
          obtain ⟨q, hq, _, hw⟩ := DataW.trod_int hu hy
          refine ⟨q, fun k2 hk2 => ?_⟩
          obtain rfl : k' = k2 := by simpa using hk2
          refine ⟨?_, hw⟩
          have : ((cs.drop f.offset).take 1)[0]? = some (Value.int k' q) := by rw [hq]; rfl
          simpa [List.getElem?_take, List.getElem?_drop] using this
        | succ j =>
          obtain ⟨q, hq⟩ := ih (f.offset + 1) ks' hr hT' j (by simpa using hj)
          refine ⟨q, fun k2 hk2 => ?_⟩
          have := hq k2 (by simpa using hk2)
          rwa [show f.offset + 1 + j = f.offset + (j + 1) by omega] at this
      · cases h
    · rename_i gs hu
      simp only [Bool.and_eq_true, beq_iff_eq, decide_eq_true_eq] at h
      obtain ⟨⟨⟨hc, hle⟩, hin⟩, hr⟩ := h
      by_cases hjs : j < gs.size
      · rw [hc] at hy
        obtain ⟨F, hF⟩ := ints_struct (ks.take gs.size) hu hin hy
        refine ⟨F j, fun k hk => ?_⟩
        have := hF j k (by rw [List.getElem?_take, if_pos hjs]; exact hk)
        refine ⟨?_, this.2⟩
        have h1 := this.1
        rw [List.getElem?_take, if_pos hjs, List.getElem?_drop] at h1
        exact h1
      · obtain ⟨q, hq⟩ := ih (f.offset + gs.size) (ks.drop gs.size) hr hT' (j - gs.size) (by rw [List.length_drop]; omega)
        refine ⟨q, fun k hk => ?_⟩
        have := hq k (by rw [List.getElem?_drop, show gs.size + (j - gs.size) = j by omega]; exact hk)
        rwa [show f.offset + gs.size + (j - gs.size) = f.offset + j by omega] at this
    · cases h
theorem nest_struct {e : TypeId} {fs : Array Field} {m : Nat} {cs : List Value} {x : DataW H × List MemPlace} (ks : List IntKind) (he : P.underlying e = some (.struct fs)) (hk : nestFields P fs.toList 0 ks = true) (h : DataW.trod enc P w base spare held m e cs = some x) :
    ∃ F : Nat → Int, ∀ j k, ks[j]? = some k → cs[j]? = some (.int k (F j)) ∧ (Lit.int k (F j)).wf = true := by
  obtain ⟨xs, n, _, _, hlen, hxs, hf⟩ := DataW.trod_struct he h
  have := nest_cells (enc := enc) (P := P) (w := w) (base := base) (spare := spare) (held := held) (cs := cs) fs.toList 0 ks hk (fun f hf' => by
    obtain ⟨i, hi⟩ := List.getElem?_of_mem hf'
    have h1 := hf i f (by simpa using hi)
    have hil : i < xs.length := by
      have := (List.getElem?_eq_some_iff.1 hi).1
      rw [hxs]; simpa using this
    rw [List.getElem?_eq_getElem hil] at h1
    exact ⟨n, _, h1⟩)
  obtain ⟨F, hF⟩ := Deep.choose_lt this
  exact ⟨F, fun j k hj => by have := hF j (List.getElem?_eq_some_iff.1 hj).1 k hj; rwa [Nat.zero_add] at this⟩
theorem arg_nests {r : Reach} {b0 : Nat} {t e : TypeId} {fs : Array Field} {v : Value} {d : DataW H} {ps : List MemPlace} (ks : List IntKind) (ht : P.underlying t = some (.slice e)) (he : P.underlying e = some (.struct fs)) (hk : nestFields P fs.toList 0 ks = true)
    (hC : P.cellsOf e = ks.length) (hval : Value.okWide P w r b0 t v) (h : DataW.Trod enc P w base spare held t v d ps) :
    ∃ A n cap F, v = .slice A n cap ∧ n ≤ cap ∧ cap ≤ maxLen ∧ IntRow w A n ks F := by
  obtain ⟨A, n, cap, C, rfl, hl, hm, hR, hT⟩ := arg_row ht hval h
  obtain ⟨F, hF⟩ := Deep.choose_lt (p := fun i (F : Nat → Int) => ∀ j k, ks[j]? = some k → (C i)[j]? = some (.int k (F j)) ∧ (Lit.int k (F j)).wf = true) (n := n) (fun i hi => by
    obtain ⟨m, x, hx⟩ := hT i hi
    exact nest_struct ks he hk hx)
  refine ⟨A, n, cap, F, rfl, hl, hm, fun i hi => ?_⟩
  obtain ⟨ad, h1, h2, h3⟩ := hR i hi
  rw [hC] at h3
  exact ⟨ad, h1, fun j k hj => ⟨h3 j _ (hF i hi j k hj).1, (hF i hi j k hj).2⟩⟩
theorem arg_ints {r : Reach} {b0 : Nat} {t e : TypeId} {k : IntKind} {v : Value} {d : DataW H} {ps : List MemPlace} (ht : P.underlying t = some (.slice e)) (he : P.underlying e = some (.int k))
    (hC : P.cellsOf e = 1) (hval : Value.okWide P w r b0 t v) (h : DataW.Trod enc P w base spare held t v d ps) :
    ∃ A n cap F, v = .slice A n cap ∧ n ≤ cap ∧ cap ≤ maxLen ∧ IntRow w A n [k] F := by
  obtain ⟨A, n, cap, C, rfl, hl, hm, hR, hT⟩ := arg_row ht hval h
  obtain ⟨F, hF⟩ := Deep.choose_lt (p := fun i (q : Int) => C i = [.int k q] ∧ (Lit.int k q).wf = true) (n := n) (fun i hi => by
    obtain ⟨m, x, hx⟩ := hT i hi
    obtain ⟨q, h1, _, h2⟩ := DataW.trod_int he hx
    exact ⟨q, h1, h2⟩)
  refine ⟨A, n, cap, fun i _ => F i, rfl, hl, hm, fun i hi => ?_⟩
  obtain ⟨ad, h1, h2, h3⟩ := hR i hi
  rw [hC] at h3
  refine ⟨ad, h1, fun j k' hj => ?_⟩
  cases j with
  | zero =>
    obtain rfl : k = k' := by simpa using hj
    exact ⟨h3 0 _ (by rw [(hF i hi).1]; rfl), (hF i hi).2⟩
  | succ j => simp at hj
/-- A flat struct of five numbers, by value. -/
theorem arg_struct5 {r : Reach} {b0 : Nat} {t : TypeId} {fs : Array Field} {v : Value} {d : DataW H} {ps : List MemPlace} (k0 k1 k2 k3 k4 : IntKind) (he : P.underlying t = some (.struct fs)) (hk : intFields P fs.toList 0 [k0, k1, k2, k3, k4] = true)
    (hC : P.cellsOf t = 5) (hval : Value.okWide P w r b0 t v) (h : DataW.Trod enc P w base spare held t v d ps) :
    ∃ F : Nat → Int, v = .agg #[.int k0 (F 0), .int k1 (F 1), .int k2 (F 2), .int k3 (F 3), .int k4 (F 4)] ∧ (Lit.int k0 (F 0)).wf = true ∧ (Lit.int k1 (F 1)).wf = true ∧ (Lit.int k2 (F 2)).wf = true ∧ (Lit.int k3 (F 3)).wf = true ∧ (Lit.int k4 (F 4)).wf = true := by
  obtain ⟨cs, rfl, hsz⟩ := okWide_struct he hval
  obtain ⟨fuel, h⟩ := h
  obtain ⟨F, hF⟩ := ints_struct [k0, k1, k2, k3, k4] he hk h
  have h0 := hF 0 k0 rfl
  have h1 := hF 1 k1 rfl
  have h2 := hF 2 k2 rfl
  have h3 := hF 3 k3 rfl
  have h4 := hF 4 k4 rfl
  refine ⟨F, ?_, h0.2, h1.2, h2.2, h3.2, h4.2⟩
  congr 1
  apply Array.ext_getElem?
  intro i
  simp only [Value.cells, Array.getElem?_toList] at h0 h1 h2 h3 h4
  by_cases hi : i < 5
  · have : i = 0 ∨ i = 1 ∨ i = 2 ∨ i = 3 ∨ i = 4 := by omega
    rcases this with rfl | rfl | rfl | rfl | rfl
    · exact h0.1
    · exact h1.1
    · exact h2.1
    · exact h3.1
    · exact h4.1
  · rw [Array.getElem?_eq_none (by omega), Array.getElem?_eq_none (by simp; omega)]
end
end Go.Vc

/-
A row of a law, from its call: the call comes to true and turns nothing old, so the row's words behind the call stand.
Conditions: the program is laid out; each parameter's type can be read.
-/
namespace Go.Vc
open Go.RowKit Go.ChangeShapes Go.WideShapes Go.ChangeAt
set_option linter.unusedVariables false

/-- Each type can be read and is a row of the table. -/
def readAll (P : Program) (ts : List TypeId) : Bool := ts.all fun t => P.readableRec t && decide (t < P.types.size)
theorem later_trodAll {H : Type} {enc : TypeId × Value → H} {P : Program} (hl : laidOutB P = true) {W W' : World} (hb : Later W W') :
    ∀ {ts : List TypeId} {vs : List Value} {ds : List (DataW H)} {ps : List MemPlace}, readAll P ts = true → DataW.TrodAll enc P W 0 (fun _ => true) true ts vs ds ps → (∀ x ∈ ps, x.block < W.heap.size) →
      DataW.TrodAll enc P W' 0 (fun b => decide (b < W.heap.size)) true ts vs ds ps
  | [], [], [], _, _, h, _ => h
  | [], [], _ :: _, _, _, h, _ => h.elim
  | [], _ :: _, [], _, _, h, _ => h.elim
  | [], _ :: _, _ :: _, _, _, h, _ => h.elim
  | _ :: _, [], [], _, _, h, _ => h.elim
  | _ :: _, [], _ :: _, _, _, h, _ => h.elim
  | _ :: _, _ :: _, [], _, _, h, _ => h.elim
  | t :: ts, v :: vs, d :: ds, ps, hr, h, hp => by
    obtain ⟨p, q, h1, h2, e⟩ := h
    simp only [readAll, List.all_cons, Bool.and_eq_true] at hr
    subst e
    exact ⟨p, q, Below.trod hl hr.1.1 (of_decide_eq_true hr.1.2) h1 hb (fun x hx => hp x (by simp [hx])), later_trodAll hl hb (by simpa [readAll] using hr.2) h2 (fun x hx => hp x (by simp [hx])), rfl⟩
/-- The row's words behind a law's call. -/
theorem law_post {H : Type} {enc : TypeId × Value → H} {P : Program} {f : Func} {s : ChangeSpec} {W W' : World} {args : Array Value} {ds gs : List (DataW H)} {before : List MemPlace} {tb : TypeId}
    (hl : laidOutB P = true) (hW : DataW.Whole enc P f.params.toList s.vars false W args.toList ds gs before) (hr : readAll P f.params.toList = true) (hv : varsRowed P s.vars = true)
    (ht : f.resultTypes = #[tb]) (hu : P.underlying tb = some .bool) (hfn : s.fn H (ds ++ gs) = { results := [.lit (.bool true)], args := ds, vars := gs }) (hb : Later W W') :
    s.post enc P f false true false false W args (.bool true) W' := by
  have hlt : ∀ x ∈ before, x.block < W.heap.size := fun x hx => hW.lt x hx
  have hW0 := hW
  obtain ⟨p, q, hA, hV, e, hz, hn⟩ := hW
  subst e
  refine ⟨ds, gs, p ++ q, [], p, q, hW0, ?_, ?_, ?_, Below.frame hb _, fun h => by cases h⟩
  · rw [hfn, ht]
    exact trodAll_cons_mk (shut_bool hu _) trodAll_mk0
  · rw [hfn]
    exact later_trodAll hl hb hr hA (fun x hx => hlt x (by simp [hx]))
  · rw [hfn]
    exact Below.trodVars hl hb hv hV
theorem wf_bound {k : IntKind} {n : Int} (h : (Lit.int k n).wf = true) : k.min ≤ n ∧ n ≤ k.max := by
  simpa [Lit.wf] using h
theorem wf_u64 {n : Int} (h : (Lit.int .u64 n).wf = true) : 0 ≤ n ∧ n < 18446744073709551616 := by
  have := wf_bound h
  rw [show IntKind.u64.min = 0 from rfl, show IntKind.u64.max = 18446744073709551615 from rfl] at this
  omega
theorem wf_u32 {n : Int} (h : (Lit.int .u32 n).wf = true) : 0 ≤ n ∧ n < 4294967296 := by
  have := wf_bound h
  rw [show IntKind.u32.min = 0 from rfl, show IntKind.u32.max = 4294967295 from rfl] at this
  omega
theorem wf_u8 {n : Int} (h : (Lit.int .u8 n).wf = true) : 0 ≤ n ∧ n < 256 := by
  have := wf_bound h
  rw [show IntKind.u8.min = 0 from rfl, show IntKind.u8.max = 255 from rfl] at this
  omega
theorem wf_i64 {n : Int} (h : (Lit.int .i64 n).wf = true) : -9223372036854775808 ≤ n ∧ n < 9223372036854775808 := by
  have := wf_bound h
  rw [show IntKind.i64.min = -9223372036854775808 from rfl, show IntKind.i64.max = 9223372036854775807 from rfl] at this
  omega
end Go.Vc

/-
The contracts of All, of the package and of the reference: the words' bytes, one behind the other.
Conditions: each number is of its kind.
-/
namespace Go.Proofs.YtgchaghdhofnoaaDoor
open Go Go.Vc Go.RowKit
set_option linter.unusedVariables false
set_option linter.unusedSimpArgs false
set_option linter.unnecessarySimpa false
set_option maxRecDepth 100000

abbrev insK : List IntKind := [.u8, .u8, .u8, .u8, .i64]
/-- The i-th one's word. -/
def encF (F : Nat → Nat → Int) (i : Nat) : Option Int := encv (F i 0) (F i 1) (F i 2) (F i 3) (F i 4)
def bytes4 (w : Int) : List UInt8 := (bytesOf w 4).data.toList
def allB (E : Nat → Option Int) : Nat → List UInt8
  | 0 => []
  | k + 1 => allB E k ++ bytes4 ((E k).getD 0)
def allOk (E : Nat → Option Int) (n : Nat) : Prop := ∀ k, k < n → (E k).isSome = true
instance (E : Nat → Option Int) (n : Nat) : Decidable (allOk E n) := by unfold allOk; infer_instance
/-- What All comes to. -/
def allR (E : Nat → Option Int) (n : Nat) : Value := if allOk E n then pairv (.string ⟨(allB E n).toArray⟩) (i64v 0) else pairv (.string ⟨#[]⟩) (i64v 2)
theorem allR_bad {E : Nat → Option Int} {n k : Nat} (h : k < n) (hk : E k = none) : allR E n = pairv (.string ⟨#[]⟩) (i64v 2) := by
  unfold allR
  rw [if_neg]
  intro ha
  have := ha k h
  rw [hk] at this
  cases this
theorem allR_good {E : Nat → Option Int} {n : Nat} (h : allOk E n) : allR E n = pairv (.string ⟨(allB E n).toArray⟩) (i64v 0) := by
  unfold allR
  rw [if_pos h]
theorem bytes4_length (w : Int) : (bytes4 w).length = 4 := by simp [bytes4, bytesOf, strOf]
theorem allB_length (E : Nat → Option Int) : ∀ k, (allB E k).length = 4 * k
  | 0 => rfl
  | k + 1 => by rw [allB, List.length_append, allB_length E k, bytes4_length]; omega
theorem encR_none : encR none = pairv (u32v 0) (i64v 2) := rfl
theorem encR_some (w : Int) : encR (some w) = pairv (u32v w) (i64v 0) := rfl
theorem encv_range {o d a b v w : Int} (ho : U8 o) (hd : U8 d) (ha : U8 a) (hb : U8 b) (h : encv o d a b v = some w) : 0 ≤ w ∧ w < 4294967296 := by
  unfold encv at h
  split at h
  · rename_i x hx
    split at h
    · rename_i hm
      obtain rfl := Option.some.inj h
      have hmem : x ∈ tabL := by
        unfold rowOf at hx
        split at hx
        · exact List.mem_of_getElem? hx
        · cases hx
      exact (word_sum x d a b v ((tab_forms x hmem).parts d a b v hd.1 ha.1 hb.1 hm)).2
    · cases h
  · cases h
theorem row_cells {w : World} {A : Option Addr} {n : Nat} {F : Nat → Nat → Int} (h : IntRow w A n insK F) {i : Nat} (hi : i < n) : ∃ ad, A = some ad ∧
    (w.cell? (ad.add (i * 5)) = some (u8v (F i 0)) ∧ w.cell? ((ad.add (i * 5)).add 1) = some (u8v (F i 1)) ∧ w.cell? ((ad.add (i * 5)).add 2) = some (u8v (F i 2)) ∧ w.cell? ((ad.add (i * 5)).add 3) = some (u8v (F i 3)) ∧ w.cell? ((ad.add (i * 5)).add 4) = some (i64v (F i 4)) ∧ True) ∧
    U8 (F i 0) ∧ U8 (F i 1) ∧ U8 (F i 2) ∧ U8 (F i 3) ∧ I64 (F i 4) := by
  obtain ⟨ad, h1, h2⟩ := h i hi
  have c0 := h2 0 .u8 rfl
  have c1 := h2 1 .u8 rfl
  have c2 := h2 2 .u8 rfl
  have c3 := h2 3 .u8 rfl
  have c4 := h2 4 .i64 rfl
  exact ⟨ad, h1, ⟨c0.1, c1.1, c2.1, c3.1, c4.1, trivial⟩, wf_u8 c0.2, wf_u8 c1.2, wf_u8 c2.2, wf_u8 c3.2, wf_i64 c4.2⟩
theorem insn_All_ok (A : Option Addr) (n cap : Nat) (F : Nat → Nat → Int) (hn : n ≤ 1000000) (w : World) (hR : IntRow w A n insK F) :
    Calls Tryd.prog insn_All.N #[.slice A n cap] w (Gives (allR (encF F) n) w) := by
  refine insn_All.calls ?_
  unfold insn_All.vc
  intro w1 e1
  have hb := BldI.start w
  rw [← e1] at hb
  have l1 : Later w w1 := e1 ▸ Later.alloc' w _
  refine ⟨fun vs w' => ∃ k : Nat, vs = [.int .i64 k] ∧ k ≤ n ∧ allOk (encF F) k ∧ BldI w w.heap.size (allB (encF F) k) w' ∧ Later w w', fun vs _ => match vs with | [.int _ k] => (n - k.toNat) | _ => 0, ⟨0, rfl, Nat.zero_le _, fun k hk => absurd hk (Nat.not_lt_zero k), hb, l1⟩, ?_⟩
  rintro g _ w2 ⟨k, hs, hk, hok, hbk, l2⟩
  simp only [List.cons.injEq, Value.int.injEq, true_and, and_true] at hs
  subst hs
  refine cnd_of (fun h => ?_) (fun h => ?_)
  · have h := of_decide_eq_true h
    have hkn : k < n := by omega
    obtain ⟨ad, rfl, hc, u0, u1, u2, u3, u4⟩ := row_cells (hR.later l2) hkn
    refine ⟨⟨by omega, by omega⟩, Deref_some rfl ⟨_, _, _, _, _, hc, fun w3 e3 => ?_⟩⟩
    have s1 := fun (K : World → Prop) => ((Trk.here l2).alloc e3).setAll (K := K) 0 rfl (l := [u8v (F k 0), u8v (F k 1), u8v (F k 2), u8v (F k 3), i64v (F k 4)]) (by rfl) (ones rfl)
    have s2 := fun (K : World → Prop) => ((Trk.start w2).alloc e3).setAll (K := K) 0 rfl (l := [u8v (F k 0), u8v (F k 1), u8v (F k 2), u8v (F k 3), i64v (F k 4)]) (by rfl) (ones rfl)
    refine ⟨(s1 (fun _ => True) fun _ _ => trivial).1, fun w4 e4 => ?_⟩
    have L4 := (s1 _ fun _ h => h).2 w4 e4
    have T4 := (s2 _ fun _ h => h).2 w4 e4
    have hb4 := hbk.later T4.to
    refine ⟨_, _, _, _, _, ⟨L4.cell 0 rfl rfl, L4.cell 0 rfl rfl, L4.cell 0 rfl rfl, L4.cell 0 rfl rfl, L4.cell 0 rfl rfl, trivial⟩, ?_⟩
    refine (insn_Encode_ok _ _ _ _ _ u0 u1 u2 u3 u4 w4).mono fun e w5 ⟨he, l5⟩ => ?_
    have l5' := L4.to.trans l5
    cases hE : encF F k with
    | none =>
      have hE' : encv (F k 0) (F k 1) (F k 2) (F k 3) (F k 4) = none := hE
      rw [hE', encR_none] at he
      exact ⟨_, _, he, cnd_true rfl ⟨by rw [allR_bad hkn hE], l5'⟩⟩
    | some v =>
      have hE' : encv (F k 0) (F k 1) (F k 2) (F k 3) (F k 4) = some v := hE
      rw [hE', encR_some] at he
      obtain ⟨v0, v1⟩ := encv_range u0 u1 u2 u3 hE'
      refine ⟨_, _, he, cnd_false rfl ?_⟩
      rw [u64_in v0 (by omega)]
      refine (word_Bytes_ok v 4 v0 (by omega) w5).mono fun e w6 ⟨he, l6⟩ => ?_
      rw [if_pos (by decide)] at he
      refine ⟨_, _, he, ?_⟩
      have hb6 := hb4.later (l5.trans l6)
      have hbl := allB_length (encF F) k
      refine (bld_write w _ _ (bytes4 v) w6 hb6 (fun h => by have := bytes4_length v; rw [h] at this; cases this) (by rw [hbl, bytes4_length]; omega)).mono fun e w7 ⟨he, h7, b7⟩ => ⟨_, _, he, ?_⟩
      rw [i64_in (by omega) (by omega)]
      refine ⟨⟨k + 1, rfl, by omega, ?_, ?_, ?_⟩, ?_⟩
      · intro j hj
        by_cases hjk : j = k
        · subst hjk; rw [hE]; rfl
        · exact hok j (by omega)
      · rw [allB, hE]
        exact h7
      · exact Below.trans (l5'.trans l6) b7
      · simp only
        omega
  · have h := of_decide_eq_false h
    obtain rfl : k = n := by omega
    have hbl := allB_length (encF F) k
    refine (bld_String_ok w _ _ w2 hbk (by omega) l2).mono fun e w3 ⟨he, l3⟩ => ⟨_, he, ?_, l3⟩
    rw [allR_good hok]
end Go.Proofs.YtgchaghdhofnoaaDoor

/-
The plain law of words: unlike instructions have unlike words.
Conditions: each number is of its kind.
-/
namespace Go.Proofs.YtgchaghdhofnoaaDoor
open Go Go.Vc Go.RowKit
set_option linter.unusedVariables false
set_option linter.unusedSimpArgs false
set_option linter.unnecessarySimpa false
set_option maxRecDepth 100000

theorem fits_range (v k m : Int) (hm : (2 : Int) ^ (k.toNat - 1) = m) (h : fitsv v k = true) : -m ≤ v ∧ v < m := by
  unfold fitsv at h
  have h := of_decide_eq_true h
  rw [hm] at h
  exact ⟨h.2.2.1, h.2.2.2⟩
/-- A number with its sign, out of so many bits' worth. -/
def sx (M x : Int) : Int := if 2 * x < M then x else x - M
theorem sx_12 {v x : Int} (h : v % 4096 = x) (h1 : -2048 ≤ v) (h2 : v < 2048) : v = sx 4096 x := by unfold sx; split <;> omega
theorem sx_13 {v x : Int} (h : v % 8192 = x) (h1 : -4096 ≤ v) (h2 : v < 4096) : v = sx 8192 x := by unfold sx; split <;> omega
theorem sx_21 {v x : Int} (h : v % 2097152 = x) (h1 : -1048576 ≤ v) (h2 : v < 1048576) : v = sx 2097152 x := by unfold sx; split <;> omega
theorem sx_32 {v x : Int} (h : v % 4294967296 = x) (h1 : -2147483648 ≤ v) (h2 : v < 2147483648) : v = sx 4294967296 x := by unfold sx; split <;> omega
/-- A word's parts, by the form: each is a part of the word. -/
inductive Lin : Int × Int × Int × FD → Int → Int → Int → Int → Int → Prop where
  | two (f g d a b w : Int) (hc : w % 128 = 51) (hd : d = w / 128 % 32) (hf : f = w / 4096 % 8) (ha : a = w / 32768 % 32) (hb : b = w / 1048576 % 32) (hg : g = w / 33554432) : Lin (51, f, g, twoD) d a b 0 w
  | number (c f d a v w : Int) (hk : c = 3 ∨ c = 103 ∨ (c = 19 ∧ f ≠ 1 ∧ f ≠ 5)) (hc : w % 128 = c) (hd : d = w / 128 % 32) (hf : f = w / 4096 % 8) (ha : a = w / 32768 % 32) (hv : v = sx 4096 (w / 1048576)) : Lin (c, f, 0, numberD) d a 0 v w
  | shift (f g d a v w : Int) (hk : f = 1 ∨ f = 5) (hc : w % 128 = 19) (hd : d = w / 128 % 32) (hf : f = w / 4096 % 8) (ha : a = w / 32768 % 32) (hv : v = w / 1048576 % 64) (hg : g = w / 1073741824 * 32) : Lin (19, f, g, shiftD) d a 0 v w
  | large (d v w : Int) (hc : w % 128 = 55) (hd : d = w / 128 % 32) (hv : v = sx 4294967296 (w / 4096 * 4096)) : Lin (55, 0, 0, largeD) d 0 0 v w
  | jump (d v w : Int) (hc : w % 128 = 111) (hd : d = w / 128 % 32) (hv : v = sx 2097152 (2 * (w / 2097152 % 1024) + 2048 * (w / 1048576 % 2) + 4096 * (w / 4096 % 256) + 1048576 * (w / 2147483648))) : Lin (111, 0, 0, jumpD) d 0 0 v w
  | store (f a b v w : Int) (hc : w % 128 = 35) (hf : f = w / 4096 % 8) (ha : a = w / 32768 % 32) (hb : b = w / 1048576 % 32) (hv : v = sx 4096 (w / 128 % 32 + 32 * (w / 33554432))) : Lin (35, f, 0, storeD) 0 a b v w
  | branch (f a b v w : Int) (hc : w % 128 = 99) (hf : f = w / 4096 % 8) (ha : a = w / 32768 % 32) (hb : b = w / 1048576 % 32) (hv : v = sx 8192 (2 * (w / 256 % 16) + 32 * (w / 33554432 % 64) + 2048 * (w / 128 % 2) + 4096 * (w / 2147483648))) : Lin (99, f, 0, branchD) 0 a b v w
  | bare : Lin (115, 0, 0, bareD) 0 0 0 0 115
theorem Lin.code {x : Int × Int × Int × FD} {d a b v w : Int} (h : Lin x d a b v w) : w % 128 = x.1 := by
  cases h <;> first | rfl | assumption
theorem field {w x : Int} (lo hi P Q : Int) (hP : 0 < P) (hl : 0 ≤ lo ∧ lo < P) (hx : 0 ≤ x ∧ x < Q) (h : w = lo + (x + hi * Q) * P) : x = w / P % Q := by
  rw [h, Int.add_mul_ediv_right _ _ (Int.ne_of_gt hP), Int.ediv_eq_zero_of_lt hl.1 hl.2, Int.zero_add, Int.add_mul_emod_self_right, Int.emod_eq_of_lt hx.1 hx.2]
theorem fieldTop {w x : Int} (lo P : Int) (hP : 0 < P) (hl : 0 ≤ lo ∧ lo < P) (h : w = lo + x * P) : x = w / P := by
  rw [h, Int.add_mul_ediv_right _ _ (Int.ne_of_gt hP), Int.ediv_eq_zero_of_lt hl.1 hl.2, Int.zero_add]
/-- What a word says. -/
def dec (w : Int) : Int × Int × Int × Int × Int × Int × Int :=
  if w % 128 = 51 then (51, w / 4096 % 8, w / 33554432, w / 128 % 32, w / 32768 % 32, w / 1048576 % 32, 0)
  else if w % 128 = 19 ∧ (w / 4096 % 8 = 1 ∨ w / 4096 % 8 = 5) then (19, w / 4096 % 8, w / 1073741824 * 32, w / 128 % 32, w / 32768 % 32, 0, w / 1048576 % 64)
  else if w % 128 = 3 ∨ w % 128 = 19 ∨ w % 128 = 103 then (w % 128, w / 4096 % 8, 0, w / 128 % 32, w / 32768 % 32, 0, sx 4096 (w / 1048576))
  else if w % 128 = 55 then (55, 0, 0, w / 128 % 32, 0, 0, sx 4294967296 (w / 4096 * 4096))
  else if w % 128 = 111 then (111, 0, 0, w / 128 % 32, 0, 0, sx 2097152 (2 * (w / 2097152 % 1024) + 2048 * (w / 1048576 % 2) + 4096 * (w / 4096 % 256) + 1048576 * (w / 2147483648)))
  else if w % 128 = 35 then (35, w / 4096 % 8, 0, 0, w / 32768 % 32, w / 1048576 % 32, sx 4096 (w / 128 % 32 + 32 * (w / 33554432)))
  else if w % 128 = 99 then (99, w / 4096 % 8, 0, 0, w / 32768 % 32, w / 1048576 % 32, sx 8192 (2 * (w / 256 % 16) + 32 * (w / 33554432 % 64) + 2048 * (w / 128 % 2) + 4096 * (w / 2147483648)))
  else (115, 0, 0, 0, 0, 0, 0)
theorem Lin.dec {x : Int × Int × Int × FD} {d a b v w : Int} (h : Lin x d a b v w) : dec w = (x.1, x.2.1, x.2.2.1, d, a, b, v) := by
  unfold Proofs.YtgchaghdhofnoaaDoor.dec
  cases h with
  | two f g d a b w hc hd hf ha hb hg => rw [if_pos hc, hd, hf, ha, hb, hg]
  | number c f d a v w hk hc hd hf ha hv =>
    rw [if_neg (by omega), if_neg (by omega), if_pos (by omega), hc, ← hd, ← hf, ← ha, ← hv]
  | shift f g d a v w hk hc hd hf ha hv hg =>
    rw [if_neg (by omega), if_pos (by omega), ← hd, ← hf, ← ha, ← hv, ← hg]
  | large d v w hc hd hv => rw [if_neg (by omega), if_neg (by omega), if_neg (by omega), if_pos hc, ← hd, ← hv]
  | jump d v w hc hd hv => rw [if_neg (by omega), if_neg (by omega), if_neg (by omega), if_neg (by omega), if_pos hc, ← hd, ← hv]
  | store f a b v w hc hf ha hb hv => rw [if_neg (by omega), if_neg (by omega), if_neg (by omega), if_neg (by omega), if_neg (by omega), if_pos hc, ← hf, ← ha, ← hb, ← hv]
  | branch f a b v w hc hf ha hb hv => rw [if_neg (by omega), if_neg (by omega), if_neg (by omega), if_neg (by omega), if_neg (by omega), if_neg (by omega), if_pos hc, ← hf, ← ha, ← hb, ← hv]
  | bare => rfl
theorem Lin.inj {x x' : Int × Int × Int × FD} {d a b v d' a' b' v' w : Int} (h : Lin x d a b v w) (h' : Lin x' d' a' b' v' w) :
    (x.1 = x'.1 ∧ x.2.1 = x'.2.1 ∧ x.2.2.1 = x'.2.2.1) ∧ d = d' ∧ a = a' ∧ b = b' ∧ v = v' := by
  have e := h.dec.symm.trans h'.dec
  simp only [Prod.mk.injEq] at e
  exact ⟨⟨e.1, e.2.1, e.2.2.1⟩, e.2.2.2.1, e.2.2.2.2.1, e.2.2.2.2.2.1, e.2.2.2.2.2.2⟩
theorem tmod_zero {v k : Int} (hk : 0 < k) (h : (v.tmod k == 0) = true) : v % k = 0 := by
  have h : v.tmod k = 0 := by simpa using h
  have := Int.dvd_of_tmod_eq_zero h
  exact Int.emod_eq_zero_of_dvd this
theorem fits_two {v : Int} (h : fitsF 0 0 v = true) : v = 0 := by
  have h : (v == 0) = true := h
  simpa using h
theorem fits_num {v nb : Int} (hn : 0 < nb) (h : fitsF nb 0 v = true) : fitsv v nb = true := by
  unfold fitsF at h
  rw [if_neg (by omega), if_neg (by omega), Bool.and_eq_true] at h
  exact h.1
theorem fits_step {v nb step : Int} (hn : 0 < nb) (hs : 0 < step) (h : fitsF nb step v = true) : fitsv v nb = true ∧ v % step = 0 := by
  unfold fitsF at h
  rw [if_neg (by omega), if_neg (by omega), Bool.and_eq_true, Bool.or_eq_true] at h
  refine ⟨h.1, ?_⟩
  rcases h.2 with h | h
  · have : step = 0 := by simpa using h
    omega
  · exact tmod_zero hs h
theorem lin_two (f g d a b v : Int) (hf : 0 ≤ f ∧ f < 8) (hg : 0 ≤ g ∧ g < 128) (hd : 0 ≤ d) (ha : 0 ≤ a) (hb : 0 ≤ b) (h : mayF twoD d a b v = true) : Lin (51, f, g, twoD) d a b v (baseS (51, f, g, twoD) d a b + laidv v twoD.spans) := by
  obtain ⟨h1, h2, h3, -, -, -, h7⟩ := may_regs h
  obtain rfl := fits_two h7
  have e : baseS (51, f, g, twoD) d a b + laidv 0 twoD.spans = 51 + d * 128 + f * 4096 + a * 32768 + b * 1048576 + g * 33554432 := by
    show 51 + d * 128 + f * 4096 + a * 32768 + b * 1048576 + g * 33554432 + 0 = _
    omega
  rw [e]
  exact .two f g d a b _ (by omega) (by omega) (by omega) (by omega) (by omega) (by omega)
theorem lin_number (c f d a b v : Int) (hc : c = 3 ∨ c = 103 ∨ (c = 19 ∧ f ≠ 1 ∧ f ≠ 5)) (hf : 0 ≤ f ∧ f < 8) (hd : 0 ≤ d) (ha : 0 ≤ a) (hb : 0 ≤ b) (h : mayF numberD d a b v = true) : Lin (c, f, 0, numberD) d a b v (baseS (c, f, 0, numberD) d a b + laidv v numberD.spans) := by
  obtain ⟨h1, h2, h3, -, -, h6, h7⟩ := may_regs h
  obtain rfl := h6 rfl
  have hv := fits_range v 12 2048 (by decide) (fits_num (by decide) h7)
  have e : baseS (c, f, 0, numberD) d a 0 + laidv v numberD.spans = c + d * 128 + f * 4096 + a * 32768 + v % 4096 * 1048576 := by
    show c + d * 128 + f * 4096 + a * 32768 + 0 * 1048576 + 0 * 33554432 + (v % 18446744073709551616 / 1 % 4096 * 1048576 + 0) = _
    omega
  rw [e]
  exact .number c f d a v _ hc (by omega) (by omega) (by omega) (by omega) (sx_12 (by omega) hv.1 hv.2)
theorem lin_shift (f g d a b v : Int) (hf : f = 1 ∨ f = 5) (hg : g = 0 ∨ g = 32) (hd : 0 ≤ d) (ha : 0 ≤ a) (hb : 0 ≤ b) (h : mayF shiftD d a b v = true) : Lin (19, f, g, shiftD) d a b v (baseS (19, f, g, shiftD) d a b + laidv v shiftD.spans) := by
  obtain ⟨h1, h2, h3, -, -, h6, h7⟩ := may_regs h
  obtain rfl := h6 rfl
  have h7 : (decide (0 ≤ v) && decide (v < 64)) = true := h7
  have hv : 0 ≤ v ∧ v < 64 := by simpa using h7
  have e : baseS (19, f, g, shiftD) d a 0 + laidv v shiftD.spans = 19 + d * 128 + f * 4096 + a * 32768 + v * 1048576 + g * 33554432 := by
    show 19 + d * 128 + f * 4096 + a * 32768 + 0 * 1048576 + g * 33554432 + (v % 18446744073709551616 / 1 % 64 * 1048576 + 0) = _
    omega
  rw [e]
  exact .shift f g d a v _ hf (by omega) (by omega) (by omega) (by omega) (by omega) (by omega)
theorem lin_large (d a b v : Int) (hd : 0 ≤ d) (ha : 0 ≤ a) (hb : 0 ≤ b) (h : mayF largeD d a b v = true) : Lin (55, 0, 0, largeD) d a b v (baseS (55, 0, 0, largeD) d a b + laidv v largeD.spans) := by
  obtain ⟨h1, h2, h3, -, h5, h6, h7⟩ := may_regs h
  obtain rfl := h5 rfl
  obtain rfl := h6 rfl
  obtain ⟨h7, h8⟩ := fits_step (by decide) (by decide) h7
  have hv := fits_range v 32 2147483648 (by decide) h7
  have e : baseS (55, 0, 0, largeD) d 0 0 + laidv v largeD.spans = 55 + d * 128 + v / 4096 % 1048576 * 4096 := by
    show 55 + d * 128 + 0 * 4096 + 0 * 32768 + 0 * 1048576 + 0 * 33554432 + (v % 18446744073709551616 / 4096 % 1048576 * 4096 + 0) = _
    omega
  rw [e]
  have h8 : v % 4096 = 0 := h8
  obtain ⟨q, hq⟩ : ∃ q, q = v / 4096 % 1048576 := ⟨_, rfl⟩
  rw [← hq]
  have hv2 : v % 4294967296 = q * 4096 := by omega
  exact .large d v _ (by omega) (by omega) (sx_32 (by rw [hv2]; clear hv2; omega) hv.1 hv.2)
theorem lin_jump (d a b v : Int) (hd : 0 ≤ d) (ha : 0 ≤ a) (hb : 0 ≤ b) (h : mayF jumpD d a b v = true) : Lin (111, 0, 0, jumpD) d a b v (baseS (111, 0, 0, jumpD) d a b + laidv v jumpD.spans) := by
  obtain ⟨h1, h2, h3, -, h5, h6, h7⟩ := may_regs h
  obtain rfl := h5 rfl
  obtain rfl := h6 rfl
  obtain ⟨h7, h8⟩ := fits_step (by decide) (by decide) h7
  have hv := fits_range v 21 1048576 (by decide) h7
  have h8 : v % 2 = 0 := h8
  obtain ⟨q, hq⟩ : ∃ q, q = v / 4096 % 256 := ⟨_, rfl⟩
  obtain ⟨r, hr⟩ : ∃ r, r = v / 2048 % 2 := ⟨_, rfl⟩
  obtain ⟨s, hs⟩ : ∃ s, s = v / 2 % 1024 := ⟨_, rfl⟩
  obtain ⟨t, ht⟩ : ∃ t, t = v / 1048576 % 2 := ⟨_, rfl⟩
  have e : baseS (111, 0, 0, jumpD) d 0 0 + laidv v jumpD.spans = 111 + d * 128 + q * 4096 + r * 1048576 + s * 2097152 + t * 2147483648 := by
    show 111 + d * 128 + 0 * 4096 + 0 * 32768 + 0 * 1048576 + 0 * 33554432 + (v % 18446744073709551616 / 4096 % 256 * 4096 + (v % 18446744073709551616 / 2048 % 2 * 1048576 + (v % 18446744073709551616 / 2 % 1024 * 2097152 + (v % 18446744073709551616 / 1048576 % 2 * 2147483648 + 0)))) = _
    rw [hq, hr, hs, ht]
    omega
  rw [e]
  have hv2 : v % 2097152 = 2 * s + 2048 * r + 4096 * q + 1048576 * t := by omega
  have b1 : 0 ≤ q ∧ q < 256 := by omega
  have b2 : 0 ≤ r ∧ r < 2 := by omega
  have b3 : 0 ≤ s ∧ s < 1024 := by omega
  have b4 : 0 ≤ t ∧ t < 2 := by omega
  clear e hq hr hs ht
  exact .jump d v _ (by omega) (by omega) (sx_21 (by rw [hv2]; clear hv2; omega) hv.1 hv.2)
theorem lin_store (f d a b v : Int) (hf : 0 ≤ f ∧ f < 8) (hd : 0 ≤ d) (ha : 0 ≤ a) (hb : 0 ≤ b) (h : mayF storeD d a b v = true) : Lin (35, f, 0, storeD) d a b v (baseS (35, f, 0, storeD) d a b + laidv v storeD.spans) := by
  obtain ⟨h1, h2, h3, h4, -, -, h7⟩ := may_regs h
  obtain rfl := h4 rfl
  have hv := fits_range v 12 2048 (by decide) (fits_num (by decide) h7)
  obtain ⟨q, hq⟩ : ∃ q, q = v % 32 := ⟨_, rfl⟩
  obtain ⟨r, hr⟩ : ∃ r, r = v / 32 % 128 := ⟨_, rfl⟩
  have e : baseS (35, f, 0, storeD) 0 a b + laidv v storeD.spans = 35 + q * 128 + f * 4096 + a * 32768 + b * 1048576 + r * 33554432 := by
    show 35 + 0 * 128 + f * 4096 + a * 32768 + b * 1048576 + 0 * 33554432 + (v % 18446744073709551616 / 1 % 32 * 128 + (v % 18446744073709551616 / 32 % 128 * 33554432 + 0)) = _
    rw [hq, hr]
    omega
  rw [e]
  have hv2 : v % 4096 = q + 32 * r := by omega
  have b1 : 0 ≤ q ∧ q < 32 := by omega
  have b2 : 0 ≤ r ∧ r < 128 := by omega
  clear e hq hr
  refine .store f a b v _ (by omega) (field (35 + q * 128) (a + b * 32 + r * 1024) 4096 8 (by omega) (by omega) hf (by omega)) (field (35 + q * 128 + f * 4096) (b + r * 32) 32768 32 (by omega) (by omega) (by omega) (by omega))
    (field (35 + q * 128 + f * 4096 + a * 32768) r 1048576 32 (by omega) (by omega) (by omega) (by omega)) (sx_12 ?_ hv.1 hv.2)
  rw [hv2, ← field (w := 35 + q * 128 + f * 4096 + a * 32768 + b * 1048576 + r * 33554432) (x := q) 35 (f + a * 8 + b * 256 + r * 8192) 128 32 (by omega) (by omega) b1 (by omega),
    ← fieldTop (w := 35 + q * 128 + f * 4096 + a * 32768 + b * 1048576 + r * 33554432) (x := r) (35 + q * 128 + f * 4096 + a * 32768 + b * 1048576) 33554432 (by omega) (by omega) (by omega)]
theorem lin_branch (f d a b v : Int) (hf : 0 ≤ f ∧ f < 8) (hd : 0 ≤ d) (ha : 0 ≤ a) (hb : 0 ≤ b) (h : mayF branchD d a b v = true) : Lin (99, f, 0, branchD) d a b v (baseS (99, f, 0, branchD) d a b + laidv v branchD.spans) := by
  obtain ⟨h1, h2, h3, h4, -, -, h7⟩ := may_regs h
  obtain rfl := h4 rfl
  obtain ⟨h7, h8⟩ := fits_step (by decide) (by decide) h7
  have hv := fits_range v 13 4096 (by decide) h7
  have h8 : v % 2 = 0 := h8
  obtain ⟨q, hq⟩ : ∃ q, q = v / 2048 % 2 := ⟨_, rfl⟩
  obtain ⟨r, hr⟩ : ∃ r, r = v / 2 % 16 := ⟨_, rfl⟩
  obtain ⟨s, hs⟩ : ∃ s, s = v / 32 % 64 := ⟨_, rfl⟩
  obtain ⟨t, ht⟩ : ∃ t, t = v / 4096 % 2 := ⟨_, rfl⟩
  have e : baseS (99, f, 0, branchD) 0 a b + laidv v branchD.spans = 99 + q * 128 + r * 256 + f * 4096 + a * 32768 + b * 1048576 + s * 33554432 + t * 2147483648 := by
    show 99 + 0 * 128 + f * 4096 + a * 32768 + b * 1048576 + 0 * 33554432 + (v % 18446744073709551616 / 2048 % 2 * 128 + (v % 18446744073709551616 / 2 % 16 * 256 + (v % 18446744073709551616 / 32 % 64 * 33554432 + (v % 18446744073709551616 / 4096 % 2 * 2147483648 + 0)))) = _
    rw [hq, hr, hs, ht]
    omega
  rw [e]
  have hv2 : v % 8192 = 2 * r + 32 * s + 2048 * q + 4096 * t := by omega
  have b1 : 0 ≤ q ∧ q < 2 := by omega
  have b2 : 0 ≤ r ∧ r < 16 := by omega
  have b3 : 0 ≤ s ∧ s < 64 := by omega
  have b4 : 0 ≤ t ∧ t < 2 := by omega
  clear e hq hr hs ht
  refine .branch f a b v _ (by omega) (field (99 + q * 128 + r * 256) (a + b * 32 + s * 1024 + t * 65536) 4096 8 (by omega) (by omega) hf (by omega)) (field (99 + q * 128 + r * 256 + f * 4096) (b + s * 32 + t * 2048) 32768 32 (by omega) (by omega) (by omega) (by omega))
    (field (99 + q * 128 + r * 256 + f * 4096 + a * 32768) (s + t * 64) 1048576 32 (by omega) (by omega) (by omega) (by omega)) (sx_13 ?_ hv.1 hv.2)
  rw [hv2, ← field (w := 99 + q * 128 + r * 256 + f * 4096 + a * 32768 + b * 1048576 + s * 33554432 + t * 2147483648) (x := r) (99 + q * 128) (f + a * 8 + b * 256 + s * 8192 + t * 524288) 256 16 (by omega) (by omega) b2 (by omega),
    ← field (w := 99 + q * 128 + r * 256 + f * 4096 + a * 32768 + b * 1048576 + s * 33554432 + t * 2147483648) (x := s) (99 + q * 128 + r * 256 + f * 4096 + a * 32768 + b * 1048576) t 33554432 64 (by omega) (by omega) b3 (by omega),
    ← field (w := 99 + q * 128 + r * 256 + f * 4096 + a * 32768 + b * 1048576 + s * 33554432 + t * 2147483648) (x := q) 99 (r + f * 16 + a * 128 + b * 4096 + s * 131072 + t * 8388608) 128 2 (by omega) (by omega) b1 (by omega),
    ← fieldTop (w := 99 + q * 128 + r * 256 + f * 4096 + a * 32768 + b * 1048576 + s * 33554432 + t * 2147483648) (x := t) (99 + q * 128 + r * 256 + f * 4096 + a * 32768 + b * 1048576 + s * 33554432) 2147483648 (by omega) (by omega) (by omega)]
theorem lin_bare (d a b v : Int) (h : mayF bareD d a b v = true) : Lin (115, 0, 0, bareD) d a b v (baseS (115, 0, 0, bareD) d a b + laidv v bareD.spans) := by
  obtain ⟨h1, h2, h3, h4, h5, h6, h7⟩ := may_regs h
  obtain rfl := h4 rfl
  obtain rfl := h5 rfl
  obtain rfl := h6 rfl
  obtain rfl := fits_two h7
  exact .bare
theorem tab_lin (x : Int × Int × Int × FD) (hx : x ∈ tabL) (d a b v : Int) (hd : 0 ≤ d) (ha : 0 ≤ a) (hb : 0 ≤ b) (h : mayF x.2.2.2 d a b v = true) : Lin x d a b v (baseS x d a b + laidv v x.2.2.2.spans) := by
  simp only [tabL, List.mem_cons, List.not_mem_nil, or_false] at hx
  rcases hx with rfl | rfl | rfl | rfl | rfl | rfl | rfl | rfl | rfl | rfl | rfl | rfl | rfl | rfl | rfl | rfl | rfl | rfl | rfl | rfl | rfl | rfl | rfl | rfl | rfl | rfl | rfl | rfl | rfl | rfl | rfl | rfl | rfl | rfl
  all_goals first
    | exact lin_two _ _ d a b v (by decide) (by decide) hd ha hb h
    | exact lin_number _ _ d a b v (by decide) (by decide) hd ha hb h
    | exact lin_shift _ _ d a b v (by decide) (by decide) hd ha hb h
    | exact lin_large d a b v hd ha hb h
    | exact lin_jump d a b v hd ha hb h
    | exact lin_store _ d a b v (by decide) hd ha hb h
    | exact lin_branch _ d a b v (by decide) hd ha hb h
    | exact lin_bare d a b v h
theorem tab_nodup : (tabL.map fun x => (x.1, x.2.1, x.2.2.1)).Nodup := by decide
theorem enc_inj {o d a b v o' d' a' b' v' w : Int} (hd : U8 d) (ha : U8 a) (hb : U8 b) (hd' : U8 d') (ha' : U8 a') (hb' : U8 b') (h : encv o d a b v = some w) (h' : encv o' d' a' b' v' = some w) :
    o = o' ∧ d = d' ∧ a = a' ∧ b = b' ∧ v = v' := by
  have open_ : ∀ {o d a b v : Int}, U8 d → U8 a → U8 b → encv o d a b v = some w → 1 ≤ o ∧ ∃ x, tabL[(o - 1).toNat]? = some x ∧ Lin x d a b v w := by
    intro o d a b v hd ha hb h
    unfold encv at h
    split at h
    · rename_i x hx
      split at h
      · rename_i hm
        have hw := Option.some.inj h
        unfold rowOf at hx
        split at hx
        · rename_i h1
          refine ⟨h1, x, hx, ?_⟩
          rw [← hw]
          exact tab_lin x (List.mem_of_getElem? hx) d a b v hd.1 ha.1 hb.1 hm
        · cases hx
      · cases h
    · cases h
  obtain ⟨h1, x, hx, hl⟩ := open_ hd ha hb h
  obtain ⟨h1', x', hx', hl'⟩ := open_ hd' ha' hb' h'
  obtain ⟨⟨e1, e2, e3⟩, e4⟩ := hl.inj hl'
  refine ⟨?_, e4⟩
  have g1 : (tabL.map fun x => (x.1, x.2.1, x.2.2.1))[(o - 1).toNat]? = some (x.1, x.2.1, x.2.2.1) := by rw [List.getElem?_map, hx]; rfl
  have g2 : (tabL.map fun x => (x.1, x.2.1, x.2.2.1))[(o' - 1).toNat]? = some (x.1, x.2.1, x.2.2.1) := by rw [List.getElem?_map, hx', e1, e2, e3]; rfl
  have hlt := (List.getElem?_eq_some_iff.1 g1).1
  have := (List.getElem?_inj hlt tab_nodup).1 (g1.trans g2.symm)
  omega
theorem enc_low {o d a b v w : Int} (hd : U8 d) (ha : U8 a) (hb : U8 b) (h : encv o d a b v = some w) : w % 4 = 3 ∧ 0 ≤ w := by
  unfold encv at h
  split at h
  · rename_i x hx
    split at h
    · rename_i hm
      have hw := Option.some.inj h
      have hmem : x ∈ tabL := by
        unfold rowOf at hx
        split at hx
        · exact List.mem_of_getElem? hx
        · cases hx
      have hc := (tab_lin x hmem d a b v hd.1 ha.1 hb.1 hm).code
      have hp := (word_sum x d a b v ((tab_forms x hmem).parts d a b v hd.1 ha.1 hb.1 hm)).2
      have h4 : ∀ x ∈ tabL, x.1 % 4 = 3 := by
        have h : tabL.all (fun x => x.1 % 4 == 3) = true := by decide
        intro x hx
        have := List.all_eq_true.1 h x hx
        simpa using this
      have := h4 x hmem
      rw [hw] at hc hp
      omega
    · cases h
  · cases h
end Go.Proofs.YtgchaghdhofnoaaDoor

/-
Own rows beside other blocks: a row is grown, a cell of it is written, elements are taken out; each other block stays and stays another one.
Conditions: each theorem's hypotheses; nothing is asked of a program but closed facts of its types.
-/
namespace Go.Vc
open Go.RowKit
set_option linter.unusedVariables false
set_option linter.unusedSimpArgs false
set_option linter.unnecessarySimpa false

/-- The block of a row. -/
abbrev rowB (b : Option Addr) : Option Nat := b.map (·.block)
theorem ownBlock_rowB (b : Option Addr) (n c : Nat) : (Value.slice b n c).ownBlock = rowB b := by cases b <;> rfl
theorem OwnS.kept {w0 w w' : World} {e : TypeId} {size : Nat} {b : Option Addr} {bn bc n : Nat} {xs : List Value} (h : OwnS w0 w e size (.slice b bn bc) n xs) (hk : ∀ k, rowB b = some k → w'.heap[k]? = w.heap[k]?) : OwnS w0 w' e size (.slice b bn bc) n xs := by
  obtain ⟨h1, h | ⟨g, cap, cur, h2, h3, h4, h5⟩⟩ := h
  · exact ⟨h1, .inl h⟩
  · refine ⟨h1, .inr ⟨g, cap, cur, h2, h3, ?_, h5⟩⟩
    cases h2
    rw [hk g rfl]; exact h4
theorem OwnS.lt {w0 w : World} {e : TypeId} {size : Nat} {b : Option Addr} {bn bc n : Nat} {xs : List Value} (h : OwnS w0 w e size (.slice b bn bc) n xs) {k : Nat} (hk : rowB b = some k) : w0.heap.size ≤ k ∧ k < w.heap.size :=
  World.ownsRow.lt h k (by rw [ownBlock_rowB]; exact hk)
/-- A row is grown: each block that was there and is not the row's stays and is not the new row's. -/
theorem RunsV_append_apart {P : Program} {w0 w : World} {t e : TypeId} {size bytes : Nat} (ty : TypeId) (hT : RowTy P t e size bytes) {b : Option Addr} {bn bc n : Nat} {xs : List Value} (hown : OwnS w0 w e size (.slice b bn bc) n xs) (hl : Later w0 w)
    {a : Addr} {m c : Nat} {news : List Value} (hlen : news.length = m * size) (hnews : CellsAt w a 0 news) (h1 : ∀ u ∈ news, u.oneCell' = true) (h63 : n + m ≤ maxLen) (hbytes : (n + m) * bytes ≤ 140737488355328)
    {K : Value → World → Prop}
    (hK : ∀ b' bn' bc' w', OwnS w0 w' e size (.slice b' bn' bc') (n + m) (xs ++ news) → Later w0 w' → (∀ k, k < w.heap.size → rowB b ≠ some k → w'.heap[k]? = w.heap[k]? ∧ rowB b' ≠ some k) → K (.slice b' bn' bc') w') :
    RunsV P (Builtin.append_ #[t, t] ty #[.slice b bn bc, .slice (some a) m c]) w K := by
  obtain ⟨i, z, hi, hz, hs, hby, hzs⟩ := hT.info
  have hnews' : ∀ j u, news[j]? = some u → w.cell? (a.add j) = some u := fun j u hj => by have := CellsAt_get hnews j u hj; rwa [Nat.zero_add] at this
  obtain ⟨v', w', hr, ho, hg, _⟩ := run_append_own (P := P) w w0.heap.size t ty e i z size bytes hT.under hi hz hs hby hzs hT.pos _ n xs hown a m c news hlen hnews' h1 h63 hbytes hl.size
  rw [ownBlock_rowB] at hg
  have hlt := World.ownsRow.lt hown
  have hb : Later w0 w' := Below.grown hl hg hl.size (fun k hk => (hlt k (by rw [ownBlock_rowB]; exact hk)).1)
  -- where the new row is
  have hap : ∀ k, k < w.heap.size → rowB b ≠ some k → v'.ownBlock ≠ some k := by
    intro k hk hbk hv
    have hsm : n + m ≤ 9223372036854775807 := by simp only [maxLen] at h63; omega
    have hw := hown
    obtain ⟨hx0, h | ⟨g, cap, cur, h, hbg, hgb, hnc, hcm, hcs, htk⟩⟩ := hw
    · obtain ⟨hbb, rfl⟩ := h
      have hnil : w.ownsRow w.heap.size e size (.slice b bn bc) 0 xs := ⟨hx0, .inl ⟨hbb, rfl⟩⟩
      obtain ⟨v2, w2, hr2, ho2, _, _⟩ := run_append_own (P := P) w w.heap.size t ty e i z size bytes hT.under hi hz hs hby hzs hT.pos _ 0 xs hnil a m c news hlen hnews' h1 h63 hbytes (Nat.le_refl _)
      rw [hr] at hr2
      cases hr2
      have := (World.ownsRow.lt ho2 k hv).1
      omega
    · cases h
      by_cases hroom : bn + m ≤ bc
      · obtain ⟨w2, hr2, _, _⟩ := run_append_fits (P := P) w w0.heap.size t ty e i size hT.under hi hs g bn bc xs hown a m c news hlen hnews' h1 hroom
        rw [hr] at hr2
        cases hr2
        exact hbk hv
      · have hr2 := run_append_grow (P := P) w t ty e i z hT.under hi hz ⟨g, 0, none⟩ bn bc xs (by rw [hs]; exact hx0) (fun j u hj => World.ownsRow.cells hown (g := g) rfl j u hj) a m c news (by rw [hs]; exact hlen) hnews' (by omega) (by omega) (growslice_fits (by omega) (by rw [hby]; exact hbytes))
        rw [hr] at hr2
        cases hr2
        simp only [Value.ownBlock, Option.some.injEq] at hv
        omega
  refine RunsV_of hr ?_
  obtain ⟨hxs, h | ⟨g, cap, cur, h2, h3⟩⟩ := ho
  · obtain ⟨rfl, hn⟩ := h
    exact hK _ _ _ _ ⟨hxs, .inl ⟨rfl, hn⟩⟩ hb fun k hk hne => ⟨hg.block k hk (fun h => hne h.symm), by simp⟩
  · subst h2
    exact hK _ _ _ _ ⟨hxs, .inr ⟨g, cap, cur, rfl, h3⟩⟩ hb fun k hk hne => ⟨hg.block k hk (fun h => hne h.symm), hap k hk hne⟩
/-- A cell of an own row is written. -/
theorem OwnS.store {w0 w : World} {e : TypeId} {size g n cap : Nat} {xs : List Value} (h : OwnS w0 w e size (.slice (some ⟨g, 0, none⟩) n cap) n xs) (j : Nat) (u : Value) :
    OwnS w0 (w.setCell ⟨g, j, none⟩ u) e size (.slice (some ⟨g, 0, none⟩) n cap) n (xs.set j u) ∧ (∀ k, k ≠ g → (w.setCell ⟨g, j, none⟩ u).heap[k]? = w.heap[k]?) := by
  have h2 := World.ownsRow.stored (h := h) j u
  refine ⟨h2.1, fun k hk => ?_⟩
  simp only [World.setCell, Array.getElem?_modify]
  rw [if_neg (fun e => hk e.symm)]
theorem OwnS.split {w0 w : World} {e : TypeId} {size : Nat} {b : Option Addr} {bn bc n : Nat} {xs : List Value} (h : OwnS w0 w e size (.slice b bn bc) n xs) (hn : 0 < n) : ∃ g, b = some ⟨g, 0, none⟩ ∧ bn = n ∧ n ≤ bc ∧ bc ≤ maxLen ∧ ∃ cur, w.heap[g]? = some (.cells cur e (0, 0)) ∧ cur.size = bc * size ∧ cur.toList.take (n * size) = xs := by
  obtain ⟨h1, h | ⟨g, cap, cur, h2, h3, h4, h5, h6, h7, h8⟩⟩ := h
  · omega
  · cases h2
    exact ⟨g, rfl, rfl, h5, h6, cur, h4, h7, h8⟩
/-- The first elements of an own row are one. -/
theorem OwnS.front {w0 w : World} {e : TypeId} {size g n cap : Nat} {xs : List Value} (h : OwnS w0 w e size (.slice (some ⟨g, 0, none⟩) n cap) n xs) (i : Nat) (hi : i ≤ n) : OwnS w0 w e size (.slice (some ⟨g, 0, none⟩) i cap) i (xs.take (i * size)) := by
  obtain ⟨h1, h | ⟨g', cap', cur, h2, h3, h4, h5, h6, h7, h8⟩⟩ := h
  · cases h.1
  · cases h2
    have hm : i * size ≤ n * size := Nat.mul_le_mul_right _ hi
    refine ⟨by rw [List.length_take, h1]; omega, .inr ⟨g, cap, cur, rfl, h3, h4, by omega, h6, h7, ?_⟩⟩
    rw [← h8, List.take_take]
    congr 1
    omega
theorem zeroCells_length (z : Array Value) (n : Nat) : (Builtin.zeroCells z n).toList.length = n * z.size := by simp [Builtin.zeroCells]
theorem zeroCells_mem (z : Array Value) (n : Nat) (hz : 0 < z.size) (h : ∀ u ∈ z.toList, u.oneCell' = true) : ∀ u ∈ (Builtin.zeroCells z n).toList, u.oneCell' = true := by
  intro u hu
  simp only [Builtin.zeroCells, Array.toList_map, Array.toList_range, List.mem_map, List.mem_range] at hu
  obtain ⟨i, _, rfl⟩ := hu
  have hlt : i % z.size < z.size := Nat.mod_lt _ hz
  rw [getElem!_pos z _ hlt]
  exact h _ (by simp)
/-- What is behind an own row's elements is cleared: the row stays. -/
theorem RunsV_clear_behind {P : Program} {w0 w : World} {t e ty : TypeId} {size g n m cap c k : Nat} {xs : List Value} {z : Value} (ht : P.underlying t = some (.slice e)) (hz : ∀ w : World, (zeroValue e).run P w = .ok z w) (hzs : z.cells.size = size) (hpos : 0 < size) (hz1 : ∀ u ∈ z.cells.toList, u.oneCell' = true)
    (hown : OwnS w0 w e size (.slice (some ⟨g, 0, none⟩) n cap) n xs) (hl : Later w0 w) (hnm : n ≤ k) (hmc : k + m ≤ cap) {K : Value → World → Prop}
    (hK : ∀ w', OwnS w0 w' e size (.slice (some ⟨g, 0, none⟩) n cap) n xs → Later w0 w' → (∀ j, j ≠ g → w'.heap[j]? = w.heap[j]?) → w'.heap.size = w.heap.size → K (.tuple #[]) w') :
    RunsV P (Builtin.clear_ #[t] ty #[.slice (some ⟨g, k * size, none⟩) m c]) w K := by
  cases m with
  | zero =>
    refine RunsV_of (v := .tuple #[]) (w' := w) ?_ (hK w hown hl (fun _ _ => rfl) rfl)
    simp [Builtin.clear_, run_underlying ht]
  | succ m =>
    have hbg := (World.ownsRow.lt hown g rfl).1
    obtain ⟨h1, h | ⟨g', cap', cur, h2, h3, h4, h5, h6, h7, h8⟩⟩ := hown
    · cases h.1
    · cases h2
      have hfit : k * size + 0 + (Builtin.zeroCells z.cells (m + 1)).toList.length ≤ cur.size := by
        rw [zeroCells_length, hzs, h7, Nat.add_zero, ← Nat.add_mul]
        exact Nat.mul_le_mul_right _ hmc
      have hr := run_storeCells_at (P := P) g (k * size) e (Builtin.zeroCells z.cells (m + 1)).toList 0 cur w h4 hfit (zeroCells_mem _ _ (by omega) hz1)
      refine RunsV_of (v := .tuple #[]) (w' := w.setRow g (cur.toList.take (k * size + 0) ++ (Builtin.zeroCells z.cells (m + 1)).toList ++ cur.toList.drop (k * size + 0 + (Builtin.zeroCells z.cells (m + 1)).toList.length)).toArray) ?_ (hK _ ?_ (below_setRow hl hbg _) (fun j hj => setRow_other w g j _ hj) (size_setRow _ _ _))
      · simp only [Builtin.clear_, List.getElem?_toArray, Sem.run_bind, run_underlying ht, hz]
        simp [hz, hr, run_underlying ht, Result.andThen]
      · have hkn : n * size ≤ k * size := Nat.mul_le_mul_right _ hnm
        refine ⟨h1, .inr ⟨g, cap, _, rfl, h3, setRow_heap w g cur _ e _ h4, h5, h6, ?_, ?_⟩⟩
        · simp only [List.size_toArray, List.length_append, List.length_take, List.length_drop, Array.length_toList] at hfit ⊢
          omega
        · simp only [Nat.add_zero, List.append_assoc]
          rw [List.take_append_of_le_length (by simp only [List.length_take, Array.length_toList]; simp only [Nat.add_zero] at hfit; omega), List.take_take, ← h8]
          congr 1
          omega
end Go.Vc

/-
Rows of elements of some cells each, whatever they are: handed in, or own; grown, copied, written.
Conditions: each theorem's hypotheses.
-/
namespace Go.Vc
open Go.RowKit
set_option linter.unusedVariables false
set_option linter.unusedSimpArgs false
set_option linter.unnecessarySimpa false

theorem addr_add_add (a : Addr) (i j : Nat) : (a.add i).add j = a.add (i + j) := by
  unfold Addr.add
  by_cases hi : i = 0
  · subst hi; simp
  · by_cases hj : j = 0
    · subst hj; simp
    · rw [if_neg hi, if_neg hj, if_neg (by omega)]
      simp only [Nat.add_assoc]
theorem addr_add_zero (a : Addr) : a.add 0 = a := by simp [Addr.add]
/-- What an element is in cells. -/
structure ElT (α : Type) where
  sz : Nat
  pos : 0 < sz
  enc : α → List Value
  len : ∀ a, (enc a).length = sz
  one : ∀ a, ∀ u ∈ enc a, u.oneCell' = true
section
variable {α : Type} (T : ElT α)
def rowC (l : List α) : List Value := l.flatMap T.enc
theorem rowC_cons (m : α) (l : List α) : rowC T (m :: l) = T.enc m ++ rowC T l := by simp [rowC]
theorem rowC_append (l k : List α) : rowC T (l ++ k) = rowC T l ++ rowC T k := by simp [rowC]
theorem rowC_one (m : α) : rowC T [m] = T.enc m := by simp [rowC]
theorem rowC_length : ∀ l : List α, (rowC T l).length = l.length * T.sz
  | [] => by simp [rowC]
  | m :: l => by rw [rowC_cons, List.length_append, rowC_length l, T.len, List.length_cons, Nat.add_mul]; omega
theorem rowC_get : ∀ (l : List α) (i j : Nat) (m : α), l[i]? = some m → j < T.sz → (rowC T l)[i * T.sz + j]? = (T.enc m)[j]?
  | [], i, j, m, h, _ => by simp at h
  | x :: l, 0, j, m, h, hj => by
    obtain rfl : x = m := by simpa using h
    rw [rowC_cons, List.getElem?_append_left (by rw [T.len]; omega)]
    congr 1; omega
  | x :: l, i + 1, j, m, h, hj => by
    have e : (i + 1) * T.sz + j = T.sz + (i * T.sz + j) := by rw [Nat.add_mul]; omega
    rw [rowC_cons, e, List.getElem?_append_right (by rw [T.len]; omega), T.len, show T.sz + (i * T.sz + j) - T.sz = i * T.sz + j by omega]
    exact rowC_get l i j m (by simpa using h) hj
theorem rowC_all (l : List α) : ∀ u ∈ rowC T l, u.oneCell' = true := by
  intro u hu
  obtain ⟨m, _, hm⟩ := List.mem_flatMap.1 hu
  exact T.one m u hm
/-- A row's elements stand there. -/
def ERow (w : World) (A : Option Addr) (l : List α) : Prop := ∀ i m, l[i]? = some m → ∃ ad, A = some ad ∧ ∀ j v, (T.enc m)[j]? = some v → w.cell? ((ad.add (i * T.sz)).add j) = some v
variable {T}
theorem ERow.later {w w' : World} {A : Option Addr} {l : List α} (h : ERow T w A l) (hl : Later w w') : ERow T w' A l := by
  intro i m hi
  obtain ⟨ad, h1, h2⟩ := h i m hi
  exact ⟨ad, h1, fun j v hv => hl.cell_some (h2 j v hv)⟩
theorem ERow.nil (w : World) (A : Option Addr) : ERow T w A [] := fun i m h => by simp at h
theorem ERow.addr {w : World} {A : Option Addr} {l : List α} (h : ERow T w A l) (hl : 0 < l.length) : ∃ ad, A = some ad := by
  obtain ⟨ad, h1, _⟩ := h 0 _ (List.getElem?_eq_getElem hl)
  exact ⟨ad, h1⟩
theorem ERow.front {w : World} {ad : Addr} {l : List α} (h : ERow T w (some ad) l) (k : Nat) : CellsAt w ad 0 (rowC T (l.take k)) := by
  have hp := T.pos
  refine CellsAt_of_get fun j u hj => ?_
  have hjl : j < (rowC T (l.take k)).length := (List.getElem?_eq_some_iff.1 hj).1
  rw [rowC_length] at hjl
  have hq : j / T.sz < (l.take k).length := (Nat.div_lt_iff_lt_mul hp).2 hjl
  have e1 := List.getElem?_eq_getElem hq
  have e2 := rowC_get T (l.take k) (j / T.sz) (j % T.sz) _ e1 (Nat.mod_lt _ hp)
  rw [show j / T.sz * T.sz + j % T.sz = j by rw [Nat.mul_comm]; exact Nat.div_add_mod j T.sz, hj] at e2
  have e3 : l[j / T.sz]? = some (l.take k)[j / T.sz] := by
    rw [List.getElem?_take] at e1
    split at e1
    · exact e1
    · cases e1
  obtain ⟨ae, hae, hc⟩ := h _ _ e3
  obtain rfl := Option.some.inj hae
  have := hc (j % T.sz) u e2.symm
  rw [addr_add_add, show j / T.sz * T.sz + j % T.sz = j by rw [Nat.mul_comm]; exact Nat.div_add_mod j T.sz] at this
  rw [Nat.zero_add]; exact this
theorem ERow.drop {w : World} {ad : Addr} {l : List α} (h : ERow T w (some ad) l) (k : Nat) : ERow T w (some (ad.add (k * T.sz))) (l.drop k) := by
  intro i m hi
  rw [List.getElem?_drop] at hi
  obtain ⟨ae, hae, hc⟩ := h _ _ hi
  obtain rfl := Option.some.inj hae
  refine ⟨_, rfl, fun j v hv => ?_⟩
  have := hc j v hv
  rw [Nat.add_mul, addr_add_add, Nat.add_assoc] at this
  rw [addr_add_add, addr_add_add]
  exact this
theorem ERow.all {w : World} {ad : Addr} {l : List α} (h : ERow T w (some ad) l) : CellsAt w ad 0 (rowC T l) := by
  have := h.front l.length
  rwa [List.take_length] at this
theorem Has.erow {w : World} {k : Nat} {l : List α} (h : Has w k (rowC T l)) : ERow T w (some ⟨k, 0, none⟩) l := by
  intro i m hi
  refine ⟨_, rfl, fun j v hv => ?_⟩
  have hj : j < T.sz := by rw [← T.len m]; exact (List.getElem?_eq_some_iff.1 hv).1
  rw [addr_add_add, add_block, Nat.zero_add]
  exact h.cell (by rw [rowC_get T l i j m hi hj]; exact hv)
/-- A row that the call made. -/
abbrev OwnE (T : ElT α) (w0 w : World) (e : TypeId) (b : Option Addr) (c : Nat) (l : List α) : Prop := OwnS w0 w e T.sz (.slice b l.length c) l.length (rowC T l)
theorem OwnE.row {w0 w : World} {e : TypeId} {b : Option Addr} {c : Nat} {l : List α} (h : OwnE T w0 w e b c l) : ERow T w b l := by
  intro i m hi
  have hil : i < l.length := (List.getElem?_eq_some_iff.1 hi).1
  obtain ⟨g, rfl, -⟩ := h.split (by omega)
  refine ⟨_, rfl, fun j v hv => ?_⟩
  have hj : j < T.sz := by rw [← T.len m]; exact (List.getElem?_eq_some_iff.1 hv).1
  have hc := CellsAt_get h.cells (i * T.sz + j) v (by rw [rowC_get T l i j m hi hj]; exact hv)
  rw [Nat.zero_add] at hc
  rw [addr_add_add]; exact hc
theorem OwnE.nil (w0 w : World) (e : TypeId) : OwnE T w0 w e none 0 [] := ⟨by simp [rowC], .inl ⟨rfl, rfl⟩⟩
theorem OwnE.cap {w0 w : World} {e : TypeId} {b : Option Addr} {c : Nat} {l : List α} (h : OwnE T w0 w e b c l) : l.length ≤ c := by
  obtain ⟨_, h | ⟨g, cap, cur, h2, h3, h4, h5, _⟩⟩ := h
  · omega
  · cases h2; exact h5
/-- Some are appended. -/
theorem OwnE.append {P : Program} {t e : TypeId} {bytes : Nat} (ty : TypeId) (hT : RowTy P t e T.sz bytes) {w0 w : World} {b : Option Addr} {c : Nat} {l news : List α} {a : Addr} {c2 : Nat} (hown : OwnE T w0 w e b c l) (hl : Later w0 w) (hb : l.length + news.length ≤ maxLen) (hby : (l.length + news.length) * bytes ≤ 140737488355328)
    (hc : CellsAt w a 0 (rowC T news)) {K : Value → World → Prop}
    (hK : ∀ b' c' w', OwnE T w0 w' e b' c' (l ++ news) → Later w0 w' → (∀ k, k < w.heap.size → rowB b ≠ some k → w'.heap[k]? = w.heap[k]? ∧ rowB b' ≠ some k) → K (.slice b' (l ++ news).length c') w') :
    RunsV P (Builtin.append_ #[t, t] ty #[.slice b l.length c, .slice (some a) news.length c2]) w K := by
  refine RunsV_append_apart ty hT hown hl (m := news.length) (news := rowC T news) (rowC_length T _) hc (rowC_all T _) hb hby ?_
  intro p pn pc w' ho hl' hk
  obtain rfl := ho.len
  rw [← rowC_append, ← List.length_append] at ho
  rw [← List.length_append]
  exact hK _ _ _ ho hl' hk
/-- One is appended, that was laid as a block. -/
theorem OwnE.push {P : Program} {t e : TypeId} {bytes : Nat} (ty : TypeId) (hT : RowTy P t e T.sz bytes) {w0 w w1 : World} {b : Option Addr} {c : Nat} {l : List α} (m : α) (hown : OwnE T w0 w e b c l) (hl : Later w0 w) (hb : l.length + 1 ≤ maxLen) (hby : (l.length + 1) * bytes ≤ 140737488355328)
    {cs : Array Value} (e1 : w1 = w.alloc (.cells cs e)) (hcs : cs.toList = T.enc m) {K : Value → World → Prop}
    (hK : ∀ b' c' w', OwnE T w0 w' e b' c' (l ++ [m]) → Later w0 w' → (∀ k, k < w.heap.size → rowB b ≠ some k → w'.heap[k]? = w.heap[k]? ∧ rowB b' ≠ some k) → K (.slice b' (l ++ [m]).length c') w') :
    RunsV P (Builtin.append_ #[t, t] ty #[.slice b l.length c, .slice (some ⟨w.heap.size, 0, none⟩) 1 1]) w1 K := by
  subst e1
  have hcells : CellsAt (w.alloc (.cells cs e)) ⟨w.heap.size, 0, none⟩ 0 (rowC T [m]) := by
    rw [rowC_one, ← hcs]
    exact CellsAt_new' w e (0, 0) cs
  have := OwnE.append (news := [m]) (c2 := 1) ty hT (hown.alloc (.cells cs e)) (hl.alloc _) hb hby hcells (K := K) fun b' c' w' ho hl' hk => hK b' c' w' ho hl' fun k hk1 hk2 => by
    obtain ⟨h1, h2⟩ := hk k (Nat.lt_of_lt_of_le hk1 (Later.size (Later.alloc' w _))) hk2
    exact ⟨h1.trans (Later.block (Later.alloc' w _) hk1), h2⟩
  exact this
/-- A copy of what is there. -/
theorem ERow.copy {P : Program} {t e : TypeId} {bytes : Nat} (ty : TypeId) (hT : RowTy P t e T.sz bytes) {A : Option Addr} {cap : Nat} {l : List α} {w : World} (hn : l.length ≤ maxLen) (hby : l.length * bytes ≤ 140737488355328) (hR : ERow T w A l) {K : Value → World → Prop}
    (hK : ∀ b c w', OwnE T w w' e b c l → Later w w' → K (.slice b l.length c) w') :
    RunsV P (Builtin.append_ #[t, t] ty #[.slice none 0 0, .slice A l.length cap]) w K := by
  cases A with
  | none =>
    have : l = [] := by
      cases l with
      | nil => rfl
      | cons m l => obtain ⟨ad, he, _⟩ := hR 0 m rfl; cases he
    subst this
    obtain ⟨i, z, hi, hz, hs, hby, hzs⟩ := hT.info
    refine RunsV_of (v := .slice none 0 0) (w' := w) ?_ (hK none 0 w (OwnE.nil _ _ _) (Below.refl _ _))
    exact run_append_nothing w _ _ _ _ i hT.under hi none 0 0 (Nat.le_refl 0) (.slice none 0 cap) ⟨.inl ⟨_, hT.under⟩, fun w' => by simp [Builtin.lenOf], by simp [Builtin.firstCells], by simp [Builtin.firstCells], by simp, by simp⟩
  | some ad =>
    refine OwnE.append (w0 := w) (b := none) (c := 0) (l := []) ty hT (OwnE.nil _ _ _) (Later.refl w) (by simpa using hn) (by simpa using hby) hR.all fun b c w' ho hl _ => ?_
    rw [List.nil_append] at ho ⊢
    exact hK b c w' ho hl
/-- A full row that lies anywhere is grown: a new one. -/
theorem OwnE.grow {P : Program} {t e : TypeId} {bytes : Nat} (ty : TypeId) (hT : RowTy P t e T.sz bytes) {w0 w : World} (hl : Later w0 w) {a b : Addr} {l news : List α} {sCap c2 : Nat} (ho : CellsAt w b 0 (rowC T l)) (hc : CellsAt w a 0 (rowC T news)) (hg : sCap < l.length + news.length)
    (hb : l.length + news.length ≤ maxLen) (hby : (l.length + news.length) * bytes ≤ 140737488355328) {K : Value → World → Prop}
    (hK : ∀ b' c' w', OwnE T w0 w' e b' c' (l ++ news) → Later w w' → K (.slice b' (l ++ news).length c') w') :
    RunsV P (Builtin.append_ #[t, t] ty #[.slice (some b) l.length sCap, .slice (some a) news.length c2]) w K := by
  obtain ⟨i, z, hi, hz, hs, hby', hzs⟩ := hT.info
  have hge := grownCap_ge w (l.length + news.length) sCap e
  have hcm : grownCap w (l.length + news.length) sCap e ≤ maxLen := grownCap_le_maxLen w _ sCap e hb
  have hfit : Builtin.nextslicecap (l.length + news.length) sCap * i.bytes ≤ 281474976710656 := by
    have h1 := Nat.mul_le_mul_right i.bytes (nextslicecap_le hg)
    rw [hby'] at h1 ⊢
    rw [Nat.mul_assoc] at h1
    omega
  have hrun := run_append_grow w t ty e i z hT.under hi hz b l.length sCap (rowC T l) (by rw [rowC_length, hs]) (fun j v hv => by have := CellsAt_get ho j v hv; rwa [Nat.zero_add] at this)
    a news.length c2 (rowC T news) (by rw [rowC_length, hs]) (fun j v hv => by have := CellsAt_get hc j v hv; rwa [Nat.zero_add] at this) hg (by simp only [maxLen] at hb; omega) hfit
  have hlw : Later w (w.drew.alloc (.cells ((rowC T l).toArray ++ (rowC T news).toArray ++ Builtin.zeroCells z.cells (grownCap w (l.length + news.length) sCap e - (l.length + news.length))) e)) := ((Below.refl _ w).drew).alloc (Nat.le_refl _) _
  refine RunsV_of hrun ?_
  rw [← List.length_append] at hge hcm hlw ⊢
  have hlen : (rowC T (l ++ news)).length = (l ++ news).length * T.sz := rowC_length T _
  refine hK _ _ _ ⟨hlen, .inr ⟨w.heap.size, _, _, rfl, Later.size hl, heap_alloc_new w.drew _, hge, hcm, ?_, ?_⟩⟩ hlw
  · simp only [Array.size_append, List.size_toArray, size_zeroCells, hzs, rowC_length]
    rw [← Nat.add_mul, ← Nat.add_mul, ← List.length_append]
    congr 1
    omega
  · simp only [Array.toList_append]
    rw [rowC_append] at hlen ⊢
    rw [← hlen]
    exact List.take_left' rfl
/-- A block that was laid just now is a row. -/
theorem OwnE.new {w0 w w1 : World} {e : TypeId} (hl : Later w0 w) {cs : Array Value} (e1 : w1 = w.alloc (.cells cs e)) {l : List α} (hcs : cs.toList = rowC T l) (hb : l.length ≤ maxLen) : OwnE T w0 w1 e (some ⟨w.heap.size, 0, none⟩) l.length l := by
  subst e1
  refine ⟨rowC_length T _, .inr ⟨w.heap.size, l.length, cs, rfl, Later.size hl, heap_alloc_new w _, Nat.le_refl _, hb, ?_, ?_⟩⟩
  · have := congrArg List.length hcs
    rw [rowC_length] at this
    simpa using this
  · rw [hcs, List.take_of_length_le (by rw [rowC_length]; omega)]
end
end Go.Vc

/-
What lies outside a stretch of blocks stays: for calls that write into blocks of their own kind.
Conditions: each theorem's hypotheses; nothing is asked of a program.
-/
namespace Go.Vc
open Go.RowKit
set_option linter.unusedVariables false
set_option linter.unusedSimpArgs false
set_option linter.unnecessarySimpa false

/-- Of the older blocks those within [a, b) alone may be turned. -/
structure Kept (a b : Nat) (w w' : World) : Prop where
  os : w'.os = w.os
  tape : w'.tape = w.tape
  output : w'.output = w.output
  size : w.heap.size ≤ w'.heap.size
  keep : ∀ k, k < w.heap.size → (k < a ∨ b ≤ k) → w'.heap[k]? = w.heap[k]?
theorem Kept.refl (a b : Nat) (w : World) : Kept a b w w := ⟨rfl, rfl, rfl, Nat.le_refl _, fun _ _ _ => rfl⟩
theorem Kept.trans {a b : Nat} {w w1 w2 : World} (h : Kept a b w w1) (k : Kept a b w1 w2) : Kept a b w w2 :=
  ⟨k.os.trans h.os, k.tape.trans h.tape, k.output.trans h.output, Nat.le_trans h.size k.size, fun i hi hn => (k.keep i (Nat.lt_of_lt_of_le hi h.size) hn).trans (h.keep i hi hn)⟩
theorem Later.kept {w w' : World} (h : Later w w') (a b : Nat) : Kept a b w w' :=
  ⟨(show Below _ _ _ from h).os, (show Below _ _ _ from h).tape, (show Below _ _ _ from h).output, (show Below _ _ _ from h).size, fun k hk _ => (show Below _ _ _ from h).block k hk⟩
theorem Kept.later {a b : Nat} {w0 w w' : World} (h : Kept a b w w') (hl : Later w0 w) (ha : w0.heap.size ≤ a) : Later w0 w' :=
  Below.trans hl ⟨h.os, h.tape, h.output, h.size, fun k hk => h.keep k (Nat.lt_of_lt_of_le hk (Later.size hl)) (.inl (Nat.lt_of_lt_of_le hk ha))⟩
theorem Kept.has {a b : Nat} {w w' : World} (h : Kept a b w w') {k : Nat} {cs : List Value} (hx : Has w k cs) (hn : k < a ∨ b ≤ k) : Has w' k cs := hx.kept (h.keep k hx.lt hn)
theorem Kept.trk {a b : Nat} {w0 w w' : World} {L : List Blk} (h : Kept a b w w') (hL : Trk w0 w L) (ha : w0.heap.size ≤ a) (hn : ∀ x ∈ L, x.1 < a ∨ b ≤ x.1) : Trk w0 w' L :=
  ⟨h.later hL.1 ha, fun x hx => ⟨(hL.2.1 x hx).1, h.has (hL.2.1 x hx).2 (hn x hx)⟩, hL.2.2⟩
theorem Kept.cell {a b : Nat} {w w' : World} (h : Kept a b w w') {p : Addr} {v : Value} (hv : w.cell? p = some v) (hn : p.block < a ∨ b ≤ p.block) : w'.cell? p = some v := by
  have hl : p.block < w.heap.size := by
    by_cases hl : p.block < w.heap.size
    · exact hl
    · have : w.heap[p.block]? = none := by simp [Nat.le_of_not_lt hl]
      simp [World.cell?, this] at hv
  simpa [World.cell?, h.keep _ hl hn] using hv
theorem Kept.setCell {a b x i : Nat} (w : World) (v : Value) (hx : a ≤ x ∧ x < b) : Kept a b w (w.setCell ⟨x, i, none⟩ v) :=
  ⟨rfl, rfl, rfl, by simp [World.setCell], fun k hk hn => by
    have : ¬ x = k := by omega
    simp [World.setCell, Array.getElem?_modify, this]⟩
theorem Kept.setRow {a b x : Nat} (w : World) (cs : Array Value) (hx : a ≤ x ∧ x < b) : Kept a b w (w.setRow x cs) :=
  ⟨rfl, rfl, rfl, by simp [World.setRow], fun k hk hn => setRow_other w x k cs (by omega)⟩
theorem Kept.wide {a b c d : Nat} {w w' : World} (h : Kept a b w w') (h1 : c ≤ a) (h2 : b ≤ d) : Kept c d w w' :=
  ⟨h.os, h.tape, h.output, h.size, fun k hk hn => h.keep k hk (by omega)⟩
theorem Has.setRow {w : World} {b : Nat} {cs : List Value} (h : Has w b cs) (ds : List Value) : Has (w.setRow b ds.toArray) b ds := by
  obtain ⟨t, h⟩ := h
  exact ⟨t, setRow_heap w b _ _ t _ h⟩

/-- Of the older blocks those of S alone may be turned. -/
structure But (S : Nat → Prop) (w w' : World) : Prop where
  os : w'.os = w.os
  tape : w'.tape = w.tape
  output : w'.output = w.output
  size : w.heap.size ≤ w'.heap.size
  keep : ∀ k, k < w.heap.size → ¬ S k → w'.heap[k]? = w.heap[k]?
theorem But.refl (S : Nat → Prop) (w : World) : But S w w := ⟨rfl, rfl, rfl, Nat.le_refl _, fun _ _ _ => rfl⟩
theorem But.trans {S : Nat → Prop} {w w1 w2 : World} (h : But S w w1) (k : But S w1 w2) : But S w w2 :=
  ⟨k.os.trans h.os, k.tape.trans h.tape, k.output.trans h.output, Nat.le_trans h.size k.size, fun i hi hn => (k.keep i (Nat.lt_of_lt_of_le hi h.size) hn).trans (h.keep i hi hn)⟩
theorem Later.but {w w' : World} (h : Later w w') (S : Nat → Prop) : But S w w' :=
  ⟨(show Below _ _ _ from h).os, (show Below _ _ _ from h).tape, (show Below _ _ _ from h).output, (show Below _ _ _ from h).size, fun k hk _ => (show Below _ _ _ from h).block k hk⟩
theorem But.kept {S : Nat → Prop} {w w' : World} (h : But S w w') {a b : Nat} (hS : ∀ k, S k → a ≤ k ∧ k < b) : Kept a b w w' :=
  ⟨h.os, h.tape, h.output, h.size, fun k hk hn => h.keep k hk fun hs => by have := hS k hs; omega⟩
theorem But.has {S : Nat → Prop} {w w' : World} (h : But S w w') {k : Nat} {cs : List Value} (hx : Has w k cs) (hn : ¬ S k) : Has w' k cs := hx.kept (h.keep k hx.lt hn)
theorem But.cell {S : Nat → Prop} {w w' : World} (h : But S w w') {p : Addr} {v : Value} (hv : w.cell? p = some v) (hn : ¬ S p.block) : w'.cell? p = some v := by
  have hl : p.block < w.heap.size := by
    by_cases hl : p.block < w.heap.size
    · exact hl
    · have : w.heap[p.block]? = none := by simp [Nat.le_of_not_lt hl]
      simp [World.cell?, this] at hv
  simpa [World.cell?, h.keep _ hl hn] using hv
theorem But.setCell {S : Nat → Prop} {x i : Nat} (w : World) (v : Value) (hx : S x) : But S w (w.setCell ⟨x, i, none⟩ v) :=
  ⟨rfl, rfl, rfl, by simp [World.setCell], fun k hk hn => by
    have : ¬ x = k := fun e => hn (e ▸ hx)
    simp [World.setCell, Array.getElem?_modify, this]⟩
theorem But.setRow {S : Nat → Prop} {x : Nat} (w : World) (cs : Array Value) (hx : S x) : But S w (w.setRow x cs) :=
  ⟨rfl, rfl, rfl, by simp [World.setRow], fun k hk hn => setRow_other w x k cs fun e => hn (e ▸ hx)⟩
theorem Later.setKept {w0 w w' : World} {a b : Nat} (hl : Later w0 w) (h : Kept a b w w') (ha : w0.heap.size ≤ a) : Later w0 w' := h.later hl ha
theorem lt_of_cell {w : World} {p : Addr} {v : Value} (hv : w.cell? p = some v) : p.block < w.heap.size := by
  by_cases hl : p.block < w.heap.size
  · exact hl
  · have : w.heap[p.block]? = none := by simp [Nat.le_of_not_lt hl]
    simp [World.cell?, this] at hv

theorem fn_intro {f : FuncId} {fi ca : Array Value} {L : FuncId → Array Value → Array Value → Prop} (h : L f fi ca) : AsFn (.func (.func f) fi ca) L := h
theorem yield_intro {l : Nat} {L : Nat → Prop} (h : L l) : AsYield (.func (.yield l) #[] #[]) L := by simpa [AsYield] using h

/-! ### a stretch of a block -/
/-- From o on these cells stand. -/
def Seg (B : List Value) (o : Nat) (l : List Value) : Prop := ∀ j v, l[j]? = some v → B[o + j]? = some v
/-- A stretch of a list, written over. -/
def putL {α : Type} (B : List α) (o : Nat) (vs : List α) : List α := B.take o ++ vs ++ B.drop (o + vs.length)
theorem putL_get {α : Type} {B : List α} {o : Nat} {vs : List α} (h : o + vs.length ≤ B.length) (x : Nat) : (putL B o vs)[x]? = if o ≤ x ∧ x < o + vs.length then vs[x - o]? else B[x]? := by
  unfold putL
  rw [List.append_assoc, List.getElem?_append]
  have ht : (B.take o).length = o := by rw [List.length_take]; omega
  rw [ht]
  by_cases h1 : x < o
  · rw [if_pos h1, if_neg (by omega), List.getElem?_take, if_pos h1]
  · rw [if_neg h1, List.getElem?_append]
    by_cases h2 : x - o < vs.length
    · rw [if_pos h2, if_pos (by omega)]
    · rw [if_neg h2, if_neg (by omega), List.getElem?_drop]
      congr 1
      omega
theorem putL_length {α : Type} {B : List α} {o : Nat} {vs : List α} (h : o + vs.length ≤ B.length) : (putL B o vs).length = B.length := by
  simp [putL]
  omega
theorem putL_nil {α : Type} (B : List α) (o : Nat) : putL B o [] = B := by simp [putL]
theorem putL_one {α : Type} {B : List α} {o : Nat} {v : α} (h : o < B.length) : putL B o [v] = B.set o v := by
  apply List.ext_getElem?
  intro x
  rw [putL_get (by simp; omega), List.getElem?_set]
  by_cases hx : o = x
  · subst hx
    rw [if_pos (by simp), if_pos rfl, if_pos h]
    simp
  · rw [if_neg (by simp; omega), if_neg hx]
theorem putL_snoc {α : Type} {B : List α} {o : Nat} {vs : List α} {v : α} (h : o + vs.length < B.length) : putL (putL B o vs) (o + vs.length) [v] = putL B o (vs ++ [v]) := by
  apply List.ext_getElem?
  intro x
  rw [putL_get (by rw [putL_length (by omega)]; simp; omega), putL_get (by omega), putL_get (by simp; omega)]
  simp only [List.length_cons, List.length_nil, List.length_append]
  by_cases h1 : o + vs.length ≤ x ∧ x < o + vs.length + (0 + 1)
  · rw [if_pos h1, if_pos (by omega), List.getElem?_append_right (by omega)]
    congr 1
    omega
  · rw [if_neg h1]
    by_cases h2 : o ≤ x ∧ x < o + vs.length
    · rw [if_pos h2, if_pos (by omega), List.getElem?_append_left (by omega)]
    · rw [if_neg h2, if_neg (by omega)]
theorem Seg.put {B : List Value} {o k : Nat} {l vs : List Value} (h : Seg B o l) (hk : k + vs.length ≤ l.length) (hB : o + l.length ≤ B.length) : Seg (putL B (o + k) vs) o (putL l k vs) := by
  intro j v hj
  rw [putL_get hk] at hj
  rw [putL_get (by omega)]
  by_cases h1 : k ≤ j ∧ j < k + vs.length
  · rw [if_pos h1] at hj
    rw [if_pos (by omega), show o + j - (o + k) = j - k by omega]
    exact hj
  · rw [if_neg h1] at hj
    rw [if_neg (by omega)]
    exact h j v hj
theorem Seg.other {B : List Value} {o k : Nat} {l vs : List Value} (h : Seg B o l) (hd : o + l.length ≤ k ∨ k + vs.length ≤ o) (hB : k + vs.length ≤ B.length) : Seg (putL B k vs) o l := by
  intro j v hj
  have hjl : j < l.length := (List.getElem?_eq_some_iff.1 hj).1
  rw [putL_get hB, if_neg (by omega)]
  exact h j v hj
/-! ### a row that grows, whatever else was turned -/
theorem RunsV_and {P : Program} {s : Sem Value} {w : World} {K1 K2 : Value → World → Prop} (h1 : RunsV P s w K1) (h2 : RunsV P s w K2) : RunsV P s w fun v w' => K1 v w' ∧ K2 v w' := by
  obtain ⟨v, w', hr, k1⟩ := RunsV_elim h1
  obtain ⟨v2, w2, hr2, k2⟩ := RunsV_elim h2
  rw [hr] at hr2
  cases hr2
  exact RunsV_of hr ⟨k1, k2⟩
/-- A world's first blocks. -/
def frontW (w : World) (n : Nat) : World := { w with heap := w.heap.extract 0 n }
theorem frontW_size {w : World} {n : Nat} (h : n ≤ w.heap.size) : (frontW w n).heap.size = n := by
  simp [frontW]
  omega
theorem frontW_later {w : World} {n : Nat} (h : n ≤ w.heap.size) : Later (frontW w n) w := by
  show Below (frontW w n).heap.size _ _
  rw [frontW_size h]
  refine ⟨rfl, rfl, rfl, by rw [frontW_size h]; exact h, fun k hk => ?_⟩
  simp [frontW, Array.getElem?_extract]
  omega
theorem OwnE.pushG {α : Type} {T : ElT α} {P : Program} {t e : TypeId} {bytes : Nat} (ty : TypeId) (hT : RowTy P t e T.sz bytes) {w0 w w1 : World} {b : Option Addr} {c : Nat} {l : List α} (m : α) (hown : OwnE T w0 w e b c l) (hs : w0.heap.size ≤ w.heap.size) (hb : l.length + 1 ≤ maxLen) (hby : (l.length + 1) * bytes ≤ 140737488355328)
    {cs : Array Value} (e1 : w1 = w.alloc (.cells cs e)) (hcs : cs.toList = T.enc m) {K : Value → World → Prop}
    (hK : ∀ b' c' w', OwnE T w0 w' e b' c' (l ++ [m]) → But (fun k => rowB b = some k) w w' → (∀ k, k < w.heap.size → rowB b ≠ some k → rowB b' ≠ some k) → K (.slice b' (l ++ [m]).length c') w') :
    RunsV P (Builtin.append_ #[t, t] ty #[.slice b l.length c, .slice (some ⟨w.heap.size, 0, none⟩) 1 1]) w1 K := by
  have hf := frontW_size hs
  have hown' : OwnE T (frontW w w0.heap.size) w e b c l := by
    show w.ownsRow (frontW w w0.heap.size).heap.size _ _ _ _ _
    rw [hf]
    exact hown
  have h1 := OwnE.push (K := fun v w' => ∃ b' c', v = .slice b' (l ++ [m]).length c' ∧ OwnE T w0 w' e b' c' (l ++ [m]) ∧ (∀ k, k < w.heap.size → rowB b ≠ some k → w'.heap[k]? = w.heap[k]? ∧ rowB b' ≠ some k)) ty hT m hown' (frontW_later hs) hb hby e1 hcs fun b' c' w' ho _ hk => ⟨b', c', rfl, by
      have : w'.ownsRow (frontW w w0.heap.size).heap.size e T.sz (.slice b' (l ++ [m]).length c') (l ++ [m]).length (rowC T (l ++ [m])) := ho
      rw [hf] at this
      exact this, hk⟩
  subst e1
  have hcells : CellsAt (w.alloc (.cells cs e)) ⟨w.heap.size, 0, none⟩ 0 (rowC T [m]) := by
    rw [rowC_one, ← hcs]
    exact CellsAt_new' w e (0, 0) cs
  have h2 := RunsV_append (K := fun v w' => (w.alloc (.cells cs e)).grownBy w' (rowB b)) ty hT (OwnS.alloc hown' (.cells cs e)) ((frontW_later hs).alloc _) (news := rowC T [m]) (m := 1) (c := 1) (by rw [rowC_length]; simp) hcells (rowC_all T _) hb hby fun b' bn' bc' w' _ _ hg => by rw [ownBlock_rowB] at hg; exact hg
  refine RunsV_mono ?_ (RunsV_and h1 h2)
  rintro v w' ⟨⟨b', c', rfl, ho, hk⟩, hg⟩
  refine hK b' c' w' ho ⟨hg.os, hg.tape, hg.output, Nat.le_trans (Later.size (Later.alloc' w _)) hg.size, fun k hk1 hk2 => (hk k hk1 hk2).1⟩ fun k hk1 hk2 => (hk k hk1 hk2).2
theorem OwnE.isCells {α : Type} {T : ElT α} {w0 w : World} {e : TypeId} {b : Option Addr} {c : Nat} {l : List α} (h : OwnE T w0 w e b c l) {k : Nat} (hk : rowB b = some k) {o : Obj} (ho : w.heap[k]? = some o) : o.isCells = true := by
  obtain ⟨_, h' | ⟨g, cap, cur, h2', h3', h4', h5'⟩⟩ := h
  · obtain ⟨hb', _⟩ := h'
    simp only [Value.slice.injEq] at hb'
    rw [hb'.1] at hk
    cases hk
  · simp only [Value.slice.injEq] at h2'
    rw [h2'.1] at hk
    simp only [rowB, Option.map_some, Option.some.injEq] at hk
    subst hk
    rw [ho] at h4'
    cases h4'
    rfl
theorem OwnE.but {α : Type} {T : ElT α} {w0 w w' : World} {e : TypeId} {b : Option Addr} {c : Nat} {l : List α} {S : Nat → Prop} (h : OwnE T w0 w e b c l) (hb : But S w w') (hn : ∀ k, rowB b = some k → ¬ S k) : OwnE T w0 w' e b c l :=
  OwnS.kept h fun k hk => hb.keep k (OwnS.lt h hk).2 (hn k hk)
theorem But.later {S : Nat → Prop} {w0 w w' : World} (h : But S w w') (hl : Later w0 w) (hS : ∀ k, S k → w0.heap.size ≤ k) : Later w0 w' :=
  Below.trans hl ⟨h.os, h.tape, h.output, h.size, fun k hk => h.keep k (Nat.lt_of_lt_of_le hk (Later.size hl)) fun hs => by have := hS k hs; omega⟩
theorem Trk.but {S : Nat → Prop} {w0 w w' : World} {L : List Blk} (hL : Trk w0 w L) (h : But S w w') (hS : ∀ k, S k → w0.heap.size ≤ k) (hn : ∀ x ∈ L, ¬ S x.1) : Trk w0 w' L :=
  ⟨h.later hL.1 hS, fun x hx => ⟨(hL.2.1 x hx).1, h.has (hL.2.1 x hx).2 (hn x hx)⟩, hL.2.2⟩
theorem repL_one (v : Value) : ∀ n, repL [v] n = List.replicate n v
  | 0 => rfl
  | n + 1 => by rw [repL, repL_one v n]; rfl
theorem reslice_zero (A : Option Addr) (m s : Nat) : reslice A 0 m s = A := by
  unfold reslice
  split
  · rfl
  · cases A with
    | none => rfl
    | some a => simp [addr_add_zero]
end Go.Vc

/-
Numbers in digits, as the document's answer and Go's library write them.
Conditions: the number has at most so many bits.
-/
namespace Go.Proofs.YtgchaghdhofnoaaDoor
open Go Go.Vc Go.RowKit
set_option linter.unusedVariables false
set_option linter.unusedSimpArgs false
set_option linter.unnecessarySimpa false
set_option maxRecDepth 100000

theorem own_new {w0 w w1 : World} {e : TypeId} {v : Value} (hl : Later w0 w) (h : w1 = w.alloc (.cells #[v] e)) : OwnS w0 w1 e 1 (.slice (some ⟨w.heap.size, 0, none⟩) 1 1) 1 [v] := by
  refine ⟨by simp, .inr ⟨w.heap.size, 1, #[v], rfl, hl.size, ?_, by omega, by simp [maxLen], by simp, by simp⟩⟩
  rw [h]; exact heap_alloc_new w _
def decS (n : Int) : ByteArray := ⟨(Lib.itoa n).toArray⟩
theorem decDigits_len (u : Nat) : (Lib.decDigits u).length ≤ u + 1 := by
  induction u using Nat.strongRecOn with
  | _ u ih =>
    unfold Lib.decDigits
    by_cases h : u < 10
    · rw [dif_pos h]; simp
    · rw [dif_neg h, List.length_append]
      have := ih (u / 10) (by omega)
      simp only [List.length_cons, List.length_nil]
      omega
theorem itoa_len {n : Int} {k : Nat} (h : n.natAbs ≤ k) : (Lib.itoa n).length ≤ k + 2 := by
  unfold Lib.itoa
  split
  · have := decDigits_len n.natAbs
    rw [List.length_cons]; omega
  · have := decDigits_len n.toNat
    omega
theorem decS_size (n : Int) : (decS n).size = (Lib.itoa n).length := by simp [decS, ByteArray.size]
theorem decS_small {n : Int} (h : 0 ≤ n) (h1 : n < 10) : strOf [48 + n] = decS n := by
  unfold decS Lib.itoa strOf Lib.decDigits
  rw [if_neg (by omega), dif_pos (by omega)]
  simp only [List.map_cons, List.map_nil]
  rw [show (48 + n).toNat = 48 + n.toNat by omega]
theorem decS_big {n : Int} (h : 10 ≤ n) : decS (n / 10) ++ strOf [48 + n % 10] = decS n := by
  have e : decS n = ⟨(Lib.decDigits (n.toNat / 10) ++ [UInt8.ofNat (48 + n.toNat % 10)]).toArray⟩ := by
    unfold decS Lib.itoa
    rw [if_neg (by omega), Lib.decDigits, dif_neg (by omega)]
  have e1 : decS (n / 10) = ⟨(Lib.decDigits (n.toNat / 10)).toArray⟩ := by
    unfold decS Lib.itoa
    rw [if_neg (by omega), show (n / 10).toNat = n.toNat / 10 by omega]
  rw [e, e1]
  unfold strOf
  simp only [List.map_cons, List.map_nil]
  rw [show (48 + n % 10).toNat = 48 + n.toNat % 10 by omega]
  apply ByteArray.ext
  simp
theorem decS_neg {n : Int} (h : n < 0) : ByteArray.mk #[45] ++ decS (-n) = decS n := by
  have e : decS n = ⟨(45 :: Lib.decDigits n.natAbs).toArray⟩ := by
    unfold decS Lib.itoa
    rw [if_pos h]
  have e1 : decS (-n) = ⟨(Lib.decDigits n.natAbs).toArray⟩ := by
    unfold decS Lib.itoa
    rw [if_neg (by omega), show (-n).toNat = n.natAbs by omega]
  rw [e, e1]
  apply ByteArray.ext
  simp
theorem number_nn : ∀ (k : Nat) (n : Int), 0 ≤ n → n.toNat ≤ k → n < 1099511627776 → ∀ w, Calls Tryd.prog ref03_number.N #[i64v n] w (Gives (.string (decS n)) w) := by
  intro k
  induction k using Nat.strongRecOn with
  | _ k ih =>
    intro n h0 hk h1 w
    refine ref03_number.calls ?_
    unfold ref03_number.vc
    refine cnd_false (decide_eq_false (by omega)) (cnd_of (fun hlt => ?_) fun hge => ?_)
    · have hlt := of_decide_eq_true hlt
      intro w1 e1
      rw [i64_in (by omega) (by omega), wrap_u8, show (48 + n) % 256 = 48 + n by omega] at e1
      have ho := own_new (Later.refl w) e1
      refine RunsV_own_string (ns := [48 + n]) (by kernel_rfl) (by kernel_rfl) (by kernel_rfl) ho (by omega) ⟨_, rfl, ?_, e1 ▸ Later.alloc' w _⟩
      rw [decS_small h0 hlt]
    · have hge := of_decide_eq_false hge
      have q : n.tdiv 10 = n / 10 := tdiv_nn _ h0
      have r : n.tmod 10 = n % 10 := tmod_nn _ h0
      rw [q, r]
      have hr : IntKind.u8.wrap (IntKind.i64.wrap (48 + n % 10)) = 48 + n % 10 := by
        rw [i64_in (by omega) (by omega), wrap_u8]; omega
      rw [hr, i64_in (by omega) (by omega)]
      have rec' : ∀ w, Calls Tryd.prog ref03_number.N #[i64v (n / 10)] w (Gives (.string (decS (n / 10))) w) := fun w => ih (n / 10).toNat (by omega) (n / 10) (by omega) (Nat.le_refl _) (by omega) w
      have z1 : (decS (n / 10)).size ≤ 1099511627778 := by rw [decS_size]; exact itoa_len (by omega)
      have z2 : (strOf [48 + n % 10]).size = 1 := by rw [strOf_size]; rfl
      refine ⟨Later w, fun _ h => h, fun w1 l1 => ⟨(rec' w1).mono fun e w2 ⟨he, l2⟩ => ⟨_, he, l1.trans l2, fun w3 e3 => ?_, trivial⟩, fun w2 e2 => ?_, trivial⟩⟩
      · have l3 : Later w w3 := e3 ▸ (l1.trans l2).alloc _
        refine ⟨l3, RunsV_own_string (ns := [48 + n % 10]) (by kernel_rfl) (by kernel_rfl) (by kernel_rfl) (own_new (l1.trans l2) e3) (by omega) ⟨_, rfl, l3, by omega, ?_, l3⟩, trivial⟩
        rw [decS_big (by omega)]
      · have l2 : Later w w2 := e2 ▸ l1.alloc _
        have ho := own_new l1 e2
        refine ⟨l2, (rec' w2).mono fun e w3 ⟨he, l3⟩ => ⟨_, he, l2.trans l3, RunsV_own_string (ns := [48 + n % 10]) (by kernel_rfl) (by kernel_rfl) (by kernel_rfl) (ho.later l3) (by omega) ⟨_, rfl, l2.trans l3, by omega, ?_, l2.trans l3⟩, trivial⟩,
          RunsV_own_string (ns := [48 + n % 10]) (by kernel_rfl) (by kernel_rfl) (by kernel_rfl) ho (by omega) ⟨_, rfl, l2, (rec' w2).mono fun e w3 ⟨he, l3⟩ => ⟨_, he, l2.trans l3, by omega, ?_, l2.trans l3⟩, trivial⟩, trivial⟩
        · rw [decS_big (by omega)]
        · rw [decS_big (by omega)]
theorem ref03_number_ok (n : Int) (h : -1099511627776 < n ∧ n < 1099511627776) (w : World) : Calls Tryd.prog ref03_number.N #[i64v n] w (Gives (.string (decS n)) w) := by
  by_cases h0 : 0 ≤ n
  · exact number_nn n.toNat n h0 (Nat.le_refl _) h.2 w
  · refine ref03_number.calls ?_
    unfold ref03_number.vc
    refine cnd_true (decide_eq_true (by omega)) ?_
    rw [i64_in (by omega) (by omega), show (0 : Int) - n = -n by omega]
    refine (number_nn (-n).toNat (-n) (by omega) (Nat.le_refl _) (by omega) w).mono fun e w1 ⟨he, l1⟩ => ⟨_, he, ?_, ?_, l1⟩
    · have : (decS (-n)).size ≤ 1099511627778 := by rw [decS_size]; exact itoa_len (by omega)
      omega
    · rw [decS_neg (by omega)]
theorem tab_nb : ∀ x ∈ tabL, x.2.2.2.nb < 0 ∨ x.2.2.2.nb = 0 ∨ (0 < x.2.2.2.nb ∧ x.2.2.2.nb ≤ 32) := by decide
/-- What an instruction that has a word holds. -/
theorem encv_parts {o d a b v w : Int} (h : encv o d a b v = some w) : 1 ≤ o ∧ o ≤ 34 ∧ d ≤ 31 ∧ a ≤ 31 ∧ b ≤ 31 ∧ -2147483648 ≤ v ∧ v < 2147483648 := by
  unfold encv at h
  by_cases ho : 1 ≤ o ∧ o < 35
  · obtain ⟨x, hx, hr, hm⟩ := row_of ho.1 ho.2
    rw [hr] at h
    simp only at h
    split at h
    · rename_i hmay
      obtain ⟨h1, h2, h3, _, _, _, hf⟩ := may_regs hmay
      refine ⟨ho.1, by omega, h1, h2, h3, ?_⟩
      unfold fitsF at hf
      rcases tab_nb x hm with hn | hn | hn
      · rw [if_pos hn] at hf
        simp only [Bool.and_eq_true, decide_eq_true_eq] at hf
        omega
      · rw [if_neg (by omega), if_pos hn] at hf
        have := eq_of_beq hf
        omega
      · rw [if_neg (by omega), if_neg (by omega)] at hf
        simp only [Bool.and_eq_true] at hf
        have := hf.1
        unfold fitsv at this
        have := of_decide_eq_true this
        have hp : (2 : Int) ^ (x.2.2.2.nb.toNat - 1) ≤ 2147483648 := by
          have : (2 : Nat) ^ (x.2.2.2.nb.toNat - 1) ≤ 2 ^ 31 := Nat.pow_le_pow_right (by decide) (by omega)
          have e : ((2 : Nat) ^ (x.2.2.2.nb.toNat - 1) : Int) = (2 : Int) ^ (x.2.2.2.nb.toNat - 1) := by simp
          omega
        omega
    · cases h
  · rw [row_none (by omega)] at h
    cases h
end Go.Proofs.YtgchaghdhofnoaaDoor
