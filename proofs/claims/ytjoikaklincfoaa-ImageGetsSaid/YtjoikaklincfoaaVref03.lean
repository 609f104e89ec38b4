/-
The explicit conditions of some functions of the program, printed by this repo's own program over VcTop: what is proved is that each is the condition.
Conditions: none.
-/
import Derived.Test.YtjoikaklincfoaaVcTop
import Derived.Test.YtjoikaklincfoaaProg
namespace Go.Proofs.Ytjoikaklincfoaa
open Go Go.Vc Go.RowKit
set_option linter.unusedVariables false
set_option maxRecDepth 100000

/- function 33: sacristy/sacristyref03.field -/
abbrev ref03_field.N : FuncId := 33
def ref03_field.H : Hints := {  }
def ref03_field.vc (w' : Int) (at' : Int) (n' : Int) (w : World) (R : Ending → World → Prop) : Prop :=
  cnd (decide (IntKind.u64.wrap at' < 0)) False
  (cnd (decide (IntKind.u64.wrap n' < 0)) False
  (cnd (decide (IntKind.u32.wrap (1 * 2 ^ min (IntKind.u64.wrap n').toNat 32) = 0)) False
  (R
  (Ending.returned
  (Value.int IntKind.u32
  ((w'.fdiv (2 ^ min (IntKind.u64.wrap at').toNat 32)).tmod
  (IntKind.u32.wrap (1 * 2 ^ min (IntKind.u64.wrap n').toNat 32)))))
  w)))
theorem ref03_field.vc_eq (w' : Int) (at' : Int) (n' : Int) (w : World) (R : Ending → World → Prop) : fnV Try.prog ref03_field.H 33 [Value.int IntKind.u32 w', Value.int IntKind.i64 at', Value.int IntKind.i64 n'] w R = ref03_field.vc w' at' n' w R := by kernel_rfl
theorem ref03_field.calls {w' : Int} {at' : Int} {n' : Int} {w : World} {R : Ending → World → Prop} (h : ref03_field.vc w' at' n' w R) : Calls Try.prog 33 ([Value.int IntKind.u32 w', Value.int IntKind.i64 at', Value.int IntKind.i64 n'] : List Value).toArray w R := calls_of_eq (ref03_field.vc_eq w' at' n' w R) h

/- function 34: sacristy/sacristyref03.signed -/
abbrev ref03_signed.N : FuncId := 34
def ref03_signed.H : Hints := {  }
def ref03_signed.vc (v' : Int) (bits' : Int) (w : World) (R : Ending → World → Prop) : Prop :=
  Calls Proofs.Try.prog 41 #[Value.int IntKind.u64 (IntKind.u64.wrap v'), Value.int IntKind.i64 bits'] w
  fun (e : Ending) (w' : World) =>
  ∃ (n : Int),
  ∃ (n_1 : Int),
  e = Ending.returned (Value.tuple #[Value.int IntKind.u64 n, Value.int IntKind.i64 n_1]) ∧
  R (Ending.returned (Value.int IntKind.i64 (IntKind.i64.wrap n))) w'
theorem ref03_signed.vc_eq (v' : Int) (bits' : Int) (w : World) (R : Ending → World → Prop) : fnV Try.prog ref03_signed.H 34 [Value.int IntKind.u32 v', Value.int IntKind.i64 bits'] w R = ref03_signed.vc v' bits' w R := by kernel_rfl
theorem ref03_signed.calls {v' : Int} {bits' : Int} {w : World} {R : Ending → World → Prop} (h : ref03_signed.vc v' bits' w R) : Calls Try.prog 34 ([Value.int IntKind.u32 v', Value.int IntKind.i64 bits'] : List Value).toArray w R := calls_of_eq (ref03_signed.vc_eq v' bits' w R) h

/- function 25: sacristy/sacristyref03.guess -/
abbrev ref03_guess.N : FuncId := 25
def ref03_guess.H : Hints := {  }
def ref03_guess.vc (op' : Int) (form' : Int) (w' : Int) (w : World) (R : Ending → World → Prop) : Prop :=
  ∀ (w'_1 : World),
  w'_1 =
  w.alloc
  (Obj.cells
  #[Value.int IntKind.u8 0, Value.int IntKind.u8 0, Value.int IntKind.u8 0, Value.int IntKind.u8 0,
  Value.int IntKind.i64 0]
  39) →
  ∀ (w'_2 : World),
  w'_2 =
  w'_1.alloc
  (Obj.cells
  #[Value.int IntKind.u8 0, Value.int IntKind.u8 0, Value.int IntKind.u8 0, Value.int IntKind.u8 0,
  Value.int IntKind.i64 0]
  39) →
  SetsAt w'_2 (Addr.mk w'_1.heap.size 0 none) 0
  [Value.int IntKind.u8 op', Value.int IntKind.u8 0, Value.int IntKind.u8 0, Value.int IntKind.u8 0,
  Value.int IntKind.i64 0] ∧
  ∀ (w'_3 : World),
  w'_3 =
  setCellsAt w'_2 (Addr.mk w'_1.heap.size 0 none) 0
  [Value.int IntKind.u8 op', Value.int IntKind.u8 0, Value.int IntKind.u8 0, Value.int IntKind.u8 0,
  Value.int IntKind.i64 0] →
  Calls Proofs.Try.prog 33 #[Value.int IntKind.u32 w', Value.int IntKind.i64 7, Value.int IntKind.i64 5]
  w'_3 fun (e : Ending) (w'_4 : World) =>
  ∃ (n : Int),
  e = Ending.returned (Value.int IntKind.u32 n) ∧
  Calls Proofs.Try.prog 33
  #[Value.int IntKind.u32 w', Value.int IntKind.i64 15, Value.int IntKind.i64 5] w'_4
  fun (e : Ending) (w'_5 : World) =>
  ∃ (n_1 : Int),
  e = Ending.returned (Value.int IntKind.u32 n_1) ∧
  Calls Proofs.Try.prog 33
  #[Value.int IntKind.u32 w', Value.int IntKind.i64 20, Value.int IntKind.i64 5] w'_5
  fun (e : Ending) (w'_6 : World) =>
  ∃ (n_2 : Int),
  e = Ending.returned (Value.int IntKind.u32 n_2) ∧
  cnd (form' == 1)
  (((w'_6.cell? (Addr.mk w'_1.heap.size 1 none)).isSome = true ∧
  w'_6.frozen? (Addr.mk w'_1.heap.size 1 none) = false) ∧
  ∀ (w' : World),
  w' =
  w'_6.setCell (Addr.mk w'_1.heap.size 1 none)
  (Value.int IntKind.u8 (IntKind.u8.wrap n)) →
  ((w'.cell? (Addr.mk w'_1.heap.size 2 none)).isSome = true ∧
  w'.frozen? (Addr.mk w'_1.heap.size 2 none) = false) ∧
  ∀ (w'_7 : World),
  w'_7 =
  w'.setCell (Addr.mk w'_1.heap.size 2 none)
  (Value.int IntKind.u8 (IntKind.u8.wrap n_1)) →
  ((w'_7.cell? (Addr.mk w'_1.heap.size 3 none)).isSome = true ∧
  w'_7.frozen? (Addr.mk w'_1.heap.size 3 none) = false) ∧
  ∀ (w' : World),
  w' =
  w'_7.setCell (Addr.mk w'_1.heap.size 3 none)
  (Value.int IntKind.u8 (IntKind.u8.wrap n_2)) →
  ∃ (n : Int),
  ∃ (n_3 : Int),
  ∃ (n_4 : Int),
  ∃ (n_5 : Int),
  ∃ (n_6 : Int),
  (w'.cell? (Addr.mk w'_1.heap.size 0 none) =
  some (Value.int IntKind.u8 n) ∧
  w'.cell? (Addr.mk w'_1.heap.size 1 none) =
  some (Value.int IntKind.u8 n_3) ∧
  w'.cell? (Addr.mk w'_1.heap.size 2 none) =
  some (Value.int IntKind.u8 n_4) ∧
  w'.cell? (Addr.mk w'_1.heap.size 3 none) =
  some (Value.int IntKind.u8 n_5) ∧
  w'.cell? (Addr.mk w'_1.heap.size 4 none) =
  some (Value.int IntKind.i64 n_6) ∧
  True) ∧
  SetsAt w' (Addr.mk w.heap.size 0 none) 0
  [Value.int IntKind.u8 n, Value.int IntKind.u8 n_3,
  Value.int IntKind.u8 n_4,
  Value.int IntKind.u8 n_5,
  Value.int IntKind.i64 n_6] ∧
  ∀ (w'_8 : World),
  w'_8 =
  setCellsAt w' (Addr.mk w.heap.size 0 none) 0
  [Value.int IntKind.u8 n,
  Value.int IntKind.u8 n_3,
  Value.int IntKind.u8 n_4,
  Value.int IntKind.u8 n_5,
  Value.int IntKind.i64 n_6] →
  ∃ (n : Int),
  ∃ (n_7 : Int),
  ∃ (n_8 : Int),
  ∃ (n_9 : Int),
  ∃ (n_10 : Int),
  (w'_8.cell?
  (Addr.mk w.heap.size 0 none) =
  some (Value.int IntKind.u8 n) ∧
  w'_8.cell?
  (Addr.mk w.heap.size 1 none) =
  some
  (Value.int IntKind.u8 n_7) ∧
  w'_8.cell?
  (Addr.mk w.heap.size 2
  none) =
  some
  (Value.int IntKind.u8 n_8) ∧
  w'_8.cell?
  (Addr.mk w.heap.size 3
  none) =
  some
  (Value.int IntKind.u8
  n_9) ∧
  w'_8.cell?
  (Addr.mk w.heap.size 4
  none) =
  some
  (Value.int IntKind.i64
  n_10) ∧
  True) ∧
  R
  (Ending.returned
  (Value.agg
  #[Value.int IntKind.u8 n,
  Value.int IntKind.u8 n_7,
  Value.int IntKind.u8 n_8,
  Value.int IntKind.u8 n_9,
  Value.int IntKind.i64 n_10]))
  w'_8)
  (cnd (form' == 2)
  (Calls Proofs.Try.prog 33
  #[Value.int IntKind.u32 w', Value.int IntKind.i64 20, Value.int IntKind.i64 12]
  w'_6 fun (e : Ending) (w' : World) =>
  ∃ (n_3 : Int),
  e = Ending.returned (Value.int IntKind.u32 n_3) ∧
  Calls Proofs.Try.prog 34
  #[Value.int IntKind.u32 n_3, Value.int IntKind.i64 12] w'
  fun (e : Ending) (w' : World) =>
  ∃ (n_4 : Int),
  e = Ending.returned (Value.int IntKind.i64 n_4) ∧
  ((w'.cell? (Addr.mk w'_1.heap.size 1 none)).isSome = true ∧
  w'.frozen? (Addr.mk w'_1.heap.size 1 none) = false) ∧
  ∀ (w'_7 : World),
  w'_7 =
  w'.setCell (Addr.mk w'_1.heap.size 1 none)
  (Value.int IntKind.u8 (IntKind.u8.wrap n)) →
  ((w'_7.cell? (Addr.mk w'_1.heap.size 2 none)).isSome = true ∧
  w'_7.frozen? (Addr.mk w'_1.heap.size 2 none) = false) ∧
  ∀ (w' : World),
  w' =
  w'_7.setCell (Addr.mk w'_1.heap.size 2 none)
  (Value.int IntKind.u8 (IntKind.u8.wrap n_1)) →
  ((w'.cell? (Addr.mk w'_1.heap.size 4 none)).isSome = true ∧
  w'.frozen? (Addr.mk w'_1.heap.size 4 none) = false) ∧
  ∀ (w'_8 : World),
  w'_8 =
  w'.setCell (Addr.mk w'_1.heap.size 4 none)
  (Value.int IntKind.i64 n_4) →
  ∃ (n : Int),
  ∃ (n_5 : Int),
  ∃ (n_6 : Int),
  ∃ (n_7 : Int),
  ∃ (n_8 : Int),
  (w'_8.cell?
  (Addr.mk w'_1.heap.size 0 none) =
  some (Value.int IntKind.u8 n) ∧
  w'_8.cell?
  (Addr.mk w'_1.heap.size 1 none) =
  some (Value.int IntKind.u8 n_5) ∧
  w'_8.cell?
  (Addr.mk w'_1.heap.size 2
  none) =
  some (Value.int IntKind.u8 n_6) ∧
  w'_8.cell?
  (Addr.mk w'_1.heap.size 3
  none) =
  some
  (Value.int IntKind.u8 n_7) ∧
  w'_8.cell?
  (Addr.mk w'_1.heap.size 4
  none) =
  some
  (Value.int IntKind.i64
  n_8) ∧
  True) ∧
  SetsAt w'_8 (Addr.mk w.heap.size 0 none) 0
  [Value.int IntKind.u8 n,
  Value.int IntKind.u8 n_5,
  Value.int IntKind.u8 n_6,
  Value.int IntKind.u8 n_7,
  Value.int IntKind.i64 n_8] ∧
  ∀ (w' : World),
  w' =
  setCellsAt w'_8
  (Addr.mk w.heap.size 0 none) 0
  [Value.int IntKind.u8 n,
  Value.int IntKind.u8 n_5,
  Value.int IntKind.u8 n_6,
  Value.int IntKind.u8 n_7,
  Value.int IntKind.i64 n_8] →
  ∃ (n : Int),
  ∃ (n_9 : Int),
  ∃ (n_10 : Int),
  ∃ (n_11 : Int),
  ∃ (n_12 : Int),
  (w'.cell?
  (Addr.mk
  w.heap.size 0
  none) =
  some
  (Value.int
  IntKind.u8 n) ∧
  w'.cell?
  (Addr.mk
  w.heap.size 1
  none) =
  some
  (Value.int
  IntKind.u8
  n_9) ∧
  w'.cell?
  (Addr.mk
  w.heap.size
  2 none) =
  some
  (Value.int
  IntKind.u8
  n_10) ∧
  w'.cell?
  (Addr.mk
  w.heap.size
  3 none) =
  some
  (Value.int
  IntKind.u8
  n_11) ∧
  w'.cell?
  (Addr.mk
  w.heap.size
  4
  none) =
  some
  (Value.int
  IntKind.i64
  n_12) ∧
  True) ∧
  R
  (Ending.returned
  (Value.agg
  #[Value.int
  IntKind.u8 n,
  Value.int
  IntKind.u8
  n_9,
  Value.int
  IntKind.u8
  n_10,
  Value.int
  IntKind.u8
  n_11,
  Value.int
  IntKind.i64
  n_12]))
  w')
  (cnd (form' == 3)
  (Calls Proofs.Try.prog 33
  #[Value.int IntKind.u32 w', Value.int IntKind.i64 20, Value.int IntKind.i64 6]
  w'_6 fun (e : Ending) (w' : World) =>
  ∃ (n_3 : Int),
  e = Ending.returned (Value.int IntKind.u32 n_3) ∧
  ((w'.cell? (Addr.mk w'_1.heap.size 1 none)).isSome = true ∧
  w'.frozen? (Addr.mk w'_1.heap.size 1 none) = false) ∧
  ∀ (w'_7 : World),
  w'_7 =
  w'.setCell (Addr.mk w'_1.heap.size 1 none)
  (Value.int IntKind.u8 (IntKind.u8.wrap n)) →
  ((w'_7.cell? (Addr.mk w'_1.heap.size 2 none)).isSome = true ∧
  w'_7.frozen? (Addr.mk w'_1.heap.size 2 none) = false) ∧
  ∀ (w' : World),
  w' =
  w'_7.setCell (Addr.mk w'_1.heap.size 2 none)
  (Value.int IntKind.u8 (IntKind.u8.wrap n_1)) →
  ((w'.cell? (Addr.mk w'_1.heap.size 4 none)).isSome = true ∧
  w'.frozen? (Addr.mk w'_1.heap.size 4 none) = false) ∧
  ∀ (w'_8 : World),
  w'_8 =
  w'.setCell (Addr.mk w'_1.heap.size 4 none)
  (Value.int IntKind.i64 (IntKind.i64.wrap n_3)) →
  ∃ (n : Int),
  ∃ (n_4 : Int),
  ∃ (n_5 : Int),
  ∃ (n_6 : Int),
  ∃ (n_7 : Int),
  (w'_8.cell? (Addr.mk w'_1.heap.size 0 none) =
  some (Value.int IntKind.u8 n) ∧
  w'_8.cell? (Addr.mk w'_1.heap.size 1 none) =
  some (Value.int IntKind.u8 n_4) ∧
  w'_8.cell?
  (Addr.mk w'_1.heap.size 2 none) =
  some (Value.int IntKind.u8 n_5) ∧
  w'_8.cell?
  (Addr.mk w'_1.heap.size 3 none) =
  some (Value.int IntKind.u8 n_6) ∧
  w'_8.cell?
  (Addr.mk w'_1.heap.size 4
  none) =
  some (Value.int IntKind.i64 n_7) ∧
  True) ∧
  SetsAt w'_8 (Addr.mk w.heap.size 0 none) 0
  [Value.int IntKind.u8 n,
  Value.int IntKind.u8 n_4,
  Value.int IntKind.u8 n_5,
  Value.int IntKind.u8 n_6,
  Value.int IntKind.i64 n_7] ∧
  ∀ (w' : World),
  w' =
  setCellsAt w'_8
  (Addr.mk w.heap.size 0 none) 0
  [Value.int IntKind.u8 n,
  Value.int IntKind.u8 n_4,
  Value.int IntKind.u8 n_5,
  Value.int IntKind.u8 n_6,
  Value.int IntKind.i64 n_7] →
  ∃ (n : Int),
  ∃ (n_8 : Int),
  ∃ (n_9 : Int),
  ∃ (n_10 : Int),
  ∃ (n_11 : Int),
  (w'.cell?
  (Addr.mk w.heap.size 0
  none) =
  some
  (Value.int IntKind.u8
  n) ∧
  w'.cell?
  (Addr.mk w.heap.size
  1 none) =
  some
  (Value.int
  IntKind.u8 n_8) ∧
  w'.cell?
  (Addr.mk
  w.heap.size 2
  none) =
  some
  (Value.int
  IntKind.u8
  n_9) ∧
  w'.cell?
  (Addr.mk
  w.heap.size 3
  none) =
  some
  (Value.int
  IntKind.u8
  n_10) ∧
  w'.cell?
  (Addr.mk
  w.heap.size
  4 none) =
  some
  (Value.int
  IntKind.i64
  n_11) ∧
  True) ∧
  R
  (Ending.returned
  (Value.agg
  #[Value.int IntKind.u8
  n,
  Value.int IntKind.u8
  n_8,
  Value.int IntKind.u8
  n_9,
  Value.int IntKind.u8
  n_10,
  Value.int
  IntKind.i64
  n_11]))
  w')
  (cnd (form' == 4)
  (Calls Proofs.Try.prog 33
  #[Value.int IntKind.u32 w', Value.int IntKind.i64 12,
  Value.int IntKind.i64 20]
  w'_6 fun (e : Ending) (w' : World) =>
  ∃ (n_3 : Int),
  e = Ending.returned (Value.int IntKind.u32 n_3) ∧
  Calls Proofs.Try.prog 34
  #[Value.int IntKind.u32 (IntKind.u32.wrap (n_3 * 4096)),
  Value.int IntKind.i64 32]
  w' fun (e : Ending) (w' : World) =>
  ∃ (n_4 : Int),
  e = Ending.returned (Value.int IntKind.i64 n_4) ∧
  ((w'.cell? (Addr.mk w'_1.heap.size 1 none)).isSome = true ∧
  w'.frozen? (Addr.mk w'_1.heap.size 1 none) = false) ∧
  ∀ (w'_7 : World),
  w'_7 =
  w'.setCell (Addr.mk w'_1.heap.size 1 none)
  (Value.int IntKind.u8 (IntKind.u8.wrap n)) →
  ((w'_7.cell? (Addr.mk w'_1.heap.size 4 none)).isSome = true ∧
  w'_7.frozen? (Addr.mk w'_1.heap.size 4 none) = false) ∧
  ∀ (w' : World),
  w' =
  w'_7.setCell (Addr.mk w'_1.heap.size 4 none)
  (Value.int IntKind.i64 n_4) →
  ∃ (n : Int),
  ∃ (n_5 : Int),
  ∃ (n_6 : Int),
  ∃ (n_7 : Int),
  ∃ (n_8 : Int),
  (w'.cell? (Addr.mk w'_1.heap.size 0 none) =
  some (Value.int IntKind.u8 n) ∧
  w'.cell? (Addr.mk w'_1.heap.size 1 none) =
  some (Value.int IntKind.u8 n_5) ∧
  w'.cell?
  (Addr.mk w'_1.heap.size 2 none) =
  some (Value.int IntKind.u8 n_6) ∧
  w'.cell?
  (Addr.mk w'_1.heap.size 3
  none) =
  some (Value.int IntKind.u8 n_7) ∧
  w'.cell?
  (Addr.mk w'_1.heap.size 4
  none) =
  some
  (Value.int IntKind.i64 n_8) ∧
  True) ∧
  SetsAt w' (Addr.mk w.heap.size 0 none) 0
  [Value.int IntKind.u8 n,
  Value.int IntKind.u8 n_5,
  Value.int IntKind.u8 n_6,
  Value.int IntKind.u8 n_7,
  Value.int IntKind.i64 n_8] ∧
  ∀ (w'_8 : World),
  w'_8 =
  setCellsAt w'
  (Addr.mk w.heap.size 0 none) 0
  [Value.int IntKind.u8 n,
  Value.int IntKind.u8 n_5,
  Value.int IntKind.u8 n_6,
  Value.int IntKind.u8 n_7,
  Value.int IntKind.i64 n_8] →
  ∃ (n : Int),
  ∃ (n_9 : Int),
  ∃ (n_10 : Int),
  ∃ (n_11 : Int),
  ∃ (n_12 : Int),
  (w'_8.cell?
  (Addr.mk w.heap.size
  0 none) =
  some
  (Value.int
  IntKind.u8 n) ∧
  w'_8.cell?
  (Addr.mk
  w.heap.size 1
  none) =
  some
  (Value.int
  IntKind.u8
  n_9) ∧
  w'_8.cell?
  (Addr.mk
  w.heap.size 2
  none) =
  some
  (Value.int
  IntKind.u8
  n_10) ∧
  w'_8.cell?
  (Addr.mk
  w.heap.size
  3 none) =
  some
  (Value.int
  IntKind.u8
  n_11) ∧
  w'_8.cell?
  (Addr.mk
  w.heap.size
  4 none) =
  some
  (Value.int
  IntKind.i64
  n_12) ∧
  True) ∧
  R
  (Ending.returned
  (Value.agg
  #[Value.int
  IntKind.u8 n,
  Value.int
  IntKind.u8 n_9,
  Value.int
  IntKind.u8 n_10,
  Value.int
  IntKind.u8 n_11,
  Value.int
  IntKind.i64
  n_12]))
  w'_8)
  (cnd (form' == 5)
  (Calls Proofs.Try.prog 33
  #[Value.int IntKind.u32 w', Value.int IntKind.i64 7,
  Value.int IntKind.i64 5]
  w'_6 fun (e : Ending) (w'_7 : World) =>
  ∃ (n : Int),
  e = Ending.returned (Value.int IntKind.u32 n) ∧
  Calls Proofs.Try.prog 33
  #[Value.int IntKind.u32 w', Value.int IntKind.i64 25,
  Value.int IntKind.i64 7]
  w'_7 fun (e : Ending) (w' : World) =>
  ∃ (n_3 : Int),
  e = Ending.returned (Value.int IntKind.u32 n_3) ∧
  Calls Proofs.Try.prog 34
  #[Value.int IntKind.u32
  (IntKind.u32.wrap (n + IntKind.u32.wrap (n_3 * 32))),
  Value.int IntKind.i64 12]
  w' fun (e : Ending) (w' : World) =>
  ∃ (n : Int),
  e = Ending.returned (Value.int IntKind.i64 n) ∧
  ((w'.cell? (Addr.mk w'_1.heap.size 2 none)).isSome = true ∧
  w'.frozen? (Addr.mk w'_1.heap.size 2 none) = false) ∧
  ∀ (w'_8 : World),
  w'_8 =
  w'.setCell (Addr.mk w'_1.heap.size 2 none)
  (Value.int IntKind.u8 (IntKind.u8.wrap n_1)) →
  ((w'_8.cell? (Addr.mk w'_1.heap.size 3 none)).isSome =
  true ∧
  w'_8.frozen? (Addr.mk w'_1.heap.size 3 none) =
  false) ∧
  ∀ (w' : World),
  w' =
  w'_8.setCell (Addr.mk w'_1.heap.size 3 none)
  (Value.int IntKind.u8
  (IntKind.u8.wrap n_2)) →
  ((w'.cell?
  (Addr.mk w'_1.heap.size 4
  none)).isSome =
  true ∧
  w'.frozen? (Addr.mk w'_1.heap.size 4 none) =
  false) ∧
  ∀ (w'_9 : World),
  w'_9 =
  w'.setCell
  (Addr.mk w'_1.heap.size 4 none)
  (Value.int IntKind.i64 n) →
  ∃ (n : Int),
  ∃ (n_4 : Int),
  ∃ (n_5 : Int),
  ∃ (n_6 : Int),
  ∃ (n_7 : Int),
  (w'_9.cell?
  (Addr.mk w'_1.heap.size
  0 none) =
  some
  (Value.int IntKind.u8
  n) ∧
  w'_9.cell?
  (Addr.mk
  w'_1.heap.size 1
  none) =
  some
  (Value.int IntKind.u8
  n_4) ∧
  w'_9.cell?
  (Addr.mk
  w'_1.heap.size 2
  none) =
  some
  (Value.int
  IntKind.u8 n_5) ∧
  w'_9.cell?
  (Addr.mk
  w'_1.heap.size 3
  none) =
  some
  (Value.int
  IntKind.u8
  n_6) ∧
  w'_9.cell?
  (Addr.mk
  w'_1.heap.size
  4 none) =
  some
  (Value.int
  IntKind.i64
  n_7) ∧
  True) ∧
  SetsAt w'_9
  (Addr.mk w.heap.size 0
  none)
  0
  [Value.int IntKind.u8 n,
  Value.int IntKind.u8
  n_4,
  Value.int IntKind.u8
  n_5,
  Value.int IntKind.u8
  n_6,
  Value.int IntKind.i64
  n_7] ∧
  ∀ (w' : World),
  w' =
  setCellsAt w'_9
  (Addr.mk w.heap.size
  0 none)
  0
  [Value.int
  IntKind.u8 n,
  Value.int
  IntKind.u8 n_4,
  Value.int
  IntKind.u8 n_5,
  Value.int
  IntKind.u8 n_6,
  Value.int
  IntKind.i64
  n_7] →
  ∃ (n : Int),
  ∃ (n_8 : Int),
  ∃ (n_9 : Int),
  ∃ (n_10 : Int),
  ∃ (n_11 : Int),
  (w'.cell?
  (Addr.mk
  w.heap.size
  0
  none) =
  some
  (Value.int
  IntKind.u8
  n) ∧
  w'.cell?
  (Addr.mk
  w.heap.size
  1
  none) =
  some
  (Value.int
  IntKind.u8
  n_8) ∧
  w'.cell?
  (Addr.mk
  w.heap.size
  2
  none) =
  some
  (Value.int
  IntKind.u8
  n_9) ∧
  w'.cell?
  (Addr.mk
  w.heap.size
  3
  none) =
  some
  (Value.int
  IntKind.u8
  n_10) ∧
  w'.cell?
  (Addr.mk
  w.heap.size
  4
  none) =
  some
  (Value.int
  IntKind.i64
  n_11) ∧
  True) ∧
  R
  (Ending.returned
  (Value.agg
  #[Value.int
  IntKind.u8
  n,
  Value.int
  IntKind.u8
  n_8,
  Value.int
  IntKind.u8
  n_9,
  Value.int
  IntKind.u8
  n_10,
  Value.int
  IntKind.i64
  n_11]))
  w')
  (cnd (form' == 6)
  (Calls Proofs.Try.prog 33
  #[Value.int IntKind.u32 w', Value.int IntKind.i64 8,
  Value.int IntKind.i64 4]
  w'_6 fun (e : Ending) (w'_7 : World) =>
  ∃ (n : Int),
  e = Ending.returned (Value.int IntKind.u32 n) ∧
  Calls Proofs.Try.prog 33
  #[Value.int IntKind.u32 w', Value.int IntKind.i64 25,
  Value.int IntKind.i64 6]
  w'_7 fun (e : Ending) (w'_8 : World) =>
  ∃ (n_3 : Int),
  e = Ending.returned (Value.int IntKind.u32 n_3) ∧
  Calls Proofs.Try.prog 33
  #[Value.int IntKind.u32 w', Value.int IntKind.i64 7,
  Value.int IntKind.i64 1]
  w'_8 fun (e : Ending) (w'_9 : World) =>
  ∃ (n_4 : Int),
  e = Ending.returned (Value.int IntKind.u32 n_4) ∧
  Calls Proofs.Try.prog 33
  #[Value.int IntKind.u32 w', Value.int IntKind.i64 31,
  Value.int IntKind.i64 1]
  w'_9 fun (e : Ending) (w' : World) =>
  ∃ (n_5 : Int),
  e = Ending.returned (Value.int IntKind.u32 n_5) ∧
  Calls Proofs.Try.prog 34
  #[Value.int IntKind.u32
  (IntKind.u32.wrap
  (IntKind.u32.wrap
  (IntKind.u32.wrap
  (IntKind.u32.wrap (n * 2) +
  IntKind.u32.wrap (n_3 * 32)) +
  IntKind.u32.wrap (n_4 * 2048)) +
  IntKind.u32.wrap (n_5 * 4096))),
  Value.int IntKind.i64 13]
  w' fun (e : Ending) (w' : World) =>
  ∃ (n : Int),
  e = Ending.returned (Value.int IntKind.i64 n) ∧
  ((w'.cell?
  (Addr.mk w'_1.heap.size 2
  none)).isSome =
  true ∧
  w'.frozen?
  (Addr.mk w'_1.heap.size 2 none) =
  false) ∧
  ∀ (w'_10 : World),
  w'_10 =
  w'.setCell
  (Addr.mk w'_1.heap.size 2 none)
  (Value.int IntKind.u8
  (IntKind.u8.wrap n_1)) →
  ((w'_10.cell?
  (Addr.mk w'_1.heap.size 3
  none)).isSome =
  true ∧
  w'_10.frozen?
  (Addr.mk w'_1.heap.size 3
  none) =
  false) ∧
  ∀ (w' : World),
  w' =
  w'_10.setCell
  (Addr.mk w'_1.heap.size 3
  none)
  (Value.int IntKind.u8
  (IntKind.u8.wrap n_2)) →
  ((w'.cell?
  (Addr.mk w'_1.heap.size
  4 none)).isSome =
  true ∧
  w'.frozen?
  (Addr.mk w'_1.heap.size 4
  none) =
  false) ∧
  ∀ (w'_11 : World),
  w'_11 =
  w'.setCell
  (Addr.mk w'_1.heap.size
  4 none)
  (Value.int IntKind.i64
  n) →
  ∃ (n : Int),
  ∃ (n_6 : Int),
  ∃ (n_7 : Int),
  ∃ (n_8 : Int),
  ∃ (n_9 : Int),
  (w'_11.cell?
  (Addr.mk
  w'_1.heap.size
  0
  none) =
  some
  (Value.int
  IntKind.u8
  n) ∧
  w'_11.cell?
  (Addr.mk
  w'_1.heap.size
  1
  none) =
  some
  (Value.int
  IntKind.u8
  n_6) ∧
  w'_11.cell?
  (Addr.mk
  w'_1.heap.size
  2
  none) =
  some
  (Value.int
  IntKind.u8
  n_7) ∧
  w'_11.cell?
  (Addr.mk
  w'_1.heap.size
  3
  none) =
  some
  (Value.int
  IntKind.u8
  n_8) ∧
  w'_11.cell?
  (Addr.mk
  w'_1.heap.size
  4
  none) =
  some
  (Value.int
  IntKind.i64
  n_9) ∧
  True) ∧
  SetsAt w'_11
  (Addr.mk
  w.heap.size
  0 none)
  0
  [Value.int
  IntKind.u8
  n,
  Value.int
  IntKind.u8
  n_6,
  Value.int
  IntKind.u8
  n_7,
  Value.int
  IntKind.u8
  n_8,
  Value.int
  IntKind.i64
  n_9] ∧
  ∀
  (w' :
  World),
  w' =
  setCellsAt
  w'_11
  (Addr.mk
  w.heap.size
  0
  none)
  0
  [Value.int
  IntKind.u8
  n,
  Value.int
  IntKind.u8
  n_6,
  Value.int
  IntKind.u8
  n_7,
  Value.int
  IntKind.u8
  n_8,
  Value.int
  IntKind.i64
  n_9] →
  ∃ (n :
  Int),
  ∃ (n_10
  :
  Int),
  ∃
  (n_11
  :
  Int),
  ∃
  (n_12
  :
  Int),
  ∃
  (n_13
  :
  Int),
  (w'.cell?
  (Addr.mk
  w.heap.size
  0
  none) =
  some
  (Value.int
  IntKind.u8
  n) ∧
  w'.cell?
  (Addr.mk
  w.heap.size
  1
  none) =
  some
  (Value.int
  IntKind.u8
  n_10) ∧
  w'.cell?
  (Addr.mk
  w.heap.size
  2
  none) =
  some
  (Value.int
  IntKind.u8
  n_11) ∧
  w'.cell?
  (Addr.mk
  w.heap.size
  3
  none) =
  some
  (Value.int
  IntKind.u8
  n_12) ∧
  w'.cell?
  (Addr.mk
  w.heap.size
  4
  none) =
  some
  (Value.int
  IntKind.i64
  n_13) ∧
  True) ∧
  R
  (Ending.returned
  (Value.agg
  #[Value.int
  IntKind.u8
  n,
  Value.int
  IntKind.u8
  n_10,
  Value.int
  IntKind.u8
  n_11,
  Value.int
  IntKind.u8
  n_12,
  Value.int
  IntKind.i64
  n_13]))
  w')
  (cnd (form' == 7)
  (Calls Proofs.Try.prog 33
  #[Value.int IntKind.u32 w', Value.int IntKind.i64 21,
  Value.int IntKind.i64 10]
  w'_6 fun (e : Ending) (w'_7 : World) =>
  ∃ (n_3 : Int),
  e = Ending.returned (Value.int IntKind.u32 n_3) ∧
  Calls Proofs.Try.prog 33
  #[Value.int IntKind.u32 w', Value.int IntKind.i64 20,
  Value.int IntKind.i64 1]
  w'_7 fun (e : Ending) (w'_8 : World) =>
  ∃ (n_4 : Int),
  e = Ending.returned (Value.int IntKind.u32 n_4) ∧
  Calls Proofs.Try.prog 33
  #[Value.int IntKind.u32 w', Value.int IntKind.i64 12,
  Value.int IntKind.i64 8]
  w'_8 fun (e : Ending) (w'_9 : World) =>
  ∃ (n_5 : Int),
  e = Ending.returned (Value.int IntKind.u32 n_5) ∧
  Calls Proofs.Try.prog 33
  #[Value.int IntKind.u32 w', Value.int IntKind.i64 31,
  Value.int IntKind.i64 1]
  w'_9 fun (e : Ending) (w' : World) =>
  ∃ (n_6 : Int),
  e = Ending.returned (Value.int IntKind.u32 n_6) ∧
  Calls Proofs.Try.prog 34
  #[Value.int IntKind.u32
  (IntKind.u32.wrap
  (IntKind.u32.wrap
  (IntKind.u32.wrap
  (IntKind.u32.wrap (n_3 * 2) +
  IntKind.u32.wrap (n_4 * 2048)) +
  IntKind.u32.wrap (n_5 * 4096)) +
  IntKind.u32.wrap (n_6 * 1048576))),
  Value.int IntKind.i64 21]
  w' fun (e : Ending) (w' : World) =>
  ∃ (n_7 : Int),
  e =
  Ending.returned
  (Value.int IntKind.i64 n_7) ∧
  ((w'.cell?
  (Addr.mk w'_1.heap.size 1
  none)).isSome =
  true ∧
  w'.frozen?
  (Addr.mk w'_1.heap.size 1 none) =
  false) ∧
  ∀ (w'_10 : World),
  w'_10 =
  w'.setCell
  (Addr.mk w'_1.heap.size 1 none)
  (Value.int IntKind.u8
  (IntKind.u8.wrap n)) →
  ((w'_10.cell?
  (Addr.mk w'_1.heap.size 4
  none)).isSome =
  true ∧
  w'_10.frozen?
  (Addr.mk w'_1.heap.size 4
  none) =
  false) ∧
  ∀ (w' : World),
  w' =
  w'_10.setCell
  (Addr.mk w'_1.heap.size 4
  none)
  (Value.int IntKind.i64
  n_7) →
  ∃ (n : Int),
  ∃ (n_8 : Int),
  ∃ (n_9 : Int),
  ∃ (n_10 : Int),
  ∃ (n_11 : Int),
  (w'.cell?
  (Addr.mk
  w'_1.heap.size
  0 none) =
  some
  (Value.int
  IntKind.u8
  n) ∧
  w'.cell?
  (Addr.mk
  w'_1.heap.size
  1 none) =
  some
  (Value.int
  IntKind.u8
  n_8) ∧
  w'.cell?
  (Addr.mk
  w'_1.heap.size
  2
  none) =
  some
  (Value.int
  IntKind.u8
  n_9) ∧
  w'.cell?
  (Addr.mk
  w'_1.heap.size
  3
  none) =
  some
  (Value.int
  IntKind.u8
  n_10) ∧
  w'.cell?
  (Addr.mk
  w'_1.heap.size
  4
  none) =
  some
  (Value.int
  IntKind.i64
  n_11) ∧
  True) ∧
  SetsAt w'
  (Addr.mk
  w.heap.size 0
  none)
  0
  [Value.int
  IntKind.u8
  n,
  Value.int
  IntKind.u8
  n_8,
  Value.int
  IntKind.u8
  n_9,
  Value.int
  IntKind.u8
  n_10,
  Value.int
  IntKind.i64
  n_11] ∧
  ∀ (w'_11 : World),
  w'_11 =
  setCellsAt
  w'
  (Addr.mk
  w.heap.size
  0 none)
  0
  [Value.int
  IntKind.u8
  n,
  Value.int
  IntKind.u8
  n_8,
  Value.int
  IntKind.u8
  n_9,
  Value.int
  IntKind.u8
  n_10,
  Value.int
  IntKind.i64
  n_11] →
  ∃ (n : Int),
  ∃ (n_12 :
  Int),
  ∃ (n_13 :
  Int),
  ∃ (n_14
  :
  Int),
  ∃
  (n_15
  :
  Int),
  (w'_11.cell?
  (Addr.mk
  w.heap.size
  0
  none) =
  some
  (Value.int
  IntKind.u8
  n) ∧
  w'_11.cell?
  (Addr.mk
  w.heap.size
  1
  none) =
  some
  (Value.int
  IntKind.u8
  n_12) ∧
  w'_11.cell?
  (Addr.mk
  w.heap.size
  2
  none) =
  some
  (Value.int
  IntKind.u8
  n_13) ∧
  w'_11.cell?
  (Addr.mk
  w.heap.size
  3
  none) =
  some
  (Value.int
  IntKind.u8
  n_14) ∧
  w'_11.cell?
  (Addr.mk
  w.heap.size
  4
  none) =
  some
  (Value.int
  IntKind.i64
  n_15) ∧
  True) ∧
  R
  (Ending.returned
  (Value.agg
  #[Value.int
  IntKind.u8
  n,
  Value.int
  IntKind.u8
  n_12,
  Value.int
  IntKind.u8
  n_13,
  Value.int
  IntKind.u8
  n_14,
  Value.int
  IntKind.i64
  n_15]))
  w'_11)
  (∃ (n : Int),
  ∃ (n_3 : Int),
  ∃ (n_4 : Int),
  ∃ (n_5 : Int),
  ∃ (n_6 : Int),
  (w'_6.cell? (Addr.mk w'_1.heap.size 0 none) =
  some (Value.int IntKind.u8 n) ∧
  w'_6.cell? (Addr.mk w'_1.heap.size 1 none) =
  some (Value.int IntKind.u8 n_3) ∧
  w'_6.cell? (Addr.mk w'_1.heap.size 2 none) =
  some (Value.int IntKind.u8 n_4) ∧
  w'_6.cell? (Addr.mk w'_1.heap.size 3 none) =
  some (Value.int IntKind.u8 n_5) ∧
  w'_6.cell? (Addr.mk w'_1.heap.size 4 none) =
  some (Value.int IntKind.i64 n_6) ∧
  True) ∧
  SetsAt w'_6 (Addr.mk w.heap.size 0 none) 0
  [Value.int IntKind.u8 n, Value.int IntKind.u8 n_3,
  Value.int IntKind.u8 n_4, Value.int IntKind.u8 n_5,
  Value.int IntKind.i64 n_6] ∧
  ∀ (w' : World),
  w' =
  setCellsAt w'_6 (Addr.mk w.heap.size 0 none) 0
  [Value.int IntKind.u8 n, Value.int IntKind.u8 n_3,
  Value.int IntKind.u8 n_4,
  Value.int IntKind.u8 n_5,
  Value.int IntKind.i64 n_6] →
  ∃ (n : Int),
  ∃ (n_7 : Int),
  ∃ (n_8 : Int),
  ∃ (n_9 : Int),
  ∃ (n_10 : Int),
  (w'.cell? (Addr.mk w.heap.size 0 none) =
  some (Value.int IntKind.u8 n) ∧
  w'.cell? (Addr.mk w.heap.size 1 none) =
  some (Value.int IntKind.u8 n_7) ∧
  w'.cell? (Addr.mk w.heap.size 2 none) =
  some (Value.int IntKind.u8 n_8) ∧
  w'.cell?
  (Addr.mk w.heap.size 3 none) =
  some (Value.int IntKind.u8 n_9) ∧
  w'.cell?
  (Addr.mk w.heap.size 4 none) =
  some
  (Value.int IntKind.i64 n_10) ∧
  True) ∧
  R
  (Ending.returned
  (Value.agg
  #[Value.int IntKind.u8 n,
  Value.int IntKind.u8 n_7,
  Value.int IntKind.u8 n_8,
  Value.int IntKind.u8 n_9,
  Value.int IntKind.i64 n_10]))
  w')))))))
theorem ref03_guess.vc_eq (op' : Int) (form' : Int) (w' : Int) (w : World) (R : Ending → World → Prop) : fnV Try.prog ref03_guess.H 25 [Value.int IntKind.u8 op', Value.int IntKind.i64 form', Value.int IntKind.u32 w'] w R = ref03_guess.vc op' form' w' w R := by kernel_rfl
theorem ref03_guess.calls {op' : Int} {form' : Int} {w' : Int} {w : World} {R : Ending → World → Prop} (h : ref03_guess.vc op' form' w' w R) : Calls Try.prog 25 ([Value.int IntKind.u8 op', Value.int IntKind.i64 form', Value.int IntKind.u32 w'] : List Value).toArray w R := calls_of_eq (ref03_guess.vc_eq op' form' w' w R) h

/- function 15: sacristy/sacristyref03.Decode -/
abbrev ref03_Decode.N : FuncId := 15
def ref03_Decode.H : Hints := { loops := [(3, [(4, .one (.int .u8))])] }
def ref03_Decode.vc (w' : Int) (w : World) (R : Ending → World → Prop) : Prop :=
  ∀ (w'_1 : World),
  w'_1 =
  w.alloc
  (Obj.cells
  #[Value.int IntKind.u8 0, Value.int IntKind.u8 0, Value.int IntKind.u8 0, Value.int IntKind.u8 0,
  Value.int IntKind.i64 0]
  39) →
  ∃ (I : List Value → World → Prop),
  ∃ (μ : List Value → World → Nat),
  I [Value.int IntKind.u8 1] w'_1 ∧
  ∀ (g : Nat → Value) (op : Int) (w'_2 : World),
  I [Value.int IntKind.u8 op] w'_2 →
  cnd (decide (op ≤ 34))
  (Calls Proofs.Try.prog 24 #[Value.int IntKind.u8 op] w'_2 fun (e : Ending) (w'_3 : World) =>
  ∃ (n : Int),
  ∃ (n_1 : Int),
  ∃ (n_2 : Int),
  ∃ (n_3 : Int),
  ∃ (b : Bool),
  e =
  Ending.returned
  (Value.tuple
  #[Value.agg
  #[Value.int IntKind.u32 n, Value.int IntKind.u32 n_1, Value.int IntKind.u32 n_2,
  Value.int IntKind.i64 n_3],
  Value.bool b]) ∧
  ∀ (w'_4 : World),
  w'_4 =
  w'_3.alloc
  (Obj.cells
  #[Value.int IntKind.u32 0, Value.int IntKind.u32 0, Value.int IntKind.u32 0,
  Value.int IntKind.i64 0]
  60) →
  SetsAt w'_4 (Addr.mk w'_3.heap.size 0 none) 0
  [Value.int IntKind.u32 n, Value.int IntKind.u32 n_1, Value.int IntKind.u32 n_2,
  Value.int IntKind.i64 n_3] ∧
  ∀ (w'_5 : World),
  w'_5 =
  setCellsAt w'_4 (Addr.mk w'_3.heap.size 0 none) 0
  [Value.int IntKind.u32 n, Value.int IntKind.u32 n_1,
  Value.int IntKind.u32 n_2, Value.int IntKind.i64 n_3] →
  ∃ (n : Int),
  w'_5.cell? (Addr.mk w'_3.heap.size 3 none) = some (Value.int IntKind.i64 n) ∧
  Calls Proofs.Try.prog 25
  #[Value.int IntKind.u8 op, Value.int IntKind.i64 n,
  Value.int IntKind.u32 w']
  w'_5 fun (e : Ending) (w'_6 : World) =>
  ∃ (n : Int),
  ∃ (n_4 : Int),
  ∃ (n_5 : Int),
  ∃ (n_6 : Int),
  ∃ (n_7 : Int),
  e =
  Ending.returned
  (Value.agg
  #[Value.int IntKind.u8 n, Value.int IntKind.u8 n_4,
  Value.int IntKind.u8 n_5, Value.int IntKind.u8 n_6,
  Value.int IntKind.i64 n_7]) ∧
  ∀ (w'_7 : World),
  w'_7 =
  w'_6.alloc
  (Obj.cells
  #[Value.int IntKind.u8 0, Value.int IntKind.u8 0,
  Value.int IntKind.u8 0, Value.int IntKind.u8 0,
  Value.int IntKind.i64 0]
  39) →
  SetsAt w'_7 (Addr.mk w'_6.heap.size 0 none) 0
  [Value.int IntKind.u8 n, Value.int IntKind.u8 n_4,
  Value.int IntKind.u8 n_5, Value.int IntKind.u8 n_6,
  Value.int IntKind.i64 n_7] ∧
  ∀ (w'_8 : World),
  w'_8 =
  setCellsAt w'_7 (Addr.mk w'_6.heap.size 0 none) 0
  [Value.int IntKind.u8 n,
  Value.int IntKind.u8 n_4,
  Value.int IntKind.u8 n_5,
  Value.int IntKind.u8 n_6,
  Value.int IntKind.i64 n_7] →
  ∃ (n : Int),
  ∃ (n_8 : Int),
  ∃ (n_9 : Int),
  ∃ (n_10 : Int),
  ∃ (n_11 : Int),
  (w'_8.cell?
  (Addr.mk w'_6.heap.size 0 none) =
  some (Value.int IntKind.u8 n) ∧
  w'_8.cell?
  (Addr.mk w'_6.heap.size 1
  none) =
  some (Value.int IntKind.u8 n_8) ∧
  w'_8.cell?
  (Addr.mk w'_6.heap.size 2
  none) =
  some
  (Value.int IntKind.u8 n_9) ∧
  w'_8.cell?
  (Addr.mk w'_6.heap.size 3
  none) =
  some
  (Value.int IntKind.u8
  n_10) ∧
  w'_8.cell?
  (Addr.mk w'_6.heap.size 4
  none) =
  some
  (Value.int IntKind.i64
  n_11) ∧
  True) ∧
  Calls Proofs.Try.prog 26
  #[Value.agg
  #[Value.int IntKind.u8 n,
  Value.int IntKind.u8 n_8,
  Value.int IntKind.u8 n_9,
  Value.int IntKind.u8 n_10,
  Value.int IntKind.i64 n_11]]
  w'_8
  fun (e : Ending) (w'_9 : World) =>
  ∃ (n : Int),
  ∃ (n_12 : Int),
  e =
  Ending.returned
  (Value.tuple
  #[Value.int IntKind.u32 n,
  Value.int IntKind.i64
  n_12]) ∧
  cnd (n_12 == 0)
  (cnd (n == w')
  (∃ (n : Int),
  ∃ (n_13 : Int),
  ∃ (n_14 : Int),
  ∃ (n_15 : Int),
  ∃ (n_16 : Int),
  (w'_9.cell?
  (Addr.mk
  w'_6.heap.size
  0
  none) =
  some
  (Value.int
  IntKind.u8
  n) ∧
  w'_9.cell?
  (Addr.mk
  w'_6.heap.size
  1
  none) =
  some
  (Value.int
  IntKind.u8
  n_13) ∧
  w'_9.cell?
  (Addr.mk
  w'_6.heap.size
  2
  none) =
  some
  (Value.int
  IntKind.u8
  n_14) ∧
  w'_9.cell?
  (Addr.mk
  w'_6.heap.size
  3
  none) =
  some
  (Value.int
  IntKind.u8
  n_15) ∧
  w'_9.cell?
  (Addr.mk
  w'_6.heap.size
  4
  none) =
  some
  (Value.int
  IntKind.i64
  n_16) ∧
  True) ∧
  SetsAt w'_9
  (Addr.mk
  w.heap.size
  0 none)
  0
  [Value.int
  IntKind.u8
  n,
  Value.int
  IntKind.u8
  n_13,
  Value.int
  IntKind.u8
  n_14,
  Value.int
  IntKind.u8
  n_15,
  Value.int
  IntKind.i64
  n_16] ∧
  ∀
  (w' :
  World),
  w' =
  setCellsAt
  w'_9
  (Addr.mk
  w.heap.size
  0
  none)
  0
  [Value.int
  IntKind.u8
  n,
  Value.int
  IntKind.u8
  n_13,
  Value.int
  IntKind.u8
  n_14,
  Value.int
  IntKind.u8
  n_15,
  Value.int
  IntKind.i64
  n_16] →
  ∃ (n :
  Int),
  ∃ (n_17
  :
  Int),
  ∃
  (n_18
  :
  Int),
  ∃
  (n_19
  :
  Int),
  ∃
  (n_20
  :
  Int),
  (w'.cell?
  (Addr.mk
  w.heap.size
  0
  none) =
  some
  (Value.int
  IntKind.u8
  n) ∧
  w'.cell?
  (Addr.mk
  w.heap.size
  1
  none) =
  some
  (Value.int
  IntKind.u8
  n_17) ∧
  w'.cell?
  (Addr.mk
  w.heap.size
  2
  none) =
  some
  (Value.int
  IntKind.u8
  n_18) ∧
  w'.cell?
  (Addr.mk
  w.heap.size
  3
  none) =
  some
  (Value.int
  IntKind.u8
  n_19) ∧
  w'.cell?
  (Addr.mk
  w.heap.size
  4
  none) =
  some
  (Value.int
  IntKind.i64
  n_20) ∧
  True) ∧
  R
  (Ending.returned
  (Value.tuple
  #[Value.agg
  #[Value.int
  IntKind.u8
  n,
  Value.int
  IntKind.u8
  n_17,
  Value.int
  IntKind.u8
  n_18,
  Value.int
  IntKind.u8
  n_19,
  Value.int
  IntKind.i64
  n_20],
  Value.int
  IntKind.i64
  0]))
  w')
  (Goes I μ
  [Value.int IntKind.u8 op]
  w'_2
  [Value.int IntKind.u8
  (IntKind.u8.wrap
  (op + 1))]
  w'_9))
  (Goes I μ
  [Value.int IntKind.u8 op]
  w'_2
  [Value.int IntKind.u8
  (IntKind.u8.wrap
  (op + 1))]
  w'_9))
  (SetsAt w'_2 (Addr.mk w.heap.size 0 none) 0
  [Value.int IntKind.u8 0, Value.int IntKind.u8 0, Value.int IntKind.u8 0, Value.int IntKind.u8 0,
  Value.int IntKind.i64 0] ∧
  ∀ (w' : World),
  w' =
  setCellsAt w'_2 (Addr.mk w.heap.size 0 none) 0
  [Value.int IntKind.u8 0, Value.int IntKind.u8 0, Value.int IntKind.u8 0,
  Value.int IntKind.u8 0, Value.int IntKind.i64 0] →
  ∃ (n : Int),
  ∃ (n_1 : Int),
  ∃ (n_2 : Int),
  ∃ (n_3 : Int),
  ∃ (n_4 : Int),
  (w'.cell? (Addr.mk w.heap.size 0 none) = some (Value.int IntKind.u8 n) ∧
  w'.cell? (Addr.mk w.heap.size 1 none) = some (Value.int IntKind.u8 n_1) ∧
  w'.cell? (Addr.mk w.heap.size 2 none) = some (Value.int IntKind.u8 n_2) ∧
  w'.cell? (Addr.mk w.heap.size 3 none) = some (Value.int IntKind.u8 n_3) ∧
  w'.cell? (Addr.mk w.heap.size 4 none) = some (Value.int IntKind.i64 n_4) ∧
  True) ∧
  R
  (Ending.returned
  (Value.tuple
  #[Value.agg
  #[Value.int IntKind.u8 n, Value.int IntKind.u8 n_1,
  Value.int IntKind.u8 n_2, Value.int IntKind.u8 n_3,
  Value.int IntKind.i64 n_4],
  Value.int IntKind.i64 7]))
  w')
theorem ref03_Decode.vc_eq (w' : Int) (w : World) (R : Ending → World → Prop) : fnV Try.prog ref03_Decode.H 15 [Value.int IntKind.u32 w'] w R = ref03_Decode.vc w' w R := by kernel_rfl
theorem ref03_Decode.calls {w' : Int} {w : World} {R : Ending → World → Prop} (h : ref03_Decode.vc w' w R) : Calls Try.prog 15 ([Value.int IntKind.u32 w'] : List Value).toArray w R := calls_of_eq (ref03_Decode.vc_eq w' w R) h

end Go.Proofs.Ytjoikaklincfoaa
