/-
The explicit conditions of some functions of the program, printed by this repo's own program over VcTop: what is proved is that each is the condition.
Conditions: none.
-/
import Derived.Test.YtgdbgbphbkefcaaVcTop
import Derived.Test.YtgdbgbphbkefcaaProg
namespace Go.Proofs.Ytgdbgbphbkefcaa
open Go Go.Vc Go.RowKit
set_option linter.unusedVariables false
set_option maxRecDepth 100000

/- function 10: sacristy/sacristylaw02.alive -/
abbrev law02_alive.N : FuncId := 10
def law02_alive.H : Hints := {  }
def law02_alive.vc (w : World) (R : Ending → World → Prop) : Prop :=
  Calls Proofs.Try.prog 8
  #[Value.agg
  #[Value.int IntKind.u8 15, Value.int IntKind.u8 1, Value.int IntKind.u8 0, Value.int IntKind.u8 0,
  Value.int IntKind.i64 (-1)]]
  w fun (e : Ending) (w' : World) =>
  ∃ (n : Int),
  ∃ (n_1 : Int),
  e = Ending.returned (Value.tuple #[Value.int IntKind.u32 n, Value.int IntKind.i64 n_1]) ∧
  Calls Proofs.Try.prog 8
  #[Value.agg
  #[Value.int IntKind.u8 22, Value.int IntKind.u8 5, Value.int IntKind.u8 5, Value.int IntKind.u8 0,
  Value.int IntKind.i64 63]]
  w' fun (e : Ending) (w' : World) =>
  ∃ (n_2 : Int),
  ∃ (n_3 : Int),
  e = Ending.returned (Value.tuple #[Value.int IntKind.u32 n_2, Value.int IntKind.i64 n_3]) ∧
  Calls Proofs.Try.prog 8
  #[Value.agg
  #[Value.int IntKind.u8 29, Value.int IntKind.u8 0, Value.int IntKind.u8 5, Value.int IntKind.u8 0,
  Value.int IntKind.i64 (-4)]]
  w' fun (e : Ending) (w' : World) =>
  ∃ (n_4 : Int),
  ∃ (n_5 : Int),
  e = Ending.returned (Value.tuple #[Value.int IntKind.u32 n_4, Value.int IntKind.i64 n_5]) ∧
  ∀ (w'_1 : World),
  w'_1 =
  w'.alloc
  (Obj.cells
  #[Value.int IntKind.u8 34, Value.int IntKind.u8 0, Value.int IntKind.u8 0,
  Value.int IntKind.u8 0, Value.int IntKind.i64 0, Value.int IntKind.u8 32,
  Value.int IntKind.u8 0, Value.int IntKind.u8 0, Value.int IntKind.u8 0,
  Value.int IntKind.i64 8]
  23) →
  Calls Proofs.Try.prog 11 #[Value.slice (some (Addr.mk w'.heap.size 0 none)) 2 2] w'_1
  fun (e : Ending) (w' : World) =>
  ∃ (s : ByteArray),
  ∃ (n_6 : Int),
  e = Ending.returned (Value.tuple #[Value.string s, Value.int IntKind.i64 n_6]) ∧
  Calls Proofs.Try.prog 8
  #[Value.agg
  #[Value.int IntKind.u8 15, Value.int IntKind.u8 0, Value.int IntKind.u8 0,
  Value.int IntKind.u8 1, Value.int IntKind.i64 0]]
  w' fun (e : Ending) (w' : World) =>
  ∃ (n_7 : Int),
  ∃ (n_8 : Int),
  e =
  Ending.returned
  (Value.tuple #[Value.int IntKind.u32 n_7, Value.int IntKind.i64 n_8]) ∧
  cnd (n == 4293918867)
  (cnd (n_1 == 0)
  (cnd (n_2 == 1139987091)
  (cnd (n_3 == 0)
  (cnd (n_4 == 4261584611)
  (cnd (n_5 == 0)
  (cnd
  (s.toList ==
  (ByteArray.mk #[115, 0, 0, 0, 111, 0, 128, 0]).toList)
  (cnd (n_6 == 0)
  (R (Ending.returned (Value.bool (n_8 == 2))) w')
  (R (Ending.returned (Value.bool false)) w'))
  (R (Ending.returned (Value.bool false)) w'))
  (R (Ending.returned (Value.bool false)) w'))
  (R (Ending.returned (Value.bool false)) w'))
  (R (Ending.returned (Value.bool false)) w'))
  (R (Ending.returned (Value.bool false)) w'))
  (R (Ending.returned (Value.bool false)) w'))
  (R (Ending.returned (Value.bool false)) w')
theorem law02_alive.vc_eq (w : World) (R : Ending → World → Prop) : fnV Try.prog law02_alive.H 10 [] w R = law02_alive.vc w R := by kernel_rfl
theorem law02_alive.calls {w : World} {R : Ending → World → Prop} (h : law02_alive.vc w R) : Calls Try.prog 10 ([] : List Value).toArray w R := calls_of_eq (law02_alive.vc_eq w R) h

/- function 3: sacristy/sacristylaw02.InsnWords -/
abbrev law02_InsnWords.N : FuncId := 3
def law02_InsnWords.H : Hints := {  }
def law02_InsnWords.vc (x'_0 : Int) (x'_1 : Int) (x'_2 : Int) (x'_3 : Int) (x'_4 : Int) (w : World) (R : Ending → World → Prop) : Prop :=
  ∀ (w' : World),
  w' =
  w.alloc
  (Obj.cells
  #[Value.int IntKind.u8 x'_0, Value.int IntKind.u8 x'_1, Value.int IntKind.u8 x'_2, Value.int IntKind.u8 x'_3,
  Value.int IntKind.i64 x'_4]
  23) →
  ∃ (n : Int),
  ∃ (n_1 : Int),
  ∃ (n_2 : Int),
  ∃ (n_3 : Int),
  ∃ (n_4 : Int),
  (w'.cell? (Addr.mk w.heap.size 0 none) = some (Value.int IntKind.u8 n) ∧
  w'.cell? (Addr.mk w.heap.size 1 none) = some (Value.int IntKind.u8 n_1) ∧
  w'.cell? (Addr.mk w.heap.size 2 none) = some (Value.int IntKind.u8 n_2) ∧
  w'.cell? (Addr.mk w.heap.size 3 none) = some (Value.int IntKind.u8 n_3) ∧
  w'.cell? (Addr.mk w.heap.size 4 none) = some (Value.int IntKind.i64 n_4) ∧ True) ∧
  Calls Proofs.Try.prog 8
  #[Value.agg
  #[Value.int IntKind.u8 n, Value.int IntKind.u8 n_1, Value.int IntKind.u8 n_2,
  Value.int IntKind.u8 n_3, Value.int IntKind.i64 n_4]]
  w' fun (e : Ending) (w' : World) =>
  ∃ (n : Int),
  ∃ (n_5 : Int),
  e = Ending.returned (Value.tuple #[Value.int IntKind.u32 n, Value.int IntKind.i64 n_5]) ∧
  ∃ (n_6 : Int),
  ∃ (n_7 : Int),
  ∃ (n_8 : Int),
  ∃ (n_9 : Int),
  ∃ (n_10 : Int),
  (w'.cell? (Addr.mk w.heap.size 0 none) = some (Value.int IntKind.u8 n_6) ∧
  w'.cell? (Addr.mk w.heap.size 1 none) = some (Value.int IntKind.u8 n_7) ∧
  w'.cell? (Addr.mk w.heap.size 2 none) = some (Value.int IntKind.u8 n_8) ∧
  w'.cell? (Addr.mk w.heap.size 3 none) = some (Value.int IntKind.u8 n_9) ∧
  w'.cell? (Addr.mk w.heap.size 4 none) = some (Value.int IntKind.i64 n_10) ∧
  True) ∧
  Calls Proofs.Try.prog 9
  #[Value.agg
  #[Value.int IntKind.u8 n_6, Value.int IntKind.u8 n_7,
  Value.int IntKind.u8 n_8, Value.int IntKind.u8 n_9,
  Value.int IntKind.i64 n_10]]
  w' fun (e : Ending) (w' : World) =>
  ∃ (n_11 : Int),
  ∃ (n_12 : Int),
  e =
  Ending.returned
  (Value.tuple
  #[Value.int IntKind.u32 n_11, Value.int IntKind.i64 n_12]) ∧
  cnd (n == n_11)
  (cnd (n_5 == n_12)
  (Calls Proofs.Try.prog 10 #[] w' fun (e : Ending) (w' : World) =>
  ∃ (b : Bool),
  e = Ending.returned (Value.bool b) ∧
  R (Ending.returned (Value.bool b)) w')
  (R (Ending.returned (Value.bool false)) w'))
  (R (Ending.returned (Value.bool false)) w')
theorem law02_InsnWords.vc_eq (x'_0 : Int) (x'_1 : Int) (x'_2 : Int) (x'_3 : Int) (x'_4 : Int) (w : World) (R : Ending → World → Prop) : fnV Try.prog law02_InsnWords.H 3 [Value.agg
  #[Value.int IntKind.u8 x'_0, Value.int IntKind.u8 x'_1, Value.int IntKind.u8 x'_2, Value.int IntKind.u8 x'_3,
  Value.int IntKind.i64 x'_4]] w R = law02_InsnWords.vc x'_0 x'_1 x'_2 x'_3 x'_4 w R := by kernel_rfl
theorem law02_InsnWords.calls {x'_0 : Int} {x'_1 : Int} {x'_2 : Int} {x'_3 : Int} {x'_4 : Int} {w : World} {R : Ending → World → Prop} (h : law02_InsnWords.vc x'_0 x'_1 x'_2 x'_3 x'_4 w R) : Calls Try.prog 3 ([Value.agg
  #[Value.int IntKind.u8 x'_0, Value.int IntKind.u8 x'_1, Value.int IntKind.u8 x'_2, Value.int IntKind.u8 x'_3,
  Value.int IntKind.i64 x'_4]] : List Value).toArray w R := calls_of_eq (law02_InsnWords.vc_eq x'_0 x'_1 x'_2 x'_3 x'_4 w R) h

/- function 5: sacristy/sacristylaw02.InsnApart -/
abbrev law02_InsnApart.N : FuncId := 5
def law02_InsnApart.H : Hints := {  }
def law02_InsnApart.vc (x'_0 : Int) (x'_1 : Int) (x'_2 : Int) (x'_3 : Int) (x'_4 : Int) (y'_0 : Int) (y'_1 : Int) (y'_2 : Int) (y'_3 : Int) (y'_4 : Int) (w : World) (R : Ending → World → Prop) : Prop :=
  ∀ (w' : World),
  w' =
  w.alloc
  (Obj.cells
  #[Value.int IntKind.u8 x'_0, Value.int IntKind.u8 x'_1, Value.int IntKind.u8 x'_2, Value.int IntKind.u8 x'_3,
  Value.int IntKind.i64 x'_4]
  23) →
  ∀ (w'_1 : World),
  w'_1 =
  w'.alloc
  (Obj.cells
  #[Value.int IntKind.u8 y'_0, Value.int IntKind.u8 y'_1, Value.int IntKind.u8 y'_2,
  Value.int IntKind.u8 y'_3, Value.int IntKind.i64 y'_4]
  23) →
  ∃ (n : Int),
  ∃ (n_1 : Int),
  ∃ (n_2 : Int),
  ∃ (n_3 : Int),
  ∃ (n_4 : Int),
  (w'_1.cell? (Addr.mk w.heap.size 0 none) = some (Value.int IntKind.u8 n) ∧
  w'_1.cell? (Addr.mk w.heap.size 1 none) = some (Value.int IntKind.u8 n_1) ∧
  w'_1.cell? (Addr.mk w.heap.size 2 none) = some (Value.int IntKind.u8 n_2) ∧
  w'_1.cell? (Addr.mk w.heap.size 3 none) = some (Value.int IntKind.u8 n_3) ∧
  w'_1.cell? (Addr.mk w.heap.size 4 none) = some (Value.int IntKind.i64 n_4) ∧ True) ∧
  Calls Proofs.Try.prog 8
  #[Value.agg
  #[Value.int IntKind.u8 n, Value.int IntKind.u8 n_1, Value.int IntKind.u8 n_2,
  Value.int IntKind.u8 n_3, Value.int IntKind.i64 n_4]]
  w'_1 fun (e : Ending) (w'_2 : World) =>
  ∃ (n : Int),
  ∃ (n_5 : Int),
  e = Ending.returned (Value.tuple #[Value.int IntKind.u32 n, Value.int IntKind.i64 n_5]) ∧
  ∃ (n_6 : Int),
  ∃ (n_7 : Int),
  ∃ (n_8 : Int),
  ∃ (n_9 : Int),
  ∃ (n_10 : Int),
  (w'_2.cell? (Addr.mk w'.heap.size 0 none) = some (Value.int IntKind.u8 n_6) ∧
  w'_2.cell? (Addr.mk w'.heap.size 1 none) = some (Value.int IntKind.u8 n_7) ∧
  w'_2.cell? (Addr.mk w'.heap.size 2 none) = some (Value.int IntKind.u8 n_8) ∧
  w'_2.cell? (Addr.mk w'.heap.size 3 none) =
  some (Value.int IntKind.u8 n_9) ∧
  w'_2.cell? (Addr.mk w'.heap.size 4 none) =
  some (Value.int IntKind.i64 n_10) ∧
  True) ∧
  Calls Proofs.Try.prog 8
  #[Value.agg
  #[Value.int IntKind.u8 n_6, Value.int IntKind.u8 n_7,
  Value.int IntKind.u8 n_8, Value.int IntKind.u8 n_9,
  Value.int IntKind.i64 n_10]]
  w'_2 fun (e : Ending) (w'_3 : World) =>
  ∃ (n_11 : Int),
  ∃ (n_12 : Int),
  e =
  Ending.returned
  (Value.tuple
  #[Value.int IntKind.u32 n_11, Value.int IntKind.i64 n_12]) ∧
  cnd (n_5 != 0)
  (cnd (n_5 == 0)
  (cnd (n_12 == 0)
  (Calls Proofs.Try.prog 10 #[] w'_3
  fun (e : Ending) (w' : World) =>
  ∃ (b : Bool),
  e = Ending.returned (Value.bool b) ∧
  R (Ending.returned (Value.bool b)) w')
  (cnd (n_12 == 2)
  (cnd (n_11 == 0)
  (Calls Proofs.Try.prog 10 #[] w'_3
  fun (e : Ending) (w' : World) =>
  ∃ (b : Bool),
  e = Ending.returned (Value.bool b) ∧
  R (Ending.returned (Value.bool b)) w')
  (R (Ending.returned (Value.bool false)) w'_3))
  (R (Ending.returned (Value.bool false)) w'_3)))
  (cnd (n_5 == 2)
  (cnd (n == 0)
  (cnd (n_12 == 0)
  (Calls Proofs.Try.prog 10 #[] w'_3
  fun (e : Ending) (w' : World) =>
  ∃ (b : Bool),
  e = Ending.returned (Value.bool b) ∧
  R (Ending.returned (Value.bool b)) w')
  (cnd (n_12 == 2)
  (cnd (n_11 == 0)
  (Calls Proofs.Try.prog 10 #[] w'_3
  fun (e : Ending) (w' : World) =>
  ∃ (b : Bool),
  e = Ending.returned (Value.bool b) ∧
  R (Ending.returned (Value.bool b)) w')
  (R (Ending.returned (Value.bool false)) w'_3))
  (R (Ending.returned (Value.bool false)) w'_3)))
  (R (Ending.returned (Value.bool false)) w'_3))
  (R (Ending.returned (Value.bool false)) w'_3)))
  (cnd (n_12 != 0)
  (cnd (n_5 == 0)
  (cnd (n_12 == 0)
  (Calls Proofs.Try.prog 10 #[] w'_3
  fun (e : Ending) (w' : World) =>
  ∃ (b : Bool),
  e = Ending.returned (Value.bool b) ∧
  R (Ending.returned (Value.bool b)) w')
  (cnd (n_12 == 2)
  (cnd (n_11 == 0)
  (Calls Proofs.Try.prog 10 #[] w'_3
  fun (e : Ending) (w' : World) =>
  ∃ (b : Bool),
  e = Ending.returned (Value.bool b) ∧
  R (Ending.returned (Value.bool b)) w')
  (R (Ending.returned (Value.bool false)) w'_3))
  (R (Ending.returned (Value.bool false)) w'_3)))
  (cnd (n_5 == 2)
  (cnd (n == 0)
  (cnd (n_12 == 0)
  (Calls Proofs.Try.prog 10 #[] w'_3
  fun (e : Ending) (w' : World) =>
  ∃ (b : Bool),
  e = Ending.returned (Value.bool b) ∧
  R (Ending.returned (Value.bool b)) w')
  (cnd (n_12 == 2)
  (cnd (n_11 == 0)
  (Calls Proofs.Try.prog 10 #[] w'_3
  fun (e : Ending) (w' : World) =>
  ∃ (b : Bool),
  e = Ending.returned (Value.bool b) ∧
  R (Ending.returned (Value.bool b)) w')
  (R (Ending.returned (Value.bool false)) w'_3))
  (R (Ending.returned (Value.bool false)) w'_3)))
  (R (Ending.returned (Value.bool false)) w'_3))
  (R (Ending.returned (Value.bool false)) w'_3)))
  (∃ (n_13 : Int),
  ∃ (n_14 : Int),
  ∃ (n_15 : Int),
  ∃ (n_16 : Int),
  ∃ (n_17 : Int),
  (w'_3.cell? (Addr.mk w.heap.size 0 none) =
  some (Value.int IntKind.u8 n_13) ∧
  w'_3.cell? (Addr.mk w.heap.size 1 none) =
  some (Value.int IntKind.u8 n_14) ∧
  w'_3.cell? (Addr.mk w.heap.size 2 none) =
  some (Value.int IntKind.u8 n_15) ∧
  w'_3.cell? (Addr.mk w.heap.size 3 none) =
  some (Value.int IntKind.u8 n_16) ∧
  w'_3.cell? (Addr.mk w.heap.size 4 none) =
  some (Value.int IntKind.i64 n_17) ∧
  True) ∧
  ∃ (n_18 : Int),
  ∃ (n_19 : Int),
  ∃ (n_20 : Int),
  ∃ (n_21 : Int),
  ∃ (n_22 : Int),
  (w'_3.cell? (Addr.mk w'.heap.size 0 none) =
  some (Value.int IntKind.u8 n_18) ∧
  w'_3.cell? (Addr.mk w'.heap.size 1 none) =
  some (Value.int IntKind.u8 n_19) ∧
  w'_3.cell?
  (Addr.mk w'.heap.size 2 none) =
  some (Value.int IntKind.u8 n_20) ∧
  w'_3.cell?
  (Addr.mk w'.heap.size 3 none) =
  some (Value.int IntKind.u8 n_21) ∧
  w'_3.cell?
  (Addr.mk w'.heap.size 4
  none) =
  some
  (Value.int IntKind.i64 n_22) ∧
  True) ∧
  ∃ (b : Bool),
  EqRuns Proofs.Try.prog BinOp.eql 23
  (Operand.tmp 53) (Operand.tmp 54)
  (Value.agg
  #[Value.int IntKind.u8 n_13,
  Value.int IntKind.u8 n_14,
  Value.int IntKind.u8 n_15,
  Value.int IntKind.u8 n_16,
  Value.int IntKind.i64 n_17])
  (Value.agg
  #[Value.int IntKind.u8 n_18,
  Value.int IntKind.u8 n_19,
  Value.int IntKind.u8 n_20,
  Value.int IntKind.u8 n_21,
  Value.int IntKind.i64 n_22])
  b ∧
  cnd ((n == n_11) == b)
  (cnd (n.tmod 4 == 3)
  (cnd (n_11.tmod 4 == 3)
  (Calls Proofs.Try.prog 10 #[] w'_3
  fun (e : Ending) (w' : World) =>
  ∃ (b : Bool),
  e =
  Ending.returned
  (Value.bool b) ∧
  R
  (Ending.returned
  (Value.bool b))
  w')
  (R
  (Ending.returned
  (Value.bool false))
  w'_3))
  (R
  (Ending.returned
  (Value.bool false))
  w'_3))
  (R
  (Ending.returned (Value.bool false))
  w'_3)))
theorem law02_InsnApart.vc_eq (x'_0 : Int) (x'_1 : Int) (x'_2 : Int) (x'_3 : Int) (x'_4 : Int) (y'_0 : Int) (y'_1 : Int) (y'_2 : Int) (y'_3 : Int) (y'_4 : Int) (w : World) (R : Ending → World → Prop) : fnV Try.prog law02_InsnApart.H 5 [Value.agg
  #[Value.int IntKind.u8 x'_0, Value.int IntKind.u8 x'_1, Value.int IntKind.u8 x'_2, Value.int IntKind.u8 x'_3,
  Value.int IntKind.i64 x'_4],
  Value.agg
  #[Value.int IntKind.u8 y'_0, Value.int IntKind.u8 y'_1, Value.int IntKind.u8 y'_2, Value.int IntKind.u8 y'_3,
  Value.int IntKind.i64 y'_4]] w R = law02_InsnApart.vc x'_0 x'_1 x'_2 x'_3 x'_4 y'_0 y'_1 y'_2 y'_3 y'_4 w R := by kernel_rfl
theorem law02_InsnApart.calls {x'_0 : Int} {x'_1 : Int} {x'_2 : Int} {x'_3 : Int} {x'_4 : Int} {y'_0 : Int} {y'_1 : Int} {y'_2 : Int} {y'_3 : Int} {y'_4 : Int} {w : World} {R : Ending → World → Prop} (h : law02_InsnApart.vc x'_0 x'_1 x'_2 x'_3 x'_4 y'_0 y'_1 y'_2 y'_3 y'_4 w R) : Calls Try.prog 5 ([Value.agg
  #[Value.int IntKind.u8 x'_0, Value.int IntKind.u8 x'_1, Value.int IntKind.u8 x'_2, Value.int IntKind.u8 x'_3,
  Value.int IntKind.i64 x'_4],
  Value.agg
  #[Value.int IntKind.u8 y'_0, Value.int IntKind.u8 y'_1, Value.int IntKind.u8 y'_2, Value.int IntKind.u8 y'_3,
  Value.int IntKind.i64 y'_4]] : List Value).toArray w R := calls_of_eq (law02_InsnApart.vc_eq x'_0 x'_1 x'_2 x'_3 x'_4 y'_0 y'_1 y'_2 y'_3 y'_4 w R) h

/- function 6: sacristy/sacristylaw02.InsnTurned -/
abbrev law02_InsnTurned.N : FuncId := 6
def law02_InsnTurned.H : Hints := { blocks := [(0, [])] }
def law02_InsnTurned.vc (x'_0 : Int) (x'_1 : Int) (x'_2 : Int) (x'_3 : Int) (x'_4 : Int) (what' : Int) (by' : Int) (w : World) (R : Ending → World → Prop) : Prop :=
  ∀ (w' : World),
  w' =
  w.alloc
  (Obj.cells
  #[Value.int IntKind.u8 x'_0, Value.int IntKind.u8 x'_1, Value.int IntKind.u8 x'_2, Value.int IntKind.u8 x'_3,
  Value.int IntKind.i64 x'_4]
  23) →
  ∃ (n : Int),
  ∃ (n_1 : Int),
  ∃ (n_2 : Int),
  ∃ (n_3 : Int),
  ∃ (n_4 : Int),
  (w'.cell? (Addr.mk w.heap.size 0 none) = some (Value.int IntKind.u8 n) ∧
  w'.cell? (Addr.mk w.heap.size 1 none) = some (Value.int IntKind.u8 n_1) ∧
  w'.cell? (Addr.mk w.heap.size 2 none) = some (Value.int IntKind.u8 n_2) ∧
  w'.cell? (Addr.mk w.heap.size 3 none) = some (Value.int IntKind.u8 n_3) ∧
  w'.cell? (Addr.mk w.heap.size 4 none) = some (Value.int IntKind.i64 n_4) ∧ True) ∧
  ∀ (w'_1 : World),
  w'_1 =
  w'.alloc
  (Obj.cells
  #[Value.int IntKind.u8 0, Value.int IntKind.u8 0, Value.int IntKind.u8 0,
  Value.int IntKind.u8 0, Value.int IntKind.i64 0]
  23) →
  SetsAt w'_1 (Addr.mk w'.heap.size 0 none) 0
  [Value.int IntKind.u8 n, Value.int IntKind.u8 n_1, Value.int IntKind.u8 n_2,
  Value.int IntKind.u8 n_3, Value.int IntKind.i64 n_4] ∧
  ∀ (w'_2 : World),
  w'_2 =
  setCellsAt w'_1 (Addr.mk w'.heap.size 0 none) 0
  [Value.int IntKind.u8 n, Value.int IntKind.u8 n_1, Value.int IntKind.u8 n_2,
  Value.int IntKind.u8 n_3, Value.int IntKind.i64 n_4] →
  ∃ (J : List Value → World → Prop),
  cnd (what'.tmod 4 == 0)
  (∃ (n : Int),
  w'_2.cell? (Addr.mk w'.heap.size 1 none) = some (Value.int IntKind.u8 n) ∧
  ((w'_2.cell? (Addr.mk w'.heap.size 1 none)).isSome = true ∧
  w'_2.frozen? (Addr.mk w'.heap.size 1 none) = false) ∧
  ∀ (w'_3 : World),
  w'_3 =
  w'_2.setCell (Addr.mk w'.heap.size 1 none)
  (Value.int IntKind.u8
  (IntKind.u8.wrap
  (IntKind.u8.wrap (n + 1) + (IntKind.u8.wrap by').tmod 7))) →
  J [] w'_3)
  (cnd (what'.tmod 4 == 1)
  (∃ (n : Int),
  w'_2.cell? (Addr.mk w'.heap.size 2 none) = some (Value.int IntKind.u8 n) ∧
  ((w'_2.cell? (Addr.mk w'.heap.size 2 none)).isSome = true ∧
  w'_2.frozen? (Addr.mk w'.heap.size 2 none) = false) ∧
  ∀ (w'_3 : World),
  w'_3 =
  w'_2.setCell (Addr.mk w'.heap.size 2 none)
  (Value.int IntKind.u8
  (IntKind.u8.wrap
  (IntKind.u8.wrap (n + 1) + (IntKind.u8.wrap by').tmod 7))) →
  J [] w'_3)
  (cnd (what'.tmod 4 == 2)
  (∃ (n : Int),
  w'_2.cell? (Addr.mk w'.heap.size 3 none) = some (Value.int IntKind.u8 n) ∧
  ((w'_2.cell? (Addr.mk w'.heap.size 3 none)).isSome = true ∧
  w'_2.frozen? (Addr.mk w'.heap.size 3 none) = false) ∧
  ∀ (w'_3 : World),
  w'_3 =
  w'_2.setCell (Addr.mk w'.heap.size 3 none)
  (Value.int IntKind.u8
  (IntKind.u8.wrap
  (IntKind.u8.wrap (n + 1) + (IntKind.u8.wrap by').tmod 7))) →
  J [] w'_3)
  (∃ (n : Int),
  w'_2.cell? (Addr.mk w'.heap.size 4 none) = some (Value.int IntKind.i64 n) ∧
  ((w'_2.cell? (Addr.mk w'.heap.size 4 none)).isSome = true ∧
  w'_2.frozen? (Addr.mk w'.heap.size 4 none) = false) ∧
  ∀ (w'_3 : World),
  w'_3 =
  w'_2.setCell (Addr.mk w'.heap.size 4 none)
  (Value.int IntKind.i64
  (IntKind.i64.wrap
  (IntKind.i64.wrap (n + 1) + IntKind.i64.wrap by'))) →
  J [] w'_3))) ∧
  ∀ (g : Nat → Value) (w'_3 : World),
  J [] w'_3 →
  ∃ (n : Int),
  ∃ (n_5 : Int),
  ∃ (n_6 : Int),
  ∃ (n_7 : Int),
  ∃ (n_8 : Int),
  (w'_3.cell? (Addr.mk w.heap.size 0 none) = some (Value.int IntKind.u8 n) ∧
  w'_3.cell? (Addr.mk w.heap.size 1 none) =
  some (Value.int IntKind.u8 n_5) ∧
  w'_3.cell? (Addr.mk w.heap.size 2 none) =
  some (Value.int IntKind.u8 n_6) ∧
  w'_3.cell? (Addr.mk w.heap.size 3 none) =
  some (Value.int IntKind.u8 n_7) ∧
  w'_3.cell? (Addr.mk w.heap.size 4 none) =
  some (Value.int IntKind.i64 n_8) ∧
  True) ∧
  Calls Proofs.Try.prog 8
  #[Value.agg
  #[Value.int IntKind.u8 n, Value.int IntKind.u8 n_5,
  Value.int IntKind.u8 n_6, Value.int IntKind.u8 n_7,
  Value.int IntKind.i64 n_8]]
  w'_3 fun (e : Ending) (w'_4 : World) =>
  ∃ (n : Int),
  ∃ (n_9 : Int),
  e =
  Ending.returned
  (Value.tuple
  #[Value.int IntKind.u32 n, Value.int IntKind.i64 n_9]) ∧
  ∃ (n_10 : Int),
  ∃ (n_11 : Int),
  ∃ (n_12 : Int),
  ∃ (n_13 : Int),
  ∃ (n_14 : Int),
  (w'_4.cell? (Addr.mk w'.heap.size 0 none) =
  some (Value.int IntKind.u8 n_10) ∧
  w'_4.cell? (Addr.mk w'.heap.size 1 none) =
  some (Value.int IntKind.u8 n_11) ∧
  w'_4.cell? (Addr.mk w'.heap.size 2 none) =
  some (Value.int IntKind.u8 n_12) ∧
  w'_4.cell? (Addr.mk w'.heap.size 3 none) =
  some (Value.int IntKind.u8 n_13) ∧
  w'_4.cell? (Addr.mk w'.heap.size 4 none) =
  some (Value.int IntKind.i64 n_14) ∧
  True) ∧
  Calls Proofs.Try.prog 8
  #[Value.agg
  #[Value.int IntKind.u8 n_10,
  Value.int IntKind.u8 n_11,
  Value.int IntKind.u8 n_12,
  Value.int IntKind.u8 n_13,
  Value.int IntKind.i64 n_14]]
  w'_4 fun (e : Ending) (w'_5 : World) =>
  ∃ (n_15 : Int),
  ∃ (n_16 : Int),
  e =
  Ending.returned
  (Value.tuple
  #[Value.int IntKind.u32 n_15,
  Value.int IntKind.i64 n_16]) ∧
  cnd (n_9 != 0)
  (Calls Proofs.Try.prog 10 #[] w'_5
  fun (e : Ending) (w' : World) =>
  ∃ (b : Bool),
  e = Ending.returned (Value.bool b) ∧
  R (Ending.returned (Value.bool b)) w')
  (cnd (n_16 != 0)
  (Calls Proofs.Try.prog 10 #[] w'_5
  fun (e : Ending) (w' : World) =>
  ∃ (b : Bool),
  e = Ending.returned (Value.bool b) ∧
  R (Ending.returned (Value.bool b))
  w')
  (∃ (n_17 : Int),
  ∃ (n_18 : Int),
  ∃ (n_19 : Int),
  ∃ (n_20 : Int),
  ∃ (n_21 : Int),
  (w'_5.cell?
  (Addr.mk w.heap.size 0
  none) =
  some
  (Value.int IntKind.u8
  n_17) ∧
  w'_5.cell?
  (Addr.mk w.heap.size 1
  none) =
  some
  (Value.int IntKind.u8
  n_18) ∧
  w'_5.cell?
  (Addr.mk w.heap.size
  2 none) =
  some
  (Value.int
  IntKind.u8 n_19) ∧
  w'_5.cell?
  (Addr.mk
  w.heap.size 3
  none) =
  some
  (Value.int
  IntKind.u8
  n_20) ∧
  w'_5.cell?
  (Addr.mk
  w.heap.size 4
  none) =
  some
  (Value.int
  IntKind.i64
  n_21) ∧
  True) ∧
  ∃ (n_22 : Int),
  ∃ (n_23 : Int),
  ∃ (n_24 : Int),
  ∃ (n_25 : Int),
  ∃ (n_26 : Int),
  (w'_5.cell?
  (Addr.mk
  w'.heap.size
  0 none) =
  some
  (Value.int
  IntKind.u8
  n_22) ∧
  w'_5.cell?
  (Addr.mk
  w'.heap.size
  1
  none) =
  some
  (Value.int
  IntKind.u8
  n_23) ∧
  w'_5.cell?
  (Addr.mk
  w'.heap.size
  2
  none) =
  some
  (Value.int
  IntKind.u8
  n_24) ∧
  w'_5.cell?
  (Addr.mk
  w'.heap.size
  3
  none) =
  some
  (Value.int
  IntKind.u8
  n_25) ∧
  w'_5.cell?
  (Addr.mk
  w'.heap.size
  4
  none) =
  some
  (Value.int
  IntKind.i64
  n_26) ∧
  True) ∧
  ∃ (b : Bool),
  EqRuns
  Proofs.Try.prog
  BinOp.eql 23
  (Operand.tmp
  69)
  (Operand.tmp
  70)
  (Value.agg
  #[Value.int
  IntKind.u8
  n_17,
  Value.int
  IntKind.u8
  n_18,
  Value.int
  IntKind.u8
  n_19,
  Value.int
  IntKind.u8
  n_20,
  Value.int
  IntKind.i64
  n_21])
  (Value.agg
  #[Value.int
  IntKind.u8
  n_22,
  Value.int
  IntKind.u8
  n_23,
  Value.int
  IntKind.u8
  n_24,
  Value.int
  IntKind.u8
  n_25,
  Value.int
  IntKind.i64
  n_26])
  b ∧
  cnd b
  (Calls
  Proofs.Try.prog
  10 #[]
  w'_5
  fun
  (e :
  Ending)
  (w' :
  World) =>
  ∃ (b :
  Bool),
  e =
  Ending.returned
  (Value.bool
  b) ∧
  R
  (Ending.returned
  (Value.bool
  b))
  w')
  (cnd
  (n !=
  n_15)
  (Calls
  Proofs.Try.prog
  10 #[]
  w'_5
  fun
  (e :
  Ending)
  (w' :
  World) =>
  ∃ (b :
  Bool),
  e =
  Ending.returned
  (Value.bool
  b) ∧
  R
  (Ending.returned
  (Value.bool
  b))
  w')
  (R
  (Ending.returned
  (Value.bool
  false))
  w'_5))))
theorem law02_InsnTurned.vc_eq (x'_0 : Int) (x'_1 : Int) (x'_2 : Int) (x'_3 : Int) (x'_4 : Int) (what' : Int) (by' : Int) (w : World) (R : Ending → World → Prop) : fnV Try.prog law02_InsnTurned.H 6 [Value.agg
  #[Value.int IntKind.u8 x'_0, Value.int IntKind.u8 x'_1, Value.int IntKind.u8 x'_2, Value.int IntKind.u8 x'_3,
  Value.int IntKind.i64 x'_4],
  Value.int IntKind.u8 what', Value.int IntKind.i16 by'] w R = law02_InsnTurned.vc x'_0 x'_1 x'_2 x'_3 x'_4 what' by' w R := by kernel_rfl
theorem law02_InsnTurned.calls {x'_0 : Int} {x'_1 : Int} {x'_2 : Int} {x'_3 : Int} {x'_4 : Int} {what' : Int} {by' : Int} {w : World} {R : Ending → World → Prop} (h : law02_InsnTurned.vc x'_0 x'_1 x'_2 x'_3 x'_4 what' by' w R) : Calls Try.prog 6 ([Value.agg
  #[Value.int IntKind.u8 x'_0, Value.int IntKind.u8 x'_1, Value.int IntKind.u8 x'_2, Value.int IntKind.u8 x'_3,
  Value.int IntKind.i64 x'_4],
  Value.int IntKind.u8 what', Value.int IntKind.i16 by'] : List Value).toArray w R := calls_of_eq (law02_InsnTurned.vc_eq x'_0 x'_1 x'_2 x'_3 x'_4 what' by' w R) h

/- function 7: sacristy/sacristylaw02.InsnFits -/
abbrev law02_InsnFits.N : FuncId := 7
def law02_InsnFits.H : Hints := {  }
def law02_InsnFits.vc (rd' : Int) (rs' : Int) (v' : Int) (w : World) (R : Ending → World → Prop) : Prop :=
  Calls Proofs.Try.prog 8
  #[Value.agg
  #[Value.int IntKind.u8 15, Value.int IntKind.u8 (rd'.tmod 32), Value.int IntKind.u8 (rs'.tmod 32),
  Value.int IntKind.u8 0, Value.int IntKind.i64 v']]
  w fun (e : Ending) (w' : World) =>
  ∃ (n : Int),
  ∃ (n_1 : Int),
  e = Ending.returned (Value.tuple #[Value.int IntKind.u32 n, Value.int IntKind.i64 n_1]) ∧
  Calls Proofs.Try.prog 8
  #[Value.agg
  #[Value.int IntKind.u8 23, Value.int IntKind.u8 (rd'.tmod 32), Value.int IntKind.u8 0,
  Value.int IntKind.u8 0, Value.int IntKind.i64 v']]
  w' fun (e : Ending) (w' : World) =>
  ∃ (n : Int),
  ∃ (n_2 : Int),
  e = Ending.returned (Value.tuple #[Value.int IntKind.u32 n, Value.int IntKind.i64 n_2]) ∧
  Calls Proofs.Try.prog 8
  #[Value.agg
  #[Value.int IntKind.u8 28, Value.int IntKind.u8 0, Value.int IntKind.u8 (rd'.tmod 32),
  Value.int IntKind.u8 (rs'.tmod 32), Value.int IntKind.i64 v']]
  w' fun (e : Ending) (w' : World) =>
  ∃ (n : Int),
  ∃ (n_3 : Int),
  e = Ending.returned (Value.tuple #[Value.int IntKind.u32 n, Value.int IntKind.i64 n_3]) ∧
  Calls Proofs.Try.prog 8
  #[Value.agg
  #[Value.int IntKind.u8 32, Value.int IntKind.u8 (rd'.tmod 32), Value.int IntKind.u8 0,
  Value.int IntKind.u8 0, Value.int IntKind.i64 v']]
  w' fun (e : Ending) (w' : World) =>
  ∃ (n : Int),
  ∃ (n_4 : Int),
  e = Ending.returned (Value.tuple #[Value.int IntKind.u32 n, Value.int IntKind.i64 n_4]) ∧
  Calls Proofs.Try.prog 8
  #[Value.agg
  #[Value.int IntKind.u8 20, Value.int IntKind.u8 (rd'.tmod 32),
  Value.int IntKind.u8 (rs'.tmod 32), Value.int IntKind.u8 0,
  Value.int IntKind.i64 v']]
  w' fun (e : Ending) (w' : World) =>
  ∃ (n : Int),
  ∃ (n_5 : Int),
  e =
  Ending.returned
  (Value.tuple #[Value.int IntKind.u32 n, Value.int IntKind.i64 n_5]) ∧
  Calls Proofs.Try.prog 13 #[Value.int IntKind.i64 v', Value.int IntKind.i64 12]
  w' fun (e : Ending) (w' : World) =>
  ∃ (b : Bool),
  e = Ending.returned (Value.bool b) ∧
  cnd ((n_1 == 0) == b)
  (Calls Proofs.Try.prog 13
  #[Value.int IntKind.i64 v', Value.int IntKind.i64 32] w'
  fun (e : Ending) (w' : World) =>
  ∃ (b : Bool),
  e = Ending.returned (Value.bool b) ∧
  cnd b
  (cnd ((n_2 == 0) == (v'.tmod 4096 == 0))
  (Calls Proofs.Try.prog 13
  #[Value.int IntKind.i64 v', Value.int IntKind.i64 13] w'
  fun (e : Ending) (w' : World) =>
  ∃ (b : Bool),
  e = Ending.returned (Value.bool b) ∧
  cnd b
  (cnd ((n_3 == 0) == (v'.tmod 2 == 0))
  (Calls Proofs.Try.prog 13
  #[Value.int IntKind.i64 v',
  Value.int IntKind.i64 21]
  w' fun (e : Ending) (w' : World) =>
  ∃ (b : Bool),
  e = Ending.returned (Value.bool b) ∧
  cnd b
  (cnd ((n_4 == 0) == (v'.tmod 2 == 0))
  (cnd (decide (v' ≥ 0))
  (cnd ((n_5 == 0) == decide (v' < 64))
  (Calls Proofs.Try.prog 10 #[] w'
  fun (e : Ending) (w' : World) =>
  ∃ (b : Bool),
  e =
  Ending.returned
  (Value.bool b) ∧
  R
  (Ending.returned
  (Value.bool b))
  w')
  (R
  (Ending.returned (Value.bool false))
  w'))
  (cnd ((n_5 == 0) == false)
  (Calls Proofs.Try.prog 10 #[] w'
  fun (e : Ending) (w' : World) =>
  ∃ (b : Bool),
  e =
  Ending.returned
  (Value.bool b) ∧
  R
  (Ending.returned
  (Value.bool b))
  w')
  (R
  (Ending.returned (Value.bool false))
  w')))
  (R (Ending.returned (Value.bool false))
  w'))
  (cnd ((n_4 == 0) == false)
  (cnd (decide (v' ≥ 0))
  (cnd ((n_5 == 0) == decide (v' < 64))
  (Calls Proofs.Try.prog 10 #[] w'
  fun (e : Ending) (w' : World) =>
  ∃ (b : Bool),
  e =
  Ending.returned
  (Value.bool b) ∧
  R
  (Ending.returned
  (Value.bool b))
  w')
  (R
  (Ending.returned (Value.bool false))
  w'))
  (cnd ((n_5 == 0) == false)
  (Calls Proofs.Try.prog 10 #[] w'
  fun (e : Ending) (w' : World) =>
  ∃ (b : Bool),
  e =
  Ending.returned
  (Value.bool b) ∧
  R
  (Ending.returned
  (Value.bool b))
  w')
  (R
  (Ending.returned (Value.bool false))
  w')))
  (R (Ending.returned (Value.bool false))
  w')))
  (R (Ending.returned (Value.bool false)) w'))
  (cnd ((n_3 == 0) == false)
  (Calls Proofs.Try.prog 13
  #[Value.int IntKind.i64 v',
  Value.int IntKind.i64 21]
  w' fun (e : Ending) (w' : World) =>
  ∃ (b : Bool),
  e = Ending.returned (Value.bool b) ∧
  cnd b
  (cnd ((n_4 == 0) == (v'.tmod 2 == 0))
  (cnd (decide (v' ≥ 0))
  (cnd ((n_5 == 0) == decide (v' < 64))
  (Calls Proofs.Try.prog 10 #[] w'
  fun (e : Ending) (w' : World) =>
  ∃ (b : Bool),
  e =
  Ending.returned
  (Value.bool b) ∧
  R
  (Ending.returned
  (Value.bool b))
  w')
  (R
  (Ending.returned (Value.bool false))
  w'))
  (cnd ((n_5 == 0) == false)
  (Calls Proofs.Try.prog 10 #[] w'
  fun (e : Ending) (w' : World) =>
  ∃ (b : Bool),
  e =
  Ending.returned
  (Value.bool b) ∧
  R
  (Ending.returned
  (Value.bool b))
  w')
  (R
  (Ending.returned (Value.bool false))
  w')))
  (R (Ending.returned (Value.bool false))
  w'))
  (cnd ((n_4 == 0) == false)
  (cnd (decide (v' ≥ 0))
  (cnd ((n_5 == 0) == decide (v' < 64))
  (Calls Proofs.Try.prog 10 #[] w'
  fun (e : Ending) (w' : World) =>
  ∃ (b : Bool),
  e =
  Ending.returned
  (Value.bool b) ∧
  R
  (Ending.returned
  (Value.bool b))
  w')
  (R
  (Ending.returned (Value.bool false))
  w'))
  (cnd ((n_5 == 0) == false)
  (Calls Proofs.Try.prog 10 #[] w'
  fun (e : Ending) (w' : World) =>
  ∃ (b : Bool),
  e =
  Ending.returned
  (Value.bool b) ∧
  R
  (Ending.returned
  (Value.bool b))
  w')
  (R
  (Ending.returned (Value.bool false))
  w')))
  (R (Ending.returned (Value.bool false))
  w')))
  (R (Ending.returned (Value.bool false)) w')))
  (R (Ending.returned (Value.bool false)) w'))
  (cnd ((n_2 == 0) == false)
  (Calls Proofs.Try.prog 13
  #[Value.int IntKind.i64 v', Value.int IntKind.i64 13] w'
  fun (e : Ending) (w' : World) =>
  ∃ (b : Bool),
  e = Ending.returned (Value.bool b) ∧
  cnd b
  (cnd ((n_3 == 0) == (v'.tmod 2 == 0))
  (Calls Proofs.Try.prog 13
  #[Value.int IntKind.i64 v',
  Value.int IntKind.i64 21]
  w' fun (e : Ending) (w' : World) =>
  ∃ (b : Bool),
  e = Ending.returned (Value.bool b) ∧
  cnd b
  (cnd ((n_4 == 0) == (v'.tmod 2 == 0))
  (cnd (decide (v' ≥ 0))
  (cnd ((n_5 == 0) == decide (v' < 64))
  (Calls Proofs.Try.prog 10 #[] w'
  fun (e : Ending) (w' : World) =>
  ∃ (b : Bool),
  e =
  Ending.returned
  (Value.bool b) ∧
  R
  (Ending.returned
  (Value.bool b))
  w')
  (R
  (Ending.returned (Value.bool false))
  w'))
  (cnd ((n_5 == 0) == false)
  (Calls Proofs.Try.prog 10 #[] w'
  fun (e : Ending) (w' : World) =>
  ∃ (b : Bool),
  e =
  Ending.returned
  (Value.bool b) ∧
  R
  (Ending.returned
  (Value.bool b))
  w')
  (R
  (Ending.returned (Value.bool false))
  w')))
  (R (Ending.returned (Value.bool false))
  w'))
  (cnd ((n_4 == 0) == false)
  (cnd (decide (v' ≥ 0))
  (cnd ((n_5 == 0) == decide (v' < 64))
  (Calls Proofs.Try.prog 10 #[] w'
  fun (e : Ending) (w' : World) =>
  ∃ (b : Bool),
  e =
  Ending.returned
  (Value.bool b) ∧
  R
  (Ending.returned
  (Value.bool b))
  w')
  (R
  (Ending.returned (Value.bool false))
  w'))
  (cnd ((n_5 == 0) == false)
  (Calls Proofs.Try.prog 10 #[] w'
  fun (e : Ending) (w' : World) =>
  ∃ (b : Bool),
  e =
  Ending.returned
  (Value.bool b) ∧
  R
  (Ending.returned
  (Value.bool b))
  w')
  (R
  (Ending.returned (Value.bool false))
  w')))
  (R (Ending.returned (Value.bool false))
  w')))
  (R (Ending.returned (Value.bool false)) w'))
  (cnd ((n_3 == 0) == false)
  (Calls Proofs.Try.prog 13
  #[Value.int IntKind.i64 v',
  Value.int IntKind.i64 21]
  w' fun (e : Ending) (w' : World) =>
  ∃ (b : Bool),
  e = Ending.returned (Value.bool b) ∧
  cnd b
  (cnd ((n_4 == 0) == (v'.tmod 2 == 0))
  (cnd (decide (v' ≥ 0))
  (cnd ((n_5 == 0) == decide (v' < 64))
  (Calls Proofs.Try.prog 10 #[] w'
  fun (e : Ending) (w' : World) =>
  ∃ (b : Bool),
  e =
  Ending.returned
  (Value.bool b) ∧
  R
  (Ending.returned
  (Value.bool b))
  w')
  (R
  (Ending.returned (Value.bool false))
  w'))
  (cnd ((n_5 == 0) == false)
  (Calls Proofs.Try.prog 10 #[] w'
  fun (e : Ending) (w' : World) =>
  ∃ (b : Bool),
  e =
  Ending.returned
  (Value.bool b) ∧
  R
  (Ending.returned
  (Value.bool b))
  w')
  (R
  (Ending.returned (Value.bool false))
  w')))
  (R (Ending.returned (Value.bool false))
  w'))
  (cnd ((n_4 == 0) == false)
  (cnd (decide (v' ≥ 0))
  (cnd ((n_5 == 0) == decide (v' < 64))
  (Calls Proofs.Try.prog 10 #[] w'
  fun (e : Ending) (w' : World) =>
  ∃ (b : Bool),
  e =
  Ending.returned
  (Value.bool b) ∧
  R
  (Ending.returned
  (Value.bool b))
  w')
  (R
  (Ending.returned (Value.bool false))
  w'))
  (cnd ((n_5 == 0) == false)
  (Calls Proofs.Try.prog 10 #[] w'
  fun (e : Ending) (w' : World) =>
  ∃ (b : Bool),
  e =
  Ending.returned
  (Value.bool b) ∧
  R
  (Ending.returned
  (Value.bool b))
  w')
  (R
  (Ending.returned (Value.bool false))
  w')))
  (R (Ending.returned (Value.bool false))
  w')))
  (R (Ending.returned (Value.bool false)) w')))
  (R (Ending.returned (Value.bool false)) w')))
  (R (Ending.returned (Value.bool false)) w')
theorem law02_InsnFits.vc_eq (rd' : Int) (rs' : Int) (v' : Int) (w : World) (R : Ending → World → Prop) : fnV Try.prog law02_InsnFits.H 7 [Value.int IntKind.u8 rd', Value.int IntKind.u8 rs', Value.int IntKind.i64 v'] w R = law02_InsnFits.vc rd' rs' v' w R := by kernel_rfl
theorem law02_InsnFits.calls {rd' : Int} {rs' : Int} {v' : Int} {w : World} {R : Ending → World → Prop} (h : law02_InsnFits.vc rd' rs' v' w R) : Calls Try.prog 7 ([Value.int IntKind.u8 rd', Value.int IntKind.u8 rs', Value.int IntKind.i64 v'] : List Value).toArray w R := calls_of_eq (law02_InsnFits.vc_eq rd' rs' v' w R) h

/- function 4: sacristy/sacristylaw02.InsnAll -/
abbrev law02_InsnAll.N : FuncId := 4
def law02_InsnAll.H : Hints := { loops := [(8, [(8, .one (.int .i64))])] }
def law02_InsnAll.vc (l' : Option Addr) (l'n : Nat) (l'c : Nat) (w : World) (R : Ending → World → Prop) : Prop :=
  cnd (decide ((↑l'n : Int) > 300))
  (Calls Proofs.Try.prog 10 #[] w fun (e : Ending) (w' : World) =>
  ∃ (b : Bool), e = Ending.returned (Value.bool b) ∧ R (Ending.returned (Value.bool b)) w')
  (RunsV Proofs.Try.prog (Builtin.append_ #[30, 30] 30 #[Value.slice none 0 0, Value.slice l' l'n l'c]) w
  fun (v : Value) (w' : World) =>
  ∃ (p : Option Addr),
  ∃ (n : Nat),
  ∃ (c : Nat),
  v = Value.slice p n c ∧
  Calls Proofs.Try.prog 11 #[Value.slice p n c] w' fun (e : Ending) (w' : World) =>
  ∃ (s : ByteArray),
  ∃ (n_1 : Int),
  e = Ending.returned (Value.tuple #[Value.string s, Value.int IntKind.i64 n_1]) ∧
  Calls Proofs.Try.prog 12 #[Value.slice l' l'n l'c] w' fun (e : Ending) (w' : World) =>
  ∃ (s_1 : ByteArray),
  ∃ (n_2 : Int),
  e = Ending.returned (Value.tuple #[Value.string s_1, Value.int IntKind.i64 n_2]) ∧
  ∃ (I : List Value → World → Prop),
  ∃ (μ : List Value → World → Nat),
  I [Value.int IntKind.i64 0] w' ∧
  ∀ (g : Nat → Value) (i : Int) (w' : World),
  I [Value.int IntKind.i64 i] w' →
  cnd (decide (i < (↑l'n : Int)))
  ((0 ≤ i ∧ i < (↑n : Int)) ∧
  Deref p fun (a : Addr) =>
  ∃ (n : Int),
  ∃ (n_3 : Int),
  ∃ (n_4 : Int),
  ∃ (n_5 : Int),
  ∃ (n_6 : Int),
  (∀ (w'_1 : World),
  Later w' w'_1 →
  w'_1.cell? (a.add (i.toNat * 5)) =
  some (Value.int IntKind.u8 n) ∧
  w'_1.cell? ((a.add (i.toNat * 5)).add 1) =
  some (Value.int IntKind.u8 n_3) ∧
  w'_1.cell? ((a.add (i.toNat * 5)).add 2) =
  some (Value.int IntKind.u8 n_4) ∧
  w'_1.cell? ((a.add (i.toNat * 5)).add 3) =
  some (Value.int IntKind.u8 n_5) ∧
  w'_1.cell? ((a.add (i.toNat * 5)).add 4) =
  some (Value.int IntKind.i64 n_6) ∧
  True) ∧
  (0 ≤ i ∧ i < (↑l'n : Int)) ∧
  Deref l' fun (a : Addr) =>
  ∃ (n_7 : Int),
  ∃ (n_8 : Int),
  ∃ (n_9 : Int),
  ∃ (n_10 : Int),
  ∃ (n_11 : Int),
  (∀ (w'_1 : World),
  Later w' w'_1 →
  w'_1.cell? (a.add (i.toNat * 5)) =
  some (Value.int IntKind.u8 n_7) ∧
  w'_1.cell? ((a.add (i.toNat * 5)).add 1) =
  some (Value.int IntKind.u8 n_8) ∧
  w'_1.cell?
  ((a.add (i.toNat * 5)).add 2) =
  some (Value.int IntKind.u8 n_9) ∧
  w'_1.cell?
  ((a.add (i.toNat * 5)).add 3) =
  some (Value.int IntKind.u8 n_10) ∧
  w'_1.cell?
  ((a.add (i.toNat * 5)).add
  4) =
  some
  (Value.int IntKind.i64 n_11) ∧
  True) ∧
  ∃ (b : Bool),
  EqRuns Proofs.Try.prog BinOp.neq 23
  (Operand.tmp 34) (Operand.tmp 38)
  (Value.agg
  #[Value.int IntKind.u8 n,
  Value.int IntKind.u8 n_3,
  Value.int IntKind.u8 n_4,
  Value.int IntKind.u8 n_5,
  Value.int IntKind.i64 n_6])
  (Value.agg
  #[Value.int IntKind.u8 n_7,
  Value.int IntKind.u8 n_8,
  Value.int IntKind.u8 n_9,
  Value.int IntKind.u8 n_10,
  Value.int IntKind.i64 n_11])
  b ∧
  ∀ (w'_1 : World),
  Later w' w'_1 →
  cnd b
  (R
  (Ending.returned (Value.bool false))
  w'_1)
  (Goes I μ [Value.int IntKind.i64 i] w'
  [Value.int IntKind.i64
  (IntKind.i64.wrap (i + 1))]
  w'_1))
  (cnd (s.toList == s_1.toList)
  (cnd (n_1 == n_2)
  (Calls Proofs.Try.prog 10 #[] w' fun (e : Ending) (w' : World) =>
  ∃ (b : Bool),
  e = Ending.returned (Value.bool b) ∧
  R (Ending.returned (Value.bool b)) w')
  (R (Ending.returned (Value.bool false)) w'))
  (R (Ending.returned (Value.bool false)) w')))
theorem law02_InsnAll.vc_eq (l' : Option Addr) (l'n : Nat) (l'c : Nat) (w : World) (R : Ending → World → Prop) : fnV Try.prog law02_InsnAll.H 4 [Value.slice l' l'n l'c] w R = law02_InsnAll.vc l' l'n l'c w R := by kernel_rfl
theorem law02_InsnAll.calls {l' : Option Addr} {l'n : Nat} {l'c : Nat} {w : World} {R : Ending → World → Prop} (h : law02_InsnAll.vc l' l'n l'c w R) : Calls Try.prog 4 ([Value.slice l' l'n l'c] : List Value).toArray w R := calls_of_eq (law02_InsnAll.vc_eq l' l'n l'c w R) h

end Go.Proofs.Ytgdbgbphbkefcaa
