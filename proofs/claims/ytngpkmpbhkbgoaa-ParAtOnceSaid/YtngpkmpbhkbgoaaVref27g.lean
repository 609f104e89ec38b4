/-
The explicit conditions of some functions of the program, printed by this repo's own program over VcTop: what is proved is that each is the condition.
Conditions: none.
-/
import Derived.Test.YtngpkmpbhkbgoaaVcTop
import Derived.Test.YtngpkmpbhkbgoaaProg
namespace Go.Proofs.Ytngpkmpbhkbgoaa
open Go Go.Vc Go.RowKit
set_option linter.unusedVariables false
set_option maxRecDepth 100000

/- function 14: sacristy/sacristyref27.Get -/
abbrev ref27_Get.N : FuncId := 14
def ref27_Get.H : Hints := { loops := [(3, [(5, .one (.int .i64))])] }
def ref27_Get.vc (l' : Option Addr) (l'n : Nat) (l'c : Nat) (p'_0 : Bool) (p'_1 : Int) (w : World) (R : Ending → World → Prop) : Prop :=
  ∀ (w' : World),
  w' = w.alloc (Obj.cells #[Value.bool p'_0, Value.int IntKind.i64 p'_1] 24) →
  ∃ (I : List Value → World → Prop),
  ∃ (μ : List Value → World → Nat),
  I [Value.int IntKind.i64 0] w' ∧
  ∀ (g : Nat → Value) (i : Int) (w' : World),
  I [Value.int IntKind.i64 i] w' →
  cnd (decide (i < (↑l'n : Int)))
  ((0 ≤ i ∧ i < (↑l'n : Int)) ∧
  Deref l' fun (a : Addr) =>
  ∃ (b : Bool),
  ∃ (n : Int),
  (∀ (w'_1 : World),
  Later w' w'_1 →
  w'_1.cell? (a.add (i.toNat * 3)) = some (Value.bool b) ∧
  w'_1.cell? ((a.add (i.toNat * 3)).add 1) = some (Value.int IntKind.i64 n) ∧ True) ∧
  ∃ (b_1 : Bool),
  ∃ (n_1 : Int),
  (∀ (w'_1 : World),
  Later w' w'_1 →
  w'_1.cell? (Addr.mk w.heap.size 0 none) = some (Value.bool b_1) ∧
  w'_1.cell? (Addr.mk w.heap.size 1 none) = some (Value.int IntKind.i64 n_1) ∧
  True) ∧
  ∃ (b_2 : Bool),
  EqRuns Proofs.Try.prog BinOp.eql 24 (Operand.tmp 17) (Operand.tmp 18)
  (Value.agg #[Value.bool b, Value.int IntKind.i64 n])
  (Value.agg #[Value.bool b_1, Value.int IntKind.i64 n_1]) b_2 ∧
  ∀ (w'_1 : World),
  Later w' w'_1 →
  cnd b_2
  ((0 ≤ i ∧ i < (↑l'n : Int)) ∧
  Deref l' fun (a : Addr) =>
  ∃ (n : Int),
  w'_1.cell? ((a.add (i.toNat * 3)).add 2) =
  some (Value.int IntKind.i64 n) ∧
  R (Ending.returned (Value.int IntKind.i64 n)) w'_1)
  (Goes I μ [Value.int IntKind.i64 i] w'
  [Value.int IntKind.i64 (IntKind.i64.wrap (i + 1))] w'_1))
  (∃ (n : Int),
  w'.cell? (Addr.mk w.heap.size 1 none) = some (Value.int IntKind.i64 n) ∧
  ∃ (b : Bool),
  w'.cell? (Addr.mk w.heap.size 0 none) = some (Value.bool b) ∧
  cnd b
  (R (Ending.returned (Value.int IntKind.i64 (IntKind.i64.wrap (IntKind.i64.wrap (2 * n) + 1))))
  w')
  (R (Ending.returned (Value.int IntKind.i64 (IntKind.i64.wrap (2 * n)))) w'))
theorem ref27_Get.vc_eq (l' : Option Addr) (l'n : Nat) (l'c : Nat) (p'_0 : Bool) (p'_1 : Int) (w : World) (R : Ending → World → Prop) : fnV Try.prog ref27_Get.H 14 [Value.slice l' l'n l'c, Value.agg #[Value.bool p'_0, Value.int IntKind.i64 p'_1]] w R = ref27_Get.vc l' l'n l'c p'_0 p'_1 w R := by kernel_rfl
theorem ref27_Get.calls {l' : Option Addr} {l'n : Nat} {l'c : Nat} {p'_0 : Bool} {p'_1 : Int} {w : World} {R : Ending → World → Prop} (h : ref27_Get.vc l' l'n l'c p'_0 p'_1 w R) : Calls Try.prog 14 ([Value.slice l' l'n l'c, Value.agg #[Value.bool p'_0, Value.int IntKind.i64 p'_1]] : List Value).toArray w R := calls_of_eq (ref27_Get.vc_eq l' l'n l'c p'_0 p'_1 w R) h

/- function 13: sacristy/sacristyref27.Set -/
abbrev ref27_Set.N : FuncId := 13
def ref27_Set.H : Hints := { loops := [(4, [(7, .one .slice), (8, .one (.int .i64))])] }
def ref27_Set.vc (l' : Option Addr) (l'n : Nat) (l'c : Nat) (p'_0 : Bool) (p'_1 : Int) (v' : Int) (w : World) (R : Ending → World → Prop) : Prop :=
  ∀ (w' : World),
  w' = w.alloc (Obj.cells #[Value.bool p'_0, Value.int IntKind.i64 p'_1] 24) →
  ∃ (I : List Value → World → Prop),
  ∃ (μ : List Value → World → Nat),
  I [Value.slice none 0 0, Value.int IntKind.i64 0] w' ∧
  ∀ (g : Nat → Value) (out : Option Addr) (outn outc : Nat) (i : Int) (w' : World),
  I [Value.slice out outn outc, Value.int IntKind.i64 i] w' →
  cnd (decide (i < (↑l'n : Int)))
  ((0 ≤ i ∧ i < (↑l'n : Int)) ∧
  Deref l' fun (a : Addr) =>
  ∃ (b : Bool),
  ∃ (n : Int),
  (∀ (w'_1 : World),
  Later w' w'_1 →
  w'_1.cell? (a.add (i.toNat * 3)) = some (Value.bool b) ∧
  w'_1.cell? ((a.add (i.toNat * 3)).add 1) = some (Value.int IntKind.i64 n) ∧ True) ∧
  ∃ (b_1 : Bool),
  ∃ (n_1 : Int),
  (∀ (w'_1 : World),
  Later w' w'_1 →
  w'_1.cell? (Addr.mk w.heap.size 0 none) = some (Value.bool b_1) ∧
  w'_1.cell? (Addr.mk w.heap.size 1 none) = some (Value.int IntKind.i64 n_1) ∧
  True) ∧
  ∃ (b_2 : Bool),
  EqRuns Proofs.Try.prog BinOp.neq 24 (Operand.tmp 19) (Operand.tmp 20)
  (Value.agg #[Value.bool b, Value.int IntKind.i64 n])
  (Value.agg #[Value.bool b_1, Value.int IntKind.i64 n_1]) b_2 ∧
  ∀ (w'_1 : World),
  Later w' w'_1 →
  cnd b_2
  ((0 ≤ i ∧ i < (↑l'n : Int)) ∧
  Deref l' fun (a : Addr) =>
  ∃ (b : Bool),
  ∃ (n : Int),
  ∃ (n_2 : Int),
  (w'_1.cell? (a.add (i.toNat * 3)) = some (Value.bool b) ∧
  w'_1.cell? ((a.add (i.toNat * 3)).add 1) =
  some (Value.int IntKind.i64 n) ∧
  w'_1.cell? ((a.add (i.toNat * 3)).add 2) =
  some (Value.int IntKind.i64 n_2) ∧
  True) ∧
  ∀ (w'_2 : World),
  w'_2 =
  w'_1.alloc
  (Obj.cells
  #[Value.bool b, Value.int IntKind.i64 n,
  Value.int IntKind.i64 n_2]
  42) →
  RunsV Proofs.Try.prog
  (Builtin.append_ #[36, 36] 36
  #[Value.slice out outn outc,
  Value.slice (some (Addr.mk w'_1.heap.size 0 none)) 1 1])
  w'_2 fun (v : Value) (w'_3 : World) =>
  ∃ (p : Option Addr),
  ∃ (n : Nat),
  ∃ (c : Nat),
  v = Value.slice p n c ∧
  Goes I μ
  [Value.slice out outn outc,
  Value.int IntKind.i64 i]
  w'
  [Value.slice p n c,
  Value.int IntKind.i64
  (IntKind.i64.wrap (i + 1))]
  w'_3)
  (Goes I μ [Value.slice out outn outc, Value.int IntKind.i64 i] w'
  [Value.slice out outn outc,
  Value.int IntKind.i64 (IntKind.i64.wrap (i + 1))]
  w'_1))
  (∃ (b : Bool),
  ∃ (n : Int),
  (w'.cell? (Addr.mk w.heap.size 0 none) = some (Value.bool b) ∧
  w'.cell? (Addr.mk w.heap.size 1 none) = some (Value.int IntKind.i64 n) ∧ True) ∧
  ∀ (w'_1 : World),
  w'_1 =
  w'.alloc (Obj.cells #[Value.bool b, Value.int IntKind.i64 n, Value.int IntKind.i64 v'] 42) →
  RunsV Proofs.Try.prog
  (Builtin.append_ #[36, 36] 36
  #[Value.slice out outn outc, Value.slice (some (Addr.mk w'.heap.size 0 none)) 1 1])
  w'_1 fun (v : Value) (w' : World) =>
  ∃ (p : Option Addr),
  ∃ (n : Nat),
  ∃ (c : Nat), v = Value.slice p n c ∧ R (Ending.returned (Value.slice p n c)) w')
theorem ref27_Set.vc_eq (l' : Option Addr) (l'n : Nat) (l'c : Nat) (p'_0 : Bool) (p'_1 : Int) (v' : Int) (w : World) (R : Ending → World → Prop) : fnV Try.prog ref27_Set.H 13 [Value.slice l' l'n l'c, Value.agg #[Value.bool p'_0, Value.int IntKind.i64 p'_1], Value.int IntKind.i64 v'] w R = ref27_Set.vc l' l'n l'c p'_0 p'_1 v' w R := by kernel_rfl
theorem ref27_Set.calls {l' : Option Addr} {l'n : Nat} {l'c : Nat} {p'_0 : Bool} {p'_1 : Int} {v' : Int} {w : World} {R : Ending → World → Prop} (h : ref27_Set.vc l' l'n l'c p'_0 p'_1 v' w R) : Calls Try.prog 13 ([Value.slice l' l'n l'c, Value.agg #[Value.bool p'_0, Value.int IntKind.i64 p'_1], Value.int IntKind.i64 v'] : List Value).toArray w R := calls_of_eq (ref27_Set.vc_eq l' l'n l'c p'_0 p'_1 v' w R) h

end Go.Proofs.Ytngpkmpbhkbgoaa
