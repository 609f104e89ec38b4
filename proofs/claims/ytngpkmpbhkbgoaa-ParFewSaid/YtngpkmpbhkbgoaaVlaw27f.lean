/-
The explicit conditions of some functions of the program, printed by this repo's own program over VcTop: what is proved is that each is the condition.
Conditions: none.
-/
import Derived.Test.YtngpkmpbhkbgoaaVcTop
import Derived.Test.YtngpkmpbhkbgoaaProg
namespace Go.Proofs.Ytngpkmpbhkbgoaa
open Go Go.Vc Go.RowKit
set_option linter.unusedVariables false
set_option maxRecDepth 100000

/- function 15: sacristy/sacristylaw27.ring -/
abbrev law27_ring.N : FuncId := 15
def law27_ring.H : Hints := { loops := [(4, [(5, .one (.int .i64)), (6, .one (.int .i64))]), (8, [(7, .one (.int .i64)), (8, .one (.int .i64))])] }
def law27_ring.vc (l' : Option Addr) (l'n : Nat) (l'c : Nat) (k' : Int) (w : World) (R : Ending → World → Prop) : Prop :=
  ∃ (I : List Value → World → Prop),
  ∃ (μ : List Value → World → Nat),
  I [Value.int IntKind.i64 k', Value.int IntKind.i64 0] w ∧
  ∀ (g : Nat → Value) («at» n : Int) (w' : World),
  I [Value.int IntKind.i64 «at», Value.int IntKind.i64 n] w' →
  cnd (decide (n < (↑l'n : Int)))
  (∃ (I_1 : List Value → World → Prop),
  ∃ (μ_1 : List Value → World → Nat),
  I_1 [Value.int IntKind.i64 (-1), Value.int IntKind.i64 0] w' ∧
  ∀ (g : Nat → Value) («from» i : Int) (w'_1 : World),
  I_1 [Value.int IntKind.i64 «from», Value.int IntKind.i64 i] w'_1 →
  cnd (decide (i < (↑l'n : Int)))
  ((0 ≤ i ∧ i < (↑l'n : Int)) ∧
  Deref l' fun (a : Addr) =>
  ∃ (b : Bool),
  ∃ (n : Int),
  (∀ (w' : World),
  Later w'_1 w' →
  w'.cell? (a.add (i.toNat * 4)) = some (Value.bool b) ∧
  w'.cell? ((a.add (i.toNat * 4)).add 1) = some (Value.int IntKind.i64 n) ∧
  True) ∧
  (0 ≤ i ∧ i < (↑l'n : Int)) ∧
  Deref l' fun (a : Addr) =>
  ∃ (b_1 : Bool),
  ∃ (n_1 : Int),
  (∀ (w' : World),
  Later w'_1 w' →
  w'.cell? ((a.add (i.toNat * 4)).add 2) = some (Value.bool b_1) ∧
  w'.cell? (((a.add (i.toNat * 4)).add 2).add 1) =
  some (Value.int IntKind.i64 n_1) ∧
  True) ∧
  ∃ (b_2 : Bool),
  EqRuns Proofs.Try.prog BinOp.neq 24 (Operand.tmp 26) (Operand.tmp 31)
  (Value.agg #[Value.bool b, Value.int IntKind.i64 n])
  (Value.agg #[Value.bool b_1, Value.int IntKind.i64 n_1]) b_2 ∧
  cnd b_2
  ((0 ≤ i ∧ i < (↑l'n : Int)) ∧
  Deref l' fun (a : Addr) =>
  ∃ (b : Bool),
  ∃ (n : Int),
  (∀ (w' : World),
  Later w'_1 w' →
  w'.cell? ((a.add (i.toNat * 4)).add 2) =
  some (Value.bool b) ∧
  w'.cell? (((a.add (i.toNat * 4)).add 2).add 1) =
  some (Value.int IntKind.i64 n) ∧
  True) ∧
  (0 ≤ «at» ∧ «at» < (↑l'n : Int)) ∧
  Deref l' fun (a : Addr) =>
  ∃ (b_3 : Bool),
  ∃ (n_2 : Int),
  (∀ (w' : World),
  Later w'_1 w' →
  w'.cell? (a.add («at».toNat * 4)) =
  some (Value.bool b_3) ∧
  w'.cell? ((a.add («at».toNat * 4)).add 1) =
  some (Value.int IntKind.i64 n_2) ∧
  True) ∧
  ∃ (b_4 : Bool),
  EqRuns Proofs.Try.prog BinOp.eql 24
  (Operand.tmp 38) (Operand.tmp 43)
  (Value.agg
  #[Value.bool b, Value.int IntKind.i64 n])
  (Value.agg
  #[Value.bool b_3,
  Value.int IntKind.i64 n_2])
  b_4 ∧
  ∀ (w' : World),
  Later w'_1 w' →
  cnd b_4
  (Goes I_1 μ_1
  [Value.int IntKind.i64 «from»,
  Value.int IntKind.i64 i]
  w'_1
  [Value.int IntKind.i64 i,
  Value.int IntKind.i64
  (IntKind.i64.wrap (i + 1))]
  w')
  (Goes I_1 μ_1
  [Value.int IntKind.i64 «from»,
  Value.int IntKind.i64 i]
  w'_1
  [Value.int IntKind.i64 «from»,
  Value.int IntKind.i64
  (IntKind.i64.wrap (i + 1))]
  w'))
  (∀ (w' : World),
  Later w'_1 w' →
  Goes I_1 μ_1
  [Value.int IntKind.i64 «from», Value.int IntKind.i64 i] w'_1
  [Value.int IntKind.i64 «from»,
  Value.int IntKind.i64 (IntKind.i64.wrap (i + 1))]
  w'))
  (cnd (decide («from» < 0)) (R (Ending.returned (Value.bool false)) w'_1)
  (cnd (decide («from» < k')) (R (Ending.returned (Value.bool false)) w'_1)
  (cnd («from» == k') (R (Ending.returned (Value.bool true)) w'_1)
  (Goes I μ [Value.int IntKind.i64 «at», Value.int IntKind.i64 n] w'
  [Value.int IntKind.i64 «from», Value.int IntKind.i64 (IntKind.i64.wrap (n + 1))]
  w'_1)))))
  (R (Ending.returned (Value.bool false)) w')
theorem law27_ring.vc_eq (l' : Option Addr) (l'n : Nat) (l'c : Nat) (k' : Int) (w : World) (R : Ending → World → Prop) : fnV Try.prog law27_ring.H 15 [Value.slice l' l'n l'c, Value.int IntKind.i64 k'] w R = law27_ring.vc l' l'n l'c k' w R := by kernel_rfl
theorem law27_ring.calls {l' : Option Addr} {l'n : Nat} {l'c : Nat} {k' : Int} {w : World} {R : Ending → World → Prop} (h : law27_ring.vc l' l'n l'c k' w R) : Calls Try.prog 15 ([Value.slice l' l'n l'c, Value.int IntKind.i64 k'] : List Value).toArray w R := calls_of_eq (law27_ring.vc_eq l' l'n l'c k' w R) h

/- function 5: sacristy/sacristylaw27.ParFew -/
abbrev law27_ParFew.N : FuncId := 5
def law27_ParFew.H : Hints := { loops := [(10, [(9, .one (.int .i64)), (10, .one (.int .i64)), (11, .one (.int .i64))])] }
def law27_ParFew.vc (l' : Option Addr) (l'n : Nat) (l'c : Nat) (spare'_0 : Bool) (spare'_1 : Int) (w : World) (R : Ending → World → Prop) : Prop :=
  ∀ (w' : World),
  w' = w.alloc (Obj.cells #[Value.bool spare'_0, Value.int IntKind.i64 spare'_1] 24) →
  cnd (decide ((↑l'n : Int) > 60))
  (Calls Proofs.Try.prog 6 #[] w' fun (e : Ending) (w' : World) =>
  ∃ (b : Bool), e = Ending.returned (Value.bool b) ∧ R (Ending.returned (Value.bool b)) w')
  (∃ (b : Bool),
  ∃ (n : Int),
  (w'.cell? (Addr.mk w.heap.size 0 none) = some (Value.bool b) ∧
  w'.cell? (Addr.mk w.heap.size 1 none) = some (Value.int IntKind.i64 n) ∧ True) ∧
  Calls Proofs.Try.prog 7 #[Value.slice l' l'n l'c, Value.agg #[Value.bool b, Value.int IntKind.i64 n]] w'
  fun (e : Ending) (w' : World) =>
  ∃ (p : Option Addr),
  ∃ (n : Nat),
  ∃ (c : Nat),
  ∃ (n_1 : Int),
  e = Ending.returned (Value.tuple #[Value.slice p n c, Value.int IntKind.i64 n_1]) ∧
  Calls Proofs.Try.prog 10 #[Value.slice l' l'n l'c] w' fun (e : Ending) (w' : World) =>
  ∃ (n_2 : Int),
  ∃ (n_3 : Int),
  e =
  Ending.returned
  (Value.tuple #[Value.int IntKind.i64 n_2, Value.int IntKind.i64 n_3]) ∧
  cnd (n_1 != 0)
  (Calls Proofs.Try.prog 6 #[] w' fun (e : Ending) (w' : World) =>
  ∃ (b : Bool),
  e = Ending.returned (Value.bool b) ∧ R (Ending.returned (Value.bool b)) w')
  (cnd (n_3 != 0)
  (Calls Proofs.Try.prog 6 #[] w' fun (e : Ending) (w' : World) =>
  ∃ (b : Bool),
  e = Ending.returned (Value.bool b) ∧ R (Ending.returned (Value.bool b)) w')
  (∃ (I : List Value → World → Prop),
  ∃ (μ : List Value → World → Nat),
  I [Value.int IntKind.i64 0, Value.int IntKind.i64 0, Value.int IntKind.i64 0]
  w' ∧
  ∀ (g : Nat → Value) (moves count i : Int) (w' : World),
  I
  [Value.int IntKind.i64 moves, Value.int IntKind.i64 count,
  Value.int IntKind.i64 i]
  w' →
  cnd (decide (i < (↑l'n : Int)))
  ((0 ≤ i ∧ i < (↑l'n : Int)) ∧
  Deref l' fun (a : Addr) =>
  ∃ (b : Bool),
  ∃ (n : Int),
  (∀ (w'_1 : World),
  Later w' w'_1 →
  w'_1.cell? (a.add (i.toNat * 4)) = some (Value.bool b) ∧
  w'_1.cell? ((a.add (i.toNat * 4)).add 1) =
  some (Value.int IntKind.i64 n) ∧
  True) ∧
  (0 ≤ i ∧ i < (↑l'n : Int)) ∧
  Deref l' fun (a : Addr) =>
  ∃ (b_1 : Bool),
  ∃ (n_4 : Int),
  (∀ (w'_1 : World),
  Later w' w'_1 →
  w'_1.cell? ((a.add (i.toNat * 4)).add 2) =
  some (Value.bool b_1) ∧
  w'_1.cell?
  (((a.add (i.toNat * 4)).add 2).add 1) =
  some (Value.int IntKind.i64 n_4) ∧
  True) ∧
  ∃ (b_2 : Bool),
  EqRuns Proofs.Try.prog BinOp.eql 24
  (Operand.tmp 44) (Operand.tmp 49)
  (Value.agg
  #[Value.bool b, Value.int IntKind.i64 n])
  (Value.agg
  #[Value.bool b_1,
  Value.int IntKind.i64 n_4])
  b_2 ∧
  ∀ (w'_1 : World),
  Later w' w'_1 →
  cnd b_2
  (Goes I μ
  [Value.int IntKind.i64 moves,
  Value.int IntKind.i64 count,
  Value.int IntKind.i64 i]
  w'
  [Value.int IntKind.i64 moves,
  Value.int IntKind.i64 count,
  Value.int IntKind.i64
  (IntKind.i64.wrap (i + 1))]
  w'_1)
  (Calls Proofs.Try.prog 15
  #[Value.slice l' l'n l'c,
  Value.int IntKind.i64 i]
  w'_1 fun (e : Ending) (w'_2 : World) =>
  ∃ (b : Bool),
  e = Ending.returned (Value.bool b) ∧
  cnd b
  (Goes I μ
  [Value.int IntKind.i64 moves,
  Value.int IntKind.i64 count,
  Value.int IntKind.i64 i]
  w'
  [Value.int IntKind.i64
  (IntKind.i64.wrap
  (moves + 1)),
  Value.int IntKind.i64
  (IntKind.i64.wrap
  (count + 1)),
  Value.int IntKind.i64
  (IntKind.i64.wrap (i + 1))]
  w'_2)
  (Goes I μ
  [Value.int IntKind.i64 moves,
  Value.int IntKind.i64 count,
  Value.int IntKind.i64 i]
  w'
  [Value.int IntKind.i64
  (IntKind.i64.wrap
  (moves + 1)),
  Value.int IntKind.i64 count,
  Value.int IntKind.i64
  (IntKind.i64.wrap (i + 1))]
  w'_2)))
  (cnd (n_2 == count)
  (cnd ((↑n : Int) == IntKind.i64.wrap (moves + count))
  (Calls Proofs.Try.prog 6 #[] w' fun (e : Ending) (w' : World) =>
  ∃ (b : Bool),
  e = Ending.returned (Value.bool b) ∧
  R (Ending.returned (Value.bool b)) w')
  (R (Ending.returned (Value.bool false)) w'))
  (R (Ending.returned (Value.bool false)) w')))))
theorem law27_ParFew.vc_eq (l' : Option Addr) (l'n : Nat) (l'c : Nat) (spare'_0 : Bool) (spare'_1 : Int) (w : World) (R : Ending → World → Prop) : fnV Try.prog law27_ParFew.H 5 [Value.slice l' l'n l'c, Value.agg #[Value.bool spare'_0, Value.int IntKind.i64 spare'_1]] w R = law27_ParFew.vc l' l'n l'c spare'_0 spare'_1 w R := by kernel_rfl
theorem law27_ParFew.calls {l' : Option Addr} {l'n : Nat} {l'c : Nat} {spare'_0 : Bool} {spare'_1 : Int} {w : World} {R : Ending → World → Prop} (h : law27_ParFew.vc l' l'n l'c spare'_0 spare'_1 w R) : Calls Try.prog 5 ([Value.slice l' l'n l'c, Value.agg #[Value.bool spare'_0, Value.int IntKind.i64 spare'_1]] : List Value).toArray w R := calls_of_eq (law27_ParFew.vc_eq l' l'n l'c spare'_0 spare'_1 w R) h

end Go.Proofs.Ytngpkmpbhkbgoaa
