/-
The explicit conditions of some functions of the program, printed by this repo's own program over VcTop: what is proved is that each is the condition.
Conditions: none.
-/
import Derived.Test.YtngpkmpbhkbgoaaVcTop
import Derived.Test.YtngpkmpbhkbgoaaProg
namespace Go.Proofs.Ytngpkmpbhkbgoaa
open Go Go.Vc Go.RowKit
set_option linter.unusedVariables false
set_option maxRecDepth 100000

/- function 4: sacristy/sacristylaw27.ParAtOnce -/
abbrev law27_ParAtOnce.N : FuncId := 4
def law27_ParAtOnce.H : Hints := { loops := [(11, [(7, .one .slice), (8, .one (.int .i64))]), (15, [(9, .one (.int .i64))]), (20, [(10, .one (.int .i64))]), (24, [(11, .one .bool), (12, .one (.int .i64))])], mixes := [(12, 1000)] }
def law27_ParAtOnce.vc (l' : Option Addr) (l'n : Nat) (l'c : Nat) (spare'_0 : Bool) (spare'_1 : Int) (w : World) (R : Ending → World → Prop) : Prop :=
  ∀ (w' : World),
  w' = w.alloc (Obj.cells #[Value.bool spare'_0, Value.int IntKind.i64 spare'_1] 24) →
  cnd (decide ((↑l'n : Int) > 100))
  (Calls Proofs.Try.prog 6 #[] w' fun (e : Ending) (w' : World) =>
  ∃ (b : Bool), e = Ending.returned (Value.bool b) ∧ R (Ending.returned (Value.bool b)) w')
  (∃ (b : Bool),
  ∃ (n : Int),
  (w'.cell? (Addr.mk w.heap.size 0 none) = some (Value.bool b) ∧
  w'.cell? (Addr.mk w.heap.size 1 none) = some (Value.int IntKind.i64 n) ∧ True) ∧
  Calls Proofs.Try.prog 7 #[Value.slice l' l'n l'c, Value.agg #[Value.bool b, Value.int IntKind.i64 n]] w'
  fun (e : Ending) (w' : World) =>
  ∃ (p : Option Addr),
  ∃ (n : Nat),
  ∃ (c : Nat),
  ∃ (n_1 : Int),
  e = Ending.returned (Value.tuple #[Value.slice p n c, Value.int IntKind.i64 n_1]) ∧
  cnd (n_1 != 0)
  (cnd ((↑n : Int) == 0)
  (cnd (n_1 == 2)
  (Calls Proofs.Try.prog 11 #[Value.slice l' l'n l'c] w' fun (e : Ending) (w' : World) =>
  ∃ (b : Bool),
  e = Ending.returned (Value.bool b) ∧
  cnd (!b)
  (Calls Proofs.Try.prog 6 #[] w' fun (e : Ending) (w' : World) =>
  ∃ (b : Bool),
  e = Ending.returned (Value.bool b) ∧ R (Ending.returned (Value.bool b)) w')
  (∃ (b : Bool),
  ∃ (n : Int),
  (w'.cell? (Addr.mk w.heap.size 0 none) = some (Value.bool b) ∧
  w'.cell? (Addr.mk w.heap.size 1 none) = some (Value.int IntKind.i64 n) ∧
  True) ∧
  Calls Proofs.Try.prog 12
  #[Value.slice l' l'n l'c,
  Value.agg #[Value.bool b, Value.int IntKind.i64 n]]
  w' fun (e : Ending) (w' : World) =>
  ∃ (b : Bool),
  e = Ending.returned (Value.bool b) ∧
  cnd (!b)
  (Calls Proofs.Try.prog 6 #[] w' fun (e : Ending) (w' : World) =>
  ∃ (b : Bool),
  e = Ending.returned (Value.bool b) ∧
  R (Ending.returned (Value.bool b)) w')
  (R (Ending.returned (Value.bool false)) w')))
  (R (Ending.returned (Value.bool false)) w'))
  (R (Ending.returned (Value.bool false)) w'))
  (cnd (decide ((↑n : Int) > IntKind.i64.wrap (2 * (↑l'n : Int))))
  (R (Ending.returned (Value.bool false)) w')
  (∃ (I : List Value → World → Prop),
  ∃ (μ : List Value → World → Nat),
  I [Value.slice none 0 0, Value.int IntKind.i64 0] w' ∧
  ∀ (g : Nat → Value) (now : Option Addr) (nown nowc : Nat) (i : Int) (w' : World),
  I [Value.slice now nown nowc, Value.int IntKind.i64 i] w' →
  cnd (decide (i < (↑n : Int)))
  (∀ (w'_1 : World),
  Later w' w'_1 →
  (0 ≤ i ∧ i < (↑n : Int)) ∧
  Deref p fun (a : Addr) =>
  ∃ (b : Bool),
  ∃ (n_2 : Int),
  (∀ (w'_2 : World),
  Later w' w'_2 →
  w'_2.cell? ((a.add (i.toNat * 4)).add 2) =
  some (Value.bool b) ∧
  w'_2.cell? (((a.add (i.toNat * 4)).add 2).add 1) =
  some (Value.int IntKind.i64 n_2) ∧
  True) ∧
  (0 ≤ i ∧ i < (↑n : Int)) ∧
  Deref p fun (a : Addr) =>
  ∃ (b_1 : Bool),
  ∃ (n : Int),
  (∀ (w'_2 : World),
  Later w' w'_2 →
  w'_2.cell? (a.add (i.toNat * 4)) =
  some (Value.bool b_1) ∧
  w'_2.cell? ((a.add (i.toNat * 4)).add 1) =
  some (Value.int IntKind.i64 n) ∧
  True) ∧
  Calls Proofs.Try.prog 14
  #[Value.slice now nown nowc,
  Value.agg
  #[Value.bool b_1, Value.int IntKind.i64 n]]
  w'_1 fun (e : Ending) (w'_2 : World) =>
  ∃ (n : Int),
  e = Ending.returned (Value.int IntKind.i64 n) ∧
  Later w' w'_2 ∧
  Calls Proofs.Try.prog 13
  #[Value.slice now nown nowc,
  Value.agg
  #[Value.bool b,
  Value.int IntKind.i64 n_2],
  Value.int IntKind.i64 n]
  w'_2 fun (e : Ending) (w'_3 : World) =>
  ∃ (p : Option Addr),
  ∃ (n : Nat),
  ∃ (c : Nat),
  e =
  Ending.returned
  (Value.slice p n c) ∧
  Later w' w'_3 ∧
  Goes I μ
  [Value.slice now nown nowc,
  Value.int IntKind.i64 i]
  w'
  [Value.slice p n c,
  Value.int IntKind.i64
  (IntKind.i64.wrap (i + 1))]
  w'_3)
  (∃ (I : List Value → World → Prop),
  ∃ (μ : List Value → World → Nat),
  I [Value.int IntKind.i64 0] w' ∧
  ∀ (g : Nat → Value) (i : Int) (w' : World),
  I [Value.int IntKind.i64 i] w' →
  cnd (decide (i < (↑l'n : Int)))
  ((0 ≤ i ∧ i < (↑l'n : Int)) ∧
  Deref l' fun (a : Addr) =>
  ∃ (b : Bool),
  ∃ (n : Int),
  (∀ (w'_1 : World),
  Later w' w'_1 →
  w'_1.cell? ((a.add (i.toNat * 4)).add 2) =
  some (Value.bool b) ∧
  w'_1.cell? (((a.add (i.toNat * 4)).add 2).add 1) =
  some (Value.int IntKind.i64 n) ∧
  True) ∧
  ∃ (n_2 : Int),
  (∀ (w'_1 : World),
  Later w' w'_1 →
  Calls Proofs.Try.prog 14
  #[Value.slice now nown nowc,
  Value.agg
  #[Value.bool b, Value.int IntKind.i64 n]]
  w'_1 fun (e : Ending) (w'' : World) =>
  e =
  Ending.returned
  (Value.int IntKind.i64 n_2) ∧
  Later w'_1 w'') ∧
  (0 ≤ i ∧ i < (↑l'n : Int)) ∧
  Deref l' fun (a : Addr) =>
  ∃ (b : Bool),
  ∃ (n : Int),
  (∀ (w'_1 : World),
  Later w' w'_1 →
  w'_1.cell? (a.add (i.toNat * 4)) =
  some (Value.bool b) ∧
  w'_1.cell?
  ((a.add (i.toNat * 4)).add 1) =
  some (Value.int IntKind.i64 n) ∧
  True) ∧
  ∃ (n_3 : Int),
  (∀ (w'_1 : World),
  Later w' w'_1 →
  Calls Proofs.Try.prog 14
  #[Value.slice none 0 0,
  Value.agg
  #[Value.bool b,
  Value.int IntKind.i64 n]]
  w'_1
  fun (e : Ending) (w'' : World) =>
  e =
  Ending.returned
  (Value.int IntKind.i64
  n_3) ∧
  Later w'_1 w'') ∧
  ∀ (w'_1 : World),
  Later w' w'_1 →
  cnd (n_2 != n_3)
  (R
  (Ending.returned
  (Value.bool false))
  w'_1)
  (Goes I μ
  [Value.int IntKind.i64 i] w'
  [Value.int IntKind.i64
  (IntKind.i64.wrap (i + 1))]
  w'_1))
  (∃ (I : List Value → World → Prop),
  ∃ (μ : List Value → World → Nat),
  I [Value.int IntKind.i64 0] w' ∧
  ∀ (g : Nat → Value) (i : Int) (w' : World),
  I [Value.int IntKind.i64 i] w' →
  cnd (decide (i < (↑nown : Int)))
  ((0 ≤ i ∧ i < (↑nown : Int)) ∧
  Deref now fun (a : Addr) =>
  ∃ (b : Bool),
  ∃ (n : Int),
  (∀ (w'_1 : World),
  Later w' w'_1 →
  w'_1.cell? (a.add (i.toNat * 3)) =
  some (Value.bool b) ∧
  w'_1.cell?
  ((a.add (i.toNat * 3)).add 1) =
  some (Value.int IntKind.i64 n) ∧
  True) ∧
  ∃ (b_1 : Bool),
  ∃ (n_2 : Int),
  (∀ (w'_1 : World),
  Later w' w'_1 →
  w'_1.cell?
  (Addr.mk w.heap.size 0 none) =
  some (Value.bool b_1) ∧
  w'_1.cell?
  (Addr.mk w.heap.size 1
  none) =
  some
  (Value.int IntKind.i64
  n_2) ∧
  True) ∧
  ∃ (b_2 : Bool),
  EqRuns Proofs.Try.prog BinOp.eql 24
  (Operand.tmp 102)
  (Operand.tmp 103)
  (Value.agg
  #[Value.bool b,
  Value.int IntKind.i64 n])
  (Value.agg
  #[Value.bool b_1,
  Value.int IntKind.i64 n_2])
  b_2 ∧
  ∀ (w'_1 : World),
  Later w' w'_1 →
  ∃ (I_1 :
  List Value → World → Prop),
  ∃ (μ_1 :
  List Value → World → Nat),
  I_1
  [Value.bool b_2,
  Value.int IntKind.i64
  0]
  w'_1 ∧
  ∀ (g : Nat → Value)
  (to : Bool) (k : Int)
  (w'_2 : World),
  I_1
  [Value.bool to,
  Value.int
  IntKind.i64 k]
  w'_2 →
  cnd
  (decide
  (k <
  (↑l'n : Int)))
  (cnd to
  (∀ (w' : World),
  Later w'_2 w' →
  Goes I_1 μ_1
  [Value.bool
  to,
  Value.int
  IntKind.i64
  k]
  w'_2
  [Value.bool
  true,
  Value.int
  IntKind.i64
  (IntKind.i64.wrap
  (k +
  1))]
  w')
  ((0 ≤ k ∧
  k <
  (↑l'n :
  Int)) ∧
  Deref l'
  fun
  (a :
  Addr) =>
  ∃ (b : Bool),
  ∃ (n : Int),
  (∀
  (w' :
  World),
  Later
  w'_2
  w' →
  w'.cell?
  ((a.add
  (k.toNat *
  4)).add
  2) =
  some
  (Value.bool
  b) ∧
  w'.cell?
  (((a.add
  (k.toNat *
  4)).add
  2).add
  1) =
  some
  (Value.int
  IntKind.i64
  n) ∧
  True) ∧
  (0 ≤ i ∧
  i <
  (↑nown :
  Int)) ∧
  Deref
  now
  fun
  (a :
  Addr) =>
  ∃
  (b_3
  :
  Bool),
  ∃
  (n_3
  :
  Int),
  (∀
  (w' :
  World),
  Later
  w'_2
  w' →
  w'.cell?
  (a.add
  (i.toNat *
  3)) =
  some
  (Value.bool
  b_3) ∧
  w'.cell?
  ((a.add
  (i.toNat *
  3)).add
  1) =
  some
  (Value.int
  IntKind.i64
  n_3) ∧
  True) ∧
  ∃
  (b_4
  :
  Bool),
  EqRuns
  Proofs.Try.prog
  BinOp.eql
  24
  (Operand.tmp
  117)
  (Operand.tmp
  122)
  (Value.agg
  #[Value.bool
  b,
  Value.int
  IntKind.i64
  n])
  (Value.agg
  #[Value.bool
  b_3,
  Value.int
  IntKind.i64
  n_3])
  b_4 ∧
  ∀
  (w' :
  World),
  Later
  w'_2
  w' →
  Goes
  I_1
  μ_1
  [Value.bool
  to,
  Value.int
  IntKind.i64
  k]
  w'_2
  [Value.bool
  b_4,
  Value.int
  IntKind.i64
  (IntKind.i64.wrap
  (k +
  1))]
  w'))
  (cnd (!to)
  (R
  (Ending.returned
  (Value.bool
  false))
  w'_2)
  (Goes I μ
  [Value.int
  IntKind.i64
  i]
  w'
  [Value.int
  IntKind.i64
  (IntKind.i64.wrap
  (i + 1))]
  w'_2)))
  (Calls Proofs.Try.prog 6 #[] w'
  fun (e : Ending) (w' : World) =>
  ∃ (b : Bool),
  e = Ending.returned (Value.bool b) ∧
  R (Ending.returned (Value.bool b)) w'))))))
theorem law27_ParAtOnce.vc_eq (l' : Option Addr) (l'n : Nat) (l'c : Nat) (spare'_0 : Bool) (spare'_1 : Int) (w : World) (R : Ending → World → Prop) : fnV Try.prog law27_ParAtOnce.H 4 [Value.slice l' l'n l'c, Value.agg #[Value.bool spare'_0, Value.int IntKind.i64 spare'_1]] w R = law27_ParAtOnce.vc l' l'n l'c spare'_0 spare'_1 w R := by kernel_rfl
theorem law27_ParAtOnce.calls {l' : Option Addr} {l'n : Nat} {l'c : Nat} {spare'_0 : Bool} {spare'_1 : Int} {w : World} {R : Ending → World → Prop} (h : law27_ParAtOnce.vc l' l'n l'c spare'_0 spare'_1 w R) : Calls Try.prog 4 ([Value.slice l' l'n l'c, Value.agg #[Value.bool spare'_0, Value.int IntKind.i64 spare'_1]] : List Value).toArray w R := calls_of_eq (law27_ParAtOnce.vc_eq l' l'n l'c spare'_0 spare'_1 w R) h

end Go.Proofs.Ytngpkmpbhkbgoaa
