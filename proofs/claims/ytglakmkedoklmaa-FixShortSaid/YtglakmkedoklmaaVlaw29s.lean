/-
The explicit conditions of some functions of the program, printed by this repo's own program over VcTop: what is proved is that each is the condition.
Conditions: none.
-/
import Derived.Test.YtglakmkedoklmaaVcTop
import Derived.Test.YtglakmkedoklmaaProg
namespace Go.Proofs.Ytglakmkedoklmaa
open Go Go.Vc Go.RowKit
set_option linter.unusedVariables false
set_option maxRecDepth 100000

/- function 4: sacristy/sacristylaw29.FixShort -/
abbrev law29_FixShort.N : FuncId := 4
def law29_FixShort.H : Hints := { loops := [(12, [(9, .one (.int .i64))])], conds := [(16059, [(10, .one (.int .i64))])] }
def law29_FixShort.vc (l' : Option Addr) (l'n : Nat) (l'c : Nat) (w : World) (R : Ending → World → Prop) : Prop :=
  Calls Proofs.Try.prog 6 #[Value.slice l' l'n l'c] w fun (e : Ending) (w' : World) =>
  ∃ (b : Bool),
  e = Ending.returned (Value.bool b) ∧
  cnd b
  (Calls Proofs.Try.prog 7 #[] w' fun (e : Ending) (w' : World) =>
  ∃ (b : Bool), e = Ending.returned (Value.bool b) ∧ R (Ending.returned (Value.bool b)) w')
  (Calls Proofs.Try.prog 9 #[Value.slice l' l'n l'c] w' fun (e : Ending) (w' : World) =>
  ∃ (p : Option Addr),
  ∃ (n : Nat),
  ∃ (c : Nat),
  ∃ (n_1 : Int),
  e = Ending.returned (Value.tuple #[Value.slice p n c, Value.int IntKind.i64 n_1]) ∧
  Calls Proofs.Try.prog 13 #[Value.slice l' l'n l'c] w' fun (e : Ending) (w' : World) =>
  ∃ (p_1 : Option Addr),
  ∃ (n_2 : Nat),
  ∃ (c : Nat),
  ∃ (b : Bool),
  e = Ending.returned (Value.tuple #[Value.slice p_1 n_2 c, Value.bool b]) ∧
  Calls Proofs.Try.prog 8 #[Value.slice l' l'n l'c] w' fun (e : Ending) (w' : World) =>
  ∃ (p_2 : Option Addr),
  ∃ (n_3 : Nat),
  ∃ (c : Nat),
  ∃ (n_4 : Int),
  e =
  Ending.returned
  (Value.tuple #[Value.slice p_2 n_3 c, Value.int IntKind.i64 n_4]) ∧
  cnd (n_1 != 0)
  (Calls Proofs.Try.prog 7 #[] w' fun (e : Ending) (w' : World) =>
  ∃ (b : Bool),
  e = Ending.returned (Value.bool b) ∧
  R (Ending.returned (Value.bool b)) w')
  (cnd (n_4 != 0)
  (Calls Proofs.Try.prog 7 #[] w' fun (e : Ending) (w' : World) =>
  ∃ (b : Bool),
  e = Ending.returned (Value.bool b) ∧
  R (Ending.returned (Value.bool b)) w')
  (cnd (!b) (R (Ending.returned (Value.bool false)) w')
  (cnd ((↑n : Int) != (↑l'n : Int))
  (R (Ending.returned (Value.bool false)) w')
  (∃ (I : List Value → World → Prop),
  ∃ (μ : List Value → World → Nat),
  I [Value.int IntKind.i64 0] w' ∧
  ∀ (g : Nat → Value) (i : Int) (w' : World),
  I [Value.int IntKind.i64 i] w' →
  cnd (decide (i < (↑l'n : Int)))
  (∃ (J : List Value → World → Prop),
  cnd (decide (IntKind.i64.wrap (i + 1) < (↑l'n : Int)))
  ((0 ≤ IntKind.i64.wrap (i + 1) ∧
  IntKind.i64.wrap (i + 1) < (↑n : Int)) ∧
  Deref p fun (a : Addr) =>
  ∃ (n : Int),
  w'.cell?
  (a.add
  ((IntKind.i64.wrap (i + 1)).toNat *
  1)) =
  some (Value.int IntKind.i64 n) ∧
  J [Value.int IntKind.i64 n] w')
  (J
  [Value.int IntKind.i64
  (IntKind.i64.wrap (4 * (↑n_3 : Int)))]
  w') ∧
  ∀ (g : Nat → Value) (next : Int) (w'_1 : World),
  J [Value.int IntKind.i64 next] w'_1 →
  (0 ≤ i ∧ i < (↑n_2 : Int)) ∧
  Deref p_1 fun (a : Addr) =>
  ∃ (n_5 : Int),
  w'_1.cell? (a.add (i.toNat * 1)) =
  some (Value.int IntKind.i64 n_5) ∧
  cnd (decide (n_5 < 0))
  (Goes I μ [Value.int IntKind.i64 i] w'
  [Value.int IntKind.i64
  (IntKind.i64.wrap (i + 1))]
  w'_1)
  ((0 ≤ i ∧ i < (↑l'n : Int)) ∧
  Deref l' fun (a : Addr) =>
  ∃ (n_6 : Int),
  w'_1.cell?
  ((a.add (i.toNat * 7)).add
  1) =
  some
  (Value.int IntKind.u8
  n_6) ∧
  cnd (n_6 == 32)
  (Goes I μ
  [Value.int IntKind.i64 i]
  w'
  [Value.int IntKind.i64
  (IntKind.i64.wrap
  (i + 1))]
  w'_1)
  ((0 ≤ i ∧ i < (↑n : Int)) ∧
  Deref p fun (a : Addr) =>
  ∃ (n_7 : Int),
  w'_1.cell?
  (a.add
  (i.toNat *
  1)) =
  some
  (Value.int
  IntKind.i64
  n_7) ∧
  cnd
  (next !=
  IntKind.i64.wrap
  (n_7 + 8))
  (Goes I μ
  [Value.int
  IntKind.i64
  i]
  w'
  [Value.int
  IntKind.i64
  (IntKind.i64.wrap
  (i + 1))]
  w'_1)
  ((0 ≤ i ∧
  i <
  (↑n_2 :
  Int)) ∧
  Deref p_1
  fun
  (a :
  Addr) =>
  ∃ (n_8 : Int),
  (∀
  (w' :
  World),
  Later
  w'_1
  w' →
  w'.cell?
  (a.add
  (i.toNat *
  1)) =
  some
  (Value.int
  IntKind.i64
  n_8)) ∧
  (0 ≤ n_8 ∧
  n_8 <
  (↑n :
  Int)) ∧
  Deref p
  fun
  (a :
  Addr) =>
  ∃ (n_9
  :
  Int),
  (∀
  (w' :
  World),
  Later
  w'_1
  w' →
  w'.cell?
  (a.add
  (n_8.toNat *
  1)) =
  some
  (Value.int
  IntKind.i64
  n_9)) ∧
  (0 ≤
  i ∧
  i <
  (↑n :
  Int)) ∧
  Deref
  p
  fun
  (a :
  Addr) =>
  ∃
  (n
  :
  Int),
  (∀
  (w' :
  World),
  Later
  w'_1
  w' →
  w'.cell?
  (a.add
  (i.toNat *
  1)) =
  some
  (Value.int
  IntKind.i64
  n)) ∧
  ∀
  (w'_2 :
  World),
  Later
  w'_1
  w'_2 →
  cnd
  (decide
  (IntKind.i64.wrap
  (n_9 -
  n) >
  0))
  (cnd
  (decide
  (IntKind.i64.wrap
  (IntKind.i64.wrap
  (n_9 -
  n) -
  4) ≥
  -4096))
  (cnd
  (decide
  (IntKind.i64.wrap
  (IntKind.i64.wrap
  (n_9 -
  n) -
  4) ≤
  4094))
  (R
  (Ending.returned
  (Value.bool
  false))
  w'_2)
  (Goes
  I
  μ
  [Value.int
  IntKind.i64
  i]
  w'
  [Value.int
  IntKind.i64
  (IntKind.i64.wrap
  (i +
  1))]
  w'_2))
  (Goes
  I
  μ
  [Value.int
  IntKind.i64
  i]
  w'
  [Value.int
  IntKind.i64
  (IntKind.i64.wrap
  (i +
  1))]
  w'_2))
  (cnd
  (decide
  (IntKind.i64.wrap
  (n_9 -
  n) ≥
  -4096))
  (cnd
  (decide
  (IntKind.i64.wrap
  (n_9 -
  n) ≤
  4094))
  (R
  (Ending.returned
  (Value.bool
  false))
  w'_2)
  (Goes
  I
  μ
  [Value.int
  IntKind.i64
  i]
  w'
  [Value.int
  IntKind.i64
  (IntKind.i64.wrap
  (i +
  1))]
  w'_2))
  (Goes
  I
  μ
  [Value.int
  IntKind.i64
  i]
  w'
  [Value.int
  IntKind.i64
  (IntKind.i64.wrap
  (i +
  1))]
  w'_2))))))
  (Calls Proofs.Try.prog 7 #[] w'
  fun (e : Ending) (w' : World) =>
  ∃ (b : Bool),
  e = Ending.returned (Value.bool b) ∧
  R (Ending.returned (Value.bool b)) w'))))))
theorem law29_FixShort.vc_eq (l' : Option Addr) (l'n : Nat) (l'c : Nat) (w : World) (R : Ending → World → Prop) : fnV Try.prog law29_FixShort.H 4 [Value.slice l' l'n l'c] w R = law29_FixShort.vc l' l'n l'c w R := by kernel_rfl
theorem law29_FixShort.calls {l' : Option Addr} {l'n : Nat} {l'c : Nat} {w : World} {R : Ending → World → Prop} (h : law29_FixShort.vc l' l'n l'c w R) : Calls Try.prog 4 ([Value.slice l' l'n l'c] : List Value).toArray w R := calls_of_eq (law29_FixShort.vc_eq l' l'n l'c w R) h

end Go.Proofs.Ytglakmkedoklmaa
