/-
The explicit conditions of some functions of the program, printed by this repo's own program over VcTop: what is proved is that each is the condition.
Conditions: none.
-/
import Derived.Test.YtngkifnknlginaaVcTop
import Derived.Test.YtngkifnknlginaaProg
namespace Go.Proofs.Ytngkifnknlginaa
open Go Go.Vc Go.RowKit
set_option linter.unusedVariables false
set_option maxRecDepth 100000

/- function 5: sacristy/sacristylaw04.MemPlays -/
abbrev law04_MemPlays.N : FuncId := 5
def law04_MemPlays.H : Hints := { loops := [(12, [(10, .one (.int .i64))]), (18, [(11, .one (.int .i64))])] }
def law04_MemPlays.vc (l' : Option Addr) (l'n : Nat) (l'c : Nat) (steps' : Option Addr) (steps'n : Nat) (steps'c : Nat) (w : World) (R : Ending → World → Prop) : Prop :=
  Calls Proofs.Try.prog 7 #[Value.slice l' l'n l'c] w fun (e : Ending) (w' : World) =>
  ∃ (b : Bool),
  e = Ending.returned (Value.bool b) ∧
  cnd b
  (Calls Proofs.Try.prog 9 #[] w' fun (e : Ending) (w' : World) =>
  ∃ (b : Bool), e = Ending.returned (Value.bool b) ∧ R (Ending.returned (Value.bool b)) w')
  (Calls Proofs.Try.prog 8 #[Value.slice steps' steps'n steps'c] w' fun (e : Ending) (w' : World) =>
  ∃ (b : Bool),
  e = Ending.returned (Value.bool b) ∧
  cnd b
  (Calls Proofs.Try.prog 9 #[] w' fun (e : Ending) (w' : World) =>
  ∃ (b : Bool), e = Ending.returned (Value.bool b) ∧ R (Ending.returned (Value.bool b)) w')
  (RunsV Proofs.Try.prog (Builtin.append_ #[22, 22] 22 #[Value.slice none 0 0, Value.slice l' l'n l'c]) w'
  fun (v : Value) (w' : World) =>
  ∃ (p : Option Addr),
  ∃ (n : Nat),
  ∃ (c : Nat),
  v = Value.slice p n c ∧
  Calls Proofs.Try.prog 10 #[Value.slice p n c] w' fun (e : Ending) (w' : World) =>
  ∃ (p_1 : Option Addr),
  ∃ (n_1 : Int),
  e = Ending.returned (Value.tuple #[Value.pointer p_1, Value.int IntKind.i64 n_1]) ∧
  Calls Proofs.Try.prog 16 #[Value.slice l' l'n l'c] w' fun (e : Ending) (w' : World) =>
  ∃ (p_2 : Option Addr),
  ∃ (n_2 : Int),
  e =
  Ending.returned
  (Value.tuple #[Value.pointer p_2, Value.int IntKind.i64 n_2]) ∧
  cnd (n_2 != 0)
  (∃ (b : Bool),
  EqRuns Proofs.Try.prog BinOp.eql 28 (Operand.tmp 33)
  (Operand.const (Value.pointer none)) (Value.pointer p_1)
  (Value.pointer none) b ∧
  cnd b
  (cnd (n_1 == n_2)
  (Calls Proofs.Try.prog 9 #[] w' fun (e : Ending) (w' : World) =>
  ∃ (b : Bool),
  e = Ending.returned (Value.bool b) ∧
  R (Ending.returned (Value.bool b)) w')
  (R (Ending.returned (Value.bool false)) w'))
  (R (Ending.returned (Value.bool false)) w'))
  (∃ (b : Bool),
  EqRuns Proofs.Try.prog BinOp.eql 28 (Operand.tmp 43)
  (Operand.const (Value.pointer none)) (Value.pointer p_1)
  (Value.pointer none) b ∧
  cnd b (R (Ending.returned (Value.bool false)) w')
  (cnd (n_1 != 0) (R (Ending.returned (Value.bool false)) w')
  (∃ (I : List Value → World → Prop),
  ∃ (μ : List Value → World → Nat),
  I [Value.int IntKind.i64 0] w' ∧
  ∀ (g : Nat → Value) (i : Int) (w' : World),
  I [Value.int IntKind.i64 i] w' →
  cnd (decide (i < (↑n : Int)))
  ((0 ≤ i ∧ i < (↑n : Int)) ∧
  Deref p fun (a : Addr) =>
  ∃ (n_3 : Int),
  ∃ (n_4 : Int),
  ∃ (n_5 : Int),
  (∀ (w'_1 : World),
  Later w' w'_1 →
  w'_1.cell? (a.add (i.toNat * 3)) =
  some (Value.int IntKind.u64 n_3) ∧
  w'_1.cell?
  ((a.add (i.toNat * 3)).add 1) =
  some (Value.int IntKind.u64 n_4) ∧
  w'_1.cell?
  ((a.add (i.toNat * 3)).add
  2) =
  some
  (Value.int IntKind.u8 n_5) ∧
  True) ∧
  (0 ≤ i ∧ i < (↑l'n : Int)) ∧
  Deref l' fun (a : Addr) =>
  ∃ (n_6 : Int),
  ∃ (n_7 : Int),
  ∃ (n_8 : Int),
  (∀ (w'_1 : World),
  Later w' w'_1 →
  w'_1.cell?
  (a.add
  (i.toNat * 3)) =
  some
  (Value.int IntKind.u64
  n_6) ∧
  w'_1.cell?
  ((a.add
  (i.toNat *
  3)).add
  1) =
  some
  (Value.int
  IntKind.u64 n_7) ∧
  w'_1.cell?
  ((a.add
  (i.toNat *
  3)).add
  2) =
  some
  (Value.int
  IntKind.u8
  n_8) ∧
  True) ∧
  ∃ (b : Bool),
  EqRuns Proofs.Try.prog
  BinOp.neq 42
  (Operand.tmp 58)
  (Operand.tmp 62)
  (Value.agg
  #[Value.int IntKind.u64
  n_3,
  Value.int IntKind.u64
  n_4,
  Value.int IntKind.u8
  n_5])
  (Value.agg
  #[Value.int IntKind.u64
  n_6,
  Value.int IntKind.u64
  n_7,
  Value.int IntKind.u8
  n_8])
  b ∧
  ∀ (w'_1 : World),
  Later w' w'_1 →
  cnd b
  (R
  (Ending.returned
  (Value.bool
  false))
  w'_1)
  ((0 ≤ i ∧
  i < (↑n : Int)) ∧
  Deref p
  fun (a : Addr) =>
  ∃ (n_9 : Int),
  w'_1.cell?
  ((a.add
  (i.toNat *
  3)).add
  1) =
  some
  (Value.int
  IntKind.u64
  n_9) ∧
  (0 ≤ i ∧
  i <
  (↑n :
  Int)) ∧
  Deref p
  fun
  (a :
  Addr) =>
  ((w'_1.cell?
  ((a.add
  (i.toNat *
  3)).add
  1)).isSome =
  true ∧
  w'_1.frozen?
  ((a.add
  (i.toNat *
  3)).add
  1) =
  false) ∧
  ∀
  (w'_2 :
  World),
  w'_2 =
  w'_1.setCell
  ((a.add
  (i.toNat *
  3)).add
  1)
  (Value.int
  IntKind.u64
  (IntKind.u64.wrap
  (n_9 +
  1))) →
  Goes
  I
  μ
  [Value.int
  IntKind.i64
  i]
  w'
  [Value.int
  IntKind.i64
  (IntKind.i64.wrap
  (i +
  1))]
  w'_2))
  (∃ (I : List Value → World → Prop),
  ∃ (μ : List Value → World → Nat),
  I [Value.int IntKind.i64 0] w' ∧
  ∀ (g : Nat → Value) (i : Int) (w' : World),
  I [Value.int IntKind.i64 i] w' →
  cnd (decide (i < (↑steps'n : Int)))
  ((0 ≤ i ∧ i < (↑steps'n : Int)) ∧
  Deref steps' fun (a : Addr) =>
  ∃ (n : Int),
  ∃ (n_3 : Int),
  ∃ (n_4 : Int),
  ∃ (n_5 : Int),
  ∃ (s : ByteArray),
  ∃ (b : Bool),
  (w'.cell?
  (a.add
  (i.toNat * 6)) =
  some
  (Value.int
  IntKind.i64 n) ∧
  w'.cell?
  ((a.add
  (i.toNat *
  6)).add
  1) =
  some
  (Value.int
  IntKind.u64
  n_3) ∧
  w'.cell?
  ((a.add
  (i.toNat *
  6)).add
  2) =
  some
  (Value.int
  IntKind.i64
  n_4) ∧
  w'.cell?
  ((a.add
  (i.toNat *
  6)).add
  3) =
  some
  (Value.int
  IntKind.u64
  n_5) ∧
  w'.cell?
  ((a.add
  (i.toNat *
  6)).add
  4) =
  some
  (Value.string
  s) ∧
  w'.cell?
  ((a.add
  (i.toNat *
  6)).add
  5) =
  some
  (Value.bool
  b) ∧
  True) ∧
  Calls Proofs.Try.prog 17
  #[Value.pointer p_1,
  Value.pointer p_2,
  Value.agg
  #[Value.int
  IntKind.i64 n,
  Value.int
  IntKind.u64 n_3,
  Value.int
  IntKind.i64 n_4,
  Value.int
  IntKind.u64 n_5,
  Value.string s,
  Value.bool b]]
  w'
  fun (e : Ending)
  (w'_1 : World) =>
  ∃ (b : Bool),
  e =
  Ending.returned
  (Value.bool b) ∧
  cnd (!b)
  (R
  (Ending.returned
  (Value.bool
  false))
  w'_1)
  (Goes I μ
  [Value.int
  IntKind.i64
  i]
  w'
  [Value.int
  IntKind.i64
  (IntKind.i64.wrap
  (i + 1))]
  w'_1))
  (Calls Proofs.Try.prog 18
  #[Value.pointer p_1, Value.pointer p_2] w'
  fun (e : Ending) (w' : World) =>
  ∃ (b : Bool),
  e = Ending.returned (Value.bool b) ∧
  cnd b
  (Calls Proofs.Try.prog 9 #[] w'
  fun (e : Ending) (w' : World) =>
  ∃ (b : Bool),
  e =
  Ending.returned
  (Value.bool b) ∧
  R
  (Ending.returned
  (Value.bool b))
  w')
  (R
  (Ending.returned
  (Value.bool false))
  w'))))))))
theorem law04_MemPlays.vc_eq (l' : Option Addr) (l'n : Nat) (l'c : Nat) (steps' : Option Addr) (steps'n : Nat) (steps'c : Nat) (w : World) (R : Ending → World → Prop) : fnV Try.prog law04_MemPlays.H 5 [Value.slice l' l'n l'c, Value.slice steps' steps'n steps'c] w R = law04_MemPlays.vc l' l'n l'c steps' steps'n steps'c w R := by kernel_rfl
theorem law04_MemPlays.calls {l' : Option Addr} {l'n : Nat} {l'c : Nat} {steps' : Option Addr} {steps'n : Nat} {steps'c : Nat} {w : World} {R : Ending → World → Prop} (h : law04_MemPlays.vc l' l'n l'c steps' steps'n steps'c w R) : Calls Try.prog 5 ([Value.slice l' l'n l'c, Value.slice steps' steps'n steps'c] : List Value).toArray w R := calls_of_eq (law04_MemPlays.vc_eq l' l'n l'c steps' steps'n steps'c w R) h

end Go.Proofs.Ytngkifnknlginaa
