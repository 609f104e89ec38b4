/-
The explicit conditions of some functions of the program, printed by this repo's own program over VcTop: what is proved is that each is the condition.
Conditions: none.
-/
import Derived.Test.YtjoikaklincfoaaVcTop
import Derived.Test.YtjoikaklincfoaaProg
namespace Go.Proofs.Ytjoikaklincfoaa
open Go Go.Vc Go.RowKit
set_option linter.unusedVariables false
set_option maxRecDepth 100000

/- function 45: sacristy/disas.number -/
abbrev disas_number.N : FuncId := 45
def disas_number.H : Hints := { conds := [(4006, [(6, .one .bool)]), (9012, [(12, .one .bool)]), (12016, [(16, .one .bool)]), (16022, [(22, .one .bool)]), (18025, [(25, .one .bool)])] }
def disas_number.vc (op' : Int) (w' : Int) (w : World) (R : Ending → World → Prop) : Prop :=
  ∃ (J : List Value → World → Prop),
  cnd (op' == 15) (J [Value.bool (op' == 15)] w)
  (cnd (op' == 16) (J [Value.bool (op' == 16)] w)
  (cnd (op' == 17) (J [Value.bool (op' == 17)] w)
  (cnd (op' == 18) (J [Value.bool (op' == 18)] w) (J [Value.bool (op' == 19)] w)))) ∧
  ∀ (g : Nat → Value) (s6 : Bool) (w'_1 : World),
  J [Value.bool s6] w'_1 →
  cnd s6
  (Calls Proofs.Try.prog 47 #[Value.int IntKind.u32 w', Value.int IntKind.i64 20, Value.int IntKind.i64 12] w'_1
  fun (e : Ending) (w' : World) =>
  ∃ (n : Int),
  e = Ending.returned (Value.int IntKind.u32 n) ∧
  Calls Proofs.Try.prog 53 #[Value.int IntKind.u32 n, Value.int IntKind.i64 12] w'
  fun (e : Ending) (w' : World) =>
  ∃ (n : Int),
  e = Ending.returned (Value.int IntKind.i64 n) ∧ R (Ending.returned (Value.int IntKind.i64 n)) w')
  (∃ (J : List Value → World → Prop),
  cnd (op' == 24) (J [Value.bool (op' == 24)] w'_1)
  (cnd (op' == 25) (J [Value.bool (op' == 25)] w'_1) (J [Value.bool (op' == 33)] w'_1)) ∧
  ∀ (g : Nat → Value) (s12 : Bool) (w'_2 : World),
  J [Value.bool s12] w'_2 →
  cnd s12
  (Calls Proofs.Try.prog 47
  #[Value.int IntKind.u32 w', Value.int IntKind.i64 20, Value.int IntKind.i64 12] w'_2
  fun (e : Ending) (w' : World) =>
  ∃ (n : Int),
  e = Ending.returned (Value.int IntKind.u32 n) ∧
  Calls Proofs.Try.prog 53 #[Value.int IntKind.u32 n, Value.int IntKind.i64 12] w'
  fun (e : Ending) (w' : World) =>
  ∃ (n : Int),
  e = Ending.returned (Value.int IntKind.i64 n) ∧
  R (Ending.returned (Value.int IntKind.i64 n)) w')
  (∃ (J : List Value → World → Prop),
  cnd (op' == 20) (J [Value.bool (op' == 20)] w'_2)
  (cnd (op' == 21) (J [Value.bool (op' == 21)] w'_2) (J [Value.bool (op' == 22)] w'_2)) ∧
  ∀ (g : Nat → Value) (s16 : Bool) (w'_3 : World),
  J [Value.bool s16] w'_3 →
  cnd s16
  (Calls Proofs.Try.prog 47
  #[Value.int IntKind.u32 w', Value.int IntKind.i64 20, Value.int IntKind.i64 6] w'_3
  fun (e : Ending) (w' : World) =>
  ∃ (n : Int),
  e = Ending.returned (Value.int IntKind.u32 n) ∧
  R (Ending.returned (Value.int IntKind.i64 (IntKind.i64.wrap n))) w')
  (cnd (op' == 23)
  (Calls Proofs.Try.prog 53
  #[Value.int IntKind.u32 (bits BinOp.andNot IntKind.u32 w' 4095),
  Value.int IntKind.i64 32]
  w'_3 fun (e : Ending) (w' : World) =>
  ∃ (n : Int),
  e = Ending.returned (Value.int IntKind.i64 n) ∧
  R (Ending.returned (Value.int IntKind.i64 n)) w')
  (∃ (J : List Value → World → Prop),
  cnd (op' == 26) (J [Value.bool (op' == 26)] w'_3) (J [Value.bool (op' == 27)] w'_3) ∧
  ∀ (g : Nat → Value) (s22 : Bool) (w'_4 : World),
  J [Value.bool s22] w'_4 →
  cnd s22
  (Calls Proofs.Try.prog 47
  #[Value.int IntKind.u32 w', Value.int IntKind.i64 25,
  Value.int IntKind.i64 7]
  w'_4 fun (e : Ending) (w'_5 : World) =>
  ∃ (n : Int),
  e = Ending.returned (Value.int IntKind.u32 n) ∧
  Calls Proofs.Try.prog 47
  #[Value.int IntKind.u32 w', Value.int IntKind.i64 7,
  Value.int IntKind.i64 5]
  w'_5 fun (e : Ending) (w' : World) =>
  ∃ (n_1 : Int),
  e = Ending.returned (Value.int IntKind.u32 n_1) ∧
  Calls Proofs.Try.prog 53
  #[Value.int IntKind.u32
  (bits BinOp.or IntKind.u32 (IntKind.u32.wrap (n * 32)) n_1),
  Value.int IntKind.i64 12]
  w' fun (e : Ending) (w' : World) =>
  ∃ (n : Int),
  e = Ending.returned (Value.int IntKind.i64 n) ∧
  R (Ending.returned (Value.int IntKind.i64 n)) w')
  (∃ (J : List Value → World → Prop),
  cnd (op' == 28) (J [Value.bool (op' == 28)] w'_4)
  (cnd (op' == 29) (J [Value.bool (op' == 29)] w'_4)
  (cnd (op' == 30) (J [Value.bool (op' == 30)] w'_4)
  (J [Value.bool (op' == 31)] w'_4))) ∧
  ∀ (g : Nat → Value) (s25 : Bool) (w'_5 : World),
  J [Value.bool s25] w'_5 →
  cnd s25
  (Calls Proofs.Try.prog 47
  #[Value.int IntKind.u32 w', Value.int IntKind.i64 8,
  Value.int IntKind.i64 4]
  w'_5 fun (e : Ending) (w'_6 : World) =>
  ∃ (n : Int),
  e = Ending.returned (Value.int IntKind.u32 n) ∧
  Calls Proofs.Try.prog 47
  #[Value.int IntKind.u32 w', Value.int IntKind.i64 25,
  Value.int IntKind.i64 6]
  w'_6 fun (e : Ending) (w'_7 : World) =>
  ∃ (n_1 : Int),
  e = Ending.returned (Value.int IntKind.u32 n_1) ∧
  Calls Proofs.Try.prog 47
  #[Value.int IntKind.u32 w', Value.int IntKind.i64 7,
  Value.int IntKind.i64 1]
  w'_7 fun (e : Ending) (w'_8 : World) =>
  ∃ (n_2 : Int),
  e = Ending.returned (Value.int IntKind.u32 n_2) ∧
  Calls Proofs.Try.prog 47
  #[Value.int IntKind.u32 w',
  Value.int IntKind.i64 31,
  Value.int IntKind.i64 1]
  w'_8 fun (e : Ending) (w' : World) =>
  ∃ (n_3 : Int),
  e =
  Ending.returned
  (Value.int IntKind.u32 n_3) ∧
  Calls Proofs.Try.prog 53
  #[Value.int IntKind.u32
  (bits BinOp.or IntKind.u32
  (bits BinOp.or IntKind.u32
  (bits BinOp.or IntKind.u32
  (IntKind.u32.wrap (n * 2))
  (IntKind.u32.wrap (n_1 * 32)))
  (IntKind.u32.wrap (n_2 * 2048)))
  (IntKind.u32.wrap (n_3 * 4096))),
  Value.int IntKind.i64 13]
  w' fun (e : Ending) (w' : World) =>
  ∃ (n : Int),
  e =
  Ending.returned
  (Value.int IntKind.i64 n) ∧
  R
  (Ending.returned
  (Value.int IntKind.i64 n))
  w')
  (cnd (op' == 32)
  (Calls Proofs.Try.prog 47
  #[Value.int IntKind.u32 w', Value.int IntKind.i64 21,
  Value.int IntKind.i64 10]
  w'_5 fun (e : Ending) (w'_6 : World) =>
  ∃ (n : Int),
  e = Ending.returned (Value.int IntKind.u32 n) ∧
  Calls Proofs.Try.prog 47
  #[Value.int IntKind.u32 w', Value.int IntKind.i64 20,
  Value.int IntKind.i64 1]
  w'_6 fun (e : Ending) (w'_7 : World) =>
  ∃ (n_1 : Int),
  e = Ending.returned (Value.int IntKind.u32 n_1) ∧
  Calls Proofs.Try.prog 47
  #[Value.int IntKind.u32 w',
  Value.int IntKind.i64 12, Value.int IntKind.i64 8]
  w'_7 fun (e : Ending) (w'_8 : World) =>
  ∃ (n_2 : Int),
  e = Ending.returned (Value.int IntKind.u32 n_2) ∧
  Calls Proofs.Try.prog 47
  #[Value.int IntKind.u32 w',
  Value.int IntKind.i64 31,
  Value.int IntKind.i64 1]
  w'_8 fun (e : Ending) (w' : World) =>
  ∃ (n_3 : Int),
  e =
  Ending.returned
  (Value.int IntKind.u32 n_3) ∧
  Calls Proofs.Try.prog 53
  #[Value.int IntKind.u32
  (bits BinOp.or IntKind.u32
  (bits BinOp.or IntKind.u32
  (bits BinOp.or IntKind.u32
  (IntKind.u32.wrap (n * 2))
  (IntKind.u32.wrap
  (n_1 * 2048)))
  (IntKind.u32.wrap (n_2 * 4096)))
  (IntKind.u32.wrap
  (n_3 * 1048576))),
  Value.int IntKind.i64 21]
  w' fun (e : Ending) (w' : World) =>
  ∃ (n : Int),
  e =
  Ending.returned
  (Value.int IntKind.i64 n) ∧
  R
  (Ending.returned
  (Value.int IntKind.i64 n))
  w')
  (R (Ending.returned (Value.int IntKind.i64 0)) w'_5)))))))
theorem disas_number.vc_eq (op' : Int) (w' : Int) (w : World) (R : Ending → World → Prop) : fnV Try.prog disas_number.H 45 [Value.int IntKind.u8 op', Value.int IntKind.u32 w'] w R = disas_number.vc op' w' w R := by kernel_rfl
theorem disas_number.calls {op' : Int} {w' : Int} {w : World} {R : Ending → World → Prop} (h : disas_number.vc op' w' w R) : Calls Try.prog 45 ([Value.int IntKind.u8 op', Value.int IntKind.u32 w'] : List Value).toArray w R := calls_of_eq (disas_number.vc_eq op' w' w R) h

end Go.Proofs.Ytjoikaklincfoaa
