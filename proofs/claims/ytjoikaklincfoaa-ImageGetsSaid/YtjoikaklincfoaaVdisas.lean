/-
The explicit conditions of some functions of the program, printed by this repo's own program over VcTop: what is proved is that each is the condition.
Conditions: none.
-/
import Derived.Test.YtjoikaklincfoaaVcTop
import Derived.Test.YtjoikaklincfoaaProg
namespace Go.Proofs.Ytjoikaklincfoaa
open Go Go.Vc Go.RowKit
set_option linter.unusedVariables false
set_option maxRecDepth 100000

/- function 47: sacristy/disas.field -/
abbrev disas_field.N : FuncId := 47
def disas_field.H : Hints := {  }
def disas_field.vc (w' : Int) (at' : Int) (n' : Int) (w : World) (R : Ending → World → Prop) : Prop :=
  cnd (decide (at' < 0)) False
  (cnd (decide (n' < 0)) False
  (∀ (w'_1 : World),
  Later w w'_1 →
  R
  (Ending.returned
  (Value.int IntKind.u32
  (bits BinOp.and IntKind.u32 (w'.fdiv (2 ^ min at'.toNat 32))
  (IntKind.u32.wrap (IntKind.u32.wrap (1 * 2 ^ min n'.toNat 32) - 1)))))
  w'_1))
theorem disas_field.vc_eq (w' : Int) (at' : Int) (n' : Int) (w : World) (R : Ending → World → Prop) : fnV Try.prog disas_field.H 47 [Value.int IntKind.u32 w', Value.int IntKind.i64 at', Value.int IntKind.i64 n'] w R = disas_field.vc w' at' n' w R := by kernel_rfl
theorem disas_field.calls {w' : Int} {at' : Int} {n' : Int} {w : World} {R : Ending → World → Prop} (h : disas_field.vc w' at' n' w R) : Calls Try.prog 47 ([Value.int IntKind.u32 w', Value.int IntKind.i64 at', Value.int IntKind.i64 n'] : List Value).toArray w R := calls_of_eq (disas_field.vc_eq w' at' n' w R) h

/- function 53: sacristy/disas.signed -/
abbrev disas_signed.N : FuncId := 53
def disas_signed.H : Hints := {  }
def disas_signed.vc (v' : Int) (bits' : Int) (w : World) (R : Ending → World → Prop) : Prop :=
  Calls Proofs.Try.prog 62 #[Value.int IntKind.u64 (IntKind.u64.wrap v'), Value.int IntKind.i64 bits'] w
  fun (e : Ending) (w' : World) =>
  ∃ (n : Int),
  ∃ (n_1 : Int),
  e = Ending.returned (Value.tuple #[Value.int IntKind.u64 n, Value.int IntKind.i64 n_1]) ∧
  R (Ending.returned (Value.int IntKind.i64 (IntKind.i64.wrap n))) w'
theorem disas_signed.vc_eq (v' : Int) (bits' : Int) (w : World) (R : Ending → World → Prop) : fnV Try.prog disas_signed.H 53 [Value.int IntKind.u32 v', Value.int IntKind.i64 bits'] w R = disas_signed.vc v' bits' w R := by kernel_rfl
theorem disas_signed.calls {v' : Int} {bits' : Int} {w : World} {R : Ending → World → Prop} (h : disas_signed.vc v' bits' w R) : Calls Try.prog 53 ([Value.int IntKind.u32 v', Value.int IntKind.i64 bits'] : List Value).toArray w R := calls_of_eq (disas_signed.vc_eq v' bits' w R) h

/- function 46: sacristy/disas.hasRd -/
abbrev disas_hasRd.N : FuncId := 46
def disas_hasRd.H : Hints := {  }
def disas_hasRd.vc (op' : Int) (w : World) (R : Ending → World → Prop) : Prop :=
  cnd (op' == 26) (cnd (op' == 26) (R (Ending.returned (Value.bool false)) w) (R (Ending.returned (Value.bool true)) w))
  (cnd (op' == 27)
  (cnd (op' == 27) (R (Ending.returned (Value.bool false)) w) (R (Ending.returned (Value.bool true)) w))
  (cnd (op' == 28)
  (cnd (op' == 28) (R (Ending.returned (Value.bool false)) w) (R (Ending.returned (Value.bool true)) w))
  (cnd (op' == 29)
  (cnd (op' == 29) (R (Ending.returned (Value.bool false)) w) (R (Ending.returned (Value.bool true)) w))
  (cnd (op' == 30)
  (cnd (op' == 30) (R (Ending.returned (Value.bool false)) w) (R (Ending.returned (Value.bool true)) w))
  (cnd (op' == 31)
  (cnd (op' == 31) (R (Ending.returned (Value.bool false)) w) (R (Ending.returned (Value.bool true)) w))
  (cnd (op' == 34) (R (Ending.returned (Value.bool false)) w) (R (Ending.returned (Value.bool true)) w)))))))
theorem disas_hasRd.vc_eq (op' : Int) (w : World) (R : Ending → World → Prop) : fnV Try.prog disas_hasRd.H 46 [Value.int IntKind.u8 op'] w R = disas_hasRd.vc op' w R := by kernel_rfl
theorem disas_hasRd.calls {op' : Int} {w : World} {R : Ending → World → Prop} (h : disas_hasRd.vc op' w R) : Calls Try.prog 46 ([Value.int IntKind.u8 op'] : List Value).toArray w R := calls_of_eq (disas_hasRd.vc_eq op' w R) h

/- function 48: sacristy/disas.hasRs1 -/
abbrev disas_hasRs1.N : FuncId := 48
def disas_hasRs1.H : Hints := {  }
def disas_hasRs1.vc (op' : Int) (w : World) (R : Ending → World → Prop) : Prop :=
  cnd (op' != 23)
  (cnd (op' != 32) (R (Ending.returned (Value.bool (op' != 34))) w) (R (Ending.returned (Value.bool false)) w))
  (R (Ending.returned (Value.bool false)) w)
theorem disas_hasRs1.vc_eq (op' : Int) (w : World) (R : Ending → World → Prop) : fnV Try.prog disas_hasRs1.H 48 [Value.int IntKind.u8 op'] w R = disas_hasRs1.vc op' w R := by kernel_rfl
theorem disas_hasRs1.calls {op' : Int} {w : World} {R : Ending → World → Prop} (h : disas_hasRs1.vc op' w R) : Calls Try.prog 48 ([Value.int IntKind.u8 op'] : List Value).toArray w R := calls_of_eq (disas_hasRs1.vc_eq op' w R) h

/- function 49: sacristy/disas.hasRs2 -/
abbrev disas_hasRs2.N : FuncId := 49
def disas_hasRs2.H : Hints := {  }
def disas_hasRs2.vc (op' : Int) (w : World) (R : Ending → World → Prop) : Prop :=
  cnd (decide (op' ≤ 14)) (R (Ending.returned (Value.bool true)) w)
  (cnd (op' == 26) (R (Ending.returned (Value.bool true)) w)
  (cnd (op' == 27) (R (Ending.returned (Value.bool true)) w)
  (cnd (decide (op' ≥ 28)) (R (Ending.returned (Value.bool (decide (op' ≤ 31)))) w)
  (R (Ending.returned (Value.bool false)) w))))
theorem disas_hasRs2.vc_eq (op' : Int) (w : World) (R : Ending → World → Prop) : fnV Try.prog disas_hasRs2.H 49 [Value.int IntKind.u8 op'] w R = disas_hasRs2.vc op' w R := by kernel_rfl
theorem disas_hasRs2.calls {op' : Int} {w : World} {R : Ending → World → Prop} (h : disas_hasRs2.vc op' w R) : Calls Try.prog 49 ([Value.int IntKind.u8 op'] : List Value).toArray w R := calls_of_eq (disas_hasRs2.vc_eq op' w R) h

/- function 39: sacristy/disas.guesses -/
abbrev disas_guesses.N : FuncId := 39
def disas_guesses.H : Hints := {  }
def disas_guesses.vc (w' : Int) (w : World) (R : Ending → World → Prop) : Prop :=
  ∀ (w'_1 : World),
  w'_1 = w.alloc (Obj.cells #[Value.int IntKind.u32 w'] 42) →
  R (Ending.returned (Value.func (Fn.func 44) #[] #[Value.pointer (some (Addr.mk w.heap.size 0 none))])) w'_1
theorem disas_guesses.vc_eq (w' : Int) (w : World) (R : Ending → World → Prop) : fnV Try.prog disas_guesses.H 39 [Value.int IntKind.u32 w'] w R = disas_guesses.vc w' w R := by kernel_rfl
theorem disas_guesses.calls {w' : Int} {w : World} {R : Ending → World → Prop} (h : disas_guesses.vc w' w R) : Calls Try.prog 39 ([Value.int IntKind.u32 w'] : List Value).toArray w R := calls_of_eq (disas_guesses.vc_eq w' w R) h

end Go.Proofs.Ytjoikaklincfoaa
