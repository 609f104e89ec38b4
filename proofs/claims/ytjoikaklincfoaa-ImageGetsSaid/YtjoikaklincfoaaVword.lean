/-
The explicit conditions of some functions of the program, printed by this repo's own program over VcTop: what is proved is that each is the condition.
Conditions: none.
-/
import Derived.Test.YtjoikaklincfoaaVcTop
import Derived.Test.YtjoikaklincfoaaProg
namespace Go.Proofs.Ytjoikaklincfoaa
open Go Go.Vc Go.RowKit
set_option linter.unusedVariables false
set_option maxRecDepth 100000

/- function 62: sacristy/word.Sign -/
abbrev word_Sign.N : FuncId := 62
def word_Sign.H : Hints := {  }
def word_Sign.vc (v' : Int) (bits' : Int) (w : World) (R : Ending → World → Prop) : Prop :=
  cnd (decide (bits' < 1)) (R (Ending.returned (Value.tuple #[Value.int IntKind.u64 0, Value.int IntKind.i64 2])) w)
  (cnd (decide (bits' > 64)) (R (Ending.returned (Value.tuple #[Value.int IntKind.u64 0, Value.int IntKind.i64 2])) w)
  (cnd (decide (IntKind.i64.wrap (64 - bits') < 0)) False
  (cnd (decide (IntKind.i64.wrap (64 - bits') < 0)) False
  (R
  (Ending.returned
  (Value.tuple
  #[Value.int IntKind.u64
  (IntKind.u64.wrap
  ((IntKind.i64.wrap (IntKind.u64.wrap (v' * 2 ^ min (IntKind.i64.wrap (64 - bits')).toNat 64))).fdiv
  (2 ^ min (IntKind.i64.wrap (64 - bits')).toNat 64))),
  Value.int IntKind.i64 0]))
  w))))
theorem word_Sign.vc_eq (v' : Int) (bits' : Int) (w : World) (R : Ending → World → Prop) : fnV Try.prog word_Sign.H 62 [Value.int IntKind.u64 v', Value.int IntKind.i64 bits'] w R = word_Sign.vc v' bits' w R := by kernel_rfl
theorem word_Sign.calls {v' : Int} {bits' : Int} {w : World} {R : Ending → World → Prop} (h : word_Sign.vc v' bits' w R) : Calls Try.prog 62 ([Value.int IntKind.u64 v', Value.int IntKind.i64 bits'] : List Value).toArray w R := calls_of_eq (word_Sign.vc_eq v' bits' w R) h

/- function 63: sacristy/word.Fits -/
abbrev word_Fits.N : FuncId := 63
def word_Fits.H : Hints := {  }
def word_Fits.vc (v' : Int) (bits' : Int) (w : World) (R : Ending → World → Prop) : Prop :=
  Calls Proofs.Try.prog 62 #[Value.int IntKind.u64 (IntKind.u64.wrap v'), Value.int IntKind.i64 bits'] w
  fun (e : Ending) (w' : World) =>
  ∃ (n : Int),
  ∃ (n_1 : Int),
  e = Ending.returned (Value.tuple #[Value.int IntKind.u64 n, Value.int IntKind.i64 n_1]) ∧
  cnd (n_1 == 0) (R (Ending.returned (Value.bool (IntKind.i64.wrap n == v'))) w')
  (R (Ending.returned (Value.bool false)) w')
theorem word_Fits.vc_eq (v' : Int) (bits' : Int) (w : World) (R : Ending → World → Prop) : fnV Try.prog word_Fits.H 63 [Value.int IntKind.i64 v', Value.int IntKind.i64 bits'] w R = word_Fits.vc v' bits' w R := by kernel_rfl
theorem word_Fits.calls {v' : Int} {bits' : Int} {w : World} {R : Ending → World → Prop} (h : word_Fits.vc v' bits' w R) : Calls Try.prog 63 ([Value.int IntKind.i64 v', Value.int IntKind.i64 bits'] : List Value).toArray w R := calls_of_eq (word_Fits.vc_eq v' bits' w R) h

end Go.Proofs.Ytjoikaklincfoaa
