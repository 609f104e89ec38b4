/-
The explicit conditions of some functions of the program, printed by this repo's own program over VcTop: what is proved is that each is the condition.
Conditions: none.
-/
import Derived.Test.YtjoikaklincfoaaVcTop
import Derived.Test.YtjoikaklincfoaaProg
namespace Go.Proofs.Ytjoikaklincfoaa
open Go Go.Vc Go.RowKit
set_option linter.unusedVariables false
set_option maxRecDepth 100000

/- function 41: sacristy/sacristyref01.Sign -/
abbrev ref01_Sign.N : FuncId := 41
def ref01_Sign.H : Hints := { loops := [(6, [(6, .one (.int .u64)), (7, .one (.int .i64))])] }
def ref01_Sign.vc (v' : Int) (bits' : Int) (w : World) (R : Ending → World → Prop) : Prop :=
  cnd (decide (bits' < 1)) (R (Ending.returned (Value.tuple #[Value.int IntKind.u64 0, Value.int IntKind.i64 2])) w)
    (cnd (decide (bits' > 64)) (R (Ending.returned (Value.tuple #[Value.int IntKind.u64 0, Value.int IntKind.i64 2])) w)
      (∃ (I : List Value → World → Prop),
        ∃ (μ : List Value → World → Nat),
          I [Value.int IntKind.u64 0, Value.int IntKind.i64 63] w ∧
            ∀ (g : Nat → Value) (out i : Int) (w' : World),
              I [Value.int IntKind.u64 out, Value.int IntKind.i64 i] w' →
                cnd (decide (i ≥ 0))
                  (match decide (IntKind.u64.wrap (gomin i (IntKind.i64.wrap (bits' - 1))) < 0) with
                  | true => False
                  | false =>
                    Goes I μ [Value.int IntKind.u64 out, Value.int IntKind.i64 i] w'
                      [Value.int IntKind.u64
                          (IntKind.u64.wrap
                            (IntKind.u64.wrap (out * 2) +
                              (v'.fdiv
                                    (2 ^ min (IntKind.u64.wrap (gomin i (IntKind.i64.wrap (bits' - 1)))).toNat 64)).tmod
                                2)),
                        Value.int IntKind.i64 (IntKind.i64.wrap (i - 1))]
                      w')
                  (R (Ending.returned (Value.tuple #[Value.int IntKind.u64 out, Value.int IntKind.i64 0])) w')))
theorem ref01_Sign.vc_eq (v' : Int) (bits' : Int) (w : World) (R : Ending → World → Prop) : fnV Try.prog ref01_Sign.H 41 [Value.int IntKind.u64 v', Value.int IntKind.i64 bits'] w R = ref01_Sign.vc v' bits' w R := by kernel_rfl
theorem ref01_Sign.calls {v' : Int} {bits' : Int} {w : World} {R : Ending → World → Prop} (h : ref01_Sign.vc v' bits' w R) : Calls Try.prog 41 ([Value.int IntKind.u64 v', Value.int IntKind.i64 bits'] : List Value).toArray w R := calls_of_eq (ref01_Sign.vc_eq v' bits' w R) h

/- function 42: sacristy/sacristyref01.Fits -/
abbrev ref01_Fits.N : FuncId := 42
def ref01_Fits.H : Hints := {  }
def ref01_Fits.vc (v' : Int) (bits' : Int) (w : World) (R : Ending → World → Prop) : Prop :=
  Calls Proofs.Try.prog 41 #[Value.int IntKind.u64 (IntKind.u64.wrap v'), Value.int IntKind.i64 bits'] w
  fun (e : Ending) (w' : World) =>
  ∃ (n : Int),
  ∃ (n_1 : Int),
  e = Ending.returned (Value.tuple #[Value.int IntKind.u64 n, Value.int IntKind.i64 n_1]) ∧
  cnd (n_1 == 0) (R (Ending.returned (Value.bool (n == IntKind.u64.wrap v'))) w')
  (R (Ending.returned (Value.bool false)) w')
theorem ref01_Fits.vc_eq (v' : Int) (bits' : Int) (w : World) (R : Ending → World → Prop) : fnV Try.prog ref01_Fits.H 42 [Value.int IntKind.i64 v', Value.int IntKind.i64 bits'] w R = ref01_Fits.vc v' bits' w R := by kernel_rfl
theorem ref01_Fits.calls {v' : Int} {bits' : Int} {w : World} {R : Ending → World → Prop} (h : ref01_Fits.vc v' bits' w R) : Calls Try.prog 42 ([Value.int IntKind.i64 v', Value.int IntKind.i64 bits'] : List Value).toArray w R := calls_of_eq (ref01_Fits.vc_eq v' bits' w R) h

end Go.Proofs.Ytjoikaklincfoaa
