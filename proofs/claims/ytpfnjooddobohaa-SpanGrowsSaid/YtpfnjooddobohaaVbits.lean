/-
The explicit conditions of some functions of the program, printed by this repo's own program over VcTop: what is proved is that each is the condition.
Conditions: none.
-/
import Derived.Test.YtpfnjooddobohaaVcTop
import Derived.Test.YtpfnjooddobohaaProg
namespace Go.Proofs.Ytpfnjooddobohaa
open Go Go.Vc Go.RowKit
set_option linter.unusedVariables false
set_option maxRecDepth 100000

/- function 68: math/bits.Len64 -/
abbrev math_bits_Len64.N : FuncId := 68
def math_bits_Len64.H : Hints := { conds := [(4, [(0, .one (.int .u64)), (2, .one (.int .i64))]), (8, [(0, .one (.int .u64)), (2, .one (.int .i64))]), (14, [(0, .one (.int .u64)), (2, .one (.int .i64))])] }
def math_bits_Len64.vc (x' : Int) (w : World) (R : Ending → World → Prop) : Prop :=
  ∃ (J : List Value → World → Prop),
    cnd (decide (x' ≥ 4294967296)) (J [Value.int IntKind.u64 (x'.fdiv 4294967296), Value.int IntKind.i64 32] w)
        (J [Value.int IntKind.u64 x', Value.int IntKind.i64 0] w) ∧
      ∀ (g : Nat → Value) (x n : Int) (w' : World),
        J [Value.int IntKind.u64 x, Value.int IntKind.i64 n] w' →
          ∃ (J : List Value → World → Prop),
            cnd (decide (x ≥ 65536))
                (J [Value.int IntKind.u64 (x.fdiv 65536), Value.int IntKind.i64 (IntKind.i64.wrap (n + 16))] w')
                (J [Value.int IntKind.u64 x, Value.int IntKind.i64 n] w') ∧
              ∀ (g : Nat → Value) (x n : Int) (w' : World),
                J [Value.int IntKind.u64 x, Value.int IntKind.i64 n] w' →
                  ∃ (J : List Value → World → Prop),
                    cnd (decide (x ≥ 256))
                        (J [Value.int IntKind.u64 (x.fdiv 256), Value.int IntKind.i64 (IntKind.i64.wrap (n + 8))] w')
                        (J [Value.int IntKind.u64 x, Value.int IntKind.i64 n] w') ∧
                      ∀ (g : Nat → Value) (x n : Int) (w' : World),
                        J [Value.int IntKind.u64 x, Value.int IntKind.i64 n] w' →
                          0 ≤ IntKind.u8.wrap x ∧
                            ∃ (b : UInt8),
                              (ByteArray.mk
                                      #[0, 1, 2, 2, 3, 3, 3, 3, 4, 4, 4, 4, 4, 4, 4, 4, 5, 5, 5, 5, 5, 5, 5, 5, 5, 5, 5,
                                        5, 5, 5, 5, 5, 6, 6, 6, 6, 6, 6, 6, 6, 6, 6, 6, 6, 6, 6, 6, 6, 6, 6, 6, 6, 6, 6,
                                        6, 6, 6, 6, 6, 6, 6, 6, 6, 6, 7, 7, 7, 7, 7, 7, 7, 7, 7, 7, 7, 7, 7, 7, 7, 7, 7,
                                        7, 7, 7, 7, 7, 7, 7, 7, 7, 7, 7, 7, 7, 7, 7, 7, 7, 7, 7, 7, 7, 7, 7, 7, 7, 7, 7,
                                        7, 7, 7, 7, 7, 7, 7, 7, 7, 7, 7, 7, 7, 7, 7, 7, 7, 7, 7, 7, 8, 8, 8, 8, 8, 8, 8,
                                        8, 8, 8, 8, 8, 8, 8, 8, 8, 8, 8, 8, 8, 8, 8, 8, 8, 8, 8, 8, 8, 8, 8, 8, 8, 8, 8,
                                        8, 8, 8, 8, 8, 8, 8, 8, 8, 8, 8, 8, 8, 8, 8, 8, 8, 8, 8, 8, 8, 8, 8, 8, 8, 8, 8,
                                        8, 8, 8, 8, 8, 8, 8, 8, 8, 8, 8, 8, 8, 8, 8, 8, 8, 8, 8, 8, 8, 8, 8, 8, 8, 8, 8,
                                        8, 8, 8, 8, 8, 8, 8, 8, 8, 8, 8, 8, 8, 8, 8, 8, 8, 8, 8, 8, 8, 8, 8, 8, 8, 8, 8,
                                        8, 8, 8, 8, 8, 8, 8, 8, 8, 8, 8, 8, 8])[(IntKind.u8.wrap x).toNat]? =
                                  some b ∧
                                R
                                  (Ending.returned
                                    (Value.int IntKind.i64 (IntKind.i64.wrap (n + IntKind.i64.wrap (↑b.toNat : Int)))))
                                  w'
theorem math_bits_Len64.vc_eq (x' : Int) (w : World) (R : Ending → World → Prop) : fnV Try.prog math_bits_Len64.H 68 [Value.int IntKind.u64 x'] w R = math_bits_Len64.vc x' w R := by kernel_rfl
theorem math_bits_Len64.calls {x' : Int} {w : World} {R : Ending → World → Prop} (h : math_bits_Len64.vc x' w R) : Calls Try.prog 68 ([Value.int IntKind.u64 x'] : List Value).toArray w R := calls_of_eq (math_bits_Len64.vc_eq x' w R) h

/- function 72: math/bits.LeadingZeros64 -/
abbrev math_bits_LeadingZeros64.N : FuncId := 72
def math_bits_LeadingZeros64.H : Hints := {  }
def math_bits_LeadingZeros64.vc (x' : Int) (w : World) (R : Ending → World → Prop) : Prop :=
  Calls Proofs.Try.prog 68 #[Value.int IntKind.u64 x'] w fun (e : Ending) (w' : World) =>
    ∃ (n : Int),
      e = Ending.returned (Value.int IntKind.i64 n) ∧
        R (Ending.returned (Value.int IntKind.i64 (IntKind.i64.wrap (64 - n)))) w'
theorem math_bits_LeadingZeros64.vc_eq (x' : Int) (w : World) (R : Ending → World → Prop) : fnV Try.prog math_bits_LeadingZeros64.H 72 [Value.int IntKind.u64 x'] w R = math_bits_LeadingZeros64.vc x' w R := by kernel_rfl
theorem math_bits_LeadingZeros64.calls {x' : Int} {w : World} {R : Ending → World → Prop} (h : math_bits_LeadingZeros64.vc x' w R) : Calls Try.prog 72 ([Value.int IntKind.u64 x'] : List Value).toArray w R := calls_of_eq (math_bits_LeadingZeros64.vc_eq x' w R) h

end Go.Proofs.Ytpfnjooddobohaa
