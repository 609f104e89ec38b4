/-
Words that all contracts share: a call that comes to a value, numbers.
Conditions: each theorem's hypotheses.
-/
import Derived.Test.YtngkifnknlginaaVcNum
namespace Go.Proofs.Ytngkifnknlginaa
open Go Go.Vc Go.RowKit
set_option linter.unusedVariables false
set_option linter.unusedSimpArgs false
set_option linter.unnecessarySimpa false
set_option maxRecDepth 100000

/-- A call that comes to a value and turns nothing old. -/
def Gives (v : Value) (w : World) (e : Ending) (w' : World) : Prop := e = .returned v ∧ Later w w'
abbrev fnv (f : FuncId) : Value := .func (.func f) #[] #[]
abbrev u64v (a : Int) : Value := .int .u64 a
abbrev i64v (a : Int) : Value := .int .i64 a
abbrev okv : Value := .int .i64 0
abbrev pairv (a b : Value) : Value := .tuple #[a, b]

theorem tmod_nn {a : Int} (b : Int) (h : 0 ≤ a) : a.tmod b = a % b := Int.tmod_eq_emod_of_nonneg h
theorem fdiv_nn (a : Int) {b : Int} (h : 0 ≤ b) : a.fdiv b = a / b := Int.fdiv_eq_ediv_of_nonneg a h
theorem tdiv_nn {a : Int} (b : Int) (h : 0 ≤ a) : a.tdiv b = a / b := Int.tdiv_eq_ediv_of_nonneg h
theorem two_pow_pos (n : Nat) : (0 : Int) < 2 ^ n := Int.pow_pos (by decide)

theorem down_half (b : Int) (k : Nat) : b / 2 ^ (k + 1) = b / 2 ^ k / 2 := by
  rw [Int.pow_succ, Int.ediv_ediv_of_nonneg (Int.le_of_lt (two_pow_pos _))]
theorem u64_down (k : Nat) (h : k < 64) : min (IntKind.u64.wrap (((k + 1 : Nat) : Int) - 1)).toNat 64 = k := by
  rw [u64_in (by omega) (by omega)]; omega
theorem u64_down_neg (k : Nat) (h : k < 64) : decide (IntKind.u64.wrap (((k + 1 : Nat) : Int) - 1) < 0) = false := by
  rw [u64_in (by omega) (by omega)]; simp
theorem i64_down (k : Nat) (h : k < 64) : IntKind.i64.wrap ((((k + 1 : Nat) : Int) - 1) - 1) = (k : Int) - 1 := by
  rw [i64_in (by omega) (by omega)]; omega
theorem bit_of (x : Int) (h : 0 ≤ x) (k : Nat) : (x.fdiv (2 ^ k)).tmod 2 = x / 2 ^ k % 2 := by
  rw [fdiv_nn _ (Int.le_of_lt (two_pow_pos _)), tmod_nn _ (Int.ediv_nonneg h (Int.le_of_lt (two_pow_pos _)))]
theorem step_prod (a B : Int) : a * B = 2 * (a * (B / 2)) + a * (B % 2) := by
  have h : B = 2 * (B / 2) + B % 2 := by omega
  have : a * B = a * (2 * (B / 2) + B % 2) := by rw [← h]
  rw [this, Int.mul_add, ← Int.mul_assoc, Int.mul_comm a 2, Int.mul_assoc]
end Go.Proofs.Ytngkifnknlginaa
