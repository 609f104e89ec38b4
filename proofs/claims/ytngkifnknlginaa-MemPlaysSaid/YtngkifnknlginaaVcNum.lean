/-
Plain laws of the machine's numbers: bits as natural numbers' bits, a product's higher half.
Conditions: the numbers are of their kind.
-/
import Derived.Test.YtngkifnknlginaaVcLib
namespace Go.Vc
open Go.RowKit
set_option linter.unusedSimpArgs false
set_option linter.unnecessarySimpa false
set_option linter.unusedVariables false

theorem ofInt_nat (n a : Nat) (h : a < 2 ^ n) : (BitVec.ofInt n (a : Int)).toNat = a := by
  rw [BitVec.ofInt_natCast, BitVec.toNat_ofNat, Nat.mod_eq_of_lt h]
theorem bits_and_u64 (a b : Nat) (ha : a < 18446744073709551616) (hb : b < 18446744073709551616) : bits .and .u64 (a : Int) (b : Int) = ((a &&& b : Nat) : Int) := by
  simp only [bits]
  rw [BitVec.toNat_and]
  rw [ofInt_nat _ a (by simpa [IntKind.bits] using ha), ofInt_nat _ b (by simpa [IntKind.bits] using hb), wrap_u64]
  have : a &&& b ≤ a := Nat.and_le_left
  omega
theorem bits_or_u64 (a b : Nat) (ha : a < 18446744073709551616) (hb : b < 18446744073709551616) : bits .or .u64 (a : Int) (b : Int) = ((a ||| b : Nat) : Int) := by
  simp only [bits]
  rw [BitVec.toNat_or]
  rw [ofInt_nat _ a (by simpa [IntKind.bits] using ha), ofInt_nat _ b (by simpa [IntKind.bits] using hb), wrap_u64]
  have : a ||| b < 2 ^ 64 := Nat.or_lt_two_pow (by simpa using ha) (by simpa using hb)
  omega
theorem bits_xor_u64 (a b : Nat) (ha : a < 18446744073709551616) (hb : b < 18446744073709551616) : bits .xor .u64 (a : Int) (b : Int) = ((a ^^^ b : Nat) : Int) := by
  simp only [bits]
  rw [BitVec.toNat_xor]
  rw [ofInt_nat _ a (by simpa [IntKind.bits] using ha), ofInt_nat _ b (by simpa [IntKind.bits] using hb), wrap_u64]
  have : a ^^^ b < 2 ^ 64 := Nat.xor_lt_two_pow (by simpa using ha) (by simpa using hb)
  omega
theorem bits_and_u32 (a b : Nat) (ha : a < 4294967296) (hb : b < 4294967296) : bits .and .u32 (a : Int) (b : Int) = ((a &&& b : Nat) : Int) := by
  simp only [bits]
  rw [BitVec.toNat_and]
  rw [ofInt_nat _ a (by simpa [IntKind.bits] using ha), ofInt_nat _ b (by simpa [IntKind.bits] using hb), wrap_u32]
  have : a &&& b ≤ a := Nat.and_le_left
  omega
theorem bits_or_u32 (a b : Nat) (ha : a < 4294967296) (hb : b < 4294967296) : bits .or .u32 (a : Int) (b : Int) = ((a ||| b : Nat) : Int) := by
  simp only [bits]
  rw [BitVec.toNat_or]
  rw [ofInt_nat _ a (by simpa [IntKind.bits] using ha), ofInt_nat _ b (by simpa [IntKind.bits] using hb), wrap_u32]
  have : a ||| b < 2 ^ 32 := Nat.or_lt_two_pow (by simpa using ha) (by simpa using hb)
  omega
theorem low32_and (a : Nat) (ha : a < 18446744073709551616) : bits .and .u64 (a : Int) 4294967295 = (a : Int) % 4294967296 := by
  have := bits_and_u64 a 4294967295 ha (by decide)
  rw [show ((4294967295 : Nat) : Int) = 4294967295 from rfl] at this
  rw [this, show (4294967295 : Nat) = 2 ^ 32 - 1 from rfl, Nat.and_two_pow_sub_one_eq_mod]
  omega
theorem split_prod (x1 x0 y1 y0 : Int) : (x1 * 4294967296 + x0) * (y1 * 4294967296 + y0) = x1 * y1 * 18446744073709551616 + (x1 * y0 + x0 * y1) * 4294967296 + x0 * y0 := by
  simp only [Int.add_mul, Int.mul_add]
  have e1 : x1 * 4294967296 * (y1 * 4294967296) = x1 * y1 * 18446744073709551616 := by
    rw [Int.mul_assoc, Int.mul_comm 4294967296, Int.mul_assoc y1, ← Int.mul_assoc]; rfl
  have e2 : x1 * 4294967296 * y0 = x1 * y0 * 4294967296 := by rw [Int.mul_assoc, Int.mul_comm 4294967296, ← Int.mul_assoc]
  have e3 : x0 * (y1 * 4294967296) = x0 * y1 * 4294967296 := by rw [← Int.mul_assoc]
  omega
theorem half_le {a b : Int} (ha0 : 0 ≤ a) (ha : a ≤ 4294967295) (hb0 : 0 ≤ b) (hb : b ≤ 4294967295) : 0 ≤ a * b ∧ a * b ≤ 18446744065119617025 := by
  refine ⟨Int.mul_nonneg ha0 hb0, ?_⟩
  have h1 : a * b ≤ 4294967295 * b := Int.mul_le_mul_of_nonneg_right ha hb0
  omega
/-- What the library's text reckons is the higher half. -/
theorem mul_hi (x y : Int) (hx0 : 0 ≤ x) (hx : x < 18446744073709551616) (hy0 : 0 ≤ y) (hy : y < 18446744073709551616) :
    (((x / 4294967296 * (y / 4294967296)) % 18446744073709551616 + (((x / 4294967296 * (y % 4294967296)) % 18446744073709551616 + ((x % 4294967296 * (y % 4294967296)) % 18446744073709551616) / 4294967296) % 18446744073709551616) / 4294967296) % 18446744073709551616 +
      (((((x / 4294967296 * (y % 4294967296)) % 18446744073709551616 + ((x % 4294967296 * (y % 4294967296)) % 18446744073709551616) / 4294967296) % 18446744073709551616) % 4294967296 + (x % 4294967296 * (y / 4294967296)) % 18446744073709551616) % 18446744073709551616) / 4294967296) % 18446744073709551616 = x * y / 18446744073709551616 := by
  have ex : x = x / 4294967296 * 4294967296 + x % 4294967296 := by omega
  have ey : y = y / 4294967296 * 4294967296 + y % 4294967296 := by omega
  have e := split_prod (x / 4294967296) (x % 4294967296) (y / 4294967296) (y % 4294967296)
  rw [← ex, ← ey] at e
  have b1 := half_le (a := x / 4294967296) (b := y / 4294967296) (by omega) (by omega) (by omega) (by omega)
  have b2 := half_le (a := x / 4294967296) (b := y % 4294967296) (by omega) (by omega) (by omega) (by omega)
  have b3 := half_le (a := x % 4294967296) (b := y / 4294967296) (by omega) (by omega) (by omega) (by omega)
  have b4 := half_le (a := x % 4294967296) (b := y % 4294967296) (by omega) (by omega) (by omega) (by omega)
  rw [e]
  generalize x / 4294967296 * (y / 4294967296) = p at *
  generalize x / 4294967296 * (y % 4294967296) = q at *
  generalize x % 4294967296 * (y / 4294967296) = r at *
  generalize x % 4294967296 * (y % 4294967296) = s at *
  clear e ex ey
  omega
theorem bits2 : ∀ p : Fin 2, ∀ q : Fin 2, (p.val ||| q.val) + (p.val &&& q.val) = p.val + q.val ∧ (p.val ||| q.val) ≤ 1 ∧ (p.val &&& q.val) ≤ 1 ∧ (p.val ^^^ q.val) ≤ 1 ∧ (p.val ^^^ q.val) + (p.val &&& q.val) = (p.val ||| q.val) := by decide
theorem or_add_and : ∀ (n x y : Nat), x < n → (x ||| y) + (x &&& y) = x + y ∧ (x ^^^ y) + (x &&& y) = (x ||| y) := by
  intro n
  induction n with
  | zero => intro x y h; omega
  | succ n ih =>
    intro x y h
    by_cases hx : x = 0
    · subst hx; simp
    have e := ih (x / 2) (y / 2) (by omega)
    have h1 : (x ||| y) / 2 = x / 2 ||| y / 2 := Nat.or_div_two
    have h2 : (x &&& y) / 2 = x / 2 &&& y / 2 := Nat.and_div_two
    have h5 : (x ^^^ y) / 2 = x / 2 ^^^ y / 2 := Nat.xor_div_two
    have h3 : (x ||| y) % 2 = x % 2 ||| y % 2 := Nat.or_mod_two_pow (n := 1)
    have h4 : (x &&& y) % 2 = x % 2 &&& y % 2 := Nat.and_mod_two_pow (n := 1)
    have h6 : (x ^^^ y) % 2 = x % 2 ^^^ y % 2 := Nat.xor_mod_two_pow (n := 1)
    have hb := bits2 ⟨x % 2, by omega⟩ ⟨y % 2, by omega⟩
    simp only at hb
    rw [← h3, ← h4, ← h6] at hb
    rw [← h1, ← h2, ← h5] at e
    generalize x ||| y = a at *
    generalize x &&& y = b at *
    generalize x ^^^ y = c at *
    omega
end Go.Vc
