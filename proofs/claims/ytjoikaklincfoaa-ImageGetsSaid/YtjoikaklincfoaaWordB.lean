/-
The contracts of package word, second part: signs, bytes.
Conditions: each number is of its kind, as each theorem says.
-/
import Derived.Test.YtjoikaklincfoaaVword
import Derived.Test.YtjoikaklincfoaaBase
import Derived.Test.YtjoikaklincfoaaVcOwn
namespace Go.Proofs.Ytjoikaklincfoaa
open Go Go.Vc Go.RowKit
set_option linter.unusedVariables false
set_option linter.unusedSimpArgs false
set_option linter.unnecessarySimpa false
set_option maxRecDepth 100000

/-! ### Sign, Fits -/
/-- The number of so many bits, with its sign, out of a word. -/
def signI (v : Int) (n : Nat) : Int := if 2 ^ (n - 1) ≤ v % 2 ^ n then v % 2 ^ n - 2 ^ n else v % 2 ^ n
def signv (v bits : Int) : Int := if 1 ≤ bits ∧ bits ≤ 64 then signI v bits.toNat % 18446744073709551616 else 0
def signe (bits : Int) : Int := if 1 ≤ bits ∧ bits ≤ 64 then 0 else 2
theorem pow_split (n : Nat) (h : n ≤ 64) : (2 : Int) ^ n * 2 ^ (64 - n) = 18446744073709551616 := by
  rw [← Int.pow_add, show n + (64 - n) = 64 by omega]; rfl
theorem sign_core (v : Int) (n : Nat) (h1 : 1 ≤ n) (h2 : n ≤ 64) : IntKind.i64.wrap (v * 2 ^ (64 - n) % 18446744073709551616) / 2 ^ (64 - n) = signI v n := by
  have hp := pow_split n h2
  have hk : (0 : Int) < 2 ^ (64 - n) := two_pow_pos _
  have hn : (0 : Int) < 2 ^ n := two_pow_pos _
  have hhalf : (2 : Int) ^ n = 2 * 2 ^ (n - 1) := by
    obtain ⟨m, rfl⟩ : ∃ m, n = m + 1 := ⟨n - 1, by omega⟩
    rw [Int.pow_succ]; simp; omega
  have e : v * 2 ^ (64 - n) % 18446744073709551616 = v % 2 ^ n * 2 ^ (64 - n) := by
    rw [← hp, Int.mul_comm v, Int.mul_comm (2 ^ n), Int.mul_emod_mul_of_pos _ _ hk, Int.mul_comm]
  rw [e]
  unfold signI
  have r0 := Int.emod_nonneg v (show (2 : Int) ^ n ≠ 0 by omega)
  have r1 := Int.emod_lt_of_pos v hn
  generalize v % 2 ^ n = r at *
  generalize hK : (2 : Int) ^ (64 - n) = K at *
  generalize hH : (2 : Int) ^ (n - 1) = H at *
  generalize hN : (2 : Int) ^ n = N at *
  have hrK : r * K < 18446744073709551616 := by rw [← hp]; exact Int.mul_lt_mul_of_pos_right r1 hk
  have hrK0 : 0 ≤ r * K := Int.mul_nonneg r0 (by omega)
  have hHK : H * K = 9223372036854775808 := by
    have : 2 * (H * K) = 18446744073709551616 := by rw [← Int.mul_assoc, ← hhalf]; exact hp
    omega
  rw [wrap_i64, Int.emod_eq_of_lt hrK0 hrK]
  by_cases hr : H ≤ r
  · have : H * K ≤ r * K := Int.mul_le_mul_of_nonneg_right hr (by omega)
    rw [if_pos (by omega), if_pos hr, ← hp, ← Int.sub_mul, Int.mul_ediv_cancel _ (by omega)]
  · have : (r + 1) * K ≤ H * K := Int.mul_le_mul_of_nonneg_right (by omega) (by omega)
    rw [Int.add_mul] at this
    rw [if_neg (by omega), if_neg hr, Int.mul_ediv_cancel _ (by omega)]
theorem word_Sign_ok (v bits : Int) (hb : -9223372036854775808 ≤ bits) (hb1 : bits < 9223372036854775808) (w : World) :
    Calls Try.prog word_Sign.N #[u64v v, i64v bits] w (Gives (pairv (u64v (signv v bits)) (i64v (signe bits))) w) := by
  refine word_Sign.calls ?_
  unfold word_Sign.vc
  by_cases h : 1 ≤ bits ∧ bits ≤ 64
  · obtain ⟨h1, h2⟩ := h
    have hw : IntKind.i64.wrap (64 - bits) = 64 - bits := i64_in (by omega) (by omega)
    rw [hw]
    refine cnd_false (by simp; omega) (cnd_false (by simp; omega) (cnd_false (by simp; omega) (cnd_false (by simp; omega) ⟨?_, Later.refl _⟩)))
    have e1 : min (64 - bits).toNat 64 = 64 - bits.toNat := by omega
    have e2 : signv v bits = signI v bits.toNat % 18446744073709551616 := by unfold signv; rw [if_pos ⟨h1, h2⟩]
    have e3 : signe bits = 0 := by unfold signe; rw [if_pos ⟨h1, h2⟩]
    rw [e1, e2, e3, wrap_u64 (v * _), fdiv_nn _ (Int.le_of_lt (two_pow_pos _)), sign_core v bits.toNat (by omega) (by omega), wrap_u64]
  · have e2 : signv v bits = 0 := by unfold signv; rw [if_neg h]
    have e3 : signe bits = 2 := by unfold signe; rw [if_neg h]
    rw [e2, e3]
    by_cases h1 : bits < 1
    · exact cnd_true (by simpa using h1) ⟨rfl, Later.refl _⟩
    · exact cnd_false (by simpa using h1) (cnd_true (by simp; omega) ⟨rfl, Later.refl _⟩)
/-- Has a number room in so many bits? -/
def fitsv (v bits : Int) : Bool := decide (1 ≤ bits ∧ bits ≤ 64 ∧ -2 ^ (bits.toNat - 1) ≤ v ∧ v < 2 ^ (bits.toNat - 1))
theorem half_pow (n : Nat) (h1 : 1 ≤ n) : (2 : Int) ^ n = 2 * 2 ^ (n - 1) := by
  obtain ⟨m, rfl⟩ : ∃ m, n = m + 1 := ⟨n - 1, by omega⟩
  rw [Int.pow_succ]; simp; omega
theorem pow_dvd64 (n : Nat) (h : n ≤ 64) : (2 : Int) ^ n ∣ 18446744073709551616 := ⟨_, (pow_split n h).symm⟩
theorem pow_le63 (n : Nat) (h1 : 1 ≤ n) (h : n ≤ 64) : (2 : Int) ^ (n - 1) ≤ 9223372036854775808 := by
  have e := pow_split n h
  have := half_pow n h1
  have hk : (1 : Int) ≤ 2 ^ (64 - n) := two_pow_pos _
  have hp : (0 : Int) < 2 ^ (n - 1) := two_pow_pos _
  have : 2 ^ (n - 1) * 1 ≤ (2 : Int) ^ (n - 1) * 2 ^ (64 - n) := Int.mul_le_mul_of_nonneg_left hk (by omega)
  rw [‹(2 : Int) ^ n = _›, Int.mul_assoc] at e
  omega
theorem signI_range (v : Int) (n : Nat) (h1 : 1 ≤ n) : -2 ^ (n - 1) ≤ signI v n ∧ signI v n < 2 ^ (n - 1) := by
  have hn := half_pow n h1
  have hp : (0 : Int) < 2 ^ (n - 1) := two_pow_pos _
  have r0 := Int.emod_nonneg v (show (2 : Int) ^ n ≠ 0 by omega)
  have r1 := Int.emod_lt_of_pos v (show (0 : Int) < 2 ^ n by omega)
  unfold signI
  split <;> omega
theorem signI_of_range (v : Int) (n : Nat) (h1 : 1 ≤ n) (h0 : -2 ^ (n - 1) ≤ v) (h2 : v < 2 ^ (n - 1)) : signI v n = v := by
  have hn := half_pow n h1
  have hp : (0 : Int) < 2 ^ (n - 1) := two_pow_pos _
  unfold signI
  by_cases hv : 0 ≤ v
  · rw [Int.emod_eq_of_lt hv (by omega), if_neg (by omega)]
  · have : v % 2 ^ n = v + 2 ^ n := by
      rw [← Int.add_emod_right]
      exact Int.emod_eq_of_lt (by omega) (by omega)
    rw [this, if_pos (by omega)]
    omega
theorem signI_mod (v : Int) (n : Nat) (h : n ≤ 64) : signI (v % 18446744073709551616) n = signI v n := by
  unfold signI
  rw [Int.emod_emod_of_dvd _ (pow_dvd64 n h)]
theorem wrap_i64_small {x : Int} (h0 : -9223372036854775808 ≤ x) (h1 : x < 9223372036854775808) : IntKind.i64.wrap (x % 18446744073709551616) = x := by
  rw [wrap_i64, Int.emod_emod_of_dvd _ (Int.dvd_refl _)]
  split <;> omega
theorem word_Fits_ok (v bits : Int) (hv : -9223372036854775808 ≤ v) (hv1 : v < 9223372036854775808) (hb : -9223372036854775808 ≤ bits) (hb1 : bits < 9223372036854775808) (w : World) :
    Calls Try.prog word_Fits.N #[i64v v, i64v bits] w (Gives (.bool (fitsv v bits)) w) := by
  refine word_Fits.calls ?_
  unfold word_Fits.vc
  refine (word_Sign_ok _ bits hb hb1 _).mono fun e w' ⟨he, hl⟩ => ⟨_, _, he, ?_⟩
  by_cases h : 1 ≤ bits ∧ bits ≤ 64
  · have e2 : signv (IntKind.u64.wrap v) bits = signI v bits.toNat % 18446744073709551616 := by
      unfold signv; rw [if_pos h, wrap_u64, signI_mod _ _ (by omega)]
    have e3 : signe bits = 0 := by unfold signe; rw [if_pos h]
    have hr := signI_range v bits.toNat (by omega)
    have hp := pow_le63 bits.toNat (by omega) (by omega)
    rw [e2, e3, wrap_i64_small (by omega) (by omega)]
    refine cnd_true rfl ⟨?_, hl⟩
    congr 2
    rw [Bool.eq_iff_iff]
    simp only [fitsv, beq_iff_eq, decide_eq_true_eq]
    refine ⟨fun he => ⟨h.1, h.2, by omega, by omega⟩, fun he => signI_of_range v _ (by omega) (by omega) (by omega)⟩
  · have e3 : signe bits = 2 := by unfold signe; rw [if_neg h]
    rw [e3]
    refine cnd_false rfl ⟨?_, hl⟩
    have : fitsv v bits = false := by unfold fitsv; rw [decide_eq_false_iff_not]; intro hh; exact h ⟨hh.1, hh.2.1⟩
    rw [this]

/-! ### Bytes, Word -/
def bytev (v : Int) (j : Nat) : Int := v / 2 ^ (8 * j) % 256
def bytesCells (v : Int) (k : Nat) : List Int := (List.range 9).map fun j => if j < k then bytev v j else 0
/-- The lowest bytes of a word. -/
def bytesOf (v : Int) (n : Nat) : ByteArray := strOf ((List.range n).map (bytev v))
/-- The number of bytes, the lowest first. -/
def wordL : List UInt8 → Nat
  | [] => 0
  | b :: l => b.toNat + 256 * wordL l
theorem wordL_lt : ∀ l : List UInt8, wordL l < 2 ^ (8 * l.length) := by
  intro l
  induction l with
  | nil => simp [wordL]
  | cons b l ih =>
    have hb : b.toNat < 256 := b.toNat_lt
    simp only [wordL, List.length_cons]
    rw [show 8 * (l.length + 1) = 8 + 8 * l.length by omega, Nat.pow_add]
    generalize 2 ^ (8 * l.length) = K at *
    omega
theorem wordL_snoc (b : UInt8) : ∀ l : List UInt8, wordL (l ++ [b]) = wordL l + b.toNat * 2 ^ (8 * l.length) := by
  intro l
  induction l with
  | nil => simp [wordL]
  | cons c l ih =>
    simp only [List.cons_append, wordL, ih, List.length_cons]
    rw [show 8 * (l.length + 1) = 8 + 8 * l.length by omega, Nat.pow_add]
    rw [Nat.mul_add, show (2 : Nat) ^ 8 = 256 from rfl, ← Nat.mul_assoc 256, Nat.mul_comm 256 b.toNat, Nat.mul_assoc]
    omega
theorem or_add (a b k : Nat) (h : a < 2 ^ k) : a ||| b * 2 ^ k = a + b * 2 ^ k := by
  have := Nat.two_pow_add_eq_or_of_lt h b
  rw [Nat.or_comm, Nat.mul_comm, ← this]; omega
theorem get_byte {s : ByteArray} {k : Nat} (h : k < s.size) : s[k]? = some (s.data.toList[k]'(by simpa using h)) := by
  rw [getElem?_pos s k h]; rfl
end Go.Proofs.Ytjoikaklincfoaa
