/-
The contracts of the chapter's reference package: it comes to the same numbers.
Conditions: each number is of its kind, as each theorem says.
-/
import Derived.Test.YtoncpheocnjooaaVref01
import Derived.Test.YtoncpheocnjooaaWord
import Derived.Test.YtoncpheocnjooaaVcOwn
namespace Go.Proofs.Ytoncpheocnjooaa
open Go Go.Vc Go.RowKit
set_option linter.unusedVariables false
set_option linter.unusedSimpArgs false
set_option maxRecDepth 100000

theorem down_half (b : Int) (k : Nat) : b / 2 ^ (k + 1) = b / 2 ^ k / 2 := by
  rw [Int.pow_succ, Int.ediv_ediv_of_nonneg (Int.le_of_lt (two_pow_pos _))]
theorem u64_down (k : Nat) (h : k < 64) : min (IntKind.u64.wrap (((k + 1 : Nat) : Int) - 1)).toNat 64 = k := by
  rw [u64_in (by omega) (by omega)]; omega
theorem u64_down_neg (k : Nat) (h : k < 64) : decide (IntKind.u64.wrap (((k + 1 : Nat) : Int) - 1) < 0) = false := by
  rw [u64_in (by omega) (by omega)]; simp
theorem i64_down (k : Nat) (h : k < 64) : IntKind.i64.wrap ((((k + 1 : Nat) : Int) - 1) - 1) = (k : Int) - 1 := by
  rw [i64_in (by omega) (by omega)]; omega
theorem bit_of (x : Int) (h : 0 ≤ x) (k : Nat) : (x.fdiv (2 ^ k)).tmod 2 = x / 2 ^ k % 2 := by
  rw [fdiv_nn _ (Int.le_of_lt (two_pow_pos _)), tmod_nn _ (Int.ediv_nonneg h (Int.le_of_lt (two_pow_pos _)))]
theorem step_prod (a B : Int) : a * B = 2 * (a * (B / 2)) + a * (B % 2) := by
  have h : B = 2 * (B / 2) + B % 2 := by omega
  have : a * B = a * (2 * (B / 2) + B % 2) := by rw [← h]
  rw [this, Int.mul_add, ← Int.mul_assoc, Int.mul_comm a 2, Int.mul_assoc]
theorem ref01_product_ok (a b : Int) (ha : 0 ≤ a) (ha1 : a < 18446744073709551616) (hb : 0 ≤ b) (hb1 : b < 18446744073709551616) (w : World) :
    Calls Try.prog ref01_product.N #[u64v a, u64v b] w (Gives (pairv (u64v (a * b / 18446744073709551616)) (u64v (a * b % 18446744073709551616))) w) := by
  refine ref01_product.calls ?_
  unfold ref01_product.vc
  rintro x rfl y rfl z rfl
  refine ⟨fun vs w' => ∃ (k : Nat) (h l : Int), k ≤ 64 ∧ vs = [u64v h, u64v l, i64v ((k : Int) - 1)] ∧ 0 ≤ h ∧ h < 18446744073709551616 ∧ 0 ≤ l ∧ l < 18446744073709551616 ∧ h * 18446744073709551616 + l = a * (b / 2 ^ k) ∧ w' = w,
    fun vs _ => match vs with | [_, _, .int _ i] => (i + 1).toNat | _ => 0, ⟨64, 0, 0, by omega, rfl, by omega, by omega, by omega, by omega, ?_, rfl⟩, ?_⟩
  · rw [show b / 2 ^ 64 = 0 from Int.ediv_eq_zero_of_lt hb (by simpa using hb1)]; omega
  rintro g high low i w' ⟨k, _, _, hk, hs, h0, h1, l0, l1, hp, rfl⟩
  simp only [List.cons.injEq, Value.int.injEq, true_and, and_true] at hs
  obtain ⟨rfl, rfl, rfl⟩ := hs
  refine cnd_of (fun hlt => ?_) (fun hge => ?_)
  · have hlt := of_decide_eq_true hlt
    obtain ⟨m, rfl⟩ : ∃ m, k = m + 1 := ⟨k - 1, by omega⟩
    have hB0 : 0 ≤ b / 2 ^ m := Int.ediv_nonneg hb (Int.le_of_lt (two_pow_pos _))
    have hB1 : b / 2 ^ m ≤ b := Int.ediv_le_self _ hb
    have hs := step_prod a (b / 2 ^ m)
    rw [down_half] at hp
    have hub : a * (b / 2 ^ m) ≤ 18446744073709551615 * 18446744073709551615 := Int.le_trans (Int.mul_le_mul_of_nonneg_right (show a ≤ 18446744073709551615 by omega) hB0) (Int.mul_le_mul_of_nonneg_left (by omega) (by omega))
    intro x hx y hy
    rw [u64_down m (by omega), i64_down m (by omega)]
    refine cnd_false (u64_down_neg m (by omega)) ?_
    rw [bit_of b hb]
    rw [fdiv_nn _ (by decide)] at hx
    simp only [wrap_u64] at hx hy ⊢
    refine cnd_of (fun hbit => ?_) (fun hbit => ?_)
    · have hbit : b / 2 ^ m % 2 = 1 := by simpa using hbit
      rw [hbit, Int.mul_one] at hs
      rintro s rfl
      refine cnd_of (fun hc => ?_) (fun hc => ?_)
      · have hc := of_decide_eq_true hc
        rintro p rfl q rfl r rfl
        exact ⟨⟨m, _, _, by omega, rfl, by omega, by omega, by omega, by omega, by omega, rfl⟩, by simp only; omega⟩
      · have hc := of_decide_eq_false hc
        rintro p rfl q rfl
        exact ⟨⟨m, _, _, by omega, rfl, by omega, by omega, by omega, by omega, by omega, rfl⟩, by simp only; omega⟩
    · have hbit : b / 2 ^ m % 2 = 0 := by have : ¬ b / 2 ^ m % 2 = 1 := by simpa using hbit
                                          omega
      rw [hbit, Int.mul_zero] at hs
      rintro q rfl
      exact ⟨⟨m, _, _, by omega, rfl, by omega, by omega, by omega, by omega, by omega, rfl⟩, by simp only; omega⟩
  · have hge := of_decide_eq_false hge
    obtain rfl : k = 0 := by omega
    rw [Int.pow_zero, Int.ediv_one] at hp
    refine ⟨?_, Later.refl _⟩
    congr 4
    · congr 1; omega
    · congr 3; omega
theorem ref01_divide_ok (a b : Int) (ha : 0 ≤ a) (ha1 : a < 18446744073709551616) (hb : 0 ≤ b) (hb1 : b < 18446744073709551616) (w : World) :
    Calls Try.prog ref01_divide.N #[u64v a, u64v b] w (Gives (pairv (u64v (if b = 0 then 18446744073709551615 else a / b)) (u64v (if b = 0 then a else a % b))) w) := by
  refine ref01_divide.calls ?_
  unfold ref01_divide.vc
  refine cnd_of (fun hz => ?_) (fun hz => ?_)
  · have hz : b = 0 := by simpa using hz
    subst hz
    exact ⟨rfl, Later.refl _⟩
  have hz : ¬ b = 0 := by simpa using hz
  rw [if_neg hz, if_neg hz]
  rintro x rfl y rfl z rfl
  refine ⟨fun vs w' => ∃ (k : Nat) (q r : Int), k ≤ 64 ∧ vs = [u64v q, u64v r, i64v ((k : Int) - 1)] ∧ 0 ≤ q ∧ q < 18446744073709551616 ∧ 0 ≤ r ∧ r < b ∧ a / 2 ^ k = b * q + r ∧ w' = w,
    fun vs _ => match vs with | [_, _, .int _ i] => (i + 1).toNat | _ => 0, ⟨64, 0, 0, by omega, rfl, by omega, by omega, by omega, by omega, ?_, rfl⟩, ?_⟩
  · rw [show a / 2 ^ 64 = 0 from Int.ediv_eq_zero_of_lt ha (by simpa using ha1)]; omega
  rintro g q r i w' ⟨k, _, _, hk, hs, q0, q1, r0, r1, hp, rfl⟩
  simp only [List.cons.injEq, Value.int.injEq, true_and, and_true] at hs
  obtain ⟨rfl, rfl, rfl⟩ := hs
  refine cnd_of (fun hlt => ?_) (fun hge => ?_)
  · have hlt := of_decide_eq_true hlt
    obtain ⟨m, rfl⟩ : ∃ m, k = m + 1 := ⟨k - 1, by omega⟩
    have hA0 : 0 ≤ a / 2 ^ m := Int.ediv_nonneg ha (Int.le_of_lt (two_pow_pos _))
    have hA1 : a / 2 ^ m ≤ a := Int.ediv_le_self _ ha
    rw [down_half] at hp
    rintro t rfl
    rw [u64_down m (by omega), i64_down m (by omega)]
    refine cnd_false (u64_down_neg m (by omega)) ?_
    rw [bit_of a ha, fdiv_nn _ (by decide)]
    simp only [wrap_u64]
    rintro x hx y hy
    have hq : b * q ≤ a / 2 ^ m / 2 := by omega
    have hq1 : 1 * q ≤ b * q := Int.mul_le_mul_of_nonneg_right (by omega) q0
    have hb2 : b * (q * 2) = b * q * 2 := by rw [Int.mul_assoc]
    have hb3 : b * (q * 2 + 1) = b * q * 2 + b := by rw [Int.mul_add, hb2, Int.mul_one]
    have hy' : y = q * 2 := by omega
    refine cnd_of (fun hc => ?_) (fun hc => ?_)
    · have hc : r / 9223372036854775808 = 1 := by simpa using hc
      rintro s rfl p rfl u rfl
      have e1 : (y + 1) % 18446744073709551616 = q * 2 + 1 := by omega
      rw [e1]
      exact ⟨⟨m, _, _, by omega, rfl, by omega, by omega, by omega, by omega, by omega, rfl⟩, by simp only; omega⟩
    · have hc : ¬ r / 9223372036854775808 = 1 := by simpa using hc
      refine cnd_of (fun hd => ?_) (fun hd => ?_)
      · have hd := of_decide_eq_true hd
        rintro s rfl p rfl u rfl
        have e1 : (y + 1) % 18446744073709551616 = q * 2 + 1 := by omega
        rw [e1]
        exact ⟨⟨m, _, _, by omega, rfl, by omega, by omega, by omega, by omega, by omega, rfl⟩, by simp only; omega⟩
      · have hd := of_decide_eq_false hd
        rintro u rfl
        rw [hy']
        exact ⟨⟨m, _, _, by omega, rfl, by omega, by omega, by omega, by omega, by omega, rfl⟩, by simp only; omega⟩
  · have hge := of_decide_eq_false hge
    obtain rfl : k = 0 := by omega
    rw [Int.pow_zero, Int.ediv_one] at hp
    refine ⟨?_, Later.refl _⟩
    have hd : a / b = q ∧ a % b = r := by
      have := Int.ediv_emod_unique (a := a) (b := b) (r := r) (q := q) (by omega)
      exact this.mpr ⟨by omega, r0, r1⟩
    rw [hd.1, hd.2]
theorem ref01_one_ok (c : Bool) (w : World) : Calls Try.prog ref01_one.N #[.bool c] w (Gives (u64v (if c then 1 else 0)) w) := by
  refine ref01_one.calls ?_
  exact cnd_of (fun h => by subst h; exact ⟨rfl, Later.refl _⟩) (fun h => by subst h; exact ⟨rfl, Later.refl _⟩)

/-! ### Op -/
theorem xor_top (a : Nat) (h : a < 18446744073709551616) : a ^^^ 9223372036854775808 = if a < 9223372036854775808 then a + 9223372036854775808 else a - 9223372036854775808 := by
  have h1 : (a ^^^ 9223372036854775808) / 2 ^ 63 = a / 2 ^ 63 ^^^ 9223372036854775808 / 2 ^ 63 := Nat.xor_div_two_pow
  have h2 : (a ^^^ 9223372036854775808) % 2 ^ 63 = a % 2 ^ 63 ^^^ 9223372036854775808 % 2 ^ 63 := Nat.xor_mod_two_pow
  rw [show (9223372036854775808 : Nat) / 2 ^ 63 = 1 from rfl] at h1
  rw [show (9223372036854775808 : Nat) % 2 ^ 63 = 0 from rfl, Nat.xor_zero] at h2
  generalize a ^^^ 9223372036854775808 = x at *
  split
  · have e : a / 2 ^ 63 = 0 := by omega
    rw [e, show 0 ^^^ 1 = 1 from rfl] at h1
    omega
  · have e : a / 2 ^ 63 = 1 := by omega
    rw [e, show 1 ^^^ 1 = 0 from rfl] at h1
    omega
theorem xor_ones (a : Nat) (h : a < 18446744073709551616) : 18446744073709551615 ^^^ a = 18446744073709551615 - a := by
  have := congrArg BitVec.toNat (BitVec.allOnes_xor (x := BitVec.ofNat 64 a))
  rw [BitVec.toNat_xor, BitVec.toNat_allOnes, BitVec.toNat_ofNat, BitVec.toNat_not, BitVec.toNat_ofNat, Nat.mod_eq_of_lt (by simpa using h)] at this
  simpa using this
theorem bits_xor_top (a : Int) (h0 : 0 ≤ a) (h1 : a < 18446744073709551616) : bits .xor .u64 a 9223372036854775808 = if a < 9223372036854775808 then a + 9223372036854775808 else a - 9223372036854775808 := by
  obtain ⟨n, rfl⟩ := Int.eq_ofNat_of_zero_le h0
  rw [show (9223372036854775808 : Int) = ((9223372036854775808 : Nat) : Int) from rfl, bits_xor_u64 _ _ (by omega) (by decide), xor_top _ (by omega)]
  split <;> split <;> omega
theorem bits_xor_ones (a : Int) (h0 : 0 ≤ a) (h1 : a < 18446744073709551616) : bits .xor .u64 IntKind.u64.max a = 18446744073709551615 - a := by
  obtain ⟨n, rfl⟩ := Int.eq_ofNat_of_zero_le h0
  rw [show IntKind.u64.max = ((18446744073709551615 : Nat) : Int) from rfl, bits_xor_u64 _ _ (by decide) (by omega), xor_ones _ (by omega)]
  omega
theorem neg_div (x k : Int) (hk : 0 < k) (hx : 0 ≤ x) : (-1 - x) / k = -1 - x / k := by
  have h1 := Int.emod_add_mul_ediv x k
  have h2 := Int.emod_nonneg x (show k ≠ 0 by omega)
  have h3 := Int.emod_lt_of_pos x hk
  have := Int.ediv_emod_unique (a := -1 - x) (b := k) (r := k - 1 - x % k) (q := -1 - x / k) hk
  refine (this.mpr ⟨?_, by omega, by omega⟩).1
  rw [Int.mul_sub, Int.mul_neg, Int.mul_one]
  omega
theorem ref01_Op_ok (fn a b : Int) (h0 : 0 ≤ fn) (h1 : fn < 256) (ha : 0 ≤ a) (ha1 : a < 18446744073709551616) (hb : 0 ≤ b) (hb1 : b < 18446744073709551616) (w : World) :
    Calls Try.prog ref01_Op.N #[.int .u8 fn, u64v a, u64v b] w (Gives (pairv (u64v (opv fn a b)) (i64v (ope fn))) w) := by
  refine ref01_Op.calls ?_
  unfold ref01_Op.vc
  refine (ref01_product_ok a b ha ha1 hb hb1 w).mono fun e w1 ⟨he, hl⟩ => ⟨_, _, he, ?_⟩
  refine (ref01_divide_ok a b ha ha1 hb hb1 w1).mono fun e w2 ⟨he2, hl2⟩ => ⟨_, _, he2, ?_⟩
  have hl := hl.trans hl2
  rw [tmod_nn 64 hb]
  have hk : decide (b % 64 < 0) = false := by simp; omega
  have hp : (0 : Int) < 2 ^ (b % 64).toNat := two_pow_pos _
  rw [min64 hb, hk]
  simp only [fdiv_nn _ (Int.le_of_lt hp), wrap_u64]
  have e2 : 1 ≤ fn ∧ fn ≤ 14 → ope fn = 0 := fun h => by unfold ope; rw [if_pos h]
  unfold opv
  refine cnd_of (fun h => ?_) (fun h => ?_)
  · have h : fn = 1 := by simpa using h
    rw [e2 (by omega), if_pos h]; exact ⟨rfl, hl⟩
  rw [if_neg (by simpa using h)]
  refine cnd_of (fun h => ?_) (fun h => ?_)
  · have h : fn = 2 := by simpa using h
    rw [e2 (by omega), if_pos h]; exact ⟨rfl, hl⟩
  rw [if_neg (by simpa using h)]
  refine cnd_of (fun h => ?_) (fun h => ?_)
  · have h : fn = 3 := by simpa using h
    rw [e2 (by omega), if_pos h]; exact ⟨rfl, hl⟩
  rw [if_neg (by simpa using h)]
  refine cnd_of (fun h => ?_) (fun h => ?_)
  · have h : fn = 4 := by simpa using h
    rw [e2 (by omega), if_pos h]
    refine (ref01_one_ok _ _).mono fun e w' ⟨he, hl'⟩ => ⟨_, he, ?_, hl.trans hl'⟩
    congr 4
    congr 1
    rw [bits_xor_top a ha ha1, bits_xor_top b hb hb1, wrap_i64, wrap_i64, Int.emod_eq_of_lt ha ha1, Int.emod_eq_of_lt hb hb1]
    simp only [decide_eq_true_eq]
    congr 1
    apply propext
    split <;> split <;> split <;> split <;> omega
  rw [if_neg (by simpa using h)]
  refine cnd_of (fun h => ?_) (fun h => ?_)
  · have h : fn = 5 := by simpa using h
    rw [e2 (by omega), if_pos h]
    refine (ref01_one_ok _ _).mono fun e w' ⟨he, hl'⟩ => ⟨_, he, ?_, hl.trans hl'⟩
    simp
  rw [if_neg (by simpa using h)]
  refine cnd_of (fun h => ?_) (fun h => ?_)
  · have h : fn = 6 := by simpa using h
    rw [e2 (by omega), if_pos h]; exact ⟨rfl, hl⟩
  rw [if_neg (by simpa using h)]
  refine cnd_of (fun h => ?_) (fun h => ?_)
  · have h : fn = 7 := by simpa using h
    rw [e2 (by omega), if_pos h]; exact ⟨rfl, hl⟩
  rw [if_neg (by simpa using h)]
  refine cnd_of (fun h => ?_) (fun h => ?_)
  · have h : fn = 8 := by simpa using h
    rw [e2 (by omega), if_pos h, wrap_i64, Int.emod_eq_of_lt ha ha1]
    refine cnd_of (fun hc => ?_) (fun hc => ?_)
    · have hc := of_decide_eq_true hc
      rw [if_neg (by omega)]
      have d0 : 0 ≤ a / 2 ^ (b % 64).toNat := Int.ediv_nonneg ha (Int.le_of_lt hp)
      have d1 : a / 2 ^ (b % 64).toNat ≤ a := Int.ediv_le_self _ ha
      rw [Int.emod_eq_of_lt d0 (by omega)]
      exact ⟨rfl, hl⟩
    · have hc := of_decide_eq_false hc
      rw [if_pos (by omega), bits_xor_ones a ha ha1]
      have d0 : 0 ≤ (18446744073709551615 - a) / 2 ^ (b % 64).toNat := Int.ediv_nonneg (by omega) (Int.le_of_lt hp)
      have d1 : (18446744073709551615 - a) / 2 ^ (b % 64).toNat ≤ 18446744073709551615 - a := Int.ediv_le_self _ (by omega)
      rw [bits_xor_ones _ d0 (by omega), show a - 18446744073709551616 = -1 - (18446744073709551615 - a) by omega, neg_div _ _ hp (by omega)]
      refine ⟨?_, hl⟩
      congr 5
      omega
  rw [if_neg (by simpa using h)]
  refine cnd_of (fun h => ?_) (fun h => ?_)
  · have h : fn = 9 := by simpa using h
    rw [e2 (by omega), if_pos h]; exact ⟨rfl, hl⟩
  rw [if_neg (by simpa using h)]
  refine cnd_of (fun h => ?_) (fun h => ?_)
  · have h : fn = 10 := by simpa using h
    rw [e2 (by omega), if_pos h]; exact ⟨rfl, hl⟩
  rw [if_neg (by simpa using h)]
  refine cnd_of (fun h => ?_) (fun h => ?_)
  · have h : fn = 11 := by simpa using h
    rw [e2 (by omega), if_pos h]; exact ⟨rfl, hl⟩
  rw [if_neg (by simpa using h)]
  refine cnd_of (fun h => ?_) (fun h => ?_)
  · have h : fn = 12 := by simpa using h
    rw [e2 (by omega), if_pos h]; exact ⟨rfl, hl⟩
  rw [if_neg (by simpa using h)]
  refine cnd_of (fun h => ?_) (fun h => ?_)
  · have h : fn = 13 := by simpa using h
    rw [e2 (by omega), if_pos h]; exact ⟨rfl, hl⟩
  rw [if_neg (by simpa using h)]
  refine cnd_of (fun h => ?_) (fun h => ?_)
  · have h : fn = 14 := by simpa using h
    rw [e2 (by omega), if_pos h]; exact ⟨rfl, hl⟩
  rw [if_neg (by simpa using h)]
  have e3 : ope fn = 2 := by
    unfold ope
    rw [if_neg]
    simp at *
    omega
  rw [e3]
  exact ⟨rfl, hl⟩

/-! ### Sign, Fits -/
theorem nat_bit (n i : Nat) : n / 2 ^ i % 2 = n % 2 ^ (i + 1) / 2 ^ i := by
  rw [Nat.pow_succ, Nat.mod_mul_right_div_self]
theorem nat_mod_mod (n : Nat) {i b : Nat} (h : i ≤ b) : n % 2 ^ b % 2 ^ i = n % 2 ^ i := Nat.mod_mod_of_dvd _ (Nat.pow_dvd_pow 2 h)
/-- The bits of what the sign's law makes. -/
theorem sign_bit (n b i : Nat) (h1 : 1 ≤ b) (h2 : b ≤ 64) (hi : i < 64) (X : Nat) (hX : (X : Int) = signI n b % 18446744073709551616) : X / 2 ^ i % 2 = n / 2 ^ min i (b - 1) % 2 := by
  obtain ⟨c, rfl⟩ : ∃ c, b = c + 1 := ⟨b - 1, by omega⟩
  simp only [Nat.add_sub_cancel]
  have hp : 2 ^ (c + 1) = 2 * 2 ^ c := by rw [Nat.pow_succ, Nat.mul_comm]
  have hc : 0 < 2 ^ c := Nat.two_pow_pos c
  have hle : 2 ^ (c + 1) ≤ 2 ^ 64 := Nat.pow_le_pow_right (by decide) h2
  have hr : n % 2 ^ (c + 1) < 2 ^ (c + 1) := Nat.mod_lt _ (by omega)
  have hX' : X = if 2 ^ c ≤ n % 2 ^ (c + 1) then n % 2 ^ (c + 1) + (2 ^ 64 - 2 ^ (c + 1)) else n % 2 ^ (c + 1) := by
    unfold signI at hX
    have e1 : ((n : Int) % 2 ^ (c + 1)) = ((n % 2 ^ (c + 1) : Nat) : Int) := by simp
    have e2 : ((2 : Int) ^ (c + 1 - 1)) = ((2 ^ c : Nat) : Int) := by simp
    have e3 : ((2 : Int) ^ (c + 1)) = ((2 ^ (c + 1) : Nat) : Int) := by simp
    rw [e1, e2, e3] at hX
    generalize n % 2 ^ (c + 1) = r at *
    generalize 2 ^ (c + 1) = N at *
    generalize 2 ^ c = C at *
    split
    · rw [if_pos (by omega)] at hX; omega
    · rw [if_neg (by omega)] at hX; omega
  by_cases hic : i ≤ c
  · rw [Nat.min_eq_left hic, nat_bit, nat_bit]
    congr 1
    have hd : 2 ^ (i + 1) ∣ 2 ^ 64 - 2 ^ (c + 1) := Nat.dvd_sub (Nat.pow_dvd_pow 2 (by omega)) (Nat.pow_dvd_pow 2 (by omega))
    rw [hX']
    split
    · rw [Nat.add_mod, Nat.mod_eq_zero_of_dvd hd, Nat.add_zero, Nat.mod_mod, nat_mod_mod _ (by omega)]
    · rw [nat_mod_mod _ (by omega)]
  · rw [Nat.min_eq_right (by omega), nat_bit n c, hX']
    have hci : 2 ^ (c + 1) ≤ 2 ^ i := Nat.pow_le_pow_right (by decide) (by omega)
    split
    · rename_i hs
      have e1 : n % 2 ^ (c + 1) / 2 ^ c = 1 := Nat.div_eq_of_lt_le (by omega) (by omega)
      rw [e1]
      obtain ⟨d, hd⟩ : ∃ d, i + d = 63 := ⟨63 - i, by omega⟩
      have hpi : (2 : Nat) ^ 64 = 2 ^ i * (2 * 2 ^ d) := by rw [← Nat.pow_succ', ← Nat.pow_add, show i + (d + 1) = 64 by omega]
      have hd1 : 0 < 2 ^ d := Nat.two_pow_pos d
      have hlow : 2 ^ i * (2 * 2 ^ d - 1) ≤ n % 2 ^ (c + 1) + (2 ^ 64 - 2 ^ (c + 1)) := by rw [Nat.mul_sub, ← hpi]; omega
      have hup : n % 2 ^ (c + 1) + (2 ^ 64 - 2 ^ (c + 1)) < 2 ^ i * (2 * 2 ^ d - 1 + 1) := by rw [show 2 * 2 ^ d - 1 + 1 = 2 * 2 ^ d by omega, ← hpi]; omega
      have e2 : (n % 2 ^ (c + 1) + (2 ^ 64 - 2 ^ (c + 1))) / 2 ^ i = 2 * 2 ^ d - 1 := Nat.div_eq_of_lt_le (by rw [Nat.mul_comm]; exact hlow) (by rw [Nat.mul_comm]; exact hup)
      rw [e2]; omega
    · rename_i hs
      rw [Nat.div_eq_of_lt (show n % 2 ^ (c + 1) < 2 ^ i by omega), Nat.div_eq_of_lt (show n % 2 ^ (c + 1) < 2 ^ c by omega)]
theorem ref01_Sign_ok (v bits : Int) (hv : 0 ≤ v) (hb : -9223372036854775808 ≤ bits) (hb1 : bits < 9223372036854775808) (w : World) :
    Calls Try.prog ref01_Sign.N #[u64v v, i64v bits] w (Gives (pairv (u64v (signv v bits)) (i64v (signe bits))) w) := by
  refine ref01_Sign.calls ?_
  unfold ref01_Sign.vc
  obtain ⟨n, rfl⟩ := Int.eq_ofNat_of_zero_le hv
  by_cases h : 1 ≤ bits ∧ bits ≤ 64
  · have e3 : signe bits = 0 := by unfold signe; rw [if_pos h]
    have e2 : signv n bits = signI n bits.toNat % 18446744073709551616 := by unfold signv; rw [if_pos h]
    rw [e3, e2]
    obtain ⟨X, hX⟩ := Int.eq_ofNat_of_zero_le (Int.emod_nonneg (signI n bits.toNat) (show (18446744073709551616 : Int) ≠ 0 by decide))
    have hXlt := Int.emod_lt_of_pos (signI n bits.toNat) (show (0 : Int) < 18446744073709551616 by decide)
    rw [hX]
    rw [hX] at hXlt
    refine cnd_false (by simp; omega) (cnd_false (by simp; omega) ?_)
    refine ⟨fun vs w' => ∃ k : Nat, k ≤ 64 ∧ vs = [u64v ((X / 2 ^ k : Nat) : Int), i64v ((k : Int) - 1)] ∧ w' = w, fun vs _ => match vs with | [_, .int _ i] => (i + 1).toNat | _ => 0, ⟨64, by omega, ?_, rfl⟩, ?_⟩
    · rw [Nat.div_eq_of_lt (show X < 2 ^ 64 by omega)]; rfl
    rintro g out i w' ⟨k, hk, hs, rfl⟩
    simp only [List.cons.injEq, Value.int.injEq, true_and, and_true] at hs
    obtain ⟨rfl, rfl⟩ := hs
    refine cnd_of (fun hlt => ?_) (fun hge => ?_)
    · have hlt := of_decide_eq_true hlt
      obtain ⟨m, rfl⟩ : ∃ m, k = m + 1 := ⟨k - 1, by omega⟩
      have eg : gomin (((m + 1 : Nat) : Int) - 1) (IntKind.i64.wrap (bits - 1)) = ((min m (bits.toNat - 1) : Nat) : Int) := by
        rw [i64_in (by omega) (by omega)]; unfold gomin; split <;> omega
      rw [eg, u64_in (x := ((min m (bits.toNat - 1) : Nat) : Int)) (by omega) (by omega)]
      refine cnd_false (A := False) (decide_eq_false (Int.not_lt.mpr (Int.natCast_nonneg (min m (bits.toNat - 1))))) ?_
      have hb := sign_bit n bits.toNat m (by omega) (by omega) (by omega) X hX.symm
      have e4 : ((n : Int).fdiv (2 ^ min ((min m (bits.toNat - 1) : Nat) : Int).toNat 64)).tmod 2 = ((n / 2 ^ min m (bits.toNat - 1) % 2 : Nat) : Int) := by
        rw [bit_of _ (by omega), show min ((min m (bits.toNat - 1) : Nat) : Int).toNat 64 = min m (bits.toNat - 1) by omega]; simp
      rw [e4, ← hb, i64_down m (by omega)]
      have hx : X / 2 ^ (m + 1) = X / 2 ^ m / 2 := by rw [Nat.pow_succ, Nat.div_div_eq_div_mul]
      have hxle : X / 2 ^ m ≤ X := Nat.div_le_self _ _
      refine ⟨⟨m, by omega, ?_, rfl⟩, by simp only; omega⟩
      rw [hx, wrap_u64, wrap_u64]
      clear hb e4 eg hX
      generalize X / 2 ^ m = Y at *
      congr 2
      omega
    · have hge := of_decide_eq_false hge
      obtain rfl : k = 0 := by omega
      rw [Nat.pow_zero, Nat.div_one]
      exact ⟨rfl, Later.refl _⟩
  · have e2 : signv n bits = 0 := by unfold signv; rw [if_neg h]
    have e3 : signe bits = 2 := by unfold signe; rw [if_neg h]
    rw [e2, e3]
    by_cases h1 : bits < 1
    · exact cnd_true (by simpa using h1) ⟨rfl, Later.refl _⟩
    · exact cnd_false (by simpa using h1) (cnd_true (by simp; omega) ⟨rfl, Later.refl _⟩)
theorem ref01_Fits_ok (v bits : Int) (hv : -9223372036854775808 ≤ v) (hv1 : v < 9223372036854775808) (hb : -9223372036854775808 ≤ bits) (hb1 : bits < 9223372036854775808) (w : World) :
    Calls Try.prog ref01_Fits.N #[i64v v, i64v bits] w (Gives (.bool (fitsv v bits)) w) := by
  refine ref01_Fits.calls ?_
  unfold ref01_Fits.vc
  refine (ref01_Sign_ok _ bits (by rw [wrap_u64]; omega) hb hb1 _).mono fun e w' ⟨he, hl⟩ => ⟨_, _, he, ?_⟩
  by_cases h : 1 ≤ bits ∧ bits ≤ 64
  · have e2 : signv (IntKind.u64.wrap v) bits = signI v bits.toNat % 18446744073709551616 := by
      unfold signv; rw [if_pos h, wrap_u64, signI_mod _ _ (by omega)]
    have e3 : signe bits = 0 := by unfold signe; rw [if_pos h]
    have hr := signI_range v bits.toNat (by omega)
    have hp := pow_le63 bits.toNat (by omega) (by omega)
    rw [e2, e3, wrap_u64]
    refine cnd_true rfl ⟨?_, hl⟩
    congr 2
    rw [Bool.eq_iff_iff]
    simp only [fitsv, beq_iff_eq, decide_eq_true_eq]
    refine ⟨fun he => ⟨h.1, h.2, by omega, by omega⟩, fun he => by rw [signI_of_range v _ (by omega) (by omega) (by omega)]⟩
  · have e3 : signe bits = 2 := by unfold signe; rw [if_neg h]
    rw [e3]
    refine cnd_false rfl ⟨?_, hl⟩
    have : fitsv v bits = false := by unfold fitsv; rw [decide_eq_false_iff_not]; intro hh; exact h ⟨hh.1, hh.2.1⟩
    rw [this]

/-! ### Bytes, Word -/
theorem rowU8 : RowTy Try.prog 47 5 1 1 := RowTy.of (.int .u8 0) (by kernel_rfl) (by kernel_rfl) rfl (by decide)
theorem ref01_Bytes_ok (v n : Int) (hv : 0 ≤ v) (hv1 : v < 18446744073709551616) (w : World) :
    Calls Try.prog ref01_Bytes.N #[u64v v, i64v n] w (Gives (if 1 ≤ n ∧ n ≤ 8 then pairv (.string (bytesOf v n.toNat)) okv else pairv (.string ⟨#[]⟩) (i64v 2)) w) := by
  refine ref01_Bytes.calls ?_
  unfold ref01_Bytes.vc
  by_cases h : 1 ≤ n ∧ n ≤ 8
  · rw [if_pos h]
    refine cnd_false (by simp; omega) (cnd_false (by simp; omega) ?_)
    refine ⟨fun vs w' => ∃ (k : Nat) (b : Option Addr) (bn bc : Nat), (k : Int) ≤ n ∧ vs = [u64v (v / 2 ^ (8 * k)), .slice b bn bc, i64v k] ∧ OwnS w w' 5 1 (.slice b bn bc) k (((List.range k).map (bytev v)).map (Value.int .u8)) ∧ Later w w',
      fun vs _ => match vs with | [_, _, .int _ k] => (n - k).toNat | _ => 0, ⟨0, none, 0, 0, by omega, by simp, OwnS_nil _ _ _ _, Later.refl _⟩, ?_⟩
    rintro g x b bn bc i w' ⟨k, _, _, _, hk, hs, ho, hl⟩
    simp only [List.cons.injEq, Value.int.injEq, Value.slice.injEq, true_and, and_true] at hs
    obtain ⟨rfl, ⟨rfl, rfl, rfl⟩, rfl⟩ := hs
    have hx0 : 0 ≤ v / 2 ^ (8 * k) := Int.ediv_nonneg hv (Int.le_of_lt (two_pow_pos _))
    have hx1 : v / 2 ^ (8 * k) ≤ v := Int.ediv_le_self _ hv
    refine cnd_of (fun hlt => ?_) (fun hge => ?_)
    · have hlt := of_decide_eq_true hlt
      intro w1 h1
      have eb : IntKind.u8.wrap ((v / 2 ^ (8 * k)).tmod 256) = bytev v k := by
        rw [tmod_nn _ hx0, wrap_u8]; unfold bytev; omega
      rw [eb] at h1
      refine RunsV_append 47 rowU8 (h1 ▸ ho.alloc _) (h1 ▸ hl.alloc _) (a := ⟨w'.heap.size, 0, none⟩) (m := 1) (news := [.int .u8 (bytev v k)]) rfl ?_ (by intro u hu; simp at hu; subst hu; rfl) (by simp only [maxLen]; omega) (by omega) ?_
      · rw [h1]; exact CellsAt_new' _ _ _ _
      intro b' bn' bc' w2 ho2 hl2 _
      refine ⟨_, _, _, rfl, ⟨k + 1, b', bn', bc', by omega, ?_, ?_, hl2⟩, ?_⟩
      · have e1 : IntKind.u64.wrap ((v / 2 ^ (8 * k)).tdiv 256) = v / 2 ^ (8 * (k + 1)) := by
          rw [tdiv_nn _ hx0, u64_in (by omega) (by omega), show 8 * (k + 1) = 8 * k + 8 by omega, Int.pow_add, Int.ediv_ediv_of_nonneg (Int.le_of_lt (two_pow_pos _))]; rfl
        rw [e1, i64_in (by omega) (by omega)]; simp
      · rw [List.range_succ]; simpa using ho2
      · simp only
        rw [i64_in (by omega) (by omega)]; omega
    · have hge := of_decide_eq_false hge
      obtain rfl : n = k := by omega
      refine RunsV_own_string (by kernel_rfl) (by kernel_rfl) (by kernel_rfl) ho (by omega) ⟨_, rfl, ?_, hl⟩
      rw [show ((k : Int)).toNat = k by omega]; rfl
  · rw [if_neg h]
    by_cases h1 : n < 1
    · exact cnd_true (by simpa using h1) ⟨rfl, Later.refl _⟩
    · exact cnd_false (by simpa using h1) (cnd_true (by simp; omega) ⟨rfl, Later.refl _⟩)
theorem ref01_Word_ok (s : ByteArray) (hs : s.size < 9223372036854775808) (w : World) :
    Calls Try.prog ref01_Word.N #[.string s] w (Gives (if 1 ≤ s.size ∧ s.size ≤ 8 then pairv (u64v (wordL s.data.toList)) okv else pairv (u64v 0) (i64v 2)) w) := by
  refine ref01_Word.calls ?_
  unfold ref01_Word.vc
  have hlen : s.data.toList.length = s.size := by simp
  by_cases h : 1 ≤ s.size ∧ s.size ≤ 8
  · rw [if_pos h]
    refine cnd_false (by simp; omega) (cnd_false (by simp; omega) ?_)
    refine ⟨fun vs w' => ∃ k : Nat, k ≤ s.size ∧ vs = [u64v (wordL (s.data.toList.drop k)), i64v ((k : Int) - 1)] ∧ w' = w, fun vs _ => match vs with | [_, .int _ i] => (i + 1).toNat | _ => 0, ⟨s.size, by omega, ?_, rfl⟩, ?_⟩
    · rw [List.drop_of_length_le (by omega), i64_in (by omega) (by omega)]; rfl
    rintro g v i w' ⟨k, hk, hs', rfl⟩
    simp only [List.cons.injEq, Value.int.injEq, true_and, and_true] at hs'
    obtain ⟨rfl, rfl⟩ := hs'
    refine cnd_of (fun hlt => ?_) (fun hge => ?_)
    · have hlt := of_decide_eq_true hlt
      obtain ⟨m, rfl⟩ : ∃ m, k = m + 1 := ⟨k - 1, by omega⟩
      obtain ⟨b, hbk⟩ : ∃ b, s.data.toList[m]'(by omega) = b := ⟨_, rfl⟩
      refine ⟨by omega, b, ?_, ?_⟩
      · rw [show ((((m + 1 : Nat) : Int) - 1).toNat) = m by omega, ← hbk]; exact get_byte (by omega)
      have hb8 : b.toNat < 256 := b.toNat_lt
      have hdrop : s.data.toList.drop m = b :: s.data.toList.drop (m + 1) := by
        rw [List.drop_eq_getElem_cons (by omega), hbk]
      have hwl := wordL_lt (s.data.toList.drop (m + 1))
      rw [List.length_drop] at hwl
      have hp : (2 : Nat) ^ (8 * (s.data.toList.length - (m + 1))) ≤ 2 ^ 56 := Nat.pow_le_pow_right (by decide) (by omega)
      refine ⟨⟨m, by omega, ?_, rfl⟩, ?_⟩
      · rw [hdrop, wordL, i64_down m (by omega)]
        congr 2
        rw [wrap_u64, wrap_u64, wrap_u64]
        omega
      · simp only
        rw [i64_down m (by omega)]; omega
    · have hge := of_decide_eq_false hge
      obtain rfl : k = 0 := by omega
      rw [List.drop_zero]
      exact ⟨rfl, Later.refl _⟩
  · rw [if_neg h]
    by_cases h1 : s.size < 1
    · exact cnd_true (by simp; omega) ⟨rfl, Later.refl _⟩
    · exact cnd_false (by simp; omega) (cnd_true (by simp; omega) ⟨rfl, Later.refl _⟩)
end Go.Proofs.Ytoncpheocnjooaa
