/-
The contracts of the chapter's reference package: it comes to the same numbers.
Conditions: each number is of its kind, as each theorem says.
-/
import Derived.Test.YtpfnjooddobohaaVref01
import Derived.Test.YtpfnjooddobohaaWord
namespace Go.Proofs.Ytpfnjooddobohaa
open Go Go.Vc Go.RowKit
set_option linter.unusedVariables false
set_option linter.unusedSimpArgs false
set_option maxRecDepth 100000

theorem down_half (b : Int) (k : Nat) : b / 2 ^ (k + 1) = b / 2 ^ k / 2 := by
  rw [Int.pow_succ, Int.ediv_ediv_of_nonneg (Int.le_of_lt (two_pow_pos _))]
theorem u64_down (k : Nat) (h : k < 64) : min (IntKind.u64.wrap (((k + 1 : Nat) : Int) - 1)).toNat 64 = k := by
  rw [u64_in (by omega) (by omega)]; omega
theorem u64_down_neg (k : Nat) (h : k < 64) : decide (IntKind.u64.wrap (((k + 1 : Nat) : Int) - 1) < 0) = false := by
  rw [u64_in (by omega) (by omega)]; simp
theorem i64_down (k : Nat) (h : k < 64) : IntKind.i64.wrap ((((k + 1 : Nat) : Int) - 1) - 1) = (k : Int) - 1 := by
  rw [i64_in (by omega) (by omega)]; omega
theorem bit_of (x : Int) (h : 0 ≤ x) (k : Nat) : (x.fdiv (2 ^ k)).tmod 2 = x / 2 ^ k % 2 := by
  rw [fdiv_nn _ (Int.le_of_lt (two_pow_pos _)), tmod_nn _ (Int.ediv_nonneg h (Int.le_of_lt (two_pow_pos _)))]
theorem step_prod (a B : Int) : a * B = 2 * (a * (B / 2)) + a * (B % 2) := by
  have h : B = 2 * (B / 2) + B % 2 := by omega
  have : a * B = a * (2 * (B / 2) + B % 2) := by rw [← h]
  rw [this, Int.mul_add, ← Int.mul_assoc, Int.mul_comm a 2, Int.mul_assoc]
theorem ref01_product_ok (a b : Int) (ha : 0 ≤ a) (ha1 : a < 18446744073709551616) (hb : 0 ≤ b) (hb1 : b < 18446744073709551616) (w : World) :
    Calls Try.prog ref01_product.N #[u64v a, u64v b] w (Gives (pairv (u64v (a * b / 18446744073709551616)) (u64v (a * b % 18446744073709551616))) w) := by
  refine ref01_product.calls ?_
  unfold ref01_product.vc
  rintro x rfl y rfl z rfl
  refine ⟨fun vs w' => ∃ (k : Nat) (h l : Int), k ≤ 64 ∧ vs = [u64v h, u64v l, i64v ((k : Int) - 1)] ∧ 0 ≤ h ∧ h < 18446744073709551616 ∧ 0 ≤ l ∧ l < 18446744073709551616 ∧ h * 18446744073709551616 + l = a * (b / 2 ^ k) ∧ w' = w,
    fun vs _ => match vs with | [_, _, .int _ i] => (i + 1).toNat | _ => 0, ⟨64, 0, 0, by omega, rfl, by omega, by omega, by omega, by omega, ?_, rfl⟩, ?_⟩
  · rw [show b / 2 ^ 64 = 0 from Int.ediv_eq_zero_of_lt hb (by simpa using hb1)]; omega
  rintro g high low i w' ⟨k, _, _, hk, hs, h0, h1, l0, l1, hp, rfl⟩
  simp only [List.cons.injEq, Value.int.injEq, true_and, and_true] at hs
  obtain ⟨rfl, rfl, rfl⟩ := hs
  refine cnd_of (fun hlt => ?_) (fun hge => ?_)
  · have hlt := of_decide_eq_true hlt
    obtain ⟨m, rfl⟩ : ∃ m, k = m + 1 := ⟨k - 1, by omega⟩
    have hB0 : 0 ≤ b / 2 ^ m := Int.ediv_nonneg hb (Int.le_of_lt (two_pow_pos _))
    have hB1 : b / 2 ^ m ≤ b := Int.ediv_le_self _ hb
    have hs := step_prod a (b / 2 ^ m)
    rw [down_half] at hp
    have hub : a * (b / 2 ^ m) ≤ 18446744073709551615 * 18446744073709551615 := Int.le_trans (Int.mul_le_mul_of_nonneg_right (show a ≤ 18446744073709551615 by omega) hB0) (Int.mul_le_mul_of_nonneg_left (by omega) (by omega))
    intro x hx y hy
    rw [u64_down m (by omega), i64_down m (by omega)]
    refine cnd_false (u64_down_neg m (by omega)) ?_
    rw [bit_of b hb]
    rw [fdiv_nn _ (by decide)] at hx
    simp only [wrap_u64] at hx hy ⊢
    refine cnd_of (fun hbit => ?_) (fun hbit => ?_)
    · have hbit : b / 2 ^ m % 2 = 1 := by simpa using hbit
      rw [hbit, Int.mul_one] at hs
      rintro s rfl
      refine cnd_of (fun hc => ?_) (fun hc => ?_)
      · have hc := of_decide_eq_true hc
        rintro p rfl q rfl r rfl
        exact ⟨⟨m, _, _, by omega, rfl, by omega, by omega, by omega, by omega, by omega, rfl⟩, by simp only; omega⟩
      · have hc := of_decide_eq_false hc
        rintro p rfl q rfl
        exact ⟨⟨m, _, _, by omega, rfl, by omega, by omega, by omega, by omega, by omega, rfl⟩, by simp only; omega⟩
    · have hbit : b / 2 ^ m % 2 = 0 := by have : ¬ b / 2 ^ m % 2 = 1 := by simpa using hbit
                                          omega
      rw [hbit, Int.mul_zero] at hs
      rintro q rfl
      exact ⟨⟨m, _, _, by omega, rfl, by omega, by omega, by omega, by omega, by omega, rfl⟩, by simp only; omega⟩
  · have hge := of_decide_eq_false hge
    obtain rfl : k = 0 := by omega
    rw [Int.pow_zero, Int.ediv_one] at hp
    refine ⟨?_, Later.refl _⟩
    congr 4
    · congr 1; omega
    · congr 3; omega
theorem ref01_divide_ok (a b : Int) (ha : 0 ≤ a) (ha1 : a < 18446744073709551616) (hb : 0 ≤ b) (hb1 : b < 18446744073709551616) (w : World) :
    Calls Try.prog ref01_divide.N #[u64v a, u64v b] w (Gives (pairv (u64v (if b = 0 then 18446744073709551615 else a / b)) (u64v (if b = 0 then a else a % b))) w) := by
  refine ref01_divide.calls ?_
  unfold ref01_divide.vc
  refine cnd_of (fun hz => ?_) (fun hz => ?_)
  · have hz : b = 0 := by simpa using hz
    subst hz
    exact ⟨rfl, Later.refl _⟩
  have hz : ¬ b = 0 := by simpa using hz
  rw [if_neg hz, if_neg hz]
  rintro x rfl y rfl z rfl
  refine ⟨fun vs w' => ∃ (k : Nat) (q r : Int), k ≤ 64 ∧ vs = [u64v q, u64v r, i64v ((k : Int) - 1)] ∧ 0 ≤ q ∧ q < 18446744073709551616 ∧ 0 ≤ r ∧ r < b ∧ a / 2 ^ k = b * q + r ∧ w' = w,
    fun vs _ => match vs with | [_, _, .int _ i] => (i + 1).toNat | _ => 0, ⟨64, 0, 0, by omega, rfl, by omega, by omega, by omega, by omega, ?_, rfl⟩, ?_⟩
  · rw [show a / 2 ^ 64 = 0 from Int.ediv_eq_zero_of_lt ha (by simpa using ha1)]; omega
  rintro g q r i w' ⟨k, _, _, hk, hs, q0, q1, r0, r1, hp, rfl⟩
  simp only [List.cons.injEq, Value.int.injEq, true_and, and_true] at hs
  obtain ⟨rfl, rfl, rfl⟩ := hs
  refine cnd_of (fun hlt => ?_) (fun hge => ?_)
  · have hlt := of_decide_eq_true hlt
    obtain ⟨m, rfl⟩ : ∃ m, k = m + 1 := ⟨k - 1, by omega⟩
    have hA0 : 0 ≤ a / 2 ^ m := Int.ediv_nonneg ha (Int.le_of_lt (two_pow_pos _))
    have hA1 : a / 2 ^ m ≤ a := Int.ediv_le_self _ ha
    rw [down_half] at hp
    rintro t rfl
    rw [u64_down m (by omega), i64_down m (by omega)]
    refine cnd_false (u64_down_neg m (by omega)) ?_
    rw [bit_of a ha, fdiv_nn _ (by decide)]
    simp only [wrap_u64]
    rintro x hx y hy
    have hq : b * q ≤ a / 2 ^ m / 2 := by omega
    have hq1 : 1 * q ≤ b * q := Int.mul_le_mul_of_nonneg_right (by omega) q0
    have hb2 : b * (q * 2) = b * q * 2 := by rw [Int.mul_assoc]
    have hb3 : b * (q * 2 + 1) = b * q * 2 + b := by rw [Int.mul_add, hb2, Int.mul_one]
    have hy' : y = q * 2 := by omega
    refine cnd_of (fun hc => ?_) (fun hc => ?_)
    · have hc : r / 9223372036854775808 = 1 := by simpa using hc
      rintro s rfl p rfl u rfl
      have e1 : (y + 1) % 18446744073709551616 = q * 2 + 1 := by omega
      rw [e1]
      exact ⟨⟨m, _, _, by omega, rfl, by omega, by omega, by omega, by omega, by omega, rfl⟩, by simp only; omega⟩
    · have hc : ¬ r / 9223372036854775808 = 1 := by simpa using hc
      refine cnd_of (fun hd => ?_) (fun hd => ?_)
      · have hd := of_decide_eq_true hd
        rintro s rfl p rfl u rfl
        have e1 : (y + 1) % 18446744073709551616 = q * 2 + 1 := by omega
        rw [e1]
        exact ⟨⟨m, _, _, by omega, rfl, by omega, by omega, by omega, by omega, by omega, rfl⟩, by simp only; omega⟩
      · have hd := of_decide_eq_false hd
        rintro u rfl
        rw [hy']
        exact ⟨⟨m, _, _, by omega, rfl, by omega, by omega, by omega, by omega, by omega, rfl⟩, by simp only; omega⟩
  · have hge := of_decide_eq_false hge
    obtain rfl : k = 0 := by omega
    rw [Int.pow_zero, Int.ediv_one] at hp
    refine ⟨?_, Later.refl _⟩
    have hd : a / b = q ∧ a % b = r := by
      have := Int.ediv_emod_unique (a := a) (b := b) (r := r) (q := q) (by omega)
      exact this.mpr ⟨by omega, r0, r1⟩
    rw [hd.1, hd.2]
theorem ref01_one_ok (c : Bool) (w : World) : Calls Try.prog ref01_one.N #[.bool c] w (Gives (u64v (if c then 1 else 0)) w) := by
  refine ref01_one.calls ?_
  exact cnd_of (fun h => by subst h; exact ⟨rfl, Later.refl _⟩) (fun h => by subst h; exact ⟨rfl, Later.refl _⟩)

/-! ### Op -/
theorem xor_top (a : Nat) (h : a < 18446744073709551616) : a ^^^ 9223372036854775808 = if a < 9223372036854775808 then a + 9223372036854775808 else a - 9223372036854775808 := by
  have h1 : (a ^^^ 9223372036854775808) / 2 ^ 63 = a / 2 ^ 63 ^^^ 9223372036854775808 / 2 ^ 63 := Nat.xor_div_two_pow
  have h2 : (a ^^^ 9223372036854775808) % 2 ^ 63 = a % 2 ^ 63 ^^^ 9223372036854775808 % 2 ^ 63 := Nat.xor_mod_two_pow
  rw [show (9223372036854775808 : Nat) / 2 ^ 63 = 1 from rfl] at h1
  rw [show (9223372036854775808 : Nat) % 2 ^ 63 = 0 from rfl, Nat.xor_zero] at h2
  generalize a ^^^ 9223372036854775808 = x at *
  split
  · have e : a / 2 ^ 63 = 0 := by omega
    rw [e, show 0 ^^^ 1 = 1 from rfl] at h1
    omega
  · have e : a / 2 ^ 63 = 1 := by omega
    rw [e, show 1 ^^^ 1 = 0 from rfl] at h1
    omega
theorem xor_ones (a : Nat) (h : a < 18446744073709551616) : 18446744073709551615 ^^^ a = 18446744073709551615 - a := by
  have := congrArg BitVec.toNat (BitVec.allOnes_xor (x := BitVec.ofNat 64 a))
  rw [BitVec.toNat_xor, BitVec.toNat_allOnes, BitVec.toNat_ofNat, BitVec.toNat_not, BitVec.toNat_ofNat, Nat.mod_eq_of_lt (by simpa using h)] at this
  simpa using this
theorem bits_xor_top (a : Int) (h0 : 0 ≤ a) (h1 : a < 18446744073709551616) : bits .xor .u64 a 9223372036854775808 = if a < 9223372036854775808 then a + 9223372036854775808 else a - 9223372036854775808 := by
  obtain ⟨n, rfl⟩ := Int.eq_ofNat_of_zero_le h0
  rw [show (9223372036854775808 : Int) = ((9223372036854775808 : Nat) : Int) from rfl, bits_xor_u64 _ _ (by omega) (by decide), xor_top _ (by omega)]
  split <;> split <;> omega
theorem bits_xor_ones (a : Int) (h0 : 0 ≤ a) (h1 : a < 18446744073709551616) : bits .xor .u64 IntKind.u64.max a = 18446744073709551615 - a := by
  obtain ⟨n, rfl⟩ := Int.eq_ofNat_of_zero_le h0
  rw [show IntKind.u64.max = ((18446744073709551615 : Nat) : Int) from rfl, bits_xor_u64 _ _ (by decide) (by omega), xor_ones _ (by omega)]
  omega
theorem neg_div (x k : Int) (hk : 0 < k) (hx : 0 ≤ x) : (-1 - x) / k = -1 - x / k := by
  have h1 := Int.emod_add_mul_ediv x k
  have h2 := Int.emod_nonneg x (show k ≠ 0 by omega)
  have h3 := Int.emod_lt_of_pos x hk
  have := Int.ediv_emod_unique (a := -1 - x) (b := k) (r := k - 1 - x % k) (q := -1 - x / k) hk
  refine (this.mpr ⟨?_, by omega, by omega⟩).1
  rw [Int.mul_sub, Int.mul_neg, Int.mul_one]
  omega
theorem ref01_Op_ok (fn a b : Int) (h0 : 0 ≤ fn) (h1 : fn < 256) (ha : 0 ≤ a) (ha1 : a < 18446744073709551616) (hb : 0 ≤ b) (hb1 : b < 18446744073709551616) (w : World) :
    Calls Try.prog ref01_Op.N #[.int .u8 fn, u64v a, u64v b] w (Gives (pairv (u64v (opv fn a b)) (i64v (ope fn))) w) := by
  refine ref01_Op.calls ?_
  unfold ref01_Op.vc
  refine (ref01_product_ok a b ha ha1 hb hb1 w).mono fun e w1 ⟨he, hl⟩ => ⟨_, _, he, ?_⟩
  refine (ref01_divide_ok a b ha ha1 hb hb1 w1).mono fun e w2 ⟨he2, hl2⟩ => ⟨_, _, he2, ?_⟩
  have hl := hl.trans hl2
  rw [tmod_nn 64 hb]
  have hk : decide (b % 64 < 0) = false := by simp; omega
  have hp : (0 : Int) < 2 ^ (b % 64).toNat := two_pow_pos _
  rw [min64 hb, hk]
  simp only [fdiv_nn _ (Int.le_of_lt hp), wrap_u64]
  have e2 : 1 ≤ fn ∧ fn ≤ 14 → ope fn = 0 := fun h => by unfold ope; rw [if_pos h]
  unfold opv
  refine cnd_of (fun h => ?_) (fun h => ?_)
  · have h : fn = 1 := by simpa using h
    rw [e2 (by omega), if_pos h]; exact ⟨rfl, hl⟩
  rw [if_neg (by simpa using h)]
  refine cnd_of (fun h => ?_) (fun h => ?_)
  · have h : fn = 2 := by simpa using h
    rw [e2 (by omega), if_pos h]; exact ⟨rfl, hl⟩
  rw [if_neg (by simpa using h)]
  refine cnd_of (fun h => ?_) (fun h => ?_)
  · have h : fn = 3 := by simpa using h
    rw [e2 (by omega), if_pos h]; exact ⟨rfl, hl⟩
  rw [if_neg (by simpa using h)]
  refine cnd_of (fun h => ?_) (fun h => ?_)
  · have h : fn = 4 := by simpa using h
    rw [e2 (by omega), if_pos h]
    refine (ref01_one_ok _ _).mono fun e w' ⟨he, hl'⟩ => ⟨_, he, ?_, hl.trans hl'⟩
    congr 4
    congr 1
    rw [bits_xor_top a ha ha1, bits_xor_top b hb hb1, wrap_i64, wrap_i64, Int.emod_eq_of_lt ha ha1, Int.emod_eq_of_lt hb hb1]
    simp only [decide_eq_true_eq]
    congr 1
    apply propext
    split <;> split <;> split <;> split <;> omega
  rw [if_neg (by simpa using h)]
  refine cnd_of (fun h => ?_) (fun h => ?_)
  · have h : fn = 5 := by simpa using h
    rw [e2 (by omega), if_pos h]
    refine (ref01_one_ok _ _).mono fun e w' ⟨he, hl'⟩ => ⟨_, he, ?_, hl.trans hl'⟩
    simp
  rw [if_neg (by simpa using h)]
  refine cnd_of (fun h => ?_) (fun h => ?_)
  · have h : fn = 6 := by simpa using h
    rw [e2 (by omega), if_pos h]; exact ⟨rfl, hl⟩
  rw [if_neg (by simpa using h)]
  refine cnd_of (fun h => ?_) (fun h => ?_)
  · have h : fn = 7 := by simpa using h
    rw [e2 (by omega), if_pos h]; exact ⟨rfl, hl⟩
  rw [if_neg (by simpa using h)]
  refine cnd_of (fun h => ?_) (fun h => ?_)
  · have h : fn = 8 := by simpa using h
    rw [e2 (by omega), if_pos h, wrap_i64, Int.emod_eq_of_lt ha ha1]
    refine cnd_of (fun hc => ?_) (fun hc => ?_)
    · have hc := of_decide_eq_true hc
      rw [if_neg (by omega)]
      have d0 : 0 ≤ a / 2 ^ (b % 64).toNat := Int.ediv_nonneg ha (Int.le_of_lt hp)
      have d1 : a / 2 ^ (b % 64).toNat ≤ a := Int.ediv_le_self _ ha
      rw [Int.emod_eq_of_lt d0 (by omega)]
      exact ⟨rfl, hl⟩
    · have hc := of_decide_eq_false hc
      rw [if_pos (by omega), bits_xor_ones a ha ha1]
      have d0 : 0 ≤ (18446744073709551615 - a) / 2 ^ (b % 64).toNat := Int.ediv_nonneg (by omega) (Int.le_of_lt hp)
      have d1 : (18446744073709551615 - a) / 2 ^ (b % 64).toNat ≤ 18446744073709551615 - a := Int.ediv_le_self _ (by omega)
      rw [bits_xor_ones _ d0 (by omega), show a - 18446744073709551616 = -1 - (18446744073709551615 - a) by omega, neg_div _ _ hp (by omega)]
      refine ⟨?_, hl⟩
      congr 5
      omega
  rw [if_neg (by simpa using h)]
  refine cnd_of (fun h => ?_) (fun h => ?_)
  · have h : fn = 9 := by simpa using h
    rw [e2 (by omega), if_pos h]; exact ⟨rfl, hl⟩
  rw [if_neg (by simpa using h)]
  refine cnd_of (fun h => ?_) (fun h => ?_)
  · have h : fn = 10 := by simpa using h
    rw [e2 (by omega), if_pos h]; exact ⟨rfl, hl⟩
  rw [if_neg (by simpa using h)]
  refine cnd_of (fun h => ?_) (fun h => ?_)
  · have h : fn = 11 := by simpa using h
    rw [e2 (by omega), if_pos h]; exact ⟨rfl, hl⟩
  rw [if_neg (by simpa using h)]
  refine cnd_of (fun h => ?_) (fun h => ?_)
  · have h : fn = 12 := by simpa using h
    rw [e2 (by omega), if_pos h]; exact ⟨rfl, hl⟩
  rw [if_neg (by simpa using h)]
  refine cnd_of (fun h => ?_) (fun h => ?_)
  · have h : fn = 13 := by simpa using h
    rw [e2 (by omega), if_pos h]; exact ⟨rfl, hl⟩
  rw [if_neg (by simpa using h)]
  refine cnd_of (fun h => ?_) (fun h => ?_)
  · have h : fn = 14 := by simpa using h
    rw [e2 (by omega), if_pos h]; exact ⟨rfl, hl⟩
  rw [if_neg (by simpa using h)]
  have e3 : ope fn = 2 := by
    unfold ope
    rw [if_neg]
    simp at *
    omega
  rw [e3]
  exact ⟨rfl, hl⟩

end Go.Proofs.Ytpfnjooddobohaa
