/-
The contracts of the chapter's reference package, second part: signs, bytes.
Conditions: each number is of its kind, as each theorem says.
-/
import Derived.Test.YtjoikaklincfoaaVref01
import Derived.Test.YtjoikaklincfoaaWordB
import Derived.Test.YtjoikaklincfoaaVcOwn
namespace Go.Proofs.Ytjoikaklincfoaa
open Go Go.Vc Go.RowKit
set_option linter.unusedVariables false
set_option linter.unusedSimpArgs false
set_option linter.unnecessarySimpa false
set_option maxRecDepth 100000

/-! ### Sign, Fits -/
theorem nat_bit (n i : Nat) : n / 2 ^ i % 2 = n % 2 ^ (i + 1) / 2 ^ i := by
  rw [Nat.pow_succ, Nat.mod_mul_right_div_self]
theorem nat_mod_mod (n : Nat) {i b : Nat} (h : i ≤ b) : n % 2 ^ b % 2 ^ i = n % 2 ^ i := Nat.mod_mod_of_dvd _ (Nat.pow_dvd_pow 2 h)
/-- The bits of what the sign's law makes. -/
theorem sign_bit (n b i : Nat) (h1 : 1 ≤ b) (h2 : b ≤ 64) (hi : i < 64) (X : Nat) (hX : (X : Int) = signI n b % 18446744073709551616) : X / 2 ^ i % 2 = n / 2 ^ min i (b - 1) % 2 := by
  obtain ⟨c, rfl⟩ : ∃ c, b = c + 1 := ⟨b - 1, by omega⟩
  simp only [Nat.add_sub_cancel]
  have hp : 2 ^ (c + 1) = 2 * 2 ^ c := by rw [Nat.pow_succ, Nat.mul_comm]
  have hc : 0 < 2 ^ c := Nat.two_pow_pos c
  have hle : 2 ^ (c + 1) ≤ 2 ^ 64 := Nat.pow_le_pow_right (by decide) h2
  have hr : n % 2 ^ (c + 1) < 2 ^ (c + 1) := Nat.mod_lt _ (by omega)
  have hX' : X = if 2 ^ c ≤ n % 2 ^ (c + 1) then n % 2 ^ (c + 1) + (2 ^ 64 - 2 ^ (c + 1)) else n % 2 ^ (c + 1) := by
    unfold signI at hX
    have e1 : ((n : Int) % 2 ^ (c + 1)) = ((n % 2 ^ (c + 1) : Nat) : Int) := by simp
    have e2 : ((2 : Int) ^ (c + 1 - 1)) = ((2 ^ c : Nat) : Int) := by simp
    have e3 : ((2 : Int) ^ (c + 1)) = ((2 ^ (c + 1) : Nat) : Int) := by simp
    rw [e1, e2, e3] at hX
    generalize n % 2 ^ (c + 1) = r at *
    generalize 2 ^ (c + 1) = N at *
    generalize 2 ^ c = C at *
    split
    · rw [if_pos (by omega)] at hX; omega
    · rw [if_neg (by omega)] at hX; omega
  by_cases hic : i ≤ c
  · rw [Nat.min_eq_left hic, nat_bit, nat_bit]
    congr 1
    have hd : 2 ^ (i + 1) ∣ 2 ^ 64 - 2 ^ (c + 1) := Nat.dvd_sub (Nat.pow_dvd_pow 2 (by omega)) (Nat.pow_dvd_pow 2 (by omega))
    rw [hX']
    split
    · rw [Nat.add_mod, Nat.mod_eq_zero_of_dvd hd, Nat.add_zero, Nat.mod_mod, nat_mod_mod _ (by omega)]
    · rw [nat_mod_mod _ (by omega)]
  · rw [Nat.min_eq_right (by omega), nat_bit n c, hX']
    have hci : 2 ^ (c + 1) ≤ 2 ^ i := Nat.pow_le_pow_right (by decide) (by omega)
    split
    · rename_i hs
      have e1 : n % 2 ^ (c + 1) / 2 ^ c = 1 := Nat.div_eq_of_lt_le (by omega) (by omega)
      rw [e1]
      obtain ⟨d, hd⟩ : ∃ d, i + d = 63 := ⟨63 - i, by omega⟩
      have hpi : (2 : Nat) ^ 64 = 2 ^ i * (2 * 2 ^ d) := by rw [← Nat.pow_succ', ← Nat.pow_add, show i + (d + 1) = 64 by omega]
      have hd1 : 0 < 2 ^ d := Nat.two_pow_pos d
      have hlow : 2 ^ i * (2 * 2 ^ d - 1) ≤ n % 2 ^ (c + 1) + (2 ^ 64 - 2 ^ (c + 1)) := by rw [Nat.mul_sub, ← hpi]; omega
      have hup : n % 2 ^ (c + 1) + (2 ^ 64 - 2 ^ (c + 1)) < 2 ^ i * (2 * 2 ^ d - 1 + 1) := by rw [show 2 * 2 ^ d - 1 + 1 = 2 * 2 ^ d by omega, ← hpi]; omega
      have e2 : (n % 2 ^ (c + 1) + (2 ^ 64 - 2 ^ (c + 1))) / 2 ^ i = 2 * 2 ^ d - 1 := Nat.div_eq_of_lt_le (by rw [Nat.mul_comm]; exact hlow) (by rw [Nat.mul_comm]; exact hup)
      rw [e2]; omega
    · rename_i hs
      rw [Nat.div_eq_of_lt (show n % 2 ^ (c + 1) < 2 ^ i by omega), Nat.div_eq_of_lt (show n % 2 ^ (c + 1) < 2 ^ c by omega)]
theorem ref01_Sign_ok (v bits : Int) (hv : 0 ≤ v) (hb : -9223372036854775808 ≤ bits) (hb1 : bits < 9223372036854775808) (w : World) :
    Calls Try.prog ref01_Sign.N #[u64v v, i64v bits] w (Gives (pairv (u64v (signv v bits)) (i64v (signe bits))) w) := by
  refine ref01_Sign.calls ?_
  unfold ref01_Sign.vc
  obtain ⟨n, rfl⟩ := Int.eq_ofNat_of_zero_le hv
  by_cases h : 1 ≤ bits ∧ bits ≤ 64
  · have e3 : signe bits = 0 := by unfold signe; rw [if_pos h]
    have e2 : signv n bits = signI n bits.toNat % 18446744073709551616 := by unfold signv; rw [if_pos h]
    rw [e3, e2]
    obtain ⟨X, hX⟩ := Int.eq_ofNat_of_zero_le (Int.emod_nonneg (signI n bits.toNat) (show (18446744073709551616 : Int) ≠ 0 by decide))
    have hXlt := Int.emod_lt_of_pos (signI n bits.toNat) (show (0 : Int) < 18446744073709551616 by decide)
    rw [hX]
    rw [hX] at hXlt
    refine cnd_false (by simp; omega) (cnd_false (by simp; omega) ?_)
    refine ⟨fun vs w' => ∃ k : Nat, k ≤ 64 ∧ vs = [u64v ((X / 2 ^ k : Nat) : Int), i64v ((k : Int) - 1)] ∧ w' = w, fun vs _ => match vs with | [_, .int _ i] => (i + 1).toNat | _ => 0, ⟨64, by omega, ?_, rfl⟩, ?_⟩
    · rw [Nat.div_eq_of_lt (show X < 2 ^ 64 by omega)]; rfl
    rintro g out i w' ⟨k, hk, hs, rfl⟩
    simp only [List.cons.injEq, Value.int.injEq, true_and, and_true] at hs
    obtain ⟨rfl, rfl⟩ := hs
    refine cnd_of (fun hlt => ?_) (fun hge => ?_)
    · have hlt := of_decide_eq_true hlt
      obtain ⟨m, rfl⟩ : ∃ m, k = m + 1 := ⟨k - 1, by omega⟩
      have eg : gomin (((m + 1 : Nat) : Int) - 1) (IntKind.i64.wrap (bits - 1)) = ((min m (bits.toNat - 1) : Nat) : Int) := by
        rw [i64_in (by omega) (by omega)]; unfold gomin; split <;> omega
      rw [eg, u64_in (x := ((min m (bits.toNat - 1) : Nat) : Int)) (by omega) (by omega)]
      refine cnd_false (A := False) (decide_eq_false (Int.not_lt.mpr (Int.natCast_nonneg (min m (bits.toNat - 1))))) ?_
      have hb := sign_bit n bits.toNat m (by omega) (by omega) (by omega) X hX.symm
      have e4 : ((n : Int).fdiv (2 ^ min ((min m (bits.toNat - 1) : Nat) : Int).toNat 64)).tmod 2 = ((n / 2 ^ min m (bits.toNat - 1) % 2 : Nat) : Int) := by
        rw [bit_of _ (by omega), show min ((min m (bits.toNat - 1) : Nat) : Int).toNat 64 = min m (bits.toNat - 1) by omega]; simp
      rw [e4, ← hb, i64_down m (by omega)]
      have hx : X / 2 ^ (m + 1) = X / 2 ^ m / 2 := by rw [Nat.pow_succ, Nat.div_div_eq_div_mul]
      have hxle : X / 2 ^ m ≤ X := Nat.div_le_self _ _
      refine ⟨⟨m, by omega, ?_, rfl⟩, by simp only; omega⟩
      rw [hx, wrap_u64, wrap_u64]
      clear hb e4 eg hX
      generalize X / 2 ^ m = Y at *
      congr 2
      omega
    · have hge := of_decide_eq_false hge
      obtain rfl : k = 0 := by omega
      rw [Nat.pow_zero, Nat.div_one]
      exact ⟨rfl, Later.refl _⟩
  · have e2 : signv n bits = 0 := by unfold signv; rw [if_neg h]
    have e3 : signe bits = 2 := by unfold signe; rw [if_neg h]
    rw [e2, e3]
    by_cases h1 : bits < 1
    · exact cnd_true (by simpa using h1) ⟨rfl, Later.refl _⟩
    · exact cnd_false (by simpa using h1) (cnd_true (by simp; omega) ⟨rfl, Later.refl _⟩)
theorem ref01_Fits_ok (v bits : Int) (hv : -9223372036854775808 ≤ v) (hv1 : v < 9223372036854775808) (hb : -9223372036854775808 ≤ bits) (hb1 : bits < 9223372036854775808) (w : World) :
    Calls Try.prog ref01_Fits.N #[i64v v, i64v bits] w (Gives (.bool (fitsv v bits)) w) := by
  refine ref01_Fits.calls ?_
  unfold ref01_Fits.vc
  refine (ref01_Sign_ok _ bits (by rw [wrap_u64]; omega) hb hb1 _).mono fun e w' ⟨he, hl⟩ => ⟨_, _, he, ?_⟩
  by_cases h : 1 ≤ bits ∧ bits ≤ 64
  · have e2 : signv (IntKind.u64.wrap v) bits = signI v bits.toNat % 18446744073709551616 := by
      unfold signv; rw [if_pos h, wrap_u64, signI_mod _ _ (by omega)]
    have e3 : signe bits = 0 := by unfold signe; rw [if_pos h]
    have hr := signI_range v bits.toNat (by omega)
    have hp := pow_le63 bits.toNat (by omega) (by omega)
    rw [e2, e3, wrap_u64]
    refine cnd_true rfl ⟨?_, hl⟩
    congr 2
    rw [Bool.eq_iff_iff]
    simp only [fitsv, beq_iff_eq, decide_eq_true_eq]
    refine ⟨fun he => ⟨h.1, h.2, by omega, by omega⟩, fun he => by rw [signI_of_range v _ (by omega) (by omega) (by omega)]⟩
  · have e3 : signe bits = 2 := by unfold signe; rw [if_neg h]
    rw [e3]
    refine cnd_false rfl ⟨?_, hl⟩
    have : fitsv v bits = false := by unfold fitsv; rw [decide_eq_false_iff_not]; intro hh; exact h ⟨hh.1, hh.2.1⟩
    rw [this]

/-! ### Bytes, Word -/
theorem rowU8 : RowTy Try.prog 48 5 1 1 := RowTy.of (.int .u8 0) (by kernel_rfl) (by kernel_rfl) rfl (by decide)
end Go.Proofs.Ytjoikaklincfoaa
