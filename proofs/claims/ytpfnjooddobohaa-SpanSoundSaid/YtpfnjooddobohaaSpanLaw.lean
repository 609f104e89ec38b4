/-
The plain law of ranges: what comes of a number of one and a number of the other is in the range that comes of both.
Conditions: the numbers are words.
-/
import Derived.Test.YtpfnjooddobohaaSpanC
namespace Go.Proofs.Ytpfnjooddobohaa
open Go Go.Vc Go.RowKit
set_option linter.unusedVariables false
set_option linter.unusedSimpArgs false
set_option maxRecDepth 100000

theorem gomin_le (a b : Int) : gomin a b ≤ a ∧ gomin a b ≤ b ∧ (gomin a b = a ∨ gomin a b = b) := by unfold gomin; split <;> omega
theorem gomax_le (a b : Int) : a ≤ gomax a b ∧ b ≤ gomax a b ∧ (gomax a b = a ∨ gomax a b = b) := by unfold gomax; split <;> omega
theorem lt_mask (n k : Nat) (h : n ≤ k) : n < 2 ^ lenN k := by
  by_cases hk : k = 0
  · subst hk; simp [lenN]; omega
  · have := (lenN_bounds k hk).2.1; omega
/-- Both numbers are below what the ends' bits tell. -/
theorem below_mask (v u b d : Nat) (hv : v ≤ b) (hu : u ≤ d) : v < 2 ^ lenN (b ||| d) ∧ u < 2 ^ lenN (b ||| d) :=
  ⟨lt_mask _ _ (Nat.le_trans hv Nat.left_le_or), lt_mask _ _ (Nat.le_trans hu Nat.right_le_or)⟩
theorem maskv_or (b d : Nat) (hb : b < 18446744073709551616) (hd : d < 18446744073709551616) : maskv (bits .or .u64 (b : Int) (d : Int)) = ((2 ^ lenN (b ||| d) - 1 : Nat) : Int) := by
  rw [bits_or_u64 _ _ hb hd]
  unfold maskv
  rw [Int.toNat_natCast]
  have hp := Nat.two_pow_pos (lenN (b ||| d))
  have : (((2 : Nat) ^ lenN (b ||| d) : Nat) : Int) = (2 : Int) ^ lenN (b ||| d) := by simp
  rw [← this]
  omega
theorem mul_mono {a v c u : Int} (h1 : a ≤ v) (h2 : c ≤ u) (ha : 0 ≤ a) (hc : 0 ≤ c) : a * c ≤ v * u :=
  Int.le_trans (Int.mul_le_mul_of_nonneg_right h1 hc) (Int.mul_le_mul_of_nonneg_left h2 (by omega))
theorem div_mono {a v u d : Int} (h1 : a ≤ v) (h2 : u ≤ d) (ha : 0 ≤ a) (hu : 0 < u) : a / d ≤ v / u := by
  have h3 : a / d ≤ v / d := Int.ediv_le_ediv (by omega) h1
  have h4 : v / d ≤ v / u := by
    apply Int.le_ediv_of_mul_le hu
    have := Int.ediv_mul_le v (show d ≠ 0 by omega)
    have h5 : 0 ≤ v / d := Int.ediv_nonneg (by omega) (by omega)
    exact Int.le_trans (Int.mul_le_mul_of_nonneg_left h2 h5) this
  omega
theorem pow_le_room (n c : Nat) (h : lenN n + c ≤ 64) : (n : Int) * 2 ^ c < 18446744073709551616 := by
  have hp := Nat.two_pow_pos c
  have hlt : n * 2 ^ c < 18446744073709551616 := by
    by_cases h0 : n = 0
    · subst h0; simp
    · have hb := (lenN_bounds n h0).2.1
      have h1 : n * 2 ^ c < 2 ^ lenN n * 2 ^ c := Nat.mul_lt_mul_of_pos_right hb hp
      have h2 : (2 : Nat) ^ lenN n * 2 ^ c ≤ 2 ^ 64 := by rw [← Nat.pow_add]; exact Nat.pow_le_pow_right (by decide) h
      omega
  have : (n : Int) * 2 ^ c = ((n * 2 ^ c : Nat) : Int) := by simp
  omega
/-- Where what comes is. -/
def Inside (p : Int × Int) (x : Int) : Prop := p.1 ≤ p.2 ∧ p.1 ≤ x ∧ x ≤ p.2
theorem inside_all {x : Int} (h : W64 x) : Inside allp x := ⟨by decide, h.1, by have := h.2; show x ≤ 18446744073709551615; omega⟩
theorem inside_srl (a b c d v u : Int) (ha : 0 ≤ a) (hc : 0 ≤ c) (h1 : a ≤ v) (h2 : v ≤ b) (h3 : c ≤ u) (h4 : u ≤ d) : Inside (srlp a b c d) (v / 2 ^ (u % 64).toNat) := by
  unfold srlp
  by_cases h : c = d ∧ c < 64
  · rw [if_pos h]
    have e : (u % 64).toNat = c.toNat := by omega
    rw [e]
    have hp : (0 : Int) < 2 ^ c.toNat := two_pow_pos _
    exact ⟨Int.ediv_le_ediv hp (by omega), Int.ediv_le_ediv hp h1, Int.ediv_le_ediv hp h2⟩
  · rw [if_neg h]
    have hp : (0 : Int) < 2 ^ (u % 64).toNat := two_pow_pos _
    have := Int.ediv_le_self (a := v) (2 ^ (u % 64).toNat) (by omega)
    exact ⟨by show (0 : Int) ≤ b; omega, Int.ediv_nonneg (by omega) (Int.le_of_lt hp), by show _ ≤ b; omega⟩
theorem sound (fn a b c d v u : Int) (hf : 1 ≤ fn ∧ fn ≤ 14) (ha : W64 a) (hb : W64 b) (hc : W64 c) (hd : W64 d) (h1 : a ≤ v) (h2 : v ≤ b) (h3 : c ≤ u) (h4 : u ≤ d) (hx : W64 (opv fn v u)) : Inside (aluv fn a b c d) (opv fn v u) := by
  have ha0 := ha.1
  have hb1 := hb.2
  have hc0 := hc.1
  have hd1 := hd.2
  have : fn = 1 ∨ fn = 2 ∨ fn = 3 ∨ fn = 4 ∨ fn = 5 ∨ fn = 6 ∨ fn = 7 ∨ fn = 8 ∨ fn = 9 ∨ fn = 10 ∨ fn = 11 ∨ fn = 12 ∨ fn = 13 ∨ fn = 14 := by omega
  rcases this with rfl | rfl | rfl | rfl | rfl | rfl | rfl | rfl | rfl | rfl | rfl | rfl | rfl | rfl
  · show Inside (if b + d ≥ 18446744073709551616 then allp else ((a + c) % 18446744073709551616, b + d)) ((v + u) % 18446744073709551616)
    split
    · exact inside_all hx
    · unfold Inside; simp only; omega
  · show Inside (if a < d then allp else ((a - d) % 18446744073709551616, (b - c) % 18446744073709551616)) ((v - u) % 18446744073709551616)
    split
    · exact inside_all hx
    · unfold Inside; simp only; omega
  · show Inside (if c = d ∧ c < 64 ∧ (lenN b.toNat : Int) + c ≤ 64 then (a * 2 ^ c.toNat % 18446744073709551616, b * 2 ^ c.toNat % 18446744073709551616) else allp) (v * 2 ^ (u % 64).toNat % 18446744073709551616)
    split
    · rename_i h
      obtain ⟨n, rfl⟩ := Int.eq_ofNat_of_zero_le hb.1
      have e : (u % 64).toNat = c.toNat := by omega
      rw [e]
      have hr := pow_le_room n c.toNat (by have := h.2.2; rw [Int.toNat_natCast] at this; omega)
      have hp : (0 : Int) < 2 ^ c.toNat := two_pow_pos _
      have m1 : a * 2 ^ c.toNat ≤ v * 2 ^ c.toNat := Int.mul_le_mul_of_nonneg_right h1 (by omega)
      have m2 : v * 2 ^ c.toNat ≤ n * 2 ^ c.toNat := Int.mul_le_mul_of_nonneg_right h2 (by omega)
      have m0 : 0 ≤ a * 2 ^ c.toNat := Int.mul_nonneg ha0 (by omega)
      unfold Inside
      simp only
      generalize (n : Int) * 2 ^ c.toNat = N at *
      generalize v * 2 ^ c.toNat = V at *
      generalize a * 2 ^ c.toNat = A at *
      omega
    · exact inside_all hx
  · show Inside (0, 1) (if IntKind.i64.wrap v < IntKind.i64.wrap u then 1 else 0)
    unfold Inside; split <;> decide
  · show Inside (if b < c then (1, 1) else if a ≥ d then (0, 0) else (0, 1)) (if v < u then 1 else 0)
    unfold Inside
    split
    · rw [if_pos (by omega)]; decide
    · split
      · rw [if_neg (by omega)]; decide
      · split <;> decide
  · show Inside (0, maskv (bits .or .u64 b d)) (bits .xor .u64 v u)
    obtain ⟨V, rfl⟩ := Int.eq_ofNat_of_zero_le (show 0 ≤ v by omega)
    obtain ⟨U, rfl⟩ := Int.eq_ofNat_of_zero_le (show 0 ≤ u by omega)
    obtain ⟨B, rfl⟩ := Int.eq_ofNat_of_zero_le hb.1
    obtain ⟨D, rfl⟩ := Int.eq_ofNat_of_zero_le hd.1
    obtain ⟨m1, m2⟩ := below_mask V U B D (by omega) (by omega)
    have := Nat.xor_lt_two_pow m1 m2
    rw [maskv_or _ _ (by omega) (by omega), bits_xor_u64 _ _ (by omega) (by omega)]
    unfold Inside
    simp only
    generalize 2 ^ lenN (B ||| D) = K at *
    omega
  · exact inside_srl a b c d v u ha0 hc0 h1 h2 h3 h4
  · show Inside (if b ≥ 9223372036854775808 then allp else srlp a b c d) ((IntKind.i64.wrap v / 2 ^ (u % 64).toNat) % 18446744073709551616)
    split
    · exact inside_all hx
    · have e : IntKind.i64.wrap v = v := i64_in (by omega) (by omega)
      rw [e]
      have h0 : 0 ≤ v / 2 ^ (u % 64).toNat := Int.ediv_nonneg (by omega) (Int.le_of_lt (two_pow_pos _))
      have h9 : v / 2 ^ (u % 64).toNat ≤ v := Int.ediv_le_self _ (by omega)
      rw [Int.emod_eq_of_lt h0 (by omega)]
      exact inside_srl a b c d v u ha0 hc0 h1 h2 h3 h4
  · show Inside (gomax a c, maskv (bits .or .u64 b d)) (bits .or .u64 v u)
    have hg := gomax_le a c
    obtain ⟨V, rfl⟩ := Int.eq_ofNat_of_zero_le (show 0 ≤ v by omega)
    obtain ⟨U, rfl⟩ := Int.eq_ofNat_of_zero_le (show 0 ≤ u by omega)
    obtain ⟨B, rfl⟩ := Int.eq_ofNat_of_zero_le hb.1
    obtain ⟨D, rfl⟩ := Int.eq_ofNat_of_zero_le hd.1
    obtain ⟨m1, m2⟩ := below_mask V U B D (by omega) (by omega)
    have := Nat.or_lt_two_pow m1 m2
    have l1 : V ≤ V ||| U := Nat.left_le_or
    have l2 : U ≤ V ||| U := Nat.right_le_or
    rw [maskv_or _ _ (by omega) (by omega), bits_or_u64 V U (by omega) (by omega)]
    unfold Inside
    simp only
    generalize 2 ^ lenN (B ||| D) = K at *
    omega
  · show Inside (0, gomin b d) (bits .and .u64 v u)
    have hg := gomin_le b d
    obtain ⟨V, rfl⟩ := Int.eq_ofNat_of_zero_le (show 0 ≤ v by omega)
    obtain ⟨U, rfl⟩ := Int.eq_ofNat_of_zero_le (show 0 ≤ u by omega)
    have l1 : V &&& U ≤ V := Nat.and_le_left
    have l2 : V &&& U ≤ U := Nat.and_le_right
    rw [bits_and_u64 V U (by omega) (by omega)]
    unfold Inside
    simp only
    omega
  · show Inside (if b * d ≥ 18446744073709551616 then allp else (a * c % 18446744073709551616, b * d)) (v * u % 18446744073709551616)
    have m1 : a * c ≤ v * u := mul_mono h1 h3 ha0 hc0
    have m2 : v * u ≤ b * d := mul_mono h2 h4 (by omega) (by omega)
    have m0 : 0 ≤ a * c := Int.mul_nonneg ha0 hc0
    split
    · exact inside_all hx
    · unfold Inside
      simp only
      generalize a * c = A at *
      generalize v * u = V at *
      generalize b * d = B at *
      omega
  · show Inside (a * c / 18446744073709551616, b * d / 18446744073709551616) (v * u / 18446744073709551616)
    have m1 : a * c ≤ v * u := mul_mono h1 h3 ha0 hc0
    have m2 : v * u ≤ b * d := mul_mono h2 h4 (by omega) (by omega)
    unfold Inside
    simp only
    generalize a * c = A at *
    generalize v * u = V at *
    generalize b * d = B at *
    omega
  · show Inside (if c = 0 then allp else (a / d, b / c)) (if u = 0 then 18446744073709551615 else v / u)
    by_cases hz : c = 0
    · rw [if_pos hz]; exact inside_all hx
    · rw [if_neg hz, if_neg (by omega)]
      have m1 : a / d ≤ v / u := div_mono h1 h4 ha0 (by omega)
      have m2 : v / u ≤ b / c := div_mono h2 h3 (by omega) (by omega)
      exact ⟨by show a / d ≤ b / c; omega, m1, m2⟩
  · show Inside (if b < c then (a, b) else if c = 0 then (0, b) else (0, gomin b ((d - 1) % 18446744073709551616))) (if u = 0 then v else v % u)
    by_cases h : b < c
    · rw [if_pos h, if_neg (by omega), Int.emod_eq_of_lt (by omega) (by omega)]
      exact ⟨by show a ≤ b; omega, h1, h2⟩
    · rw [if_neg h]
      by_cases hu : u = 0
      · rw [if_pos hu, if_pos (by omega)]
        exact ⟨by show (0 : Int) ≤ b; omega, by show 0 ≤ v; omega, h2⟩
      · have r0 := Int.emod_nonneg v hu
        have r1 := Int.emod_lt_of_pos v (show 0 < u by omega)
        have q0 := Int.mul_nonneg (show 0 ≤ u by omega) (Int.ediv_nonneg (show 0 ≤ v by omega) (show 0 ≤ u by omega))
        have q1 := Int.emod_add_mul_ediv v u
        have r2 : v % u ≤ v := by omega
        rw [if_neg hu]
        split
        · exact ⟨by show (0 : Int) ≤ b; omega, r0, by show v % u ≤ b; omega⟩
        · have hg := gomin_le b ((d - 1) % 18446744073709551616)
          unfold Inside
          simp only
          omega
end Go.Proofs.Ytpfnjooddobohaa
