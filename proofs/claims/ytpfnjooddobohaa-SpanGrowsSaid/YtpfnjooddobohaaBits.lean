/-
How many bits a number has: the library's own reckoning, and a sum with its carry.
Conditions: the number is a word.
-/
import Derived.Test.YtpfnjooddobohaaVbits
import Derived.Test.YtpfnjooddobohaaWord
import Derived.Test.YtpfnjooddobohaaVcLoc
import Derived.Laws.Externs
namespace Go.Proofs.Ytpfnjooddobohaa
open Go Go.Vc Go.RowKit
set_option linter.unusedVariables false
set_option linter.unusedSimpArgs false
set_option maxRecDepth 100000

def lenN (n : Nat) : Nat := if n = 0 then 0 else n.log2 + 1
theorem lenN_bounds (n : Nat) (h : n ≠ 0) : 2 ^ (lenN n - 1) ≤ n ∧ n < 2 ^ lenN n ∧ 1 ≤ lenN n := by
  unfold lenN
  rw [if_neg h]
  have := (Nat.log2_eq_iff h (k := n.log2)).1 rfl
  exact ⟨this.1, this.2, by omega⟩
theorem lenN_unique (n k : Nat) (h1 : 2 ^ k ≤ n) (h2 : n < 2 ^ (k + 1)) : lenN n = k + 1 := by
  have h : n ≠ 0 := by have := Nat.two_pow_pos k; omega
  unfold lenN
  rw [if_neg h, (Nat.log2_eq_iff h).2 ⟨h1, h2⟩]
theorem lenN_shift (n k : Nat) (h : 2 ^ k ≤ n) : lenN n = k + lenN (n / 2 ^ k) := by
  have hp := Nat.two_pow_pos k
  have h0 : n / 2 ^ k ≠ 0 := by
    have := Nat.div_pos h hp
    omega
  obtain ⟨b1, b2, b3⟩ := lenN_bounds _ h0
  obtain ⟨m, hm⟩ : ∃ m, lenN (n / 2 ^ k) = m + 1 := ⟨lenN (n / 2 ^ k) - 1, by omega⟩
  rw [hm] at b1 b2 ⊢
  simp only [Nat.add_sub_cancel] at b1
  refine lenN_unique n (k + m) ?_ ?_
  · rw [Nat.pow_add]
    exact Nat.le_trans (Nat.mul_le_mul_left _ b1) (Nat.mul_div_le _ _)
  · have := (Nat.div_lt_iff_lt_mul hp).1 b2
    rw [show k + m + 1 = (m + 1) + k by omega, Nat.pow_add]
    exact this
theorem lenN_le (n k : Nat) (h : n < 2 ^ k) : lenN n ≤ k := by
  by_cases h0 : n = 0
  · subst h0; simp [lenN]
  · have := lenN_bounds n h0
    rcases Nat.lt_or_ge k (lenN n) with hk | hk
    · have : 2 ^ k ≤ 2 ^ (lenN n - 1) := Nat.pow_le_pow_right (by decide) (by omega)
      omega
    · exact hk
def lenTab : ByteArray := ByteArray.mk
  #[0, 1, 2, 2, 3, 3, 3, 3, 4, 4, 4, 4, 4, 4, 4, 4, 5, 5, 5, 5, 5, 5, 5, 5, 5, 5, 5, 5, 5, 5, 5, 5, 6, 6, 6, 6, 6, 6, 6, 6, 6, 6, 6, 6, 6, 6, 6, 6, 6, 6, 6, 6, 6, 6, 6, 6, 6, 6, 6, 6, 6, 6, 6, 6,
    7, 7, 7, 7, 7, 7, 7, 7, 7, 7, 7, 7, 7, 7, 7, 7, 7, 7, 7, 7, 7, 7, 7, 7, 7, 7, 7, 7, 7, 7, 7, 7, 7, 7, 7, 7, 7, 7, 7, 7, 7, 7, 7, 7, 7, 7, 7, 7, 7, 7, 7, 7, 7, 7, 7, 7, 7, 7, 7, 7, 7, 7, 7, 7,
    8, 8, 8, 8, 8, 8, 8, 8, 8, 8, 8, 8, 8, 8, 8, 8, 8, 8, 8, 8, 8, 8, 8, 8, 8, 8, 8, 8, 8, 8, 8, 8, 8, 8, 8, 8, 8, 8, 8, 8, 8, 8, 8, 8, 8, 8, 8, 8, 8, 8, 8, 8, 8, 8, 8, 8, 8, 8, 8, 8, 8, 8, 8, 8,
    8, 8, 8, 8, 8, 8, 8, 8, 8, 8, 8, 8, 8, 8, 8, 8, 8, 8, 8, 8, 8, 8, 8, 8, 8, 8, 8, 8, 8, 8, 8, 8, 8, 8, 8, 8, 8, 8, 8, 8, 8, 8, 8, 8, 8, 8, 8, 8, 8, 8, 8, 8, 8, 8, 8, 8, 8, 8, 8, 8, 8, 8, 8, 8]
theorem lenTab_at : ∀ k : Fin 256, (lenTab[k.val]?).map (·.toNat) = some (lenN k.val) := by decide +kernel
theorem math_bits_Len64_ok (x : Nat) (hx : x < 18446744073709551616) (w : World) : Calls Try.prog math_bits_Len64.N #[u64v x] w (Gives (i64v (lenN x)) w) := by
  refine math_bits_Len64.calls ?_
  unfold math_bits_Len64.vc
  refine ⟨fun vs w' => ∃ (y n : Nat), vs = [u64v y, i64v n] ∧ w' = w ∧ y < 4294967296 ∧ n ≤ 32 ∧ lenN x = n + lenN y, ?_, ?_⟩
  · refine cnd_of (fun h => ?_) (fun h => ?_)
    · have h := of_decide_eq_true h
      refine ⟨x / 2 ^ 32, 32, ?_, rfl, by omega, by omega, lenN_shift x 32 (by omega)⟩
      rw [fdiv_nn _ (by decide)]; simp
    · have h := of_decide_eq_false h
      exact ⟨x, 0, rfl, rfl, by omega, by omega, by omega⟩
  rintro g y n w1 ⟨y, n, hs, rfl, hy, hn, hl⟩
  simp only [List.cons.injEq, Value.int.injEq, true_and, and_true] at hs
  obtain ⟨rfl, rfl⟩ := hs
  refine ⟨fun vs w' => ∃ (y n : Nat), vs = [u64v y, i64v n] ∧ w' = w1 ∧ y < 65536 ∧ n ≤ 48 ∧ lenN x = n + lenN y, ?_, ?_⟩
  · refine cnd_of (fun h => ?_) (fun h => ?_)
    · have h := of_decide_eq_true h
      refine ⟨y / 2 ^ 16, n + 16, ?_, rfl, by omega, by omega, by rw [hl, lenN_shift y 16 (by omega)]; omega⟩
      rw [fdiv_nn _ (by decide), i64_in (by omega) (by omega)]; simp
    · have h := of_decide_eq_false h
      exact ⟨y, n, rfl, rfl, by omega, by omega, hl⟩
  clear hl hy hn
  rintro g y n w2 ⟨y, n, hs, rfl, hy, hn, hl⟩
  simp only [List.cons.injEq, Value.int.injEq, true_and, and_true] at hs
  obtain ⟨rfl, rfl⟩ := hs
  refine ⟨fun vs w' => ∃ (y n : Nat), vs = [u64v y, i64v n] ∧ w' = w2 ∧ y < 256 ∧ n ≤ 56 ∧ lenN x = n + lenN y, ?_, ?_⟩
  · refine cnd_of (fun h => ?_) (fun h => ?_)
    · have h := of_decide_eq_true h
      refine ⟨y / 2 ^ 8, n + 8, ?_, rfl, by omega, by omega, by rw [hl, lenN_shift y 8 (by omega)]; omega⟩
      rw [fdiv_nn _ (by decide), i64_in (by omega) (by omega)]; simp
    · have h := of_decide_eq_false h
      exact ⟨y, n, rfl, rfl, by omega, by omega, hl⟩
  clear hl hy hn
  rintro g y n w3 ⟨y, n, hs, rfl, hy, hn, hl⟩
  simp only [List.cons.injEq, Value.int.injEq, true_and, and_true] at hs
  obtain ⟨rfl, rfl⟩ := hs
  rw [u8_in (by omega) (by omega)]
  have ht := lenTab_at ⟨y, hy⟩
  simp only at ht
  cases hb : lenTab[y]? with
  | none => rw [hb] at ht; cases ht
  | some b =>
    rw [hb] at ht
    have hbl : b.toNat = lenN y := by simpa using ht
    have hle := lenN_le y 8 (by omega)
    refine ⟨by omega, b, ?_, ?_, Later.refl _⟩
    · rw [show ((y : Int)).toNat = y by omega]; exact hb
    · rw [hbl, i64_in (x := (lenN y : Int)) (by omega) (by omega), i64_in (by omega) (by omega), hl]; simp
theorem math_bits_LeadingZeros64_ok (x : Nat) (hx : x < 18446744073709551616) (w : World) : Calls Try.prog math_bits_LeadingZeros64.N #[u64v x] w (Gives (i64v (64 - lenN x)) w) := by
  refine math_bits_LeadingZeros64.calls ?_
  unfold math_bits_LeadingZeros64.vc
  have := lenN_le x 64 (by omega)
  refine (math_bits_Len64_ok x hx w).mono fun e w' ⟨he, hl⟩ => ⟨_, he, ?_, hl⟩
  rw [i64_in (by omega) (by omega)]
theorem add64_use {x y : Int} {w : World} {K : Value → World → Prop} (hx : 0 ≤ x) (hy : 0 ≤ y) (h : K (pairv (u64v ((x + y) % 18446744073709551616)) (u64v ((x + y) / 18446744073709551616))) w) :
    RunsC Try.prog 63 #[u64v x, u64v y, u64v 0] w K := by
  refine RunsC_of ?_ h
  rw [run_callFunc_extern (fn := Try.f63) Try.func63 (by kernel_rfl) (by kernel_rfl) (by kernel_rfl) (e := add64Entry) (by kernel_rfl), run_add64 x y 0 hx hy (by decide) (by decide)]
  simp [Result.andThen]
end Go.Proofs.Ytpfnjooddobohaa
