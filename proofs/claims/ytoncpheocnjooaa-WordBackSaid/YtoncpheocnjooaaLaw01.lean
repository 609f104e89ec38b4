/-
What the chapter's laws come to, once called: true, and nothing old is turned.
Conditions: each number is of its kind.
-/
import Derived.Test.YtoncpheocnjooaaVlaw01
import Derived.Test.YtoncpheocnjooaaRef01
namespace Go.Proofs.Ytoncpheocnjooaa
open Go Go.Vc Go.RowKit
set_option linter.unusedVariables false
set_option linter.unusedSimpArgs false
set_option maxRecDepth 100000

theorem bytes258 : bytesOf 258 (Int.toNat 3) = ⟨#[2, 1, 0]⟩ := by rfl
theorem law01_alive_ok (w : World) : Calls Try.prog law01_alive.N #[] w (Gives (.bool true) w) := by
  refine law01_alive.calls ?_
  unfold law01_alive.vc
  refine (word_Op_ok 8 18446744073709551608 65 (by decide) (by decide) (by decide) (by decide) (by decide) (by decide) _).mono fun e w1 ⟨he, h1⟩ => ⟨_, _, he, ?_⟩
  refine (word_Op_ok 13 5 0 (by decide) (by decide) (by decide) (by decide) (by decide) (by decide) _).mono fun e w2 ⟨he, h2⟩ => ⟨_, _, he, ?_⟩
  refine (word_Op_ok 12 9223372036854775808 6 (by decide) (by decide) (by decide) (by decide) (by decide) (by decide) _).mono fun e w3 ⟨he, h3⟩ => ⟨_, _, he, ?_⟩
  refine (word_Sign_ok 255 8 (by decide) (by decide) _).mono fun e w4 ⟨he, h4⟩ => ⟨_, _, he, ?_⟩
  refine (word_Bytes_ok 258 3 (by decide) (by decide) _).mono fun e w5 ⟨he, h5⟩ => ⟨_, _, he, ?_⟩
  refine (word_Word_ok _ (by decide) _).mono fun e w6 ⟨he, h6⟩ => ⟨_, _, he, ?_⟩
  refine (word_Op_ok 0 1 1 (by decide) (by decide) (by decide) (by decide) (by decide) (by decide) _).mono fun e w7 ⟨he, h7⟩ => ⟨_, _, he, ?_⟩
  refine cnd_true (by decide) (cnd_true (by decide) (cnd_true (by decide) (cnd_true (by decide) (cnd_true (by decide) (cnd_true (by decide) (cnd_true (by decide) (cnd_true (by decide) (cnd_true (by rw [bytes258]; exact beq_self_eq_true _) (cnd_true (by decide) (cnd_true (by decide) (cnd_true (by decide) (cnd_true (by decide) ?_))))))))))))
  refine (word_Fits_ok 2047 12 (by decide) (by decide) (by decide) (by decide) _).mono fun e w8 ⟨he, h8⟩ => ⟨_, he, ?_⟩
  refine cnd_true (by decide) ?_
  refine (word_Fits_ok 2048 12 (by decide) (by decide) (by decide) (by decide) _).mono fun e w9 ⟨he, h9⟩ => ⟨_, he, ?_⟩
  exact ⟨rfl, h1.trans (h2.trans (h3.trans (h4.trans (h5.trans (h6.trans (h7.trans (h8.trans h9)))))))⟩
theorem law01_WordOps_ok (fn a b : Int) (h0 : 0 ≤ fn) (h1 : fn < 256) (ha : 0 ≤ a) (ha1 : a < 18446744073709551616) (hb : 0 ≤ b) (hb1 : b < 18446744073709551616) (w : World) :
    Calls Try.prog law01_WordOps.N #[.int .u8 fn, u64v a, u64v b] w (Gives (.bool true) w) := by
  refine law01_WordOps.calls ?_
  unfold law01_WordOps.vc
  refine (word_Op_ok fn a b h0 h1 ha ha1 hb hb1 _).mono fun e w1 ⟨he, g1⟩ => ⟨_, _, he, ?_⟩
  refine (ref01_Op_ok fn a b h0 h1 ha ha1 hb hb1 _).mono fun e w2 ⟨he, g2⟩ => ⟨_, _, he, ?_⟩
  refine cnd_false (by simp) (cnd_false (by simp) ?_)
  have g := g1.trans g2
  refine ⟨fun vs w' => ∃ k : Nat, k ≤ 20 ∧ vs = [.int .u8 k] ∧ Later w w', fun vs _ => match vs with | [.int _ k] => (20 - k).toNat | _ => 0, ⟨0, by omega, rfl, g⟩, ?_⟩
  rintro g k w3 ⟨k, hk, hs, g3⟩
  simp only [List.cons.injEq, Value.int.injEq, true_and, and_true] at hs
  subst hs
  refine cnd_of (fun hlt => ?_) (fun hge => ?_)
  · have hlt := of_decide_eq_true hlt
    refine (word_Op_ok k a b (by omega) (by omega) ha ha1 hb hb1 _).mono fun e w4 ⟨he, g4⟩ => ⟨_, _, he, ?_⟩
    refine (ref01_Op_ok k a b (by omega) (by omega) ha ha1 hb hb1 _).mono fun e w5 ⟨he, g5⟩ => ⟨_, _, he, ?_⟩
    refine cnd_false (by simp) (cnd_false (by simp) ?_)
    refine ⟨⟨k + 1, by omega, by rw [u8_in (by omega) (by omega)]; simp, g3.trans (g4.trans g5)⟩, ?_⟩
    simp only
    rw [u8_in (by omega) (by omega)]
    omega
  · refine (law01_alive_ok _).mono fun e w4 ⟨he, g4⟩ => ⟨_, he, rfl, g3.trans g4⟩
theorem opv_in (fn a b : Int) (ha : 0 ≤ a) (ha1 : a < 18446744073709551616) (hb : 0 ≤ b) (hb1 : b < 18446744073709551616) : 0 ≤ opv fn a b ∧ opv fn a b < 18446744073709551616 := by
  obtain ⟨n, rfl⟩ := Int.eq_ofNat_of_zero_le ha
  obtain ⟨m, rfl⟩ := Int.eq_ofNat_of_zero_le hb
  have hn : n < 2 ^ 64 := by omega
  have hm : m < 2 ^ 64 := by omega
  have h1 : n ^^^ m < 2 ^ 64 := Nat.xor_lt_two_pow hn hm
  have h2 : n ||| m < 2 ^ 64 := Nat.or_lt_two_pow hn hm
  have h3 : n &&& m < 2 ^ 64 := Nat.and_lt_two_pow _ hm
  unfold opv
  rw [bits_xor_u64 _ _ (by omega) (by omega), bits_or_u64 _ _ (by omega) (by omega), bits_and_u64 _ _ (by omega) (by omega)]
  have hp : (0 : Int) < 2 ^ ((m : Int) % 64).toNat := two_pow_pos _
  have d0 : 0 ≤ (n : Int) / 2 ^ ((m : Int) % 64).toNat := Int.ediv_nonneg (by omega) (Int.le_of_lt hp)
  have d1 : (n : Int) / 2 ^ ((m : Int) % 64).toNat ≤ n := Int.ediv_le_self _ (by omega)
  have q0 : 0 ≤ (n : Int) / m := Int.ediv_nonneg (by omega) (by omega)
  have q1 : (n : Int) / m ≤ n := Int.ediv_le_self _ (by omega)
  have p1 : (n : Int) * m ≤ 18446744073709551615 * 18446744073709551615 := Int.le_trans (Int.mul_le_mul_of_nonneg_right (show (n : Int) ≤ 18446744073709551615 by omega) (by omega)) (Int.mul_le_mul_of_nonneg_left (by omega) (by omega))
  have p0 : 0 ≤ (n : Int) * m := Int.mul_nonneg (by omega) (by omega)
  have r0 : ¬ (m : Int) = 0 → 0 ≤ (n : Int) % m ∧ (n : Int) % m < m := fun h => ⟨Int.emod_nonneg _ h, Int.emod_lt_of_pos _ (by omega)⟩
  repeat' split
  all_goals first | omega | (rename_i h; have := r0 h; omega)
theorem law01_op_ok (fn a b : Int) (h0 : 1 ≤ fn) (h1 : fn ≤ 14) (ha : 0 ≤ a) (ha1 : a < 18446744073709551616) (hb : 0 ≤ b) (hb1 : b < 18446744073709551616) (w : World) :
    Calls Try.prog law01_op.N #[.int .u8 fn, u64v a, u64v b] w (Gives (u64v (opv fn a b)) w) := by
  refine law01_op.calls ?_
  unfold law01_op.vc
  refine (word_Op_ok fn a b (by omega) (by omega) ha ha1 hb hb1 _).mono fun e w1 ⟨he, g1⟩ => ⟨_, _, he, ?_⟩
  have e2 : ope fn = 0 := by unfold ope; rw [if_pos ⟨h0, h1⟩]
  rw [e2]
  exact cnd_false (by simp) ⟨rfl, g1⟩
/-- A word. -/
def W64 (a : Int) : Prop := 0 ≤ a ∧ a < 18446744073709551616
theorem op_use {fn a b : Int} {w0 w : World} {K : Ending → World → Prop} (h0 : 1 ≤ fn) (h1 : fn ≤ 14) (ha : W64 a) (hb : W64 b) (hl : Later w0 w)
    (h : ∀ w', W64 (opv fn a b) → Later w0 w' → K (.returned (u64v (opv fn a b))) w') : Calls Try.prog law01_op.N #[.int .u8 fn, u64v a, u64v b] w K := by
  refine (law01_op_ok fn a b h0 h1 ha.1 ha.2 hb.1 hb.2 w).mono fun e w1 ⟨he, g1⟩ => ?_
  subst he
  exact h w1 (opv_in fn a b ha.1 ha.2 hb.1 hb.2) (hl.trans g1)
theorem opv_1 (a b : Int) : opv 1 a b = (a + b) % 18446744073709551616 := rfl
theorem opv_2 (a b : Int) : opv 2 a b = (a - b) % 18446744073709551616 := rfl
theorem opv_3 (a b : Int) : opv 3 a b = a * 2 ^ (b % 64).toNat % 18446744073709551616 := rfl
theorem opv_4 (a b : Int) : opv 4 a b = (if IntKind.i64.wrap a < IntKind.i64.wrap b then 1 else 0) := rfl
theorem opv_5 (a b : Int) : opv 5 a b = (if a < b then 1 else 0) := rfl
theorem opv_6 (a b : Int) : opv 6 a b = bits .xor .u64 a b := rfl
theorem opv_7 (a b : Int) : opv 7 a b = a / 2 ^ (b % 64).toNat := rfl
theorem opv_9 (a b : Int) : opv 9 a b = bits .or .u64 a b := rfl
theorem opv_10 (a b : Int) : opv 10 a b = bits .and .u64 a b := rfl
theorem opv_11 (a b : Int) : opv 11 a b = a * b % 18446744073709551616 := rfl
theorem opv_12 (a b : Int) : opv 12 a b = a * b / 18446744073709551616 := rfl
theorem opv_13 (a b : Int) : opv 13 a b = (if b = 0 then 18446744073709551615 else a / b) := rfl
theorem opv_14 (a b : Int) : opv 14 a b = (if b = 0 then a else a % b) := rfl
theorem law_sum (a b c : Int) : a * ((b + c) % 18446744073709551616) % 18446744073709551616 = (a * b % 18446744073709551616 + a * c % 18446744073709551616) % 18446744073709551616 := by
  rw [← Int.add_emod, ← Int.mul_add, Int.mul_emod, Int.emod_emod_of_dvd _ (Int.dvd_refl _), ← Int.mul_emod]
theorem law_less (a b : Int) (ha : W64 a) (hb : W64 b) : opv 4 a b = opv 5 (bits .xor .u64 a 9223372036854775808) (bits .xor .u64 b 9223372036854775808) := by
  rw [opv_4, opv_5, bits_xor_top a ha.1 ha.2, bits_xor_top b hb.1 hb.2, wrap_i64, wrap_i64, Int.emod_eq_of_lt ha.1 ha.2, Int.emod_eq_of_lt hb.1 hb.2]
  congr 1
  apply propext
  split <;> split <;> split <;> split <;> omega
theorem law_bits (a b : Int) (ha : W64 a) (hb : W64 b) : opv 6 a b = opv 2 (opv 9 a b) (opv 10 a b) ∧ opv 1 (opv 9 a b) (opv 10 a b) = (a + b) % 18446744073709551616 := by
  obtain ⟨n, rfl⟩ := Int.eq_ofNat_of_zero_le ha.1
  obtain ⟨m, rfl⟩ := Int.eq_ofNat_of_zero_le hb.1
  have hn := ha.2
  have hm := hb.2
  have h1 : n ^^^ m < 2 ^ 64 := Nat.xor_lt_two_pow (by omega) (by omega)
  have e := or_add_and (n + 1) n m (by omega)
  rw [opv_6, opv_2, opv_1, opv_9, opv_10, bits_xor_u64 _ _ (by omega) (by omega), bits_or_u64 _ _ (by omega) (by omega), bits_and_u64 _ _ (by omega) (by omega)]
  omega
theorem law01_WordLaws_ok (a b c : Int) (ha : W64 a) (hb : W64 b) (hc : W64 c) (w : World) :
    Calls Try.prog law01_WordLaws.N #[u64v a, u64v b, u64v c] w (Gives (.bool true) w) := by
  refine law01_WordLaws.calls ?_
  unfold law01_WordLaws.vc
  refine ⟨fun vs w' => vs = [.bool false] ∧ Later w w', ?_, ?_⟩
  · refine op_use (by decide) (by decide) ha hb (Later.refl w) fun w1 r1 g1 => ⟨_, rfl, ?_⟩
    refine op_use (by decide) (by decide) r1 hb g1 fun w2 r2 g2 => ⟨_, rfl, ?_⟩
    have e1 : opv 2 (opv 1 a b) b = a := by rw [opv_2, opv_1]; have := ha.1; have := ha.2; omega
    rw [e1]
    refine cnd_false (by simp) ?_
    refine op_use (by decide) (by decide) ha hb g2 fun w3 r3 g3 => ⟨_, rfl, ?_⟩
    refine op_use (by decide) (by decide) hb ha g3 fun w4 r4 g4 => ⟨_, rfl, ?_⟩
    have e2 : opv 11 b a = opv 11 a b := by rw [opv_11, opv_11, Int.mul_comm]
    rw [e2]
    refine cnd_false (by simp) ?_
    refine op_use (by decide) (by decide) ha hb g4 fun w5 r5 g5 => ⟨_, rfl, ?_⟩
    refine op_use (by decide) (by decide) hb ha g5 fun w6 r6 g6 => ⟨_, rfl, ?_⟩
    have e3 : opv 12 b a = opv 12 a b := by rw [opv_12, opv_12, Int.mul_comm]
    rw [e3]
    refine cnd_false (by simp) ?_
    refine op_use (by decide) (by decide) hb hc g6 fun w7 r7 g7 => ⟨_, rfl, ?_⟩
    refine op_use (by decide) (by decide) ha r7 g7 fun w8 r8 g8 => ⟨_, rfl, ?_⟩
    refine op_use (by decide) (by decide) ha hb g8 fun w9 r9 g9 => ⟨_, rfl, ?_⟩
    refine op_use (by decide) (by decide) ha hc g9 fun w10 r10 g10 => ⟨_, rfl, ?_⟩
    refine op_use (by decide) (by decide) r9 r10 g10 fun w11 r11 g11 => ⟨_, rfl, ?_⟩
    refine ⟨?_, g11⟩
    have e4 : opv 11 a (opv 1 b c) = opv 1 (opv 11 a b) (opv 11 a c) := by rw [opv_11, opv_1, opv_1, opv_11, opv_11, law_sum]
    rw [e4]
    simp
  rintro g s52 w1 ⟨hs, g1⟩
  obtain rfl : s52 = false := by simpa using hs
  refine cnd_false rfl ?_
  refine ⟨fun vs w' => vs = [u64v (opv 13 a b), u64v (opv 14 a b)] ∧ Later w w', ?_, ?_⟩
  · refine op_use (by decide) (by decide) ha hb g1 fun w1 r1 g1 => ⟨_, rfl, ?_⟩
    refine op_use (by decide) (by decide) ha hb g1 fun w2 r2 g2 => ⟨_, rfl, rfl, g2⟩
  rintro g q r w2 ⟨hs, g2⟩
  simp only [List.cons.injEq, Value.int.injEq, true_and, and_true] at hs
  obtain ⟨rfl, rfl⟩ := hs
  have q1 : W64 (opv 13 a b) := opv_in _ _ _ ha.1 ha.2 hb.1 hb.2
  have q2 : W64 (opv 14 a b) := opv_in _ _ _ ha.1 ha.2 hb.1 hb.2
  have hdiv : opv 1 (opv 11 (opv 13 a b) b) (opv 14 a b) = a ∧ (¬ b = 0 → opv 14 a b < b ∧ opv 12 (opv 13 a b) b = 0) := by
    have ha0 := ha.1
    have ha1 := ha.2
    have hb0 := hb.1
    by_cases hz : b = 0
    · subst hz
      rw [opv_1, opv_11, opv_14, if_pos rfl]
      refine ⟨by rw [Int.mul_zero]; omega, fun h => (h rfl).elim⟩
    · rw [opv_1, opv_11, opv_12, opv_13, opv_14, if_neg hz, if_neg hz]
      have h1 := Int.emod_add_mul_ediv a b
      have h2 := Int.emod_nonneg a hz
      have h3 := Int.emod_lt_of_pos a (show 0 < b by omega)
      have h4 : 0 ≤ b * (a / b) := Int.mul_nonneg hb0 (Int.ediv_nonneg ha0 hb0)
      rw [Int.mul_comm (a / b) b]
      generalize b * (a / b) = x at *
      generalize a % b = y at *
      omega
  refine ⟨fun vs w' => vs = [.bool false] ∧ Later w w', ?_, ?_⟩
  · refine op_use (by decide) (by decide) q1 hb g2 fun w1 r1 g1 => ⟨_, rfl, ?_⟩
    refine op_use (by decide) (by decide) r1 q2 g1 fun w3 r3 g3 => ⟨_, rfl, ?_⟩
    rw [hdiv.1]
    refine cnd_false (by simp) (cnd_of (fun h => ?_) (fun h => ?_))
    · have h : ¬ b = 0 := by simpa using h
      have h' : (b != 0) = true := by simpa using h
      refine cnd_false (by have := (hdiv.2 h).1; simp; omega) (cnd_true h' ?_)
      refine op_use (by decide) (by decide) q1 hb g3 fun w4 r4 g4 => ⟨_, rfl, ?_, g4⟩
      rw [(hdiv.2 h).2]
      simp
    · exact cnd_false h ⟨rfl, g3⟩
  rintro g s84 w3 ⟨hs, g3⟩
  obtain rfl : s84 = false := by simpa using hs
  refine cnd_false rfl ?_
  have hc0 := hc.1
  rw [tmod_nn 64 hc.1, min64 hc.1]
  refine cnd_false (by simp; omega) ?_
  have hp : (0 : Int) < 2 ^ (c % 64).toNat := two_pow_pos _
  have hp1 : (2 : Int) ^ (c % 64).toNat ≤ 9223372036854775808 := by
    have : (2 : Nat) ^ (c % 64).toNat ≤ 2 ^ 63 := Nat.pow_le_pow_right (by decide) (by omega)
    have e : (((2 : Nat) ^ (c % 64).toNat : Nat) : Int) = (2 : Int) ^ (c % 64).toNat := by simp
    omega
  have ht : IntKind.u64.wrap (1 * 2 ^ (c % 64).toNat) = 2 ^ (c % 64).toNat := by rw [Int.one_mul, u64_in (by omega) (by omega)]
  rw [ht]
  have hT : W64 (2 ^ (c % 64).toNat) := ⟨by omega, by omega⟩
  refine ⟨fun vs w' => vs = [.bool false] ∧ Later w w', ?_, ?_⟩
  · refine op_use (by decide) (by decide) ha hc g3 fun w1 r1 g1 => ⟨_, rfl, ?_⟩
    refine op_use (by decide) (by decide) ha hT g1 fun w2 r2 g2 => ⟨_, rfl, ?_⟩
    rw [opv_3, opv_11]
    refine cnd_false (by simp) ?_
    refine op_use (by decide) (by decide) ha hc g2 fun w3 r3 g3 => ⟨_, rfl, ?_⟩
    refine op_use (by decide) (by decide) ha hT g3 fun w4 r4 g4 => ⟨_, rfl, ?_, g4⟩
    rw [opv_7, opv_13, if_neg (by omega)]
    simp
  rintro g s104 w4 ⟨hs, g4⟩
  obtain rfl : s104 = false := by simpa using hs
  refine cnd_false rfl ?_
  refine ⟨fun vs w' => vs = [u64v (opv 5 a b), u64v (opv 5 b a)] ∧ Later w w', ?_, ?_⟩
  · refine op_use (by decide) (by decide) ha hb g4 fun w1 r1 g1 => ⟨_, rfl, ?_⟩
    refine op_use (by decide) (by decide) hb ha g1 fun w2 r2 g2 => ⟨_, rfl, rfl, g2⟩
  rintro g less more w5 ⟨hs, g5⟩
  simp only [List.cons.injEq, Value.int.injEq, true_and, and_true] at hs
  obtain ⟨rfl, rfl⟩ := hs
  have hle : IntKind.u64.wrap (opv 5 a b + opv 5 b a) = if a = b then 0 else 1 := by
    rw [opv_5, opv_5]
    by_cases h1 : a < b
    · rw [if_pos h1, if_neg (by omega), if_neg (by omega)]; rfl
    · by_cases h2 : b < a
      · rw [if_neg h1, if_pos h2, if_neg (by omega)]; rfl
      · rw [if_neg h1, if_neg h2, if_pos (by omega)]; rfl
  rw [hle]
  refine ⟨fun vs w' => vs = [.bool false] ∧ Later w w', ?_, ?_⟩
  · refine cnd_false (by split <;> simp) (cnd_false (by by_cases h : a = b <;> simp [h]) ?_)
    have x1 : W64 (bits .xor .u64 a 9223372036854775808) := opv_in 6 a 9223372036854775808 ha.1 ha.2 (by decide) (by decide)
    have x2 : W64 (bits .xor .u64 b 9223372036854775808) := opv_in 6 b 9223372036854775808 hb.1 hb.2 (by decide) (by decide)
    refine op_use (by decide) (by decide) ha hb g5 fun w1 r1 g1 => ⟨_, rfl, ?_⟩
    refine op_use (by decide) (by decide) x1 x2 g1 fun w2 r2 g2 => ⟨_, rfl, ?_, g2⟩
    rw [law_less a b ha hb]
    simp
  rintro g s135 w6 ⟨hs, g6⟩
  obtain rfl : s135 = false := by simpa using hs
  refine cnd_false rfl ?_
  have hl := law_bits a b ha hb
  refine op_use (by decide) (by decide) ha hb g6 fun w1 r1 g1 => ⟨_, rfl, ?_⟩
  refine op_use (by decide) (by decide) ha hb g1 fun w2 r2 g2 => ⟨_, rfl, ?_⟩
  refine op_use (by decide) (by decide) ha hb g2 fun w3 r3 g3 => ⟨_, rfl, ?_⟩
  refine op_use (by decide) (by decide) r2 r3 g3 fun w4 r4 g4 => ⟨_, rfl, ?_⟩
  rw [hl.1]
  refine cnd_true (by simp) ?_
  refine op_use (by decide) (by decide) ha hb g4 fun w5 r5 g5 => ⟨_, rfl, ?_⟩
  refine op_use (by decide) (by decide) ha hb g5 fun w6 r6 g6 => ⟨_, rfl, ?_⟩
  refine op_use (by decide) (by decide) r5 r6 g6 fun w7 r7 g7 => ⟨_, rfl, ?_⟩
  rw [hl.2, wrap_u64]
  refine cnd_true (by simp) ?_
  exact (law01_alive_ok _).mono fun e w' ⟨he, hl⟩ => ⟨_, he, rfl, g7.trans hl⟩
theorem law01_WordBytes_ok (v i bits n : Int) (s : ByteArray) (hv : W64 v) (hi : -9223372036854775808 ≤ i ∧ i < 9223372036854775808) (hb : -9223372036854775808 ≤ bits ∧ bits < 9223372036854775808) (hs : s.size < 9223372036854775808) (w : World) :
    Calls Try.prog law01_WordBytes.N #[u64v v, i64v i, i64v bits, i64v n, .string s] w (Gives (.bool true) w) := by
  refine law01_WordBytes.calls ?_
  unfold law01_WordBytes.vc
  refine (word_Sign_ok v bits hb.1 hb.2 _).mono fun e w1 ⟨he, g1⟩ => ⟨_, _, he, ?_⟩
  refine (ref01_Sign_ok v bits hv.1 hb.1 hb.2 _).mono fun e w2 ⟨he, g2⟩ => ⟨_, _, he, ?_⟩
  have hB : ∃ (t : ByteArray) (x : Int), (if 1 ≤ n ∧ n ≤ 8 then pairv (.string (bytesOf v n.toNat)) okv else pairv (.string ⟨#[]⟩) (i64v 2)) = pairv (.string t) (i64v x) := by
    split
    · exact ⟨_, _, rfl⟩
    · exact ⟨_, _, rfl⟩
  have hW : ∃ (x y : Int), (if 1 ≤ s.size ∧ s.size ≤ 8 then pairv (u64v (wordL s.data.toList)) okv else pairv (u64v 0) (i64v 2)) = pairv (u64v x) (i64v y) := by
    split
    · exact ⟨_, _, rfl⟩
    · exact ⟨_, _, rfl⟩
  obtain ⟨t, x, hB⟩ := hB
  obtain ⟨y, z, hW⟩ := hW
  have b1 := fun w => word_Bytes_ok v n hv.1 hv.2 w
  have b2 := fun w => ref01_Bytes_ok v n hv.1 hv.2 w
  have b3 := fun w => word_Word_ok s hs w
  have b4 := fun w => ref01_Word_ok s hs w
  rw [hB] at b1 b2
  rw [hW] at b3 b4
  refine (b1 _).mono fun e w3 ⟨he, g3⟩ => ⟨_, _, he, ?_⟩
  refine (b2 _).mono fun e w4 ⟨he, g4⟩ => ⟨_, _, he, ?_⟩
  refine (b3 _).mono fun e w5 ⟨he, g5⟩ => ⟨_, _, he, ?_⟩
  refine (b4 _).mono fun e w6 ⟨he, g6⟩ => ⟨_, _, he, ?_⟩
  refine cnd_true (by simp) (cnd_true (by simp) (cnd_true (by simp) (cnd_true (by simp) (cnd_true (by simp) (cnd_true (by simp) ?_)))))
  refine (word_Fits_ok i bits hi.1 hi.2 hb.1 hb.2 _).mono fun e w7 ⟨he, g7⟩ => ⟨_, he, ?_⟩
  refine (ref01_Fits_ok i bits hi.1 hi.2 hb.1 hb.2 _).mono fun e w8 ⟨he, g8⟩ => ⟨_, he, ?_⟩
  refine cnd_true (by simp) ?_
  exact (law01_alive_ok _).mono fun e w' ⟨he, hl⟩ => ⟨_, he, rfl, g1.trans (g2.trans (g3.trans (g4.trans (g5.trans (g6.trans (g7.trans (g8.trans hl)))))))⟩
theorem wordL_bytes (n : Nat) : ∀ k : Nat, wordL ((bytesOf n k).data.toList) = n % 2 ^ (8 * k) := by
  intro k
  have hl : ∀ k, ((bytesOf n k).data.toList).length = k := fun k => by simp [bytesOf, strOf]
  induction k with
  | zero => simp [bytesOf, strOf, wordL, Nat.mod_one]
  | succ k ih =>
    have e : (bytesOf n (k + 1)).data.toList = (bytesOf n k).data.toList ++ [UInt8.ofNat (bytev n k).toNat] := by
      simp [bytesOf, strOf, List.range_succ]
    have eb : (UInt8.ofNat (bytev n k).toNat).toNat = n / 2 ^ (8 * k) % 256 := by
      have : bytev n k = ((n / 2 ^ (8 * k) % 256 : Nat) : Int) := by unfold bytev; simp
      rw [this, Int.toNat_natCast, UInt8.toNat_ofNat']
      omega
    rw [e, wordL_snoc, ih, hl, eb, show 8 * (k + 1) = 8 * k + 8 by omega, Nat.pow_add, Nat.mod_mul, Nat.mul_comm (n / 2 ^ (8 * k) % 256)]
theorem law01_WordBack_ok (v n : Int) (hv : W64 v) (hn : 0 ≤ n ∧ n < 256) (w : World) :
    Calls Try.prog law01_WordBack.N #[u64v v, .int .u8 n] w (Gives (.bool true) w) := by
  refine law01_WordBack.calls ?_
  unfold law01_WordBack.vc
  have hv0 := hv.1
  have hv1 := hv.2
  obtain ⟨m, rfl⟩ := Int.eq_ofNat_of_zero_le hv0
  have hn0 := hn.1
  have hn1 := hn.2
  rw [i64_in (x := n) (by omega) (by omega), tmod_nn 8 hn0, tmod_nn 64 hn0, i64_in (x := 1 + n % 8) (by omega) (by omega), i64_in (x := 1 + n % 64) (by omega) (by omega)]
  rintro k hk
  obtain ⟨j, rfl⟩ := Int.eq_ofNat_of_zero_le (show 0 ≤ k by omega)
  have hj : 1 ≤ j ∧ j ≤ 8 := by omega
  have b1 := fun w => word_Bytes_ok m j hv0 hv1 w
  rw [if_pos (by omega), show ((j : Int)).toNat = j by omega] at b1
  refine (b1 _).mono fun e w1 ⟨he, g1⟩ => ⟨_, _, he, ?_⟩
  have hsz : (bytesOf m j).size = j := by simp [bytesOf, strOf, ByteArray.size]
  have b2 := fun w => word_Word_ok (bytesOf m j) (by omega) w
  rw [if_pos (by omega), wordL_bytes] at b2
  refine (b2 _).mono fun e w2 ⟨he, g2⟩ => ⟨_, _, he, ?_⟩
  rintro x rfl
  have g2 := g1.trans g2
  refine ⟨fun vs w' => vs = [u64v ((m % 2 ^ (8 * j) : Nat) : Int)] ∧ w' = w2, ?_, ?_⟩
  · refine cnd_of (fun h8 => ?_) (fun h8 => ?_)
    · have h8 := of_decide_eq_true h8
      rw [i64_in (by omega) (by omega), u64_in (x := 8 * (j : Int)) (by omega) (by omega)]
      have hp : (2 : Nat) ^ (8 * j) ≤ 2 ^ 56 := Nat.pow_le_pow_right (by decide) (by omega)
      have hp0 : 0 < (2 : Nat) ^ (8 * j) := Nat.two_pow_pos _
      have e1 : IntKind.u64.wrap (1 * 2 ^ min (8 * (j : Int)).toNat 64) = ((2 ^ (8 * j) : Nat) : Int) := by
        rw [show min (8 * (j : Int)).toNat 64 = 8 * j by omega, Int.one_mul]
        have : (2 : Int) ^ (8 * j) = ((2 ^ (8 * j) : Nat) : Int) := by simp
        rw [this, u64_in (by omega) (by omega)]
      rw [e1]
      refine cnd_false (A := False) (decide_eq_false (by omega)) (cnd_false (A := False) (decide_eq_false (by omega)) ?_)
      rintro y rfl
      refine ⟨?_, rfl⟩
      rw [tmod_nn _ (by omega)]
      simp
    · have h8 := of_decide_eq_false h8
      obtain rfl : j = 8 := by omega
      rw [Nat.mod_eq_of_lt (show m < 2 ^ (8 * 8) by omega)]
      exact ⟨rfl, rfl⟩
  rintro g low w3 ⟨hs, rfl⟩
  obtain rfl : low = ((m % 2 ^ (8 * j) : Nat) : Int) := by simpa using hs
  refine cnd_false (by simp) (cnd_false (by simp) (cnd_false (by rw [hsz]; simp) (cnd_false (by simp) ?_)))
  rintro b hb
  have hb1 : 1 ≤ b ∧ b ≤ 64 := by omega
  have eSign : ∀ u : Int, signv u b = signI u b.toNat % 18446744073709551616 := fun u => by unfold signv; rw [if_pos hb1]
  have eErr : signe b = 0 := by unfold signe; rw [if_pos hb1]
  refine (word_Sign_ok m b (by omega) (by omega) _).mono fun e w4 ⟨he, g4⟩ => ⟨_, _, he, ?_⟩
  rw [eErr, eSign]
  refine cnd_false (by simp) ?_
  rw [i64_in (x := 64 - b) (by omega) (by omega), u64_in (x := 64 - b) (by omega) (by omega)]
  refine cnd_false (A := False) (decide_eq_false (by omega)) (cnd_false (A := False) (decide_eq_false (by omega)) ?_)
  obtain ⟨c, rfl⟩ := Int.eq_ofNat_of_zero_le (show 0 ≤ b by omega)
  rw [show min (64 - (c : Int)).toNat 64 = 64 - c by omega, show ((c : Int)).toNat = c by omega]
  have hr := signI_range m c (by omega)
  have hp := pow_le63 c (by omega) (by omega)
  have hcong : ∀ u : Int, u * 2 ^ (64 - c) % 18446744073709551616 = u % 2 ^ c * 2 ^ (64 - c) := fun u => by
    rw [← pow_split c (by omega), Int.mul_comm u, Int.mul_comm (2 ^ c), Int.mul_emod_mul_of_pos _ _ (two_pow_pos _), Int.mul_comm]
  have hmod : signI m c % 2 ^ c = (m : Int) % 2 ^ c := by
    unfold signI
    split
    · rw [Int.sub_emod_right, Int.emod_emod_of_dvd _ (Int.dvd_refl _)]
    · rw [Int.emod_emod_of_dvd _ (Int.dvd_refl _)]
  have hxm : signI m c % 18446744073709551616 % 2 ^ c = (m : Int) % 2 ^ c := by rw [Int.emod_emod_of_dvd _ (pow_dvd64 c (by omega)), hmod]
  refine cnd_false ?_ ?_
  · rw [wrap_u64, wrap_u64, hcong, hcong, hxm]; simp
  rw [wrap_i64_small (by omega) (by omega)]
  refine (word_Fits_ok (signI m c) c (by omega) (by omega) (by omega) (by omega) _).mono fun e w5 ⟨he, g5⟩ => ⟨_, he, ?_⟩
  have hf : fitsv (signI m c) c = true := by
    unfold fitsv
    rw [show ((c : Int)).toNat = c by omega]
    exact decide_eq_true ⟨hb1.1, hb1.2, hr.1, hr.2⟩
  refine cnd_false (by rw [hf]; rfl) ?_
  have hw := wrap_i64 m
  rw [Int.emod_eq_of_lt hv0 hv1] at hw
  have hwr : -9223372036854775808 ≤ IntKind.i64.wrap m ∧ IntKind.i64.wrap m < 9223372036854775808 ∧ IntKind.i64.wrap m % 18446744073709551616 = m := by
    rw [hw]; split <;> omega
  have hsw : signI (IntKind.i64.wrap m) c = signI m c := by
    rw [← signI_mod (IntKind.i64.wrap m) c (by omega), hwr.2.2]
  refine (word_Fits_ok (IntKind.i64.wrap m) c hwr.1 hwr.2.1 (by omega) (by omega) _).mono fun e w6 ⟨he, g6⟩ => ⟨_, he, ?_⟩
  have hf2 : fitsv (IntKind.i64.wrap m) c = (signI m c % 18446744073709551616 == (m : Int)) := by
    rw [Bool.eq_iff_iff]
    unfold fitsv
    rw [show ((c : Int)).toNat = c by omega]
    simp only [decide_eq_true_eq, beq_iff_eq]
    constructor
    · intro h
      have := signI_of_range (IntKind.i64.wrap m) c (by omega) h.2.2.1 h.2.2.2
      rw [← hsw, this, hwr.2.2]
    · intro h
      have : signI m c = IntKind.i64.wrap m := by omega
      rw [← this]
      exact ⟨hb1.1, hb1.2, hr.1, hr.2⟩
  refine cnd_false ?_ ?_
  · rw [hf2]; cases (signI m c % 18446744073709551616 == (m : Int)) <;> rfl
  refine (word_Sign_ok _ c (by omega) (by omega) _).mono fun e w7 ⟨he, g7⟩ => ⟨_, _, he, ?_⟩
  have hS : signI (signI m c % 18446744073709551616) c = signI m c := by
    rw [signI_mod _ _ (by omega)]
    exact signI_of_range _ _ (by omega) hr.1 hr.2
  rw [eErr, eSign, show ((c : Int)).toNat = c by omega, hS]
  refine cnd_true (by simp) (cnd_true (by simp) ?_)
  exact (law01_alive_ok _).mono fun e w' ⟨he, hl⟩ => ⟨_, he, rfl, g2.trans (g4.trans (g5.trans (g6.trans (g7.trans hl))))⟩
end Go.Proofs.Ytoncpheocnjooaa
