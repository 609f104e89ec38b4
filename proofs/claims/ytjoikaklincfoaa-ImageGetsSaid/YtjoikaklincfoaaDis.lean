/-
The contracts of package disas, first part: fields of a word, numbers, which registers an Op has.
Conditions: the word is one of 32 bits.
-/
import Derived.Test.YtjoikaklincfoaaVdisas
import Derived.Test.YtjoikaklincfoaaVdisasn
import Derived.Test.YtjoikaklincfoaaInsnC
namespace Go.Proofs.Ytjoikaklincfoaa
open Go Go.Vc Go.RowKit
set_option linter.unusedVariables false
set_option linter.unusedSimpArgs false
set_option linter.unnecessarySimpa false
set_option maxRecDepth 100000

def W32 (w : Int) : Prop := 0 ≤ w ∧ w < 4294967296
def fldI (w : Int) (at_ n : Nat) : Int := w / 2 ^ at_ % 2 ^ n
theorem fldI_range (w : Int) (at_ n : Nat) : 0 ≤ fldI w at_ n ∧ fldI w at_ n < 2 ^ n := ⟨Int.emod_nonneg _ (Int.ne_of_gt (two_pow_pos _)), Int.emod_lt_of_pos _ (two_pow_pos _)⟩
theorem pow_le31 (n : Nat) (hn : n ≤ 31) : 1 ≤ (2 : Nat) ^ n ∧ (2 : Nat) ^ n ≤ 2147483648 := ⟨Nat.one_le_two_pow, Nat.pow_le_pow_right (by decide) hn⟩
theorem fld_and {w : Int} (hw : W32 w) (at_ n : Nat) (ha : at_ ≤ 32) (hn : n ≤ 31) :
    bits .and .u32 (w.fdiv (2 ^ min (at_ : Int).toNat 32)) (IntKind.u32.wrap (IntKind.u32.wrap (1 * 2 ^ min (n : Int).toNat 32) - 1)) = fldI w at_ n := by
  obtain ⟨h0, h1⟩ := hw
  obtain ⟨m, rfl⟩ := Int.eq_ofNat_of_zero_le h0
  obtain ⟨p0, p1⟩ := pow_le31 n hn
  have e1 : min ((at_ : Nat) : Int).toNat 32 = at_ := by omega
  have e2 : min ((n : Nat) : Int).toNat 32 = n := by omega
  rw [e1, e2, fdiv_nn _ (Int.le_of_lt (two_pow_pos _)), Int.one_mul]
  have e3 : ((2 : Int) ^ n) = ((2 ^ n : Nat) : Int) := by simp
  have e4 : ((2 : Int) ^ at_) = ((2 ^ at_ : Nat) : Int) := by simp
  unfold fldI
  rw [e3, e4, u32_in (x := ((2 ^ n : Nat) : Int)) (by omega) (by omega), u32_in (by omega) (by omega)]
  have e5 : (((2 ^ n : Nat) : Int) - 1) = ((2 ^ n - 1 : Nat) : Int) := by omega
  have hm : m / 2 ^ at_ ≤ m := Nat.div_le_self _ _
  have e6 : (m : Int) / ((2 ^ at_ : Nat) : Int) = ((m / 2 ^ at_ : Nat) : Int) := by simp
  rw [e5, e6, bits_and_u32 _ _ (by omega) (by omega), Nat.and_two_pow_sub_one_eq_mod]
  simp
theorem disas_field_ok {w : Int} (hw : W32 w) (at_ n : Nat) (ha : at_ ≤ 32) (hn : n ≤ 31) (w0 : World) : Calls Try.prog disas_field.N #[u32v w, i64v at_, i64v n] w0 (Gives (u32v (fldI w at_ n)) w0) := by
  refine disas_field.calls ?_
  unfold disas_field.vc
  refine cnd_false (by simp) (cnd_false (by simp) fun w1 h1 => ⟨?_, h1⟩)
  rw [fld_and hw at_ n ha hn]
/-- A number of so many bits, with its sign. -/
def sgn (v : Int) (n : Int) : Int := IntKind.i64.wrap (signv v n)
theorem sgn_range (v n : Int) : I64 (sgn v n) := by
  unfold sgn I64
  rw [wrap_i64]
  omega
theorem disas_signed_ok {v : Int} (hv : W32 v) (n : Int) (hn : 0 ≤ n ∧ n ≤ 64) (w0 : World) : Calls Try.prog disas_signed.N #[u32v v, i64v n] w0 (Gives (i64v (sgn v n)) w0) := by
  refine disas_signed.calls ?_
  unfold disas_signed.vc
  rw [wrap_u64, Int.emod_eq_of_lt hv.1 (Int.lt_trans hv.2 (by decide))]
  exact (word_Sign_ok v n (by omega) (by omega) w0).mono fun e w1 ⟨he, l1⟩ => ⟨_, _, he, rfl, l1⟩

theorem bl {a b : Bool} (h : a = true ↔ b = true) : ([Value.bool a] : List Value) = [.bool b] := by rw [Bool.eq_iff_iff.2 h]
theorem bE {a b : Bool} (h : a = true ↔ b = true) : Ending.returned (.bool a) = Ending.returned (.bool b) := by rw [Bool.eq_iff_iff.2 h]
/-- What an Op would have as its number. -/
def numS (o w : Int) : Int :=
  if (15 ≤ o ∧ o ≤ 19) ∨ o = 24 ∨ o = 25 ∨ o = 33 then sgn (fldI w 20 12) 12
  else if 20 ≤ o ∧ o ≤ 22 then fldI w 20 6
  else if o = 23 then sgn (fldI w 12 20 * 4096) 32
  else if o = 26 ∨ o = 27 then sgn (fldI w 25 7 * 32 + fldI w 7 5) 12
  else if 28 ≤ o ∧ o ≤ 31 then sgn (fldI w 8 4 * 2 + fldI w 25 6 * 32 + fldI w 7 1 * 2048 + fldI w 31 1 * 4096) 13
  else if o = 32 then sgn (fldI w 21 10 * 2 + fldI w 20 1 * 2048 + fldI w 12 8 * 4096 + fldI w 31 1 * 1048576) 21
  else 0
theorem numS_range (o w : Int) : I64 (numS o w) := by
  unfold numS
  have h6 := fldI_range w 20 6
  split
  · exact sgn_range _ _
  split
  · exact ⟨by omega, by have := h6.2; simp only [show (2 : Int) ^ 6 = 64 from rfl] at this; omega⟩
  split
  · exact sgn_range _ _
  split
  · exact sgn_range _ _
  split
  · exact sgn_range _ _
  split
  · exact sgn_range _ _
  · exact ⟨by omega, by omega⟩
theorem bits_or_comm (x y : Int) : bits .or .u32 x y = bits .or .u32 y x := by
  simp only [bits]
  rw [BitVec.or_comm]
theorem or_low {x y : Int} (k : Nat) (h0 : 0 ≤ x) (h1 : x < 2 ^ k) (hy : 0 ≤ y) (hx : x < 4294967296) (hyk : y * 2 ^ k < 4294967296) : bits .or .u32 (IntKind.u32.wrap (y * 2 ^ k)) x = y * 2 ^ k + x := by
  have : 0 ≤ y * 2 ^ k := Int.mul_nonneg hy (Int.le_of_lt (two_pow_pos _))
  rw [u32_in this hyk, bits_or_comm, or_bits x y k h0 h1 hy hx hyk, Int.add_comm]
theorem or_high {x y : Int} (k : Nat) (h0 : 0 ≤ x) (h1 : x < 2 ^ k) (hy : 0 ≤ y) (hx : x < 4294967296) (hyk : y * 2 ^ k < 4294967296) : bits .or .u32 x (IntKind.u32.wrap (y * 2 ^ k)) = x + y * 2 ^ k := by
  have : 0 ≤ y * 2 ^ k := Int.mul_nonneg hy (Int.le_of_lt (two_pow_pos _))
  rw [u32_in this hyk, or_bits x y k h0 h1 hy hx hyk]
theorem andNot_4095 {w : Int} (hw : W32 w) : bits .andNot .u32 w 4095 = fldI w 12 20 * 4096 := by
  obtain ⟨h0, h1⟩ := hw
  obtain ⟨m, rfl⟩ := Int.eq_ofNat_of_zero_le h0
  have hm : m < 4294967296 := by omega
  have e : (BitVec.ofInt 32 (m : Int) &&& ~~~ (BitVec.ofInt 32 4095)).toNat = m / 4096 * 4096 := by
    have e1 : BitVec.ofInt 32 (m : Int) = BitVec.ofNat 32 m := by rw [BitVec.ofInt_natCast]
    rw [e1]
    have e2 : (BitVec.ofNat 32 m &&& ~~~ (BitVec.ofInt 32 4095)) = (BitVec.ofNat 32 m >>> 12) <<< 12 := by
      generalize BitVec.ofNat 32 m = b
      apply BitVec.eq_of_getLsbD_eq
      intro i hi
      have : ∀ i : Fin 32, (BitVec.ofInt 32 4095).getLsbD i.1 = decide (i.1 < 12) := by decide
      have := this ⟨i, hi⟩
      simp only [BitVec.getLsbD_and, BitVec.getLsbD_not, this, BitVec.getLsbD_shiftLeft, BitVec.getLsbD_ushiftRight, hi]
      by_cases h : i < 12
      · simp [h]
      · simp [h, show 12 + (i - 12) = i by omega]
    rw [e2, BitVec.toNat_shiftLeft, BitVec.toNat_ushiftRight, BitVec.toNat_ofNat]
    rw [Nat.mod_eq_of_lt (show m < 2 ^ 32 by omega), Nat.shiftRight_eq_div_pow, Nat.shiftLeft_eq]
    omega
  simp only [bits]
  rw [show IntKind.u32.bits = 32 from rfl, e, wrap_u32]
  unfold fldI
  simp only [show (2 : Int) ^ 12 = 4096 from rfl, show (2 : Int) ^ 20 = 1048576 from rfl]
  omega
theorem disas_number_ok (o : Int) {w : Int} (hw : W32 w) (w0 : World) : Calls Try.prog disas_number.N #[.int .u8 o, u32v w] w0 (Gives (i64v (numS o w)) w0) := by
  have f (at_ n : Nat) (ha : at_ ≤ 32) (hn : n ≤ 31) := fun w1 => disas_field_ok hw at_ n ha hn w1
  refine disas_number.calls ?_
  unfold disas_number.vc
  refine ⟨fun vs w1 => vs = [.bool (decide (15 ≤ o ∧ o ≤ 19))] ∧ Later w0 w1, ?_, ?_⟩
  · refine cnd_of (fun h => ⟨?_, Later.refl _⟩) fun h => cnd_of (fun h => ⟨?_, Later.refl _⟩) fun h => cnd_of (fun h => ⟨?_, Later.refl _⟩) fun h => cnd_of (fun h => ⟨?_, Later.refl _⟩) fun h => ⟨?_, Later.refl _⟩
    all_goals refine bl ?_
    all_goals simp only [beq_iff_eq, decide_eq_true_eq, beq_eq_false_iff_ne, ne_eq] at *
    all_goals omega
  rintro g s6 w1 ⟨hs, g1⟩
  simp only [List.cons.injEq, Value.bool.injEq, and_true] at hs
  subst hs
  have r12 := fldI_range w 20 12
  simp only [show (2 : Int) ^ 12 = 4096 from rfl] at r12
  refine cnd_of (fun h => ?_) fun h => ?_
  · simp only [decide_eq_true_eq] at h
    refine (f 20 12 (by omega) (by omega) w1).mono fun e w2 ⟨he, g2⟩ => ⟨_, he, (disas_signed_ok ⟨r12.1, by omega⟩ 12 (by omega) w2).mono fun e w3 ⟨he, g3⟩ => ⟨_, he, ?_, (g1.trans g2).trans g3⟩⟩
    rw [numS, if_pos (.inl h)]
  simp only [decide_eq_false_iff_not] at h
  refine ⟨fun vs w1 => vs = [.bool (decide (o = 24 ∨ o = 25 ∨ o = 33))] ∧ Later w0 w1, ?_, ?_⟩
  · refine cnd_of (fun h => ⟨?_, g1⟩) fun h => cnd_of (fun h => ⟨?_, g1⟩) fun h => ⟨?_, g1⟩
    all_goals refine bl ?_
    all_goals simp only [beq_iff_eq, decide_eq_true_eq, beq_eq_false_iff_ne, ne_eq] at *
    all_goals omega
  rintro g s6 w1 ⟨hs, g1⟩
  simp only [List.cons.injEq, Value.bool.injEq, and_true] at hs
  subst hs
  refine cnd_of (fun h2 => ?_) fun h2 => ?_
  · simp only [decide_eq_true_eq] at h2
    refine (f 20 12 (by omega) (by omega) w1).mono fun e w2 ⟨he, g2⟩ => ⟨_, he, (disas_signed_ok ⟨r12.1, by omega⟩ 12 (by omega) w2).mono fun e w3 ⟨he, g3⟩ => ⟨_, he, ?_, (g1.trans g2).trans g3⟩⟩
    rw [numS, if_pos (.inr h2)]
  simp only [decide_eq_false_iff_not] at h2
  have hA : ¬ ((15 ≤ o ∧ o ≤ 19) ∨ o = 24 ∨ o = 25 ∨ o = 33) := by omega
  refine ⟨fun vs w1 => vs = [.bool (decide (20 ≤ o ∧ o ≤ 22))] ∧ Later w0 w1, ?_, ?_⟩
  · refine cnd_of (fun h => ⟨?_, g1⟩) fun h => cnd_of (fun h => ⟨?_, g1⟩) fun h => ⟨?_, g1⟩
    all_goals refine bl ?_
    all_goals simp only [beq_iff_eq, decide_eq_true_eq, beq_eq_false_iff_ne, ne_eq] at *
    all_goals omega
  rintro g s6 w1 ⟨hs, g1⟩
  simp only [List.cons.injEq, Value.bool.injEq, and_true] at hs
  subst hs
  refine cnd_of (fun h3 => ?_) fun h3 => ?_
  · simp only [decide_eq_true_eq] at h3
    have r := fldI_range w 20 6
    simp only [show (2 : Int) ^ 6 = 64 from rfl] at r
    refine (f 20 6 (by omega) (by omega) w1).mono fun e w2 ⟨he, g2⟩ => ⟨_, he, ?_, g1.trans g2⟩
    rw [numS, if_neg hA, if_pos h3, i64_in (by omega) (by omega)]
  simp only [decide_eq_false_iff_not] at h3
  refine cnd_of (fun h4 => ?_) fun h4 => ?_
  · simp only [beq_iff_eq] at h4
    have r := fldI_range w 12 20
    simp only [show (2 : Int) ^ 20 = 1048576 from rfl] at r
    rw [andNot_4095 hw]
    refine (disas_signed_ok ⟨by omega, by omega⟩ 32 (by omega) w1).mono fun e w3 ⟨he, g3⟩ => ⟨_, he, ?_, g1.trans g3⟩
    rw [numS, if_neg hA, if_neg h3, if_pos h4]
  have h4 : ¬ o = 23 := by simpa using h4
  refine ⟨fun vs w1 => vs = [.bool (decide (o = 26 ∨ o = 27))] ∧ Later w0 w1, ?_, ?_⟩
  · refine cnd_of (fun h => ⟨?_, g1⟩) fun h => ⟨?_, g1⟩
    all_goals refine bl ?_
    all_goals simp only [beq_iff_eq, decide_eq_true_eq, beq_eq_false_iff_ne, ne_eq] at *
    all_goals omega
  rintro g s6 w1 ⟨hs, g1⟩
  simp only [List.cons.injEq, Value.bool.injEq, and_true] at hs
  subst hs
  refine cnd_of (fun h5 => ?_) fun h5 => ?_
  · simp only [decide_eq_true_eq] at h5
    have r := fldI_range w 25 7
    have r' := fldI_range w 7 5
    simp only [show (2 : Int) ^ 7 = 128 from rfl, show (2 : Int) ^ 5 = 32 from rfl] at r r'
    have e := or_low (x := fldI w 7 5) (y := fldI w 25 7) 5 r'.1 r'.2 r.1 (by omega) (by rw [show (2 : Int) ^ 5 = 32 from rfl]; omega)
    rw [show (2 : Int) ^ 5 = 32 from rfl] at e
    refine (f 25 7 (by omega) (by omega) w1).mono fun e w2 ⟨he, g2⟩ => ⟨_, he, (f 7 5 (by omega) (by omega) w2).mono fun e' w3 ⟨he', g3⟩ => ⟨_, he', ?_⟩⟩
    rw [‹bits .or .u32 _ _ = _›]
    refine (disas_signed_ok ⟨by omega, by omega⟩ 12 (by omega) w3).mono fun e w4 ⟨he, g4⟩ => ⟨_, he, ?_, ((g1.trans g2).trans g3).trans g4⟩
    rw [numS, if_neg hA, if_neg h3, if_neg h4, if_pos h5]
  simp only [decide_eq_false_iff_not] at h5
  refine ⟨fun vs w1 => vs = [.bool (decide (28 ≤ o ∧ o ≤ 31))] ∧ Later w0 w1, ?_, ?_⟩
  · refine cnd_of (fun h => ⟨?_, g1⟩) fun h => cnd_of (fun h => ⟨?_, g1⟩) fun h => cnd_of (fun h => ⟨?_, g1⟩) fun h => ⟨?_, g1⟩
    all_goals refine bl ?_
    all_goals simp only [beq_iff_eq, decide_eq_true_eq, beq_eq_false_iff_ne, ne_eq] at *
    all_goals omega
  rintro g s6 w1 ⟨hs, g1⟩
  simp only [List.cons.injEq, Value.bool.injEq, and_true] at hs
  subst hs
  refine cnd_of (fun h6 => ?_) fun h6 => ?_
  · simp only [decide_eq_true_eq] at h6
    have a := fldI_range w 8 4
    have b := fldI_range w 25 6
    have c := fldI_range w 7 1
    have d := fldI_range w 31 1
    simp only [show (2 : Int) ^ 4 = 16 from rfl, show (2 : Int) ^ 6 = 64 from rfl, show (2 : Int) ^ 1 = 2 from rfl] at a b c d
    have e1 := or_high (x := fldI w 8 4 * 2) (y := fldI w 25 6) 5 (by omega) (by rw [show (2 : Int) ^ 5 = 32 from rfl]; omega) b.1 (by omega) (by rw [show (2 : Int) ^ 5 = 32 from rfl]; omega)
    have e2 := or_high (x := fldI w 8 4 * 2 + fldI w 25 6 * 32) (y := fldI w 7 1) 11 (by omega) (by rw [show (2 : Int) ^ 11 = 2048 from rfl]; omega) c.1 (by omega) (by rw [show (2 : Int) ^ 11 = 2048 from rfl]; omega)
    have e3 := or_high (x := fldI w 8 4 * 2 + fldI w 25 6 * 32 + fldI w 7 1 * 2048) (y := fldI w 31 1) 12 (by omega) (by rw [show (2 : Int) ^ 12 = 4096 from rfl]; omega) d.1 (by omega) (by rw [show (2 : Int) ^ 12 = 4096 from rfl]; omega)
    rw [show (2 : Int) ^ 5 = 32 from rfl] at e1
    rw [show (2 : Int) ^ 11 = 2048 from rfl] at e2
    rw [show (2 : Int) ^ 12 = 4096 from rfl] at e3
    refine (f 8 4 (by omega) (by omega) w1).mono fun e w2 ⟨he, g2⟩ => ⟨_, he, (f 25 6 (by omega) (by omega) w2).mono fun e' w3 ⟨he', g3⟩ => ⟨_, he', (f 7 1 (by omega) (by omega) w3).mono fun e' w4 ⟨he', g4⟩ => ⟨_, he', (f 31 1 (by omega) (by omega) w4).mono fun e' w5 ⟨he', g5⟩ => ⟨_, he', ?_⟩⟩⟩⟩
    rw [u32_in (x := fldI w 8 4 * 2) (by omega) (by omega), e1, e2, e3]
    refine (disas_signed_ok ⟨by omega, by omega⟩ 13 (by omega) w5).mono fun e w6 ⟨he, g6⟩ => ⟨_, he, ?_, ((((g1.trans g2).trans g3).trans g4).trans g5).trans g6⟩
    rw [numS, if_neg hA, if_neg h3, if_neg h4, if_neg h5, if_pos h6]
  simp only [decide_eq_false_iff_not] at h6
  refine cnd_of (fun h7 => ?_) fun h7 => ⟨?_, g1⟩
  · simp only [beq_iff_eq] at h7
    have a := fldI_range w 21 10
    have b := fldI_range w 20 1
    have c := fldI_range w 12 8
    have d := fldI_range w 31 1
    simp only [show (2 : Int) ^ 10 = 1024 from rfl, show (2 : Int) ^ 8 = 256 from rfl, show (2 : Int) ^ 1 = 2 from rfl] at a b c d
    have e1 := or_high (x := fldI w 21 10 * 2) (y := fldI w 20 1) 11 (by omega) (by rw [show (2 : Int) ^ 11 = 2048 from rfl]; omega) b.1 (by omega) (by rw [show (2 : Int) ^ 11 = 2048 from rfl]; omega)
    have e2 := or_high (x := fldI w 21 10 * 2 + fldI w 20 1 * 2048) (y := fldI w 12 8) 12 (by omega) (by rw [show (2 : Int) ^ 12 = 4096 from rfl]; omega) c.1 (by omega) (by rw [show (2 : Int) ^ 12 = 4096 from rfl]; omega)
    have e3 := or_high (x := fldI w 21 10 * 2 + fldI w 20 1 * 2048 + fldI w 12 8 * 4096) (y := fldI w 31 1) 20 (by omega) (by rw [show (2 : Int) ^ 20 = 1048576 from rfl]; omega) d.1 (by omega) (by rw [show (2 : Int) ^ 20 = 1048576 from rfl]; omega)
    rw [show (2 : Int) ^ 11 = 2048 from rfl] at e1
    rw [show (2 : Int) ^ 12 = 4096 from rfl] at e2
    rw [show (2 : Int) ^ 20 = 1048576 from rfl] at e3
    refine (f 21 10 (by omega) (by omega) w1).mono fun e w2 ⟨he, g2⟩ => ⟨_, he, (f 20 1 (by omega) (by omega) w2).mono fun e' w3 ⟨he', g3⟩ => ⟨_, he', (f 12 8 (by omega) (by omega) w3).mono fun e' w4 ⟨he', g4⟩ => ⟨_, he', (f 31 1 (by omega) (by omega) w4).mono fun e' w5 ⟨he', g5⟩ => ⟨_, he', ?_⟩⟩⟩⟩
    rw [u32_in (x := fldI w 21 10 * 2) (by omega) (by omega), e1, e2, e3]
    refine (disas_signed_ok ⟨by omega, by omega⟩ 21 (by omega) w5).mono fun e w6 ⟨he, g6⟩ => ⟨_, he, ?_, ((((g1.trans g2).trans g3).trans g4).trans g5).trans g6⟩
    rw [numS, if_neg hA, if_neg h3, if_neg h4, if_neg h5, if_neg h6, if_pos h7]
  · have h7 : ¬ o = 32 := by simpa using h7
    rw [numS, if_neg hA, if_neg h3, if_neg h4, if_neg h5, if_neg h6, if_neg h7]
/-! ### which registers an Op has -/
def hasRdS (o : Int) : Bool := !(decide (26 ≤ o ∧ o ≤ 31) || decide (o = 34))
def hasRs1S (o : Int) : Bool := !(decide (o = 23) || decide (o = 32) || decide (o = 34))
def hasRs2S (o : Int) : Bool := decide (o ≤ 14) || decide (26 ≤ o ∧ o ≤ 31)
theorem disas_hasRd_ok (o : Int) (w0 : World) : Calls Try.prog disas_hasRd.N #[.int .u8 o] w0 (Gives (.bool (hasRdS o)) w0) := by
  refine disas_hasRd.calls ?_
  unfold disas_hasRd.vc hasRdS
  repeat' (refine cnd_of (fun h => ?_) fun h => ?_)
  all_goals refine ⟨bE ?_, Later.refl _⟩
  all_goals simp at *
  all_goals omega
theorem disas_hasRs1_ok (o : Int) (w0 : World) : Calls Try.prog disas_hasRs1.N #[.int .u8 o] w0 (Gives (.bool (hasRs1S o)) w0) := by
  refine disas_hasRs1.calls ?_
  unfold disas_hasRs1.vc hasRs1S
  repeat' (refine cnd_of (fun h => ?_) fun h => ?_)
  all_goals refine ⟨bE ?_, Later.refl _⟩
  all_goals simp at *
  all_goals omega
theorem disas_hasRs2_ok (o : Int) (w0 : World) : Calls Try.prog disas_hasRs2.N #[.int .u8 o] w0 (Gives (.bool (hasRs2S o)) w0) := by
  refine disas_hasRs2.calls ?_
  unfold disas_hasRs2.vc hasRs2S
  repeat' (refine cnd_of (fun h => ?_) fun h => ?_)
  all_goals refine ⟨bE ?_, Later.refl _⟩
  all_goals simp at *
  all_goals omega
end Go.Proofs.Ytjoikaklincfoaa
