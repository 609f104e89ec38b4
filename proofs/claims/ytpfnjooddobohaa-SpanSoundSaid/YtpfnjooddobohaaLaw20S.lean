/-
What SpanSound comes to, once called: true, and nothing old is turned.
Conditions: each number is of its kind.
-/
import Derived.Test.YtpfnjooddobohaaLaw20
import Derived.Test.YtpfnjooddobohaaSpanLaw
namespace Go.Proofs.Ytpfnjooddobohaa
open Go Go.Vc Go.RowKit
set_option linter.unusedVariables false
set_option linter.unusedSimpArgs false
set_option maxRecDepth 100000

theorem opv_in (fn a b : Int) (ha : 0 ≤ a) (ha1 : a < 18446744073709551616) (hb : 0 ≤ b) (hb1 : b < 18446744073709551616) : 0 ≤ opv fn a b ∧ opv fn a b < 18446744073709551616 := by
  obtain ⟨n, rfl⟩ := Int.eq_ofNat_of_zero_le ha
  obtain ⟨m, rfl⟩ := Int.eq_ofNat_of_zero_le hb
  have hn : n < 2 ^ 64 := by omega
  have hm : m < 2 ^ 64 := by omega
  have h1 : n ^^^ m < 2 ^ 64 := Nat.xor_lt_two_pow hn hm
  have h2 : n ||| m < 2 ^ 64 := Nat.or_lt_two_pow hn hm
  have h3 : n &&& m < 2 ^ 64 := Nat.and_lt_two_pow _ hm
  unfold opv
  rw [bits_xor_u64 _ _ (by omega) (by omega), bits_or_u64 _ _ (by omega) (by omega), bits_and_u64 _ _ (by omega) (by omega)]
  have hp : (0 : Int) < 2 ^ ((m : Int) % 64).toNat := two_pow_pos _
  have d0 : 0 ≤ (n : Int) / 2 ^ ((m : Int) % 64).toNat := Int.ediv_nonneg (by omega) (Int.le_of_lt hp)
  have d1 : (n : Int) / 2 ^ ((m : Int) % 64).toNat ≤ n := Int.ediv_le_self _ (by omega)
  have q0 : 0 ≤ (n : Int) / m := Int.ediv_nonneg (by omega) (by omega)
  have q1 : (n : Int) / m ≤ n := Int.ediv_le_self _ (by omega)
  have p1 : (n : Int) * m ≤ 18446744073709551615 * 18446744073709551615 := Int.le_trans (Int.mul_le_mul_of_nonneg_right (show (n : Int) ≤ 18446744073709551615 by omega) (by omega)) (Int.mul_le_mul_of_nonneg_left (by omega) (by omega))
  have p0 : 0 ≤ (n : Int) * m := Int.mul_nonneg (by omega) (by omega)
  have r0 : ¬ (m : Int) = 0 → 0 ≤ (n : Int) % m ∧ (n : Int) % m < m := fun h => ⟨Int.emod_nonneg _ h, Int.emod_lt_of_pos _ (by omega)⟩
  repeat' split
  all_goals first | omega | (rename_i h; have := r0 h; omega)
theorem law20_SpanSound_ok (fn a b c d v u : Int) (hf : 0 ≤ fn ∧ fn < 256) (ha : W64 a) (hb : W64 b) (hc : W64 c) (hd : W64 d) (hv : W64 v) (hu : W64 u) (w : World) :
    Calls Try.prog law20_SpanSound.N #[.int .u8 fn, rv a b, rv c d, u64v v, u64v u] w (Gives (.bool true) w) := by
  refine law20_SpanSound.calls ?_
  unfold law20_SpanSound.vc
  intro w1 h1 w2 h2
  have L := ((Trk.start w).alloc h1).alloc h2
  have A := span_Alu_ok fn a b c d hf ha hb hc hd w2
  obtain ⟨x, y, e, hx, hyes, hno⟩ := pair_if (p := aluOk fn a b c d) (aluv fn a b c d).1 (aluv fn a b c d).2
  rw [show aluR fn a b c d = pairv (rv x y) (i64v e) from hx] at A
  refine ⟨_, _, ⟨L.cell 0 rfl rfl, L.cell 0 rfl rfl, trivial⟩, _, _, ⟨L.cell 1 rfl rfl, L.cell 1 rfl rfl, trivial⟩, A.mono fun e' w3 ⟨he, l3⟩ => ⟨_, _, _, he, fun w4 h4 => ?_⟩⟩
  refine ((L.later l3).alloc h4).setAll 2 rfl (by rfl) (one2 _ _) fun w5 L5 => ?_
  have done : ∀ w', Later w w' → Calls Try.prog law20_alive.N #[] w' (fun e w'' => ∃ b : Bool, e = .returned (.bool b) ∧ Gives (.bool true) w (.returned (.bool b)) w'') := fun w' hl =>
    (law20_alive_ok _).mono fun e8 w8 ⟨he, h8⟩ => ⟨_, he, rfl, hl.trans h8⟩
  refine cnd_of (fun h => done _ L5.to) (fun h => ?_)
  have ok : aluOk fn a b c d := by
    by_cases hh : aluOk fn a b c d
    · exact hh
    · obtain ⟨rfl, rfl, rfl⟩ := hno hh
      cases h
  obtain ⟨rfl, rfl, rfl⟩ := hyes ok
  refine ⟨_, _, ⟨L5.cell 0 rfl rfl, L5.cell 0 rfl rfl, trivial⟩, (span_Has_ok _ _ v _).mono fun e6 w6 ⟨he, l6⟩ => ⟨_, he, ?_⟩⟩
  have L6 := L5.later l6
  refine cnd_of (fun h => done _ L6.to) (fun h1 => ?_)
  refine ⟨_, _, ⟨L6.cell 1 rfl rfl, L6.cell 1 rfl rfl, trivial⟩, (span_Has_ok _ _ u _).mono fun e7 w7 ⟨he, l7⟩ => ⟨_, he, ?_⟩⟩
  have L7 := L6.later l7
  refine cnd_of (fun h => done _ L7.to) (fun h2 => ?_)
  have h1 : a ≤ v ∧ v ≤ b := by simpa using h1
  have h2 : c ≤ u ∧ u ≤ d := by simpa using h2
  have hx := opv_in fn v u hv.1 hv.2 hu.1 hu.2
  have I := sound fn a b c d v u ⟨ok.1, ok.2.1⟩ ha hb hc hd h1.1 h1.2 h2.1 h2.2 hx
  refine (word_Op_ok fn v u hf.1 hf.2 hv.1 hv.2 hu.1 hu.2 _).mono fun e8 w8 ⟨he, l8⟩ => ⟨_, _, he, ?_⟩
  have L8 := L7.later l8
  rw [show ope fn = 0 from by unfold ope; rw [if_pos ⟨ok.1, ok.2.1⟩]]
  refine cnd_true rfl ⟨_, _, ⟨L8.cell 2 rfl rfl, L8.cell 2 rfl rfl, trivial⟩, (span_Check_ok _ _ _).mono fun e9 w9 ⟨he, l9⟩ => ⟨_, he, ?_⟩⟩
  have L9 := L8.later l9
  rw [if_neg (by have := I.1; omega)]
  refine cnd_true rfl ⟨_, _, ⟨L9.cell 2 rfl rfl, L9.cell 2 rfl rfl, trivial⟩, (span_Has_ok _ _ _ _).mono fun e10 w10 ⟨he, l10⟩ => ⟨_, he, ?_⟩⟩
  rw [decide_eq_true I.2.1, decide_eq_true I.2.2]
  exact cnd_true rfl (done _ (L9.later l10).to)
end Go.Proofs.Ytpfnjooddobohaa
