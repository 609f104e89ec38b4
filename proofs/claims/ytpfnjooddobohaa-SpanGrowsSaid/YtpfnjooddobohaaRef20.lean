/-
The contracts of the chapter's reference package, first part.
Conditions: each number is a word, as each theorem says.
-/
import Derived.Test.YtpfnjooddobohaaVref20
import Derived.Test.YtpfnjooddobohaaSpanC
import Derived.Test.YtpfnjooddobohaaRef01
namespace Go.Proofs.Ytpfnjooddobohaa
open Go Go.Vc Go.RowKit
set_option linter.unusedVariables false
set_option linter.unusedSimpArgs false
set_option maxRecDepth 100000

theorem ref20_May_ok (a b : Int) (w : World) : Calls Try.prog ref20_May.N #[rv a b] w (Gives (.bool (decide (a ≤ b))) w) := by
  refine ref20_May.calls ?_
  intro w1 h1
  have L := (Trk.start w).alloc h1
  exact ⟨_, L.cell 0 rfl rfl, _, L.cell 0 rfl rfl, rfl, L.to⟩
theorem ref20_All_ok (w : World) : Calls Try.prog ref20_All.N #[] w (Gives allv w) := by
  refine ref20_All.calls ?_
  intro w1 h1
  exact ret2 ((Trk.start w).alloc h1) 0 rfl rfl fun w' h' => ⟨rfl, h'.to⟩
theorem ref20_op_ok (fn a b : Int) (hf : 0 ≤ fn ∧ fn < 256) (ha : W64 a) (hb : W64 b) (w : World) : Calls Try.prog ref20_op.N #[.int .u8 fn, u64v a, u64v b] w (Gives (u64v (opv fn a b)) w) := by
  refine ref20_op.calls ?_
  exact (ref01_Op_ok fn a b hf.1 hf.2 ha.1 ha.2 hb.1 hb.2 w).mono fun e w' ⟨he, hl⟩ => ⟨_, _, he, rfl, hl⟩
theorem ref20_both_ok (fn a b c d : Int) (hf : 0 ≤ fn ∧ fn < 256) (ha : W64 a) (hb : W64 b) (hc : W64 c) (hd : W64 d) (w : World) :
    Calls Try.prog ref20_both.N #[.int .u8 fn, rv a b, rv c d] w (Gives (rv (opv fn a c) (opv fn b d)) w) := by
  refine ref20_both.calls ?_
  intro w1 h1 w2 h2 w3 h3
  have L := (((Trk.start w).alloc h1).alloc h2).alloc h3
  refine ⟨a, fun w4 h4 => (L.later h4).cell 0 rfl rfl, c, fun w4 h4 => (L.later h4).cell 1 rfl rfl, _, fun w4 h4 => (ref20_op_ok fn a c hf ha hc w4).mono fun e w5 ⟨he, hl⟩ => ⟨he, hl⟩, ?_⟩
  refine ⟨b, fun w4 h4 => (L.later h4).cell 0 rfl rfl, d, fun w4 h4 => (L.later h4).cell 1 rfl rfl, _, fun w4 h4 => (ref20_op_ok fn b d hf hb hd w4).mono fun e w5 ⟨he, hl⟩ => ⟨he, hl⟩, fun w4 h4 => ?_⟩
  exact ret2 (L.later h4) 2 rfl rfl fun w' h' => ⟨rfl, h'.to⟩
theorem ref20_Mask_ok (v : Int) (hv : W64 v) (w : World) : Calls Try.prog ref20_Mask.N #[u64v v] w (Gives (u64v (maskv v)) w) := by
  refine ref20_Mask.calls ?_
  have hv0 := hv.1
  have hv1 := hv.2
  obtain ⟨n, rfl⟩ := Int.eq_ofNat_of_zero_le hv0
  have hle := lenN_le n 64 (by omega)
  refine ⟨fun vs w' => ∃ k : Nat, k ≤ lenN n ∧ vs = [u64v ((2 ^ k - 1 : Nat) : Int)] ∧ w' = w, fun vs _ => match vs with | [.int _ m] => ((n : Int) - m).toNat | _ => 0, ⟨0, by omega, rfl, rfl⟩, ?_⟩
  rintro g m w' ⟨k, hk, hs, rfl⟩
  simp only [List.cons.injEq, Value.int.injEq, true_and, and_true] at hs
  subst hs
  have hp := Nat.two_pow_pos k
  refine cnd_of (fun h => ?_) (fun h => ?_)
  · have h := of_decide_eq_true h
    have hkl : k < lenN n := by
      rcases Nat.lt_or_ge k (lenN n) with h' | h'
      · exact h'
      · have h0 : n ≠ 0 := by omega
        have hb := (lenN_bounds n h0).2.1
        have : (2 : Nat) ^ lenN n ≤ 2 ^ k := Nat.pow_le_pow_right (by decide) h'
        omega
    have hp1 : (2 : Nat) ^ (k + 1) ≤ 2 ^ 64 := Nat.pow_le_pow_right (by decide) (by omega)
    have hp2 : (2 : Nat) ^ (k + 1) = 2 * 2 ^ k := by rw [Nat.pow_succ, Nat.mul_comm]
    have e : IntKind.u64.wrap (IntKind.u64.wrap (2 * ((2 ^ k - 1 : Nat) : Int)) + 1) = ((2 ^ (k + 1) - 1 : Nat) : Int) := by
      generalize (2 : Nat) ^ (k + 1) = Y at *
      generalize (2 : Nat) ^ k = X at *
      rw [wrap_u64, wrap_u64]; omega
    rw [e]
    refine ⟨⟨k + 1, by omega, rfl, rfl⟩, ?_⟩
    simp only
    generalize (2 : Nat) ^ (k + 1) = Y at *
    generalize (2 : Nat) ^ k = X at *
    omega
  · have h := of_decide_eq_false h
    have hkl := lenN_le n k (by omega)
    obtain rfl : k = lenN n := by omega
    refine ⟨?_, Later.refl _⟩
    unfold maskv
    rw [Int.toNat_natCast]
    congr 2
    have : (((2 : Nat) ^ lenN n : Nat) : Int) = (2 : Int) ^ lenN n := by simp
    rw [← this]
    omega
theorem ref20_Join_ok (a b c d : Int) (w : World) : Calls Try.prog ref20_Join.N #[rv a b, rv c d] w (Gives (rv (gomin a c) (gomax b d)) w) := by
  refine ref20_Join.calls ?_
  intro w1 h1 w2 h2 w3 h3
  have L := (((Trk.start w).alloc h1).alloc h2).alloc h3
  exact ⟨_, L.cell 0 rfl rfl, _, L.cell 1 rfl rfl, _, L.cell 0 rfl rfl, _, L.cell 1 rfl rfl, ret2 L 2 rfl rfl fun w' h' => ⟨rfl, h'.to⟩⟩
theorem ref20_less_ok (a b c d : Int) (w : World) : Calls Try.prog ref20_less.N #[rv a b, rv c d] w (Gives (if b < c then rv 1 1 else if a ≥ d then rv 0 0 else rv 0 1) w) := by
  refine ref20_less.calls ?_
  intro w1 h1 w2 h2 w3 h3
  have L := (((Trk.start w).alloc h1).alloc h2).alloc h3
  refine ⟨_, L.cell 0 rfl rfl, _, L.cell 1 rfl rfl, cnd_of (fun h => ?_) (fun h => ?_)⟩
  · rw [if_pos (of_decide_eq_true h)]
    exact ret2 L 2 rfl rfl fun w' h' => ⟨rfl, h'.to⟩
  · rw [if_neg (of_decide_eq_false h)]
    refine ⟨_, L.cell 0 rfl rfl, _, L.cell 1 rfl rfl, cnd_of (fun h => ?_) (fun h => ?_)⟩
    · rw [if_pos (of_decide_eq_true h)]
      exact ret2 L 2 rfl rfl fun w' h' => ⟨rfl, h'.to⟩
    · rw [if_neg (of_decide_eq_false h)]
      exact ret2 L 2 rfl rfl fun w' h' => ⟨rfl, h'.to⟩
theorem ref20_divided_ok (fn a b c d : Int) (hfn : fn = 13 ∨ fn = 14) (ha : W64 a) (hb : W64 b) (hc : W64 c) (hd : W64 d) (hcd : c ≤ d) (w : World) :
    Calls Try.prog ref20_divided.N #[.int .u8 fn, rv a b, rv c d] w (Gives (rvp (aluv fn a b c d)) w) := by
  refine ref20_divided.calls ?_
  unfold ref20_divided.vc
  intro w1 h1 w2 h2 w3 h3
  have L := (((Trk.start w).alloc h1).alloc h2).alloc h3
  have hc0 := hc.1
  rcases hfn with rfl | rfl
  · refine cnd_true rfl ⟨_, L.cell 1 rfl rfl, ?_⟩
    have e : rvp (aluv 13 a b c d) = if c = 0 then allv else rv (a / d) (b / c) := by simp [aluv, rvp_if]
    rw [e]
    refine cnd_of (fun h => ?_) (fun h => ?_)
    · rw [if_pos (by simpa using h)]
      exact (ref20_All_ok _).mono fun e w4 ⟨he, hl⟩ => ⟨_, _, he, ret2 (L.later hl) 2 rfl rfl fun w' h' => ⟨rfl, h'.to⟩⟩
    · have h : ¬ c = 0 := by simpa using h
      rw [if_neg h]
      refine ⟨a, fun w4 h4 => (L.later h4).cell 0 rfl rfl, d, fun w4 h4 => (L.later h4).cell 1 rfl rfl, cnd_false (decide_eq_false (by omega)) ⟨b, fun w4 h4 => (L.later h4).cell 0 rfl rfl, c, fun w4 h4 => (L.later h4).cell 1 rfl rfl, cnd_false (decide_eq_false h) fun w4 h4 => ?_⟩⟩
      refine ret2 (L.later h4) 2 rfl rfl fun w' h' => ⟨?_, h'.to⟩
      rw [div_in a d ha (by omega), div_in b c hb (by omega)]
  · refine cnd_false rfl ⟨_, L.cell 0 rfl rfl, _, L.cell 1 rfl rfl, ?_⟩
    have e : rvp (aluv 14 a b c d) = if b < c then rv a b else if c = 0 then rv 0 b else rv 0 (gomin b ((d - 1) % 18446744073709551616)) := by simp [aluv, rvp_if]
    rw [e]
    refine cnd_of (fun h => ?_) (fun h => ?_)
    · rw [if_pos (of_decide_eq_true h)]
      exact ⟨_, _, ⟨L.cell 0 rfl rfl, L.cell 0 rfl rfl, trivial⟩, ret2 L 2 rfl rfl fun w' h' => ⟨rfl, h'.to⟩⟩
    · rw [if_neg (of_decide_eq_false h)]
      refine ⟨_, L.cell 1 rfl rfl, cnd_of (fun h => ?_) (fun h => ?_)⟩
      · rw [if_pos (by simpa using h)]
        exact ⟨_, L.cell 0 rfl rfl, ret2 L 2 rfl rfl fun w' h' => ⟨rfl, h'.to⟩⟩
      · rw [if_neg (by simpa using h)]
        refine ⟨_, L.cell 0 rfl rfl, _, L.cell 1 rfl rfl, ret2 L 2 rfl rfl fun w' h' => ⟨?_, h'.to⟩⟩
        rw [wrap_u64]
theorem ref20_Widen_ok (a b c d : Int) (w : World) : Calls Try.prog ref20_Widen.N #[rv a b, rv c d] w (Gives (rv (widLo a c) (widHi b d)) w) := by
  refine ref20_Widen.calls ?_
  unfold ref20_Widen.vc
  intro w1 h1 w2 h2 w3 h3
  have L := (((Trk.start w).alloc h1).alloc h2).alloc h3
  unfold widLo widHi
  refine ⟨_, L.cell 1 rfl rfl, _, L.cell 0 rfl rfl, cnd_of (fun h => ?_) (fun h => ?_)⟩
  · rw [if_pos (of_decide_eq_true h)]
    refine L.set1 0 rfl (by simp) fun w4 L4 => ⟨_, L4.cell 1 rfl rfl, _, L4.cell 0 rfl rfl, cnd_of (fun h => ?_) (fun h => ?_)⟩
    · rw [if_pos (of_decide_eq_true h)]
      refine L4.set1 0 rfl (by simp) fun w5 L5 => ⟨_, _, ⟨L5.cell 0 rfl rfl, L5.cell 0 rfl rfl, trivial⟩, ?_⟩
      exact ret2 L5 2 rfl rfl fun w' h' => ⟨rfl, h'.to⟩
    · rw [if_neg (of_decide_eq_false h)]
      exact ⟨_, _, ⟨L4.cell 0 rfl rfl, L4.cell 0 rfl rfl, trivial⟩, ret2 L4 2 rfl rfl fun w' h' => ⟨rfl, h'.to⟩⟩
  · rw [if_neg (of_decide_eq_false h)]
    refine ⟨_, L.cell 1 rfl rfl, _, L.cell 0 rfl rfl, cnd_of (fun h => ?_) (fun h => ?_)⟩
    · rw [if_pos (of_decide_eq_true h)]
      refine L.set1 0 rfl (by simp) fun w5 L5 => ⟨_, _, ⟨L5.cell 0 rfl rfl, L5.cell 0 rfl rfl, trivial⟩, ?_⟩
      exact ret2 L5 2 rfl rfl fun w' h' => ⟨rfl, h'.to⟩
    · rw [if_neg (of_decide_eq_false h)]
      exact ⟨_, _, ⟨L.cell 0 rfl rfl, L.cell 0 rfl rfl, trivial⟩, ret2 L 2 rfl rfl fun w' h' => ⟨rfl, h'.to⟩⟩
theorem ref20_Meet_ok (a b c d : Int) (w : World) :
    Calls Try.prog ref20_Meet.N #[rv a b, rv c d] w (Gives (if gomax a c ≤ gomin b d then pairv (rv (gomax a c) (gomin b d)) (.bool true) else pairv (rv 0 0) (.bool false)) w) := by
  refine ref20_Meet.calls ?_
  unfold ref20_Meet.vc
  intro w1 h1 w2 h2 w3 h3
  have L := (((Trk.start w).alloc h1).alloc h2).alloc h3
  refine ⟨_, L.cell 0 rfl rfl, _, L.cell 1 rfl rfl, _, L.cell 0 rfl rfl, _, L.cell 1 rfl rfl, fun w4 h4 => ?_⟩
  have L4 := L.alloc h4
  refine ret2 L4 3 rfl rfl fun w5 L5 => (ref20_May_ok _ _ _).mono fun e w6 ⟨he, hl⟩ => ⟨_, he, ?_⟩
  have L6 := L5.later hl
  refine cnd_of (fun h => ?_) (fun h => ?_)
  · have h : ¬ gomax a c ≤ gomin b d := by simpa using h
    rw [if_neg h]
    exact ret2 L6 2 rfl rfl fun w' h' => ⟨rfl, h'.to⟩
  · have h : gomax a c ≤ gomin b d := by simpa using h
    rw [if_pos h]
    exact ⟨_, _, ⟨L6.cell 3 rfl rfl, L6.cell 3 rfl rfl, trivial⟩, ret2 L6 2 rfl rfl fun w' h' => ⟨rfl, h'.to⟩⟩
/-- Shifted there and back a number is the same just where there was room. -/
theorem room (n c : Nat) (hn : n < 18446744073709551616) (hc : c < 64) : ((n : Int) * 2 ^ c % 18446744073709551616) / 2 ^ c = n ↔ lenN n + c ≤ 64 := by
  have e1 : (n : Int) * 2 ^ c % 18446744073709551616 / 2 ^ c = ((n * 2 ^ c % 18446744073709551616 / 2 ^ c : Nat) : Int) := by simp
  rw [e1]
  have hp := Nat.two_pow_pos c
  have hsplit : 2 ^ c * 2 ^ (64 - c) = 18446744073709551616 := by rw [← Nat.pow_add, show c + (64 - c) = 64 by omega]
  constructor
  · intro h
    rcases Nat.lt_or_ge 64 (lenN n + c) with hlt | hle
    · exfalso
      have h0 : n ≠ 0 := by intro h0; subst h0; simp [lenN] at hlt; omega
      have hb := (lenN_bounds n h0).1
      have h2 : (2 : Nat) ^ (64 - c) ≤ 2 ^ (lenN n - 1) := Nat.pow_le_pow_right (by decide) (by omega)
      have h3 : n * 2 ^ c % 18446744073709551616 < 2 ^ c * 2 ^ (64 - c) := by rw [hsplit]; exact Nat.mod_lt _ (by decide)
      have h4 : n * 2 ^ c % 18446744073709551616 / 2 ^ c < 2 ^ (64 - c) := Nat.div_lt_of_lt_mul h3
      omega
    · exact hle
  · intro h
    have hlt : n * 2 ^ c < 18446744073709551616 := by
      by_cases h0 : n = 0
      · subst h0; simp
      · have hb := (lenN_bounds n h0).2.1
        have h1 : n * 2 ^ c < 2 ^ lenN n * 2 ^ c := Nat.mul_lt_mul_of_pos_right hb hp
        have h2 : (2 : Nat) ^ lenN n * 2 ^ c ≤ 2 ^ 64 := by rw [← Nat.pow_add]; exact Nat.pow_le_pow_right (by decide) h
        omega
    rw [Nat.mod_eq_of_lt hlt, Nat.mul_div_cancel _ hp]
theorem ref20_shifted_ok (fn a b c d : Int) (hfn : fn = 3 ∨ fn = 7 ∨ fn = 8) (ha : W64 a) (hb : W64 b) (hc : W64 c) (hd : W64 d) (w : World) :
    Calls Try.prog ref20_shifted.N #[.int .u8 fn, rv a b, rv c d] w (Gives (rvp (aluv fn a b c d)) w) := by
  refine ref20_shifted.calls ?_
  unfold ref20_shifted.vc
  intro w1 h1 w2 h2 w3 h3
  have L := (((Trk.start w).alloc h1).alloc h2).alloc h3
  have hc0 := hc.1
  refine ⟨fun vs w' => vs = [.bool (decide (c = d ∧ c < 64))] ∧ w' = w3, ?_, ?_⟩
  · refine ⟨_, L.cell 1 rfl rfl, _, L.cell 1 rfl rfl, cnd_of (fun h => ?_) (fun h => ?_)⟩
    · have h : c = d := by simpa using h
      refine ⟨_, L.cell 1 rfl rfl, ?_, rfl⟩
      simp [h]
    · have h : ¬ c = d := by simpa using h
      exact ⟨by simp [h], rfl⟩
  rintro g one w4 ⟨hs, rfl⟩
  obtain rfl : one = decide (c = d ∧ c < 64) := by simpa using hs
  obtain ⟨n, rfl⟩ := Int.eq_ofNat_of_zero_le hb.1
  have hn := hb.2
  have hfin : fn = 3 ∨ fn = 7 → ∀ (hcd : c = d) (h64 : c < 64), opv fn a c = (if fn = 3 then a * 2 ^ c.toNat % 18446744073709551616 else a / 2 ^ c.toNat) ∧ opv fn n d = (if fn = 3 then (n : Int) * 2 ^ c.toNat % 18446744073709551616 else (n : Int) / 2 ^ c.toNat) := by
    rintro h rfl h64
    have e : c % 64 = c := by omega
    rcases h with rfl | rfl <;> simp [opv, e]
  refine cnd_of (fun h => ?_) (fun h => ?_)
  · have h3 : fn = 3 := by simpa using h
    subst h3
    refine ⟨fun vs w' => vs = [.bool (!decide (c = d ∧ c < 64 ∧ (lenN n : Int) + c ≤ 64))] ∧ w' = w4, ?_, ?_⟩
    · refine cnd_of (fun h => ?_) (fun h => ?_)
      · have h : ¬ (c = d ∧ c < 64) := fun hh => by rw [decide_eq_true hh] at h; cases h
        refine ⟨?_, rfl⟩
        rw [decide_eq_false (fun hh : c = d ∧ c < 64 ∧ (lenN n : Int) + c ≤ 64 => h ⟨hh.1, hh.2.1⟩)]; rfl
      · have h : c = d ∧ c < 64 := by simpa using h
        obtain ⟨m, rfl⟩ := Int.eq_ofNat_of_zero_le hc0
        refine ⟨_, L.cell 0 rfl rfl, _, L.cell 1 rfl rfl, cnd_false (A := False) (decide_eq_false (by omega)) ⟨_, L.cell 1 rfl rfl, cnd_false (A := False) (decide_eq_false (by omega)) ⟨_, L.cell 0 rfl rfl, ?_, rfl⟩⟩⟩
        rw [show min ((m : Int)).toNat 64 = m by omega, wrap_u64, fdiv_nn _ (Int.le_of_lt (two_pow_pos _))]
        have hr := room n m (by omega) (by omega)
        congr 2
        by_cases hh : lenN n + m ≤ 64
        · rw [hr.2 hh, decide_eq_true (p := (m : Int) = d ∧ (m : Int) < 64 ∧ (lenN n : Int) + m ≤ 64) ⟨h.1, h.2, by omega⟩]; simp
        · have hne : ¬ ((n : Int) * 2 ^ m % 18446744073709551616 / 2 ^ m = n) := fun e => hh (hr.1 e)
          rw [decide_eq_false (p := (m : Int) = d ∧ (m : Int) < 64 ∧ (lenN n : Int) + m ≤ 64) (fun x => hh (by omega))]
          simpa using hne
    rintro g s34 w5 ⟨hs, rfl⟩
    obtain rfl : s34 = !decide (c = d ∧ c < 64 ∧ (lenN n : Int) + c ≤ 64) := by simpa using hs
    have e : rvp (aluv 3 a n c d) = if c = d ∧ c < 64 ∧ (lenN n : Int) + c ≤ 64 then rv (a * 2 ^ c.toNat % 18446744073709551616) ((n : Int) * 2 ^ c.toNat % 18446744073709551616) else allv := by simp [aluv, rvp_if]
    rw [e]
    refine cnd_of (fun h => ?_) (fun h => ?_)
    · have h : ¬ (c = d ∧ c < 64 ∧ (lenN n : Int) + c ≤ 64) := fun hh => by rw [decide_eq_true hh] at h; cases h
      rw [if_neg h]
      exact (ref20_All_ok _).mono fun e w6 ⟨he, hl⟩ => ⟨_, _, he, ret2 (L.later hl) 2 rfl rfl fun w' h' => ⟨rfl, h'.to⟩⟩
    · have h : c = d ∧ c < 64 ∧ (lenN n : Int) + c ≤ 64 := by simpa using h
      rw [if_pos h]
      obtain ⟨o1, o2⟩ := hfin (.inl rfl) h.1 h.2.1
      have B := ref20_both_ok 3 a n c d (by decide) ha hb hc hd w5
      rw [o1, o2, if_pos rfl, if_pos rfl] at B
      exact ⟨_, _, ⟨L.cell 0 rfl rfl, L.cell 0 rfl rfl, trivial⟩, _, _, ⟨L.cell 1 rfl rfl, L.cell 1 rfl rfl, trivial⟩, B.mono fun e w6 ⟨he, hl⟩ => ⟨_, _, he, ret2 (L.later hl) 2 rfl rfl fun w' h' => ⟨rfl, h'.to⟩⟩⟩
  · have h3 : ¬ fn = 3 := by simpa using h
    have hfn' : fn = 7 ∨ fn = 8 := by omega
    refine ⟨fun vs w' => vs = [.bool (decide (fn = 8 ∧ (n : Int) ≥ 9223372036854775808))] ∧ w' = w4, ?_, ?_⟩
    · refine cnd_of (fun h => ?_) (fun h => ?_)
      · have h : fn = 8 := by simpa using h
        exact ⟨_, L.cell 0 rfl rfl, by simp [h], rfl⟩
      · have h : ¬ fn = 8 := by simpa using h
        exact ⟨by simp [h], rfl⟩
    rintro g s46 w5 ⟨hs, rfl⟩
    obtain rfl : s46 = decide (fn = 8 ∧ (n : Int) ≥ 9223372036854775808) := by simpa using hs
    have e : rvp (aluv fn a n c d) = if fn = 8 ∧ (n : Int) ≥ 9223372036854775808 then allv else if c = d ∧ c < 64 then rv (a / 2 ^ c.toNat) ((n : Int) / 2 ^ c.toNat) else rv 0 n := by
      rcases hfn' with rfl | rfl <;> simp [aluv, rvp_if, srlp]
    rw [e]
    refine cnd_of (fun h => ?_) (fun h => ?_)
    · rw [if_pos (of_decide_eq_true h)]
      exact (ref20_All_ok _).mono fun e w6 ⟨he, hl⟩ => ⟨_, _, he, ret2 (L.later hl) 2 rfl rfl fun w' h' => ⟨rfl, h'.to⟩⟩
    · rw [if_neg (of_decide_eq_false h)]
      refine cnd_of (fun h => ?_) (fun h => ?_)
      · have h : ¬ (c = d ∧ c < 64) := fun hh => by rw [decide_eq_true hh] at h; cases h
        rw [if_neg h]
        exact ⟨_, L.cell 0 rfl rfl, ret2 L 2 rfl rfl fun w' h' => ⟨rfl, h'.to⟩⟩
      · have h : c = d ∧ c < 64 := by simpa using h
        rw [if_pos h]
        have e7 : opv 7 a c = a / 2 ^ c.toNat ∧ opv 7 n d = (n : Int) / 2 ^ c.toNat := by
          have ec : c % 64 = c := by omega
          rw [← h.1]
          simp [opv, ec]
        have B := ref20_both_ok 7 a n c d (by decide) ha hb hc hd w5
        rw [e7.1, e7.2] at B
        exact ⟨_, _, ⟨L.cell 0 rfl rfl, L.cell 0 rfl rfl, trivial⟩, _, _, ⟨L.cell 1 rfl rfl, L.cell 1 rfl rfl, trivial⟩, B.mono fun e w6 ⟨he, hl⟩ => ⟨_, _, he, ret2 (L.later hl) 2 rfl rfl fun w' h' => ⟨rfl, h'.to⟩⟩⟩
theorem opv_one (a b : Int) : opv 1 a b = (a + b) % 18446744073709551616 := rfl
theorem ref20_Alu_ok (fn a b c d : Int) (hf : 1 ≤ fn ∧ fn ≤ 14) (ha : W64 a) (hb : W64 b) (hc : W64 c) (hd : W64 d) (hab : a ≤ b) (hcd : c ≤ d) (w : World) :
    Calls Try.prog ref20_Alu.N #[.int .u8 fn, rv a b, rv c d] w (Gives (rvp (aluv fn a b c d)) w) := by
  refine ref20_Alu.calls ?_
  unfold ref20_Alu.vc
  intro w1 h1 w2 h2 w3 h3
  have L := (((Trk.start w).alloc h1).alloc h2).alloc h3
  have ha0 := ha.1
  have hb0 := hb.1
  have hb1 := hb.2
  have hc0 := hc.1
  have hd0 := hd.1
  have hd1 := hd.2
  have : fn = 1 ∨ fn = 2 ∨ fn = 3 ∨ fn = 4 ∨ fn = 5 ∨ fn = 6 ∨ fn = 7 ∨ fn = 8 ∨ fn = 9 ∨ fn = 10 ∨ fn = 11 ∨ fn = 12 ∨ fn = 13 ∨ fn = 14 := by omega
  rcases this with rfl | rfl | rfl | rfl | rfl | rfl | rfl | rfl | rfl | rfl | rfl | rfl | rfl | rfl
  · refine cnd_true rfl ⟨_, L.cell 0 rfl rfl, _, L.cell 1 rfl rfl, ?_⟩
    rw [wrap_u64, show (18446744073709551615 - d) % 18446744073709551616 = 18446744073709551615 - d by omega]
    have e : rvp (aluv 1 a b c d) = if b + d ≥ 18446744073709551616 then allv else rv ((a + c) % 18446744073709551616) (b + d) := by simp [aluv, rvp_if]
    rw [e]
    refine cnd_of (fun h => ?_) (fun h => ?_)
    · have h := of_decide_eq_true h
      rw [if_pos (by omega)]
      exact (ref20_All_ok _).mono fun e w6 ⟨he, hl⟩ => ⟨_, _, he, ret2 (L.later hl) 2 rfl rfl fun w' h' => ⟨rfl, h'.to⟩⟩
    · have h := of_decide_eq_false h
      rw [if_neg (by omega)]
      have B := ref20_both_ok 1 a b c d (by decide) ha hb hc hd w3
      rw [opv_one, opv_one, show (b + d) % 18446744073709551616 = b + d by omega] at B
      exact ⟨_, _, ⟨L.cell 0 rfl rfl, L.cell 0 rfl rfl, trivial⟩, _, _, ⟨L.cell 1 rfl rfl, L.cell 1 rfl rfl, trivial⟩, B.mono fun e w6 ⟨he, hl⟩ => ⟨_, _, he, ret2 (L.later hl) 2 rfl rfl fun w' h' => ⟨rfl, h'.to⟩⟩⟩
  · refine cnd_false rfl (cnd_true rfl ⟨_, L.cell 0 rfl rfl, _, L.cell 1 rfl rfl, ?_⟩)
    have e : rvp (aluv 2 a b c d) = if a < d then allv else rv ((a - d) % 18446744073709551616) ((b - c) % 18446744073709551616) := by simp [aluv, rvp_if]
    rw [e]
    refine cnd_of (fun h => ?_) (fun h => ?_)
    · rw [if_pos (of_decide_eq_true h)]
      exact (ref20_All_ok _).mono fun e w6 ⟨he, hl⟩ => ⟨_, _, he, ret2 (L.later hl) 2 rfl rfl fun w' h' => ⟨rfl, h'.to⟩⟩
    · rw [if_neg (of_decide_eq_false h)]
      refine ⟨_, L.cell 0 rfl rfl, _, L.cell 1 rfl rfl, _, L.cell 0 rfl rfl, _, L.cell 1 rfl rfl, ret2 L 2 rfl rfl fun w' h' => ⟨?_, h'.to⟩⟩
      rw [wrap_u64, wrap_u64]
  · refine cnd_false rfl (cnd_false rfl (cnd_false rfl (cnd_false rfl (cnd_false rfl (cnd_false rfl (cnd_false rfl (cnd_false rfl (cnd_false rfl (cnd_false rfl (cnd_false rfl ?_))))))))))
    have B := ref20_shifted_ok 3 a b c d (by decide) ha hb hc hd w3
    exact ⟨_, _, ⟨L.cell 0 rfl rfl, L.cell 0 rfl rfl, trivial⟩, _, _, ⟨L.cell 1 rfl rfl, L.cell 1 rfl rfl, trivial⟩, B.mono fun e w6 ⟨he, hl⟩ => ⟨_, _, he, ret2 (L.later hl) 2 rfl rfl fun w' h' => ⟨rfl, h'.to⟩⟩⟩
  · refine cnd_false rfl (cnd_false rfl (cnd_false rfl (cnd_false rfl (cnd_false rfl (cnd_false rfl (cnd_false rfl (cnd_false rfl (cnd_false rfl (cnd_false rfl (cnd_true rfl ?_))))))))))
    exact ret2 L 2 rfl rfl fun w' h' => ⟨rfl, h'.to⟩
  · refine cnd_false rfl (cnd_false rfl (cnd_false rfl (cnd_false rfl (cnd_false rfl (cnd_false rfl (cnd_false rfl (cnd_false rfl (cnd_false rfl (cnd_true rfl ?_)))))))))
    have e5 : rvp (aluv 5 a b c d) = if b < c then rv 1 1 else if a ≥ d then rv 0 0 else rv 0 1 := by simp [aluv, rvp_if]
    have B := ref20_less_ok a b c d w3
    rw [← e5] at B
    exact ⟨_, _, ⟨L.cell 0 rfl rfl, L.cell 0 rfl rfl, trivial⟩, _, _, ⟨L.cell 1 rfl rfl, L.cell 1 rfl rfl, trivial⟩, B.mono fun e w6 ⟨he, hl⟩ => ⟨_, _, he, ret2 (L.later hl) 2 rfl rfl fun w' h' => ⟨rfl, h'.to⟩⟩⟩
  · refine cnd_false rfl (cnd_false rfl (cnd_false rfl (cnd_false rfl (cnd_false rfl (cnd_false rfl (cnd_false rfl (cnd_false rfl (cnd_true rfl ?_))))))))
    exact ⟨_, L.cell 0 rfl rfl, _, L.cell 1 rfl rfl, (ref20_Mask_ok _ (or_in b d hb hd) _).mono fun e w4 ⟨he, hl⟩ => ⟨_, he, ret2 (L.later hl) 2 rfl rfl fun w' h' => ⟨rfl, h'.to⟩⟩⟩
  · refine cnd_false rfl (cnd_false rfl (cnd_false rfl (cnd_false rfl (cnd_false rfl (cnd_false rfl (cnd_false rfl (cnd_false rfl (cnd_false rfl (cnd_false rfl (cnd_false rfl ?_))))))))))
    have B := ref20_shifted_ok 7 a b c d (by decide) ha hb hc hd w3
    exact ⟨_, _, ⟨L.cell 0 rfl rfl, L.cell 0 rfl rfl, trivial⟩, _, _, ⟨L.cell 1 rfl rfl, L.cell 1 rfl rfl, trivial⟩, B.mono fun e w6 ⟨he, hl⟩ => ⟨_, _, he, ret2 (L.later hl) 2 rfl rfl fun w' h' => ⟨rfl, h'.to⟩⟩⟩
  · refine cnd_false rfl (cnd_false rfl (cnd_false rfl (cnd_false rfl (cnd_false rfl (cnd_false rfl (cnd_false rfl (cnd_false rfl (cnd_false rfl (cnd_false rfl (cnd_false rfl ?_))))))))))
    have B := ref20_shifted_ok 8 a b c d (by decide) ha hb hc hd w3
    exact ⟨_, _, ⟨L.cell 0 rfl rfl, L.cell 0 rfl rfl, trivial⟩, _, _, ⟨L.cell 1 rfl rfl, L.cell 1 rfl rfl, trivial⟩, B.mono fun e w6 ⟨he, hl⟩ => ⟨_, _, he, ret2 (L.later hl) 2 rfl rfl fun w' h' => ⟨rfl, h'.to⟩⟩⟩
  · refine cnd_false rfl (cnd_false rfl (cnd_false rfl (cnd_false rfl (cnd_false rfl (cnd_false rfl (cnd_false rfl (cnd_true rfl ?_)))))))
    exact ⟨a, fun w4 h4 => (L.later h4).cell 0 rfl rfl, c, fun w4 h4 => (L.later h4).cell 1 rfl rfl, b, fun w4 h4 => (L.later h4).cell 0 rfl rfl, d, fun w4 h4 => (L.later h4).cell 1 rfl rfl, _, fun w4 h4 => (ref20_Mask_ok _ (or_in b d hb hd) w4).mono fun e w5 ⟨he, hl⟩ => ⟨he, hl⟩, fun w4 h4 => ret2 (L.later h4) 2 rfl rfl fun w' h' => ⟨rfl, h'.to⟩⟩
  · refine cnd_false rfl (cnd_false rfl (cnd_false rfl (cnd_false rfl (cnd_false rfl (cnd_false rfl (cnd_true rfl ⟨_, L.cell 0 rfl rfl, _, L.cell 1 rfl rfl, ?_⟩))))))
    exact ret2 L 2 rfl rfl fun w' h' => ⟨rfl, h'.to⟩
  · refine cnd_false rfl (cnd_false rfl (cnd_true rfl ⟨_, L.cell 0 rfl rfl, _, L.cell 1 rfl rfl, ?_⟩))
    have e : rvp (aluv 11 a b c d) = if b * d ≥ 18446744073709551616 then allv else rv (a * c % 18446744073709551616) (b * d) := by simp [aluv, rvp_if]
    have hp : 0 ≤ b * d := Int.mul_nonneg hb0 hd0
    rw [e]
    refine (ref20_op_ok 12 b d (by decide) hb hd w3).mono fun e w4 ⟨he, hl4⟩ => ⟨_, he, ?_⟩
    have L := L.later hl4
    have e12 : opv 12 b d = b * d / 18446744073709551616 := rfl
    rw [e12]
    refine cnd_of (fun h => ?_) (fun h => ?_)
    · have h : ¬ b * d / 18446744073709551616 = 0 := by simpa using h
      rw [if_pos (by omega)]
      exact (ref20_All_ok _).mono fun e w6 ⟨he, hl⟩ => ⟨_, _, he, ret2 (L.later hl) 2 rfl rfl fun w' h' => ⟨rfl, h'.to⟩⟩
    · have h : b * d / 18446744073709551616 = 0 := by simpa using h
      rw [if_neg (by omega)]
      have B := ref20_both_ok 11 a b c d (by decide) ha hb hc hd w4
      have e11 : ∀ x y, opv 11 x y = x * y % 18446744073709551616 := fun _ _ => rfl
      rw [e11, e11, show b * d % 18446744073709551616 = b * d by omega] at B
      exact ⟨_, _, ⟨L.cell 0 rfl rfl, L.cell 0 rfl rfl, trivial⟩, _, _, ⟨L.cell 1 rfl rfl, L.cell 1 rfl rfl, trivial⟩, B.mono fun e w6 ⟨he, hl⟩ => ⟨_, _, he, ret2 (L.later hl) 2 rfl rfl fun w' h' => ⟨rfl, h'.to⟩⟩⟩
  · refine cnd_false rfl (cnd_false rfl (cnd_false rfl (cnd_true rfl ?_)))
    have B := ref20_both_ok 12 a b c d (by decide) ha hb hc hd w3
    exact ⟨_, _, ⟨L.cell 0 rfl rfl, L.cell 0 rfl rfl, trivial⟩, _, _, ⟨L.cell 1 rfl rfl, L.cell 1 rfl rfl, trivial⟩, B.mono fun e w6 ⟨he, hl⟩ => ⟨_, _, he, ret2 (L.later hl) 2 rfl rfl fun w' h' => ⟨rfl, h'.to⟩⟩⟩
  · refine cnd_false rfl (cnd_false rfl (cnd_false rfl (cnd_false rfl (cnd_true rfl (cnd_true rfl ?_)))))
    have B := ref20_divided_ok 13 a b c d (by decide) ha hb hc hd hcd w3
    exact ⟨_, _, ⟨L.cell 0 rfl rfl, L.cell 0 rfl rfl, trivial⟩, _, _, ⟨L.cell 1 rfl rfl, L.cell 1 rfl rfl, trivial⟩, B.mono fun e w6 ⟨he, hl⟩ => ⟨_, _, he, ret2 (L.later hl) 2 rfl rfl fun w' h' => ⟨rfl, h'.to⟩⟩⟩
  · refine cnd_false rfl (cnd_false rfl (cnd_false rfl (cnd_false rfl (cnd_false rfl (cnd_true rfl ?_)))))
    have B := ref20_divided_ok 14 a b c d (by decide) ha hb hc hd hcd w3
    exact ⟨_, _, ⟨L.cell 0 rfl rfl, L.cell 0 rfl rfl, trivial⟩, _, _, ⟨L.cell 1 rfl rfl, L.cell 1 rfl rfl, trivial⟩, B.mono fun e w6 ⟨he, hl⟩ => ⟨_, _, he, ret2 (L.later hl) 2 rfl rfl fun w' h' => ⟨rfl, h'.to⟩⟩⟩
end Go.Proofs.Ytpfnjooddobohaa
