/-
The contracts of package insn's words: which numbers fit, what an instruction may have, its bits, its word.
Conditions: each number is of its kind.
-/
import Derived.Test.YtjoikaklincfoaaInsnT
import Derived.Test.YtjoikaklincfoaaVinsnm
import Derived.Test.YtjoikaklincfoaaWordB
namespace Go.Proofs.Ytjoikaklincfoaa
open Go Go.Vc Go.RowKit
set_option linter.unusedVariables false
set_option linter.unusedSimpArgs false
set_option linter.unnecessarySimpa false
set_option maxRecDepth 100000

abbrev I64 (a : Int) : Prop := -9223372036854775808 ≤ a ∧ a < 9223372036854775808
abbrev U8 (a : Int) : Prop := 0 ≤ a ∧ a < 256
abbrev u32v (a : Int) : Value := .int .u32 a
abbrev u8v (a : Int) : Value := .int .u8 a
abbrev insv (o d a b v : Int) : Value := .agg #[u8v o, u8v d, u8v a, u8v b, i64v v]
def fitsF (nb step v : Int) : Bool := if nb < 0 then decide (0 ≤ v) && decide (v < 64) else if nb = 0 then v == 0 else fitsv v nb && (step == 0 || v.tmod step == 0)
theorem insn_fits_ok (f : FV) (o d a b v : Int) (hv : I64 v) (hn : I64 f.nb) (w : World) :
    Calls Try.prog sacristy_insn_form_fits.N #[.agg f.cells.toArray, insv o d a b v] w (Gives (.bool (fitsF f.nb f.step v)) w) := by
  refine sacristy_insn_form_fits.calls ?_
  unfold sacristy_insn_form_fits.vc
  intro w1 h1 w2 h2
  have L := ((Trk.start w).alloc h1).alloc h2
  unfold fitsF
  refine ⟨_, L.cell 0 rfl rfl, cnd_of (fun h => ?_) (fun h => ?_)⟩
  · rw [if_pos (of_decide_eq_true h)]
    refine ⟨_, L.cell 1 rfl rfl, cnd_of (fun h => ?_) (fun h => ?_)⟩
    · refine ⟨_, L.cell 1 rfl rfl, ?_, L.to⟩
      rw [show decide (0 ≤ v) = true from h, Bool.true_and]
    · refine ⟨?_, L.to⟩
      rw [show decide (0 ≤ v) = false from h, Bool.false_and]
  rw [if_neg (of_decide_eq_false h)]
  refine ⟨_, L.cell 0 rfl rfl, cnd_of (fun h => ?_) (fun h => ?_)⟩
  · rw [if_pos (by simpa using h)]
    exact ⟨_, L.cell 1 rfl rfl, rfl, L.to⟩
  rw [if_neg (by simpa using h)]
  refine ⟨_, L.cell 1 rfl rfl, _, L.cell 0 rfl rfl, (word_Fits_ok v f.nb hv.1 hv.2 hn.1 hn.2 _).mono fun e w3 ⟨he, l3⟩ => ⟨_, he, cnd_of (fun h => ?_) (fun h => ?_)⟩⟩
  · rw [h, Bool.true_and]
    have L3 := L.later l3
    refine ⟨_, L3.cell 0 rfl rfl, cnd_of (fun h => ?_) (fun h => ?_)⟩
    · rw [h, Bool.true_or]
      exact ⟨rfl, L3.to⟩
    · rw [h, Bool.false_or]
      exact ⟨_, L3.cell 1 rfl rfl, _, L3.cell 0 rfl rfl, cnd_false (decide_eq_false (by simpa using h)) ⟨rfl, L3.to⟩⟩
  · rw [h, Bool.false_and]
    exact ⟨rfl, (L.later l3).to⟩
def mayF (D : FD) (d a b v : Int) : Bool :=
  !((d != 0 && !D.rd) || (a != 0 && !D.rs1) || (b != 0 && !D.rs2)) && (!(decide (d > 31) || decide (a > 31) || decide (b > 31)) && fitsF D.nb D.step v)
theorem insn_may_ok (D : FD) (f : FV) (hf : f.rd = D.rd ∧ f.rs1 = D.rs1 ∧ f.rs2 = D.rs2 ∧ f.nb = D.nb ∧ f.step = D.step) (o d a b v : Int) (hv : I64 v) (hn : I64 D.nb) (w : World) :
    Calls Try.prog sacristy_insn_form_may.N #[.agg f.cells.toArray, insv o d a b v] w (Gives (.bool (mayF D d a b v)) w) := by
  obtain ⟨f1, f2, f3, f4, f5⟩ := hf
  refine sacristy_insn_form_may.calls ?_
  unfold sacristy_insn_form_may.vc
  intro w1 h1 w2 h2
  have L := ((Trk.start w).alloc h1).alloc h2
  rw [f1, f2, f3] at L
  have bit : ∀ (x : Int) (r : Bool) (w' : World), ∀ K : Bool → Prop, K (x != 0 && !r) → ((x != 0) = true → K (!r)) ∧ ((x != 0) = false → K false) := by
    intro x r w' K hK
    refine ⟨fun h => by rw [h, Bool.true_and] at hK; exact hK, fun h => by rw [h, Bool.false_and] at hK; exact hK⟩
  refine ⟨fun vs w' => vs = [.bool (d != 0 && !D.rd)] ∧ w' = w2, ?_, ?_⟩
  · have := bit d D.rd w2 (fun q => ([.bool q] : List Value) = [.bool (d != 0 && !D.rd)]) rfl
    exact ⟨_, L.cell 1 rfl rfl, cnd_of (fun h => ⟨_, L.cell 0 rfl rfl, this.1 h, rfl⟩) (fun h => ⟨this.2 h, rfl⟩)⟩
  rintro g s w3 ⟨hs, rfl⟩
  obtain rfl : s = (d != 0 && !D.rd) := by simpa using hs
  refine ⟨fun vs w' => vs = [.bool ((d != 0 && !D.rd) || (a != 0 && !D.rs1) || (b != 0 && !D.rs2))] ∧ w' = w3, ?_, ?_⟩
  · refine cnd_of (fun h => ⟨by rw [h]; rfl, rfl⟩) (fun h => ?_)
    rw [h, Bool.false_or]
    refine ⟨fun vs w' => vs = [.bool (a != 0 && !D.rs1)] ∧ w' = w3, ?_, ?_⟩
    · have := bit a D.rs1 w3 (fun q => ([.bool q] : List Value) = [.bool (a != 0 && !D.rs1)]) rfl
      exact ⟨_, L.cell 1 rfl rfl, cnd_of (fun h => ⟨_, L.cell 0 rfl rfl, this.1 h, rfl⟩) (fun h => ⟨this.2 h, rfl⟩)⟩
    rintro g s w4 ⟨hs, rfl⟩
    obtain rfl : s = (a != 0 && !D.rs1) := by simpa using hs
    refine ⟨fun vs w' => vs = [.bool ((a != 0 && !D.rs1) || (b != 0 && !D.rs2))] ∧ w' = w4, ?_, ?_⟩
    · refine cnd_of (fun h => ⟨by rw [h]; rfl, rfl⟩) (fun h => ?_)
      rw [h, Bool.false_or]
      refine ⟨fun vs w' => vs = [.bool (b != 0 && !D.rs2)] ∧ w' = w4, ?_, ?_⟩
      · have := bit b D.rs2 w4 (fun q => ([.bool q] : List Value) = [.bool (b != 0 && !D.rs2)]) rfl
        exact ⟨_, L.cell 1 rfl rfl, cnd_of (fun h => ⟨_, L.cell 0 rfl rfl, this.1 h, rfl⟩) (fun h => ⟨this.2 h, rfl⟩)⟩
      rintro g s w5 ⟨hs, rfl⟩
      exact ⟨hs, rfl⟩
    rintro g s w5 ⟨hs, rfl⟩
    exact ⟨hs, rfl⟩
  rintro g s w4 ⟨hs, rfl⟩
  obtain rfl : s = ((d != 0 && !D.rd) || (a != 0 && !D.rs1) || (b != 0 && !D.rs2)) := by simpa using hs
  unfold mayF
  refine cnd_of (fun h => ?_) (fun h => ?_)
  · rw [h]
    exact ⟨rfl, L.to⟩
  rw [h, Bool.not_false, Bool.true_and]
  refine ⟨_, L.cell 1 rfl rfl, ?_⟩
  refine ⟨fun vs w' => vs = [.bool (decide (d > 31) || decide (a > 31) || decide (b > 31))] ∧ w' = w4, ?_, ?_⟩
  · refine cnd_of (fun h => ⟨by rw [h]; rfl, rfl⟩) (fun h => ?_)
    rw [h, Bool.false_or]
    refine ⟨_, L.cell 1 rfl rfl, ?_⟩
    refine ⟨fun vs w' => vs = [.bool (decide (a > 31) || decide (b > 31))] ∧ w' = w4, ?_, ?_⟩
    · refine cnd_of (fun h => ⟨by rw [h]; rfl, rfl⟩) (fun h => ?_)
      rw [h, Bool.false_or]
      exact ⟨_, L.cell 1 rfl rfl, rfl, rfl⟩
    rintro g s w5 ⟨hs, rfl⟩
    exact ⟨hs, rfl⟩
  rintro g s w5 ⟨hs, rfl⟩
  obtain rfl : s = (decide (d > 31) || decide (a > 31) || decide (b > 31)) := by simpa using hs
  refine cnd_of (fun h => ?_) (fun h => ?_)
  · rw [h]
    exact ⟨rfl, L.to⟩
  rw [h, Bool.not_false, Bool.true_and]
  refine ⟨_, _, _, _, _, _, _, _, ⟨L.cell 0 rfl rfl, L.cell 0 rfl rfl, L.cell 0 rfl rfl, L.cell 0 rfl rfl, L.cell 0 rfl rfl, L.cell 0 rfl rfl, trivial⟩, _, _, _, _, _, ⟨L.cell 1 rfl rfl, L.cell 1 rfl rfl, L.cell 1 rfl rfl, L.cell 1 rfl rfl, L.cell 1 rfl rfl, trivial⟩, ?_⟩
  refine (insn_fits_ok ⟨D.rd, D.rs1, D.rs2, f.nb, f.step, f.p, f.n, f.c⟩ o d a b v hv (by rw [f4]; exact hn) _).mono fun e w6 ⟨he, l6⟩ => ⟨_, he, ?_, (L.later l6).to⟩
  rw [f4, f5]

/-! ### bits of a number -/
def bitsv (v : Int) (fr to at_ : Int) : Int := v % 18446744073709551616 / 2 ^ fr.toNat % 2 ^ (to - fr + 1).toNat * 2 ^ at_.toNat
def spanOk (lo : Int) (s : Int × Int × Int) : Prop := 0 ≤ s.1 ∧ s.1 ≤ s.2.1 ∧ s.2.1 ≤ 63 ∧ lo ≤ s.2.2 ∧ s.2.2 + (s.2.1 - s.1) ≤ 31
def asc : Int → List (Int × Int × Int) → Prop
  | _, [] => True
  | lo, s :: l => spanOk lo s ∧ asc (s.2.2 + (s.2.1 - s.1) + 1) l
def laidv (v : Int) : List (Int × Int × Int) → Int
  | [] => 0
  | s :: l => bitsv v s.1 s.2.1 s.2.2 + laidv v l
theorem pow2 {a b : Int} (ha : 0 ≤ a) (hb : 0 ≤ b) : (2 : Int) ^ a.toNat * 2 ^ b.toNat = 2 ^ (a + b).toNat := by
  rw [← Int.pow_add, show a.toNat + b.toNat = (a + b).toNat by omega]
theorem pow2_le {a b : Int} (h : a ≤ b) : (2 : Int) ^ a.toNat ≤ 2 ^ b.toNat := by
  have : (2 : Nat) ^ a.toNat ≤ 2 ^ b.toNat := Nat.pow_le_pow_right (by omega) (by omega)
  exact_mod_cast this
theorem bitsv_range (v : Int) (s : Int × Int × Int) (lo : Int) (h0 : 0 ≤ lo) (h : spanOk lo s) : 0 ≤ bitsv v s.1 s.2.1 s.2.2 ∧ bitsv v s.1 s.2.1 s.2.2 < 2 ^ (s.2.2 + (s.2.1 - s.1) + 1).toNat := by
  obtain ⟨h1, h2, h3, h4, h5⟩ := h
  unfold bitsv
  have hp : (0 : Int) < 2 ^ (s.2.1 - s.1 + 1).toNat := two_pow_pos _
  have hq : (0 : Int) < 2 ^ s.2.2.toNat := two_pow_pos _
  have m0 := Int.emod_nonneg (v % 18446744073709551616 / 2 ^ s.1.toNat) (Int.ne_of_gt hp)
  have m1 := Int.emod_lt_of_pos (v % 18446744073709551616 / 2 ^ s.1.toNat) hp
  have e : (2 : Int) ^ (s.2.2 + (s.2.1 - s.1) + 1).toNat = 2 ^ (s.2.1 - s.1 + 1).toNat * 2 ^ s.2.2.toNat := by
    rw [pow2 (by omega) (by omega)]
    congr 2
    omega
  rw [e]
  exact ⟨Int.mul_nonneg m0 (Int.le_of_lt hq), Int.mul_lt_mul_of_pos_right m1 hq⟩
theorem pow32 {a : Int} (h : a ≤ 32) : (2 : Int) ^ a.toNat ≤ 4294967296 := pow2_le (b := 32) h
theorem or_place (n m k : Nat) (h : n < 2 ^ k) : n ||| m * 2 ^ k = n + m * 2 ^ k := by
  rw [Nat.or_comm, Nat.mul_comm, ← Nat.two_pow_add_eq_or_of_lt h, Nat.add_comm]
/-- Bits that lie above. -/
theorem or_bits (x : Int) (y : Int) (k : Nat) (h0 : 0 ≤ x) (h1 : x < 2 ^ k) (hy : 0 ≤ y) (hx : x < 4294967296) (hyk : y * 2 ^ k < 4294967296) : bits .or .u32 x (y * 2 ^ k) = x + y * 2 ^ k := by
  obtain ⟨n, rfl⟩ := Int.eq_ofNat_of_zero_le h0
  obtain ⟨m, rfl⟩ := Int.eq_ofNat_of_zero_le hy
  have e : ((m : Int) * 2 ^ k) = ((m * 2 ^ k : Nat) : Int) := by push_cast; rfl
  rw [e] at hyk ⊢
  rw [bits_or_u32 n (m * 2 ^ k) (by omega) (by omega), or_place n m k (by exact_mod_cast h1)]
  push_cast
  rfl
theorem flat_get : ∀ (l : List (Int × Int × Int)) (k : Nat) (s : Int × Int × Int), l[k]? = some s → (flat l)[k * 3]? = some (i64v s.1) ∧ (flat l)[k * 3 + 1]? = some (i64v s.2.1) ∧ (flat l)[k * 3 + 2]? = some (i64v s.2.2)
  | [], k, s, h => by simp at h
  | x :: l, 0, s, h => by
    obtain rfl : x = s := by simpa using h
    exact ⟨rfl, rfl, rfl⟩
  | x :: l, k + 1, s, h => by
    have := flat_get l k s (by simpa using h)
    rw [show (k + 1) * 3 = k * 3 + 3 by omega]
    exact this
theorem asc_get : ∀ {lo : Int} {l : List (Int × Int × Int)}, 0 ≤ lo → asc lo l → ∀ (k : Nat) (s : Int × Int × Int), l[k]? = some s → spanOk 0 s
  | lo, [], _, _, k, s, h => by simp at h
  | lo, x :: l, h0, ha, 0, s, h => by
    obtain rfl : x = s := by simpa using h
    obtain ⟨h1, h2, h3, h4, h5⟩ := ha.1
    exact ⟨h1, h2, h3, by omega, h5⟩
  | lo, x :: l, h0, ha, k + 1, s, h => by
    obtain ⟨h1, h2, h3, h4, h5⟩ := ha.1
    exact asc_get (by omega) ha.2 k s (by simpa using h)
theorem and_low (n k : Nat) (hk : k ≤ 32) (hn : n < 18446744073709551616) : bits .and .u64 (n : Int) (2 ^ k - 1) = (n : Int) % 2 ^ k := by
  have hp : 0 < 2 ^ k := Nat.two_pow_pos k
  have hle : 2 ^ k ≤ 2 ^ 32 := Nat.pow_le_pow_right (by omega) hk
  have e : ((2 : Int) ^ k - 1) = ((2 ^ k - 1 : Nat) : Int) := by
    rw [Int.natCast_sub (by omega)]
    push_cast
    rfl
  rw [e, bits_and_u64 _ _ hn (by omega), Nat.and_two_pow_sub_one_eq_mod]
  push_cast
  rfl
theorem insn_laid_ok (v : Int) (l : List (Int × Int × Int)) (ha : asc 0 l) (hl : l.length ≤ 100) (p : Option Addr) (c : Nat) (w : World) (hp : l = [] ∨ ∃ b, p = some ⟨b, 0, none⟩ ∧ Has w b (flat l)) :
    Calls Try.prog insn_laid.N #[i64v v, .slice p l.length c] w (Gives (u32v (laidv v l)) w) := by
  refine insn_laid.calls ?_
  unfold insn_laid.vc
  refine ⟨fun vs w' => ∃ (k : Nat) (acc lo : Int), vs = [.int .u32 acc, .int .i64 k] ∧ k ≤ l.length ∧ 0 ≤ lo ∧ lo ≤ 32 ∧ asc lo (l.drop k) ∧ 0 ≤ acc ∧ acc < 2 ^ lo.toNat ∧ acc + laidv v (l.drop k) = laidv v l ∧ Later w w', fun vs _ => match vs with | [_, .int _ k] => (l.length - k.toNat) | _ => 0,
    ⟨0, 0, 0, rfl, Nat.zero_le _, by omega, by omega, ha, by omega, by decide, by simp, Later.refl _⟩, ?_⟩
  rintro g acc _ w1 ⟨k, _, lo, hs, hk, hlo, hlo2, hasc, ha0, ha1, hsum, l1⟩
  simp only [List.cons.injEq, Value.int.injEq, true_and, and_true] at hs
  obtain ⟨rfl, rfl⟩ := hs
  refine cnd_of (fun h => ?_) (fun h => ?_)
  · have h := of_decide_eq_true h
    have hkl : k < l.length := by omega
    obtain ⟨s, hsk⟩ : ∃ s, l[k]? = some s := ⟨_, List.getElem?_eq_getElem hkl⟩
    have hdrop : l.drop k = s :: l.drop (k + 1) := by
      rw [List.drop_eq_getElem_cons hkl]
      congr 1
      rw [List.getElem?_eq_getElem hkl] at hsk
      exact Option.some.inj hsk
    rw [hdrop] at hasc hsum
    obtain ⟨hok, hasc⟩ := hasc
    have hr := bitsv_range v s lo hlo hok
    obtain ⟨s1, s2, s3, s4, s5⟩ := hok
    obtain ⟨b, rfl, hb⟩ : ∃ b, p = some ⟨b, 0, none⟩ ∧ Has w b (flat l) := by
      rcases hp with hp | hp
      · subst hp; simp at hkl
      · exact hp
    have hb1 := hb.later l1
    obtain ⟨c0, c1, c2⟩ := flat_get l k s hsk
    refine ⟨⟨by omega, by omega⟩, Deref_some rfl ?_⟩
    rw [show ((k : Int)).toNat = k from rfl, add_block, add_block, add_block, Nat.zero_add]
    refine ⟨_, _, _, ⟨hb1.cell c0, hb1.cell c1, hb1.cell c2, trivial⟩, fun w2 h2 => ?_⟩
    have L2 := (Trk.start w1).alloc h2
    refine L2.setAll 0 rfl (by rfl) (ones rfl) fun w3 L3 => ?_
    refine ⟨_, L3.cell 0 rfl rfl, _, L3.cell 0 rfl rfl, ?_⟩
    have e1 : IntKind.i64.wrap (IntKind.i64.wrap (s.2.1 - s.1) + 1) = s.2.1 - s.1 + 1 := by rw [i64_in (x := s.2.1 - s.1) (by omega) (by omega), i64_in (by omega) (by omega)]
    rw [e1]
    refine cnd_false (decide_eq_false (by omega)) ⟨_, fun w' h' => (L3.later h').cell 0 rfl rfl, cnd_false (decide_eq_false (by omega)) ⟨_, fun w' h' => (L3.later h').cell 0 rfl rfl, cnd_false (decide_eq_false (by omega)) fun w4 h4 => ?_⟩⟩
    have e2 : min s.1.toNat 64 = s.1.toNat := by omega
    have e3 : min (s.2.1 - s.1 + 1).toNat 64 = (s.2.1 - s.1 + 1).toNat := by omega
    have e4 : min s.2.2.toNat 32 = s.2.2.toNat := by omega
    have e5 : IntKind.i64.wrap ((k : Int) + 1) = ((k + 1 : Nat) : Int) := by rw [i64_in (by omega) (by omega)]; simp
    have hc32 : (2 : Int) ^ (s.2.1 - s.1 + 1).toNat ≤ 4294967296 := pow32 (by omega)
    have hcp : (0 : Int) < 2 ^ (s.2.1 - s.1 + 1).toNat := two_pow_pos _
    have hfp : (0 : Int) < 2 ^ s.1.toNat := two_pow_pos _
    have e6 : IntKind.u64.wrap (IntKind.u64.wrap (1 * 2 ^ (s.2.1 - s.1 + 1).toNat) - 1) = 2 ^ (s.2.1 - s.1 + 1).toNat - 1 := by
      rw [Int.one_mul, u64_in (x := 2 ^ (s.2.1 - s.1 + 1).toNat) (by omega) (by omega), u64_in (by omega) (by omega)]
    have hX0 : 0 ≤ v % 18446744073709551616 / 2 ^ s.1.toNat := Int.ediv_nonneg (by omega) (Int.le_of_lt hfp)
    have hX1 : v % 18446744073709551616 / 2 ^ s.1.toNat ≤ v % 18446744073709551616 := Int.ediv_le_self _ (by omega)
    obtain ⟨X, hX⟩ := Int.eq_ofNat_of_zero_le hX0
    have hm0 := Int.emod_nonneg (X : Int) (Int.ne_of_gt hcp)
    have hm1 := Int.emod_lt_of_pos (X : Int) hcp
    have e7 : bits .and .u64 (X : Int) (2 ^ (s.2.1 - s.1 + 1).toNat - 1) = (X : Int) % 2 ^ (s.2.1 - s.1 + 1).toNat := and_low X _ (by omega) (by omega)
    have hbv : bitsv v s.1 s.2.1 s.2.2 = (X : Int) % 2 ^ (s.2.1 - s.1 + 1).toNat * 2 ^ s.2.2.toNat := by unfold bitsv; rw [hX]
    have htop : (2 : Int) ^ (s.2.2 + (s.2.1 - s.1) + 1).toNat ≤ 4294967296 := pow32 (by omega)
    have hlo32 : (2 : Int) ^ lo.toNat ≤ 2 ^ s.2.2.toNat := pow2_le s4
    have hs2 : acc + bitsv v s.1 s.2.1 s.2.2 + laidv v (l.drop (k + 1)) = laidv v l := by rw [← hsum]; simp only [laidv]; omega
    rw [hbv] at hr hs2
    have hor : bits .or .u32 acc ((X : Int) % 2 ^ (s.2.1 - s.1 + 1).toNat * 2 ^ s.2.2.toNat) = acc + (X : Int) % 2 ^ (s.2.1 - s.1 + 1).toNat * 2 ^ s.2.2.toNat :=
      or_bits acc _ _ ha0 (Int.lt_of_lt_of_le ha1 hlo32) hm0 (by have := pow32 hlo2; omega) (by omega)
    have hval : bits .or .u32 acc (IntKind.u32.wrap (IntKind.u32.wrap (bits .and .u64 ((IntKind.u64.wrap v).fdiv (2 ^ min s.1.toNat 64)) (IntKind.u64.wrap (IntKind.u64.wrap (1 * 2 ^ min (s.2.1 - s.1 + 1).toNat 64) - 1))) * 2 ^ min s.2.2.toNat 32)) = acc + (X : Int) % 2 ^ (s.2.1 - s.1 + 1).toNat * 2 ^ s.2.2.toNat := by
      rw [e2, e3, e4, e6, wrap_u64, fdiv_nn _ (Int.le_of_lt hfp), hX, e7, u32_in (x := (X : Int) % 2 ^ (s.2.1 - s.1 + 1).toNat) hm0 (by omega), u32_in hr.1 (by omega), hor]
    rw [hval, e5]
    have hsumlt : acc + (X : Int) % 2 ^ (s.2.1 - s.1 + 1).toNat * 2 ^ s.2.2.toNat < 2 ^ (s.2.2 + (s.2.1 - s.1) + 1).toNat := by
      have e : (2 : Int) ^ (s.2.2 + (s.2.1 - s.1) + 1).toNat = 2 ^ (s.2.1 - s.1 + 1).toNat * 2 ^ s.2.2.toNat := by
        rw [pow2 (by omega) (by omega)]
        congr 2
        omega
      rw [e]
      have h1 : ((X : Int) % 2 ^ (s.2.1 - s.1 + 1).toNat + 1) * 2 ^ s.2.2.toNat ≤ 2 ^ (s.2.1 - s.1 + 1).toNat * 2 ^ s.2.2.toNat := Int.mul_le_mul_of_nonneg_right (by omega) (Int.le_of_lt (two_pow_pos _))
      rw [Int.add_mul, Int.one_mul] at h1
      omega
    refine ⟨⟨k + 1, _, s.2.2 + (s.2.1 - s.1) + 1, rfl, by omega, by omega, by omega, hasc, by omega, hsumlt, hs2, l1.trans (L3.to.trans h4)⟩, ?_⟩
    simp only
    omega
  · have h := of_decide_eq_false h
    obtain rfl : k = l.length := by omega
    rw [List.drop_length, laidv, Int.add_zero] at hsum
    exact ⟨by rw [hsum], l1⟩
end Go.Proofs.Ytjoikaklincfoaa
