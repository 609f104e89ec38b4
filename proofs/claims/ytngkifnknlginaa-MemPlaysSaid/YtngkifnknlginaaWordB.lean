/-
The contracts of package word, second part: signs, bytes.
Conditions: each number is of its kind, as each theorem says.
-/
import Derived.Test.YtngkifnknlginaaVword
import Derived.Test.YtngkifnknlginaaBase
import Derived.Test.YtngkifnknlginaaVcOwn
namespace Go.Proofs.Ytngkifnknlginaa
open Go Go.Vc Go.RowKit
set_option linter.unusedVariables false
set_option linter.unusedSimpArgs false
set_option linter.unnecessarySimpa false
set_option maxRecDepth 100000

/-! ### Sign, Fits -/
/-- The number of so many bits, with its sign, out of a word. -/
def signI (v : Int) (n : Nat) : Int := if 2 ^ (n - 1) ≤ v % 2 ^ n then v % 2 ^ n - 2 ^ n else v % 2 ^ n
def signv (v bits : Int) : Int := if 1 ≤ bits ∧ bits ≤ 64 then signI v bits.toNat % 18446744073709551616 else 0
def signe (bits : Int) : Int := if 1 ≤ bits ∧ bits ≤ 64 then 0 else 2
theorem pow_split (n : Nat) (h : n ≤ 64) : (2 : Int) ^ n * 2 ^ (64 - n) = 18446744073709551616 := by
  rw [← Int.pow_add, show n + (64 - n) = 64 by omega]; rfl
theorem sign_core (v : Int) (n : Nat) (h1 : 1 ≤ n) (h2 : n ≤ 64) : IntKind.i64.wrap (v * 2 ^ (64 - n) % 18446744073709551616) / 2 ^ (64 - n) = signI v n := by
  have hp := pow_split n h2
  have hk : (0 : Int) < 2 ^ (64 - n) := two_pow_pos _
  have hn : (0 : Int) < 2 ^ n := two_pow_pos _
  have hhalf : (2 : Int) ^ n = 2 * 2 ^ (n - 1) := by
    obtain ⟨m, rfl⟩ : ∃ m, n = m + 1 := ⟨n - 1, by omega⟩
    rw [Int.pow_succ]; simp; omega
  have e : v * 2 ^ (64 - n) % 18446744073709551616 = v % 2 ^ n * 2 ^ (64 - n) := by
    rw [← hp, Int.mul_comm v, Int.mul_comm (2 ^ n), Int.mul_emod_mul_of_pos _ _ hk, Int.mul_comm]
  rw [e]
  unfold signI
  have r0 := Int.emod_nonneg v (show (2 : Int) ^ n ≠ 0 by omega)
  have r1 := Int.emod_lt_of_pos v hn
  generalize v % 2 ^ n = r at *
  generalize hK : (2 : Int) ^ (64 - n) = K at *
  generalize hH : (2 : Int) ^ (n - 1) = H at *
  generalize hN : (2 : Int) ^ n = N at *
  have hrK : r * K < 18446744073709551616 := by rw [← hp]; exact Int.mul_lt_mul_of_pos_right r1 hk
  have hrK0 : 0 ≤ r * K := Int.mul_nonneg r0 (by omega)
  have hHK : H * K = 9223372036854775808 := by
    have : 2 * (H * K) = 18446744073709551616 := by rw [← Int.mul_assoc, ← hhalf]; exact hp
    omega
  rw [wrap_i64, Int.emod_eq_of_lt hrK0 hrK]
  by_cases hr : H ≤ r
  · have : H * K ≤ r * K := Int.mul_le_mul_of_nonneg_right hr (by omega)
    rw [if_pos (by omega), if_pos hr, ← hp, ← Int.sub_mul, Int.mul_ediv_cancel _ (by omega)]
  · have : (r + 1) * K ≤ H * K := Int.mul_le_mul_of_nonneg_right (by omega) (by omega)
    rw [Int.add_mul] at this
    rw [if_neg (by omega), if_neg hr, Int.mul_ediv_cancel _ (by omega)]
/-- Has a number room in so many bits? -/
def fitsv (v bits : Int) : Bool := decide (1 ≤ bits ∧ bits ≤ 64 ∧ -2 ^ (bits.toNat - 1) ≤ v ∧ v < 2 ^ (bits.toNat - 1))
theorem half_pow (n : Nat) (h1 : 1 ≤ n) : (2 : Int) ^ n = 2 * 2 ^ (n - 1) := by
  obtain ⟨m, rfl⟩ : ∃ m, n = m + 1 := ⟨n - 1, by omega⟩
  rw [Int.pow_succ]; simp; omega
theorem pow_dvd64 (n : Nat) (h : n ≤ 64) : (2 : Int) ^ n ∣ 18446744073709551616 := ⟨_, (pow_split n h).symm⟩
theorem pow_le63 (n : Nat) (h1 : 1 ≤ n) (h : n ≤ 64) : (2 : Int) ^ (n - 1) ≤ 9223372036854775808 := by
  have e := pow_split n h
  have := half_pow n h1
  have hk : (1 : Int) ≤ 2 ^ (64 - n) := two_pow_pos _
  have hp : (0 : Int) < 2 ^ (n - 1) := two_pow_pos _
  have : 2 ^ (n - 1) * 1 ≤ (2 : Int) ^ (n - 1) * 2 ^ (64 - n) := Int.mul_le_mul_of_nonneg_left hk (by omega)
  rw [‹(2 : Int) ^ n = _›, Int.mul_assoc] at e
  omega
theorem signI_range (v : Int) (n : Nat) (h1 : 1 ≤ n) : -2 ^ (n - 1) ≤ signI v n ∧ signI v n < 2 ^ (n - 1) := by
  have hn := half_pow n h1
  have hp : (0 : Int) < 2 ^ (n - 1) := two_pow_pos _
  have r0 := Int.emod_nonneg v (show (2 : Int) ^ n ≠ 0 by omega)
  have r1 := Int.emod_lt_of_pos v (show (0 : Int) < 2 ^ n by omega)
  unfold signI
  split <;> omega
theorem signI_of_range (v : Int) (n : Nat) (h1 : 1 ≤ n) (h0 : -2 ^ (n - 1) ≤ v) (h2 : v < 2 ^ (n - 1)) : signI v n = v := by
  have hn := half_pow n h1
  have hp : (0 : Int) < 2 ^ (n - 1) := two_pow_pos _
  unfold signI
  by_cases hv : 0 ≤ v
  · rw [Int.emod_eq_of_lt hv (by omega), if_neg (by omega)]
  · have : v % 2 ^ n = v + 2 ^ n := by
      rw [← Int.add_emod_right]
      exact Int.emod_eq_of_lt (by omega) (by omega)
    rw [this, if_pos (by omega)]
    omega
theorem signI_mod (v : Int) (n : Nat) (h : n ≤ 64) : signI (v % 18446744073709551616) n = signI v n := by
  unfold signI
  rw [Int.emod_emod_of_dvd _ (pow_dvd64 n h)]
theorem wrap_i64_small {x : Int} (h0 : -9223372036854775808 ≤ x) (h1 : x < 9223372036854775808) : IntKind.i64.wrap (x % 18446744073709551616) = x := by
  rw [wrap_i64, Int.emod_emod_of_dvd _ (Int.dvd_refl _)]
  split <;> omega
/-! ### Bytes, Word -/
def bytev (v : Int) (j : Nat) : Int := v / 2 ^ (8 * j) % 256
def bytesCells (v : Int) (k : Nat) : List Int := (List.range 9).map fun j => if j < k then bytev v j else 0
/-- The lowest bytes of a word. -/
def bytesOf (v : Int) (n : Nat) : ByteArray := strOf ((List.range n).map (bytev v))
theorem word_Bytes_ok (v n : Int) (hv : 0 ≤ v) (hv1 : v < 18446744073709551616) (w : World) :
    Calls Try.prog word_Bytes.N #[u64v v, i64v n] w (Gives (if 1 ≤ n ∧ n ≤ 8 then pairv (.string (bytesOf v n.toNat)) okv else pairv (.string ⟨#[]⟩) (i64v 2)) w) := by
  refine word_Bytes.calls ?_
  unfold word_Bytes.vc
  intro w1 h1
  refine ⟨fun vs w' => ∃ k : Nat, k ≤ 9 ∧ vs = [i64v k] ∧ w' = w.alloc (.cells ((bytesCells v k).map (Value.int .u8)).toArray 85), fun vs _ => match vs with | [.int _ k] => (9 - k).toNat | _ => 0, ⟨0, by omega, rfl, h1⟩, ?_⟩
  rintro g s8 w2 ⟨k, hk, hs, rfl⟩
  obtain rfl : s8 = k := by simpa using hs
  refine cnd_of (fun hlt => ?_) (fun hge => ?_)
  · have hlt : k < 9 := by have := of_decide_eq_true hlt; omega
    have hw : IntKind.i64.wrap (8 * (k : Int)) = 8 * k := i64_in (by omega) (by omega)
    rw [hw]
    have ha : (Addr.mk w.heap.size 0 none).add ((k : Int).toNat * 1) = ⟨w.heap.size, k, none⟩ := by rw [add_block]; simp
    rw [ha]
    refine cnd_false (by simp; omega) ⟨⟨by omega, by omega⟩, ⟨?_, frozen_new _ _ _ _⟩, ?_⟩
    · rw [cell_new]; simp [bytesCells]; omega
    intro w3 h3
    rw [setCell_alloc] at h3
    have hk1 : IntKind.i64.wrap ((k : Int) + 1) = ((k + 1 : Nat) : Int) := by rw [i64_in (by omega) (by omega)]; omega
    rw [hk1]
    refine ⟨⟨k + 1, by omega, rfl, ?_⟩, by simp only; omega⟩
    rw [h3]
    congr 2
    apply Array.ext_getElem?
    intro i
    rw [Array.getElem?_setIfInBounds]
    simp only [List.getElem?_toArray, List.getElem?_map, bytesCells, List.size_toArray, List.length_map, List.length_range, List.getElem?_range]
    by_cases hi : k = i
    · subst hi
      simp only [if_true, hlt, List.getElem?_range hlt, Option.map_some, Nat.lt_succ_self]
      congr 2
      rw [wrap_u8, fdiv_nn _ (Int.le_of_lt (two_pow_pos _))]
      unfold bytev
      congr 2
      congr 1
      omega
    · rw [if_neg hi]
      by_cases hi9 : i < 9
      · simp only [List.getElem?_range hi9, Option.map_some]
        congr 2
        by_cases hik : i < k
        · rw [if_pos hik, if_pos (by omega)]
        · rw [if_neg hik, if_neg (by omega)]
      · rw [List.getElem?_eq_none (by simp; omega)]
        rfl
  · have hge : k = 9 := by
      have : ¬ ((k : Int) < 9) := by simpa using hge
      omega
    subst hge
    by_cases h : 1 ≤ n ∧ n ≤ 8
    · rw [if_pos h]
      refine cnd_false (by simp; omega) (cnd_false (by simp; omega) ⟨⟨by omega, by omega⟩, ?_⟩)
      refine runs_bytes_string (ns := (List.range n.toNat).map (bytev v)) (e := 5) (by kernel_rfl) (by kernel_rfl) (by kernel_rfl) (by simp) ?_ ⟨_, rfl, rfl, Later.alloc' _ _⟩
      refine CellsAt_new _ _ _ _ _ 0 ?_
      intro j u hu
      simp only [List.getElem?_map, Nat.zero_add, List.getElem?_toArray, bytesCells] at hu ⊢
      have hj : j < n.toNat := by
        rcases Nat.lt_or_ge j n.toNat with h' | h'
        · exact h'
        · rw [List.getElem?_eq_none (by simpa using h')] at hu; simp at hu
      rw [List.getElem?_range hj] at hu
      rw [List.getElem?_range (by omega)]
      simp only [Option.map_some] at hu ⊢
      rw [if_pos (by omega)]
      exact hu
    · rw [if_neg h]
      by_cases h1 : n < 1
      · exact cnd_true (by simpa using h1) ⟨rfl, Later.alloc' _ _⟩
      · exact cnd_false (by simpa using h1) (cnd_true (by simp; omega) ⟨rfl, Later.alloc' _ _⟩)
/-- The number of bytes, the lowest first. -/
def wordL : List UInt8 → Nat
  | [] => 0
  | b :: l => b.toNat + 256 * wordL l
theorem wordL_lt : ∀ l : List UInt8, wordL l < 2 ^ (8 * l.length) := by
  intro l
  induction l with
  | nil => simp [wordL]
  | cons b l ih =>
    have hb : b.toNat < 256 := b.toNat_lt
    simp only [wordL, List.length_cons]
    rw [show 8 * (l.length + 1) = 8 + 8 * l.length by omega, Nat.pow_add]
    generalize 2 ^ (8 * l.length) = K at *
    omega
theorem wordL_snoc (b : UInt8) : ∀ l : List UInt8, wordL (l ++ [b]) = wordL l + b.toNat * 2 ^ (8 * l.length) := by
  intro l
  induction l with
  | nil => simp [wordL]
  | cons c l ih =>
    simp only [List.cons_append, wordL, ih, List.length_cons]
    rw [show 8 * (l.length + 1) = 8 + 8 * l.length by omega, Nat.pow_add]
    rw [Nat.mul_add, show (2 : Nat) ^ 8 = 256 from rfl, ← Nat.mul_assoc 256, Nat.mul_comm 256 b.toNat, Nat.mul_assoc]
    omega
theorem or_add (a b k : Nat) (h : a < 2 ^ k) : a ||| b * 2 ^ k = a + b * 2 ^ k := by
  have := Nat.two_pow_add_eq_or_of_lt h b
  rw [Nat.or_comm, Nat.mul_comm, ← this]; omega
theorem get_byte {s : ByteArray} {k : Nat} (h : k < s.size) : s[k]? = some (s.data.toList[k]'(by simpa using h)) := by
  rw [getElem?_pos s k h]; rfl
theorem word_Word_ok (s : ByteArray) (hs : s.size < 9223372036854775808) (w : World) :
    Calls Try.prog word_Word.N #[.string s] w (Gives (if 1 ≤ s.size ∧ s.size ≤ 8 then pairv (u64v (wordL s.data.toList)) okv else pairv (u64v 0) (i64v 2)) w) := by
  refine word_Word.calls ?_
  unfold word_Word.vc
  have hlen : s.data.toList.length = s.size := by simp
  by_cases h : 1 ≤ s.size ∧ s.size ≤ 8
  · rw [if_pos h]
    refine cnd_false (by simp; omega) (cnd_false (by simp; omega) ?_)
    refine ⟨fun vs w' => ∃ k : Nat, k ≤ s.size ∧ vs = [u64v (wordL (s.data.toList.take k)), i64v k] ∧ w' = w, fun vs _ => match vs with | [_, .int _ k] => (s.size - k).toNat | _ => 0, ⟨0, by omega, rfl, rfl⟩, ?_⟩
    rintro g v s15 w2 ⟨k, hk, hs', rfl⟩
    simp only [List.cons.injEq, Value.int.injEq, true_and, and_true] at hs'
    obtain ⟨rfl, rfl⟩ := hs'
    have hb := wordL_lt (s.data.toList.take k)
    rw [List.length_take, Nat.min_eq_left (by omega)] at hb
    have hb64 : (2 : Nat) ^ (8 * k) ≤ 2 ^ 64 := Nat.pow_le_pow_right (by decide) (by omega)
    refine cnd_of (fun hlt => ?_) (fun hge => ?_)
    · have hlt : k < s.size := by have := of_decide_eq_true hlt; omega
      have hw : IntKind.i64.wrap (8 * (k : Int)) = 8 * k := i64_in (by omega) (by omega)
      rw [hw]
      obtain ⟨b, hbk⟩ : ∃ b, s.data.toList[k]'(by simpa using hlt) = b := ⟨_, rfl⟩
      refine ⟨by omega, b, by rw [← hbk]; exact get_byte hlt, cnd_false (by simp; omega) ?_⟩
      have htake : s.data.toList.take (k + 1) = s.data.toList.take k ++ [b] := by
        rw [List.take_add_one, List.getElem?_eq_getElem (by simpa using hlt), hbk]; rfl
      have hk1 : IntKind.i64.wrap ((k : Int) + 1) = ((k + 1 : Nat) : Int) := by rw [i64_in (by omega) (by omega)]; omega
      have hb8 : b.toNat < 256 := b.toNat_lt
      have hsh : b.toNat * 2 ^ (8 * k) < 2 ^ 64 := by
        have h56 : (2 : Nat) ^ (8 * k) ≤ 2 ^ 56 := Nat.pow_le_pow_right (by decide) (by omega)
        have : b.toNat * 2 ^ (8 * k) ≤ 255 * 2 ^ 56 := Nat.mul_le_mul (by omega) h56
        omega
      have e1 : IntKind.u64.wrap (IntKind.u64.wrap ((b.toNat : Nat) : Int) * 2 ^ min (8 * (k : Int)).toNat 64) = ((b.toNat * 2 ^ (8 * k) : Nat) : Int) := by
        rw [u64_in (x := (b.toNat : Int)) (by omega) (by omega), show min (8 * (k : Int)).toNat 64 = 8 * k by omega]
        have : ((b.toNat : Nat) : Int) * 2 ^ (8 * k) = ((b.toNat * 2 ^ (8 * k) : Nat) : Int) := by simp
        rw [this, u64_in (by omega) (by omega)]
      rw [hk1, e1, bits_or_u64 _ _ (by omega) (by omega), or_add _ _ _ hb]
      refine ⟨⟨k + 1, by omega, ?_, rfl⟩, by simp only; omega⟩
      rw [htake, wordL_snoc, List.length_take, Nat.min_eq_left (by omega)]
    · have hge : k = s.size := by have := of_decide_eq_false hge; omega
      subst hge
      rw [List.take_of_length_le (by omega)]
      exact ⟨rfl, Later.refl _⟩
  · rw [if_neg h]
    by_cases h1 : s.size < 1
    · exact cnd_true (by simp; omega) ⟨rfl, Later.refl _⟩
    · exact cnd_false (by simp; omega) (cnd_true (by simp; omega) ⟨rfl, Later.refl _⟩)
end Go.Proofs.Ytngkifnknlginaa
