/-
The contracts of package word: what each function of the machine's numbers comes to.
Conditions: each number is of its kind, as each theorem says.
-/
import Derived.Test.YtoncpheocnjooaaVword
import Derived.Test.YtoncpheocnjooaaVcNum
namespace Go.Proofs.Ytoncpheocnjooaa
open Go Go.Vc Go.RowKit
set_option linter.unusedVariables false
set_option linter.unusedSimpArgs false
set_option maxRecDepth 100000

/-- A call that comes to a value and turns nothing old. -/
def Gives (v : Value) (w : World) (e : Ending) (w' : World) : Prop := e = .returned v ∧ Later w w'
abbrev fnv (f : FuncId) : Value := .func (.func f) #[] #[]
abbrev u64v (a : Int) : Value := .int .u64 a
abbrev i64v (a : Int) : Value := .int .i64 a
abbrev okv : Value := .int .i64 0
abbrev pairv (a b : Value) : Value := .tuple #[a, b]

theorem tmod_nn {a : Int} (b : Int) (h : 0 ≤ a) : a.tmod b = a % b := Int.tmod_eq_emod_of_nonneg h
theorem fdiv_nn (a : Int) {b : Int} (h : 0 ≤ b) : a.fdiv b = a / b := Int.fdiv_eq_ediv_of_nonneg a h
theorem tdiv_nn {a : Int} (b : Int) (h : 0 ≤ a) : a.tdiv b = a / b := Int.tdiv_eq_ediv_of_nonneg h
theorem two_pow_pos (n : Nat) : (0 : Int) < 2 ^ n := Int.pow_pos (by decide)

theorem word_table_1_ok (a b : Int) (w : World) : Calls Try.prog word_table_1.N #[u64v a, u64v b] w (Gives (u64v ((a + b) % 18446744073709551616)) w) := by
  refine word_table_1.calls ?_
  exact ⟨by rw [wrap_u64], Later.refl _⟩
theorem word_table_2_ok (a b : Int) (w : World) : Calls Try.prog word_table_2.N #[u64v a, u64v b] w (Gives (u64v ((a - b) % 18446744073709551616)) w) := by
  refine word_table_2.calls ?_
  exact ⟨by rw [wrap_u64], Later.refl _⟩
theorem min64 {b : Int} (h : 0 ≤ b) : min (b % 64).toNat 64 = (b % 64).toNat := by omega
theorem word_sll_ok (a b : Int) (hb : 0 ≤ b) (w : World) : Calls Try.prog word_sll.N #[u64v a, u64v b] w (Gives (u64v (a * 2 ^ (b % 64).toNat % 18446744073709551616)) w) := by
  refine word_sll.calls ?_
  unfold word_sll.vc
  rw [tmod_nn 64 hb]
  refine cnd_false (by simp; omega) ?_
  exact ⟨by rw [wrap_u64, min64 hb], Later.refl _⟩
theorem word_srl_ok (a b : Int) (hb : 0 ≤ b) (w : World) : Calls Try.prog word_srl.N #[u64v a, u64v b] w (Gives (u64v (a / 2 ^ (b % 64).toNat)) w) := by
  refine word_srl.calls ?_
  unfold word_srl.vc
  rw [tmod_nn 64 hb]
  refine cnd_false (by simp; omega) ?_
  exact ⟨by rw [min64 hb, fdiv_nn _ (Int.le_of_lt (two_pow_pos _))], Later.refl _⟩
theorem word_sra_ok (a b : Int) (hb : 0 ≤ b) (w : World) : Calls Try.prog word_sra.N #[u64v a, u64v b] w (Gives (u64v ((IntKind.i64.wrap a / 2 ^ (b % 64).toNat) % 18446744073709551616)) w) := by
  refine word_sra.calls ?_
  unfold word_sra.vc
  rw [tmod_nn 64 hb]
  refine cnd_false (by simp; omega) ?_
  exact ⟨by rw [min64 hb, fdiv_nn _ (Int.le_of_lt (two_pow_pos _)), wrap_u64], Later.refl _⟩
theorem word_bit_ok (c : Bool) (w : World) : Calls Try.prog word_bit.N #[.bool c] w (Gives (u64v (if c then 1 else 0)) w) := by
  refine word_bit.calls ?_
  exact cnd_of (fun h => by subst h; exact ⟨rfl, Later.refl _⟩) (fun h => by subst h; exact ⟨rfl, Later.refl _⟩)
theorem word_slt_ok (a b : Int) (w : World) : Calls Try.prog word_slt.N #[u64v a, u64v b] w (Gives (u64v (if IntKind.i64.wrap a < IntKind.i64.wrap b then 1 else 0)) w) := by
  refine word_slt.calls ?_
  exact (word_bit_ok _ _).mono fun e w' ⟨he, hl⟩ => ⟨_, he, by simp, hl⟩
theorem word_table_3_ok (a b : Int) (w : World) : Calls Try.prog word_table_3.N #[u64v a, u64v b] w (Gives (u64v (if a < b then 1 else 0)) w) := by
  refine word_table_3.calls ?_
  exact (word_bit_ok _ _).mono fun e w' ⟨he, hl⟩ => ⟨_, he, by simp, hl⟩
theorem word_table_4_ok (a b : Int) (w : World) : Calls Try.prog word_table_4.N #[u64v a, u64v b] w (Gives (u64v (bits .xor .u64 a b)) w) := by
  refine word_table_4.calls ?_
  exact ⟨rfl, Later.refl _⟩
theorem word_table_5_ok (a b : Int) (w : World) : Calls Try.prog word_table_5.N #[u64v a, u64v b] w (Gives (u64v (bits .or .u64 a b)) w) := by
  refine word_table_5.calls ?_
  exact ⟨rfl, Later.refl _⟩
theorem word_table_6_ok (a b : Int) (w : World) : Calls Try.prog word_table_6.N #[u64v a, u64v b] w (Gives (u64v (bits .and .u64 a b)) w) := by
  refine word_table_6.calls ?_
  exact ⟨rfl, Later.refl _⟩
theorem word_table_7_ok (a b : Int) (w : World) : Calls Try.prog word_table_7.N #[u64v a, u64v b] w (Gives (u64v (a * b % 18446744073709551616)) w) := by
  refine word_table_7.calls ?_
  exact ⟨by rw [wrap_u64], Later.refl _⟩
theorem word_divu_ok (a b : Int) (ha : 0 ≤ a) (ha1 : a < 18446744073709551616) (hb : 0 ≤ b) (w : World) : Calls Try.prog word_divu.N #[u64v a, u64v b] w (Gives (u64v (if b = 0 then 18446744073709551615 else a / b)) w) := by
  refine word_divu.calls ?_
  refine cnd_of (fun h => ?_) (fun h => ?_)
  · have h : b = 0 := by simpa using h
    subst h
    exact ⟨rfl, Later.refl _⟩
  · have h : ¬ b = 0 := by simpa using h
    refine cnd_false (by simpa using h) ⟨?_, Later.refl _⟩
    have h1 : a / b ≤ a := Int.ediv_le_self _ ha
    have h0 : 0 ≤ a / b := Int.ediv_nonneg ha hb
    rw [if_neg h, tdiv_nn _ ha, u64_in h0 (by omega)]
theorem word_remu_ok (a b : Int) (ha : 0 ≤ a) (hb : 0 ≤ b) (w : World) : Calls Try.prog word_remu.N #[u64v a, u64v b] w (Gives (u64v (if b = 0 then a else a % b)) w) := by
  refine word_remu.calls ?_
  refine cnd_of (fun h => ?_) (fun h => ?_)
  · have h : b = 0 := by simpa using h
    subst h
    exact ⟨rfl, Later.refl _⟩
  · have h : ¬ b = 0 := by simpa using h
    refine cnd_false (by simpa using h) ⟨?_, Later.refl _⟩
    rw [if_neg h, tmod_nn _ ha]

/-! ### the table -/
def tableL : List Value := [.nilFunc, fnv word_table_1.N, fnv word_table_2.N, fnv word_sll.N, fnv word_slt.N, fnv word_table_3.N, fnv word_table_4.N, fnv word_srl.N, fnv word_sra.N, fnv word_table_5.N, fnv word_table_6.N, fnv word_table_7.N, fnv word_mulhu.N, fnv word_divu.N, fnv word_remu.N]
theorem word_table_ok (w : World) : Calls Try.prog word_table.N #[] w (Gives (.agg tableL.toArray) w) := by
  refine word_table.calls ?_
  intro w1 h1
  subst h1
  refine ⟨SetsAt_new _ _ _ 0 (by simp) (by simp [Value.oneCell']), ?_⟩
  intro w2 h2
  rw [setCellsAt_new _ _ _ (by simp)] at h2
  subst h2
  exact ⟨tableL.toArray, rfl, CellsAt_new' _ _ _ _, rfl, Later.alloc' _ _⟩

theorem math_bits_Mul64_ok (a b : Int) (ha : 0 ≤ a) (ha1 : a < 18446744073709551616) (hb : 0 ≤ b) (hb1 : b < 18446744073709551616) (w : World) :
    Calls Try.prog math_bits_Mul64.N #[u64v a, u64v b] w (Gives (pairv (u64v (a * b / 18446744073709551616)) (u64v (a * b % 18446744073709551616))) w) := by
  refine math_bits_Mul64.calls ?_
  unfold math_bits_Mul64.vc
  have e1 : ∀ x : Int, 0 ≤ x → x < 18446744073709551616 → bits .and .u64 x 4294967295 = x % 4294967296 := by
    intro x h0 h1
    obtain ⟨n, rfl⟩ := Int.eq_ofNat_of_zero_le h0
    exact low32_and n (by omega)
  have e2 : ∀ x : Int, x.fdiv 4294967296 = x / 4294967296 := fun x => fdiv_nn x (by decide)
  have hm : ∀ x : Int, 0 ≤ x % 18446744073709551616 ∧ x % 18446744073709551616 < 18446744073709551616 := fun x => ⟨Int.emod_nonneg _ (by decide), Int.emod_lt_of_pos _ (by decide)⟩
  simp only [wrap_u64, e2]
  rw [e1 a ha ha1, e1 b hb hb1, e1 _ (hm _).1 (hm _).2, mul_hi a b ha ha1 hb hb1]
  exact ⟨rfl, Later.refl _⟩
theorem word_mulhu_ok (a b : Int) (ha : 0 ≤ a) (ha1 : a < 18446744073709551616) (hb : 0 ≤ b) (hb1 : b < 18446744073709551616) (w : World) :
    Calls Try.prog word_mulhu.N #[u64v a, u64v b] w (Gives (u64v (a * b / 18446744073709551616)) w) := by
  refine word_mulhu.calls ?_
  exact (math_bits_Mul64_ok a b ha ha1 hb hb1 _).mono fun e w' ⟨he, hl⟩ => ⟨_, _, he, rfl, hl⟩

/-! ### Op -/
def opv (fn a b : Int) : Int :=
  if fn = 1 then (a + b) % 18446744073709551616
  else if fn = 2 then (a - b) % 18446744073709551616
  else if fn = 3 then a * 2 ^ (b % 64).toNat % 18446744073709551616
  else if fn = 4 then (if IntKind.i64.wrap a < IntKind.i64.wrap b then 1 else 0)
  else if fn = 5 then (if a < b then 1 else 0)
  else if fn = 6 then bits .xor .u64 a b
  else if fn = 7 then a / 2 ^ (b % 64).toNat
  else if fn = 8 then (IntKind.i64.wrap a / 2 ^ (b % 64).toNat) % 18446744073709551616
  else if fn = 9 then bits .or .u64 a b
  else if fn = 10 then bits .and .u64 a b
  else if fn = 11 then a * b % 18446744073709551616
  else if fn = 12 then a * b / 18446744073709551616
  else if fn = 13 then (if b = 0 then 18446744073709551615 else a / b)
  else if fn = 14 then (if b = 0 then a else a % b)
  else 0
def ope (fn : Int) : Int := if 1 ≤ fn ∧ fn ≤ 14 then 0 else 2
theorem word_Op_at (fn : Nat) (hfn : fn < 15) (k : FuncId) (hk : tableL[fn]? = some (fnv k)) (he : entersB Try.prog k = true) (a b r : Int)
    (hc : ∀ w, Calls Try.prog k #[u64v a, u64v b] w (Gives (u64v r) w)) (w : World) :
    Calls Try.prog word_Op.N #[.int .u8 fn, u64v a, u64v b] w (Gives (pairv (u64v r) okv) w) := by
  refine word_Op.calls ?_
  refine (word_table_ok w).mono fun e w1 ⟨h1, hl1⟩ => ⟨tableL.toArray, rfl, h1, ?_⟩
  intro w2 h2
  subst h2
  refine cnd_true rfl ⟨SetsAt_new _ _ _ 0 (by simp [tableL]) (by simp [tableL, Value.oneCell']), ?_⟩
  intro w3 h3
  have h3 := h3.trans (setCellsAt_new w1 _ _ (by simp [tableL]))
  subst h3
  have hw : IntKind.i64.wrap (fn : Int) = fn := i64_in (by omega) (by omega)
  have hcell : ∀ (t : TypeId), (w1.alloc (.cells tableL.toArray t)).cell? ((Addr.mk w1.heap.size 0 none).add ((fn : Int).toNat * 1)) = some (fnv k) := by
    intro t
    rw [add_block, cell_new]
    simpa using hk
  rw [hw]
  refine cnd_false (by simp; omega) ⟨⟨by omega, by omega⟩, _, hcell _, false, fun w => ?_, ?_⟩
  · kernel_rfl
  refine ⟨⟨by omega, by omega⟩, _, hcell _, ?_⟩
  show cnd (entersB _ k) _ _
  refine cnd_true he ?_
  refine (hc _).mono fun e w' ⟨h4, hl4⟩ => ⟨r, h4, rfl, ?_⟩
  exact hl1.trans ((Later.alloc' _ _).trans hl4)
theorem word_Op_bad (fn : Int) (h0 : 0 ≤ fn) (h1 : fn < 256) (hfn : fn = 0 ∨ 15 ≤ fn) (a b : Int) (w : World) :
    Calls Try.prog word_Op.N #[.int .u8 fn, u64v a, u64v b] w (Gives (pairv (u64v 0) (i64v 2)) w) := by
  refine word_Op.calls ?_
  refine (word_table_ok w).mono fun e w1 ⟨h1, hl1⟩ => ⟨tableL.toArray, rfl, h1, ?_⟩
  intro w2 h2
  subst h2
  refine cnd_true rfl ⟨SetsAt_new _ _ _ 0 (by simp [tableL]) (by simp [tableL, Value.oneCell']), ?_⟩
  intro w3 h3
  have h3 := h3.trans (setCellsAt_new w1 _ _ (by simp [tableL]))
  subst h3
  have hw : IntKind.i64.wrap fn = fn := i64_in (by omega) (by omega)
  rw [hw]
  have hl : ∀ o, Later w (w1.alloc o) := fun o => hl1.alloc o
  rcases hfn with rfl | hfn
  · refine cnd_false (by decide) ⟨⟨by omega, by omega⟩, .nilFunc, ?_, true, fun w => ?_, ?_⟩
    · show (w1.alloc _).cell? (Addr.mk w1.heap.size 0 none) = _
      rw [cell_new]; rfl
    · kernel_rfl
    · exact cnd_true rfl ⟨rfl, hl _⟩
  · exact cnd_true (by simp; omega) ⟨rfl, hl _⟩
theorem word_Op_ok (fn a b : Int) (h0 : 0 ≤ fn) (h1 : fn < 256) (ha : 0 ≤ a) (ha1 : a < 18446744073709551616) (hb : 0 ≤ b) (hb1 : b < 18446744073709551616) (w : World) :
    Calls Try.prog word_Op.N #[.int .u8 fn, u64v a, u64v b] w (Gives (pairv (u64v (opv fn a b)) (i64v (ope fn))) w) := by
  by_cases h : fn = 0 ∨ 15 ≤ fn
  · have e1 : opv fn a b = 0 := by unfold opv; repeat' (rw [if_neg (by omega)])
    have e2 : ope fn = 2 := by unfold ope; rw [if_neg (by omega)]
    rw [e1, e2]
    exact word_Op_bad fn h0 h1 h a b w
  · have e2 : ope fn = 0 := by unfold ope; rw [if_pos (by omega)]
    rw [e2]
    have : fn = 1 ∨ fn = 2 ∨ fn = 3 ∨ fn = 4 ∨ fn = 5 ∨ fn = 6 ∨ fn = 7 ∨ fn = 8 ∨ fn = 9 ∨ fn = 10 ∨ fn = 11 ∨ fn = 12 ∨ fn = 13 ∨ fn = 14 := by omega
    rcases this with rfl | rfl | rfl | rfl | rfl | rfl | rfl | rfl | rfl | rfl | rfl | rfl | rfl | rfl
    · exact word_Op_at 1 (by decide) _ rfl (by kernel_rfl) a b _ (fun w => word_table_1_ok a b w) w
    · exact word_Op_at 2 (by decide) _ rfl (by kernel_rfl) a b _ (fun w => word_table_2_ok a b w) w
    · exact word_Op_at 3 (by decide) _ rfl (by kernel_rfl) a b _ (fun w => word_sll_ok a b hb w) w
    · exact word_Op_at 4 (by decide) _ rfl (by kernel_rfl) a b _ (fun w => word_slt_ok a b w) w
    · exact word_Op_at 5 (by decide) _ rfl (by kernel_rfl) a b _ (fun w => word_table_3_ok a b w) w
    · exact word_Op_at 6 (by decide) _ rfl (by kernel_rfl) a b _ (fun w => word_table_4_ok a b w) w
    · exact word_Op_at 7 (by decide) _ rfl (by kernel_rfl) a b _ (fun w => word_srl_ok a b hb w) w
    · exact word_Op_at 8 (by decide) _ rfl (by kernel_rfl) a b _ (fun w => word_sra_ok a b hb w) w
    · exact word_Op_at 9 (by decide) _ rfl (by kernel_rfl) a b _ (fun w => word_table_5_ok a b w) w
    · exact word_Op_at 10 (by decide) _ rfl (by kernel_rfl) a b _ (fun w => word_table_6_ok a b w) w
    · exact word_Op_at 11 (by decide) _ rfl (by kernel_rfl) a b _ (fun w => word_table_7_ok a b w) w
    · exact word_Op_at 12 (by decide) _ rfl (by kernel_rfl) a b _ (fun w => word_mulhu_ok a b ha ha1 hb hb1 w) w
    · exact word_Op_at 13 (by decide) _ rfl (by kernel_rfl) a b _ (fun w => word_divu_ok a b ha ha1 hb w) w
    · exact word_Op_at 14 (by decide) _ rfl (by kernel_rfl) a b _ (fun w => word_remu_ok a b ha hb w) w

/-! ### Sign, Fits -/
/-- The number of so many bits, with its sign, out of a word. -/
def signI (v : Int) (n : Nat) : Int := if 2 ^ (n - 1) ≤ v % 2 ^ n then v % 2 ^ n - 2 ^ n else v % 2 ^ n
def signv (v bits : Int) : Int := if 1 ≤ bits ∧ bits ≤ 64 then signI v bits.toNat % 18446744073709551616 else 0
def signe (bits : Int) : Int := if 1 ≤ bits ∧ bits ≤ 64 then 0 else 2
theorem pow_split (n : Nat) (h : n ≤ 64) : (2 : Int) ^ n * 2 ^ (64 - n) = 18446744073709551616 := by
  rw [← Int.pow_add, show n + (64 - n) = 64 by omega]; rfl
theorem sign_core (v : Int) (n : Nat) (h1 : 1 ≤ n) (h2 : n ≤ 64) : IntKind.i64.wrap (v * 2 ^ (64 - n) % 18446744073709551616) / 2 ^ (64 - n) = signI v n := by
  have hp := pow_split n h2
  have hk : (0 : Int) < 2 ^ (64 - n) := two_pow_pos _
  have hn : (0 : Int) < 2 ^ n := two_pow_pos _
  have hhalf : (2 : Int) ^ n = 2 * 2 ^ (n - 1) := by
    obtain ⟨m, rfl⟩ : ∃ m, n = m + 1 := ⟨n - 1, by omega⟩
    rw [Int.pow_succ]; simp; omega
  have e : v * 2 ^ (64 - n) % 18446744073709551616 = v % 2 ^ n * 2 ^ (64 - n) := by
    rw [← hp, Int.mul_comm v, Int.mul_comm (2 ^ n), Int.mul_emod_mul_of_pos _ _ hk, Int.mul_comm]
  rw [e]
  unfold signI
  have r0 := Int.emod_nonneg v (show (2 : Int) ^ n ≠ 0 by omega)
  have r1 := Int.emod_lt_of_pos v hn
  generalize v % 2 ^ n = r at *
  generalize hK : (2 : Int) ^ (64 - n) = K at *
  generalize hH : (2 : Int) ^ (n - 1) = H at *
  generalize hN : (2 : Int) ^ n = N at *
  have hrK : r * K < 18446744073709551616 := by rw [← hp]; exact Int.mul_lt_mul_of_pos_right r1 hk
  have hrK0 : 0 ≤ r * K := Int.mul_nonneg r0 (by omega)
  have hHK : H * K = 9223372036854775808 := by
    have : 2 * (H * K) = 18446744073709551616 := by rw [← Int.mul_assoc, ← hhalf]; exact hp
    omega
  rw [wrap_i64, Int.emod_eq_of_lt hrK0 hrK]
  by_cases hr : H ≤ r
  · have : H * K ≤ r * K := Int.mul_le_mul_of_nonneg_right hr (by omega)
    rw [if_pos (by omega), if_pos hr, ← hp, ← Int.sub_mul, Int.mul_ediv_cancel _ (by omega)]
  · have : (r + 1) * K ≤ H * K := Int.mul_le_mul_of_nonneg_right (by omega) (by omega)
    rw [Int.add_mul] at this
    rw [if_neg (by omega), if_neg hr, Int.mul_ediv_cancel _ (by omega)]
theorem word_Sign_ok (v bits : Int) (hb : -9223372036854775808 ≤ bits) (hb1 : bits < 9223372036854775808) (w : World) :
    Calls Try.prog word_Sign.N #[u64v v, i64v bits] w (Gives (pairv (u64v (signv v bits)) (i64v (signe bits))) w) := by
  refine word_Sign.calls ?_
  unfold word_Sign.vc
  by_cases h : 1 ≤ bits ∧ bits ≤ 64
  · obtain ⟨h1, h2⟩ := h
    have hw : IntKind.i64.wrap (64 - bits) = 64 - bits := i64_in (by omega) (by omega)
    rw [hw]
    refine cnd_false (by simp; omega) (cnd_false (by simp; omega) (cnd_false (by simp; omega) (cnd_false (by simp; omega) ⟨?_, Later.refl _⟩)))
    have e1 : min (64 - bits).toNat 64 = 64 - bits.toNat := by omega
    have e2 : signv v bits = signI v bits.toNat % 18446744073709551616 := by unfold signv; rw [if_pos ⟨h1, h2⟩]
    have e3 : signe bits = 0 := by unfold signe; rw [if_pos ⟨h1, h2⟩]
    rw [e1, e2, e3, wrap_u64 (v * _), fdiv_nn _ (Int.le_of_lt (two_pow_pos _)), sign_core v bits.toNat (by omega) (by omega), wrap_u64]
  · have e2 : signv v bits = 0 := by unfold signv; rw [if_neg h]
    have e3 : signe bits = 2 := by unfold signe; rw [if_neg h]
    rw [e2, e3]
    by_cases h1 : bits < 1
    · exact cnd_true (by simpa using h1) ⟨rfl, Later.refl _⟩
    · exact cnd_false (by simpa using h1) (cnd_true (by simp; omega) ⟨rfl, Later.refl _⟩)
/-- Has a number room in so many bits? -/
def fitsv (v bits : Int) : Bool := decide (1 ≤ bits ∧ bits ≤ 64 ∧ -2 ^ (bits.toNat - 1) ≤ v ∧ v < 2 ^ (bits.toNat - 1))
theorem half_pow (n : Nat) (h1 : 1 ≤ n) : (2 : Int) ^ n = 2 * 2 ^ (n - 1) := by
  obtain ⟨m, rfl⟩ : ∃ m, n = m + 1 := ⟨n - 1, by omega⟩
  rw [Int.pow_succ]; simp; omega
theorem pow_dvd64 (n : Nat) (h : n ≤ 64) : (2 : Int) ^ n ∣ 18446744073709551616 := ⟨_, (pow_split n h).symm⟩
theorem pow_le63 (n : Nat) (h1 : 1 ≤ n) (h : n ≤ 64) : (2 : Int) ^ (n - 1) ≤ 9223372036854775808 := by
  have e := pow_split n h
  have := half_pow n h1
  have hk : (1 : Int) ≤ 2 ^ (64 - n) := two_pow_pos _
  have hp : (0 : Int) < 2 ^ (n - 1) := two_pow_pos _
  have : 2 ^ (n - 1) * 1 ≤ (2 : Int) ^ (n - 1) * 2 ^ (64 - n) := Int.mul_le_mul_of_nonneg_left hk (by omega)
  rw [‹(2 : Int) ^ n = _›, Int.mul_assoc] at e
  omega
theorem signI_range (v : Int) (n : Nat) (h1 : 1 ≤ n) : -2 ^ (n - 1) ≤ signI v n ∧ signI v n < 2 ^ (n - 1) := by
  have hn := half_pow n h1
  have hp : (0 : Int) < 2 ^ (n - 1) := two_pow_pos _
  have r0 := Int.emod_nonneg v (show (2 : Int) ^ n ≠ 0 by omega)
  have r1 := Int.emod_lt_of_pos v (show (0 : Int) < 2 ^ n by omega)
  unfold signI
  split <;> omega
theorem signI_of_range (v : Int) (n : Nat) (h1 : 1 ≤ n) (h0 : -2 ^ (n - 1) ≤ v) (h2 : v < 2 ^ (n - 1)) : signI v n = v := by
  have hn := half_pow n h1
  have hp : (0 : Int) < 2 ^ (n - 1) := two_pow_pos _
  unfold signI
  by_cases hv : 0 ≤ v
  · rw [Int.emod_eq_of_lt hv (by omega), if_neg (by omega)]
  · have : v % 2 ^ n = v + 2 ^ n := by
      rw [← Int.add_emod_right]
      exact Int.emod_eq_of_lt (by omega) (by omega)
    rw [this, if_pos (by omega)]
    omega
theorem signI_mod (v : Int) (n : Nat) (h : n ≤ 64) : signI (v % 18446744073709551616) n = signI v n := by
  unfold signI
  rw [Int.emod_emod_of_dvd _ (pow_dvd64 n h)]
theorem wrap_i64_small {x : Int} (h0 : -9223372036854775808 ≤ x) (h1 : x < 9223372036854775808) : IntKind.i64.wrap (x % 18446744073709551616) = x := by
  rw [wrap_i64, Int.emod_emod_of_dvd _ (Int.dvd_refl _)]
  split <;> omega
theorem word_Fits_ok (v bits : Int) (hv : -9223372036854775808 ≤ v) (hv1 : v < 9223372036854775808) (hb : -9223372036854775808 ≤ bits) (hb1 : bits < 9223372036854775808) (w : World) :
    Calls Try.prog word_Fits.N #[i64v v, i64v bits] w (Gives (.bool (fitsv v bits)) w) := by
  refine word_Fits.calls ?_
  unfold word_Fits.vc
  refine (word_Sign_ok _ bits hb hb1 _).mono fun e w' ⟨he, hl⟩ => ⟨_, _, he, ?_⟩
  by_cases h : 1 ≤ bits ∧ bits ≤ 64
  · have e2 : signv (IntKind.u64.wrap v) bits = signI v bits.toNat % 18446744073709551616 := by
      unfold signv; rw [if_pos h, wrap_u64, signI_mod _ _ (by omega)]
    have e3 : signe bits = 0 := by unfold signe; rw [if_pos h]
    have hr := signI_range v bits.toNat (by omega)
    have hp := pow_le63 bits.toNat (by omega) (by omega)
    rw [e2, e3, wrap_i64_small (by omega) (by omega)]
    refine cnd_true rfl ⟨?_, hl⟩
    congr 2
    rw [Bool.eq_iff_iff]
    simp only [fitsv, beq_iff_eq, decide_eq_true_eq]
    refine ⟨fun he => ⟨h.1, h.2, by omega, by omega⟩, fun he => signI_of_range v _ (by omega) (by omega) (by omega)⟩
  · have e3 : signe bits = 2 := by unfold signe; rw [if_neg h]
    rw [e3]
    refine cnd_false rfl ⟨?_, hl⟩
    have : fitsv v bits = false := by unfold fitsv; rw [decide_eq_false_iff_not]; intro hh; exact h ⟨hh.1, hh.2.1⟩
    rw [this]

/-! ### Bytes, Word -/
def bytev (v : Int) (j : Nat) : Int := v / 2 ^ (8 * j) % 256
def bytesCells (v : Int) (k : Nat) : List Int := (List.range 9).map fun j => if j < k then bytev v j else 0
/-- The lowest bytes of a word. -/
def bytesOf (v : Int) (n : Nat) : ByteArray := strOf ((List.range n).map (bytev v))
theorem word_Bytes_ok (v n : Int) (hv : 0 ≤ v) (hv1 : v < 18446744073709551616) (w : World) :
    Calls Try.prog word_Bytes.N #[u64v v, i64v n] w (Gives (if 1 ≤ n ∧ n ≤ 8 then pairv (.string (bytesOf v n.toNat)) okv else pairv (.string ⟨#[]⟩) (i64v 2)) w) := by
  refine word_Bytes.calls ?_
  unfold word_Bytes.vc
  intro w1 h1
  refine ⟨fun vs w' => ∃ k : Nat, k ≤ 9 ∧ vs = [i64v k] ∧ w' = w.alloc (.cells ((bytesCells v k).map (Value.int .u8)).toArray 46), fun vs _ => match vs with | [.int _ k] => (9 - k).toNat | _ => 0, ⟨0, by omega, rfl, h1⟩, ?_⟩
  rintro g s8 w2 ⟨k, hk, hs, rfl⟩
  obtain rfl : s8 = k := by simpa using hs
  refine cnd_of (fun hlt => ?_) (fun hge => ?_)
  · have hlt : k < 9 := by have := of_decide_eq_true hlt; omega
    have hw : IntKind.i64.wrap (8 * (k : Int)) = 8 * k := i64_in (by omega) (by omega)
    rw [hw]
    have ha : (Addr.mk w.heap.size 0 none).add ((k : Int).toNat * 1) = ⟨w.heap.size, k, none⟩ := by rw [add_block]; simp
    rw [ha]
    refine cnd_false (by simp; omega) ⟨⟨by omega, by omega⟩, ⟨?_, frozen_new _ _ _ _⟩, ?_⟩
    · rw [cell_new]; simp [bytesCells]; omega
    intro w3 h3
    rw [setCell_alloc] at h3
    have hk1 : IntKind.i64.wrap ((k : Int) + 1) = ((k + 1 : Nat) : Int) := by rw [i64_in (by omega) (by omega)]; omega
    rw [hk1]
    refine ⟨⟨k + 1, by omega, rfl, ?_⟩, by simp only; omega⟩
    rw [h3]
    congr 2
    apply Array.ext_getElem?
    intro i
    rw [Array.getElem?_setIfInBounds]
    simp only [List.getElem?_toArray, List.getElem?_map, bytesCells, List.size_toArray, List.length_map, List.length_range, List.getElem?_range]
    by_cases hi : k = i
    · subst hi
      simp only [if_true, hlt, List.getElem?_range hlt, Option.map_some, Nat.lt_succ_self]
      congr 2
      rw [wrap_u8, fdiv_nn _ (Int.le_of_lt (two_pow_pos _))]
      unfold bytev
      congr 2
      congr 1
      omega
    · rw [if_neg hi]
      by_cases hi9 : i < 9
      · simp only [List.getElem?_range hi9, Option.map_some]
        congr 2
        by_cases hik : i < k
        · rw [if_pos hik, if_pos (by omega)]
        · rw [if_neg hik, if_neg (by omega)]
      · rw [List.getElem?_eq_none (by simp; omega)]
        rfl
  · have hge : k = 9 := by
      have : ¬ ((k : Int) < 9) := by simpa using hge
      omega
    subst hge
    by_cases h : 1 ≤ n ∧ n ≤ 8
    · rw [if_pos h]
      refine cnd_false (by simp; omega) (cnd_false (by simp; omega) ⟨⟨by omega, by omega⟩, ?_⟩)
      refine runs_bytes_string (ns := (List.range n.toNat).map (bytev v)) (e := 5) (by kernel_rfl) (by kernel_rfl) (by kernel_rfl) (by simp) ?_ ⟨_, rfl, rfl, Later.alloc' _ _⟩
      refine CellsAt_new _ _ _ _ _ 0 ?_
      intro j u hu
      simp only [List.getElem?_map, Nat.zero_add, List.getElem?_toArray, bytesCells] at hu ⊢
      have hj : j < n.toNat := by
        rcases Nat.lt_or_ge j n.toNat with h' | h'
        · exact h'
        · rw [List.getElem?_eq_none (by simpa using h')] at hu; simp at hu
      rw [List.getElem?_range hj] at hu
      rw [List.getElem?_range (by omega)]
      simp only [Option.map_some] at hu ⊢
      rw [if_pos (by omega)]
      exact hu
    · rw [if_neg h]
      by_cases h1 : n < 1
      · exact cnd_true (by simpa using h1) ⟨rfl, Later.alloc' _ _⟩
      · exact cnd_false (by simpa using h1) (cnd_true (by simp; omega) ⟨rfl, Later.alloc' _ _⟩)
/-- The number of bytes, the lowest first. -/
def wordL : List UInt8 → Nat
  | [] => 0
  | b :: l => b.toNat + 256 * wordL l
theorem wordL_lt : ∀ l : List UInt8, wordL l < 2 ^ (8 * l.length) := by
  intro l
  induction l with
  | nil => simp [wordL]
  | cons b l ih =>
    have hb : b.toNat < 256 := b.toNat_lt
    simp only [wordL, List.length_cons]
    rw [show 8 * (l.length + 1) = 8 + 8 * l.length by omega, Nat.pow_add]
    generalize 2 ^ (8 * l.length) = K at *
    omega
theorem wordL_snoc (b : UInt8) : ∀ l : List UInt8, wordL (l ++ [b]) = wordL l + b.toNat * 2 ^ (8 * l.length) := by
  intro l
  induction l with
  | nil => simp [wordL]
  | cons c l ih =>
    simp only [List.cons_append, wordL, ih, List.length_cons]
    rw [show 8 * (l.length + 1) = 8 + 8 * l.length by omega, Nat.pow_add]
    rw [Nat.mul_add, show (2 : Nat) ^ 8 = 256 from rfl, ← Nat.mul_assoc 256, Nat.mul_comm 256 b.toNat, Nat.mul_assoc]
    omega
theorem or_add (a b k : Nat) (h : a < 2 ^ k) : a ||| b * 2 ^ k = a + b * 2 ^ k := by
  have := Nat.two_pow_add_eq_or_of_lt h b
  rw [Nat.or_comm, Nat.mul_comm, ← this]; omega
theorem get_byte {s : ByteArray} {k : Nat} (h : k < s.size) : s[k]? = some (s.data.toList[k]'(by simpa using h)) := by
  rw [getElem?_pos s k h]; rfl
theorem word_Word_ok (s : ByteArray) (hs : s.size < 9223372036854775808) (w : World) :
    Calls Try.prog word_Word.N #[.string s] w (Gives (if 1 ≤ s.size ∧ s.size ≤ 8 then pairv (u64v (wordL s.data.toList)) okv else pairv (u64v 0) (i64v 2)) w) := by
  refine word_Word.calls ?_
  unfold word_Word.vc
  have hlen : s.data.toList.length = s.size := by simp
  by_cases h : 1 ≤ s.size ∧ s.size ≤ 8
  · rw [if_pos h]
    refine cnd_false (by simp; omega) (cnd_false (by simp; omega) ?_)
    refine ⟨fun vs w' => ∃ k : Nat, k ≤ s.size ∧ vs = [u64v (wordL (s.data.toList.take k)), i64v k] ∧ w' = w, fun vs _ => match vs with | [_, .int _ k] => (s.size - k).toNat | _ => 0, ⟨0, by omega, rfl, rfl⟩, ?_⟩
    rintro g v s15 w2 ⟨k, hk, hs', rfl⟩
    simp only [List.cons.injEq, Value.int.injEq, true_and, and_true] at hs'
    obtain ⟨rfl, rfl⟩ := hs'
    have hb := wordL_lt (s.data.toList.take k)
    rw [List.length_take, Nat.min_eq_left (by omega)] at hb
    have hb64 : (2 : Nat) ^ (8 * k) ≤ 2 ^ 64 := Nat.pow_le_pow_right (by decide) (by omega)
    refine cnd_of (fun hlt => ?_) (fun hge => ?_)
    · have hlt : k < s.size := by have := of_decide_eq_true hlt; omega
      have hw : IntKind.i64.wrap (8 * (k : Int)) = 8 * k := i64_in (by omega) (by omega)
      rw [hw]
      obtain ⟨b, hbk⟩ : ∃ b, s.data.toList[k]'(by simpa using hlt) = b := ⟨_, rfl⟩
      refine ⟨by omega, b, by rw [← hbk]; exact get_byte hlt, cnd_false (by simp; omega) ?_⟩
      have htake : s.data.toList.take (k + 1) = s.data.toList.take k ++ [b] := by
        rw [List.take_add_one, List.getElem?_eq_getElem (by simpa using hlt), hbk]; rfl
      have hk1 : IntKind.i64.wrap ((k : Int) + 1) = ((k + 1 : Nat) : Int) := by rw [i64_in (by omega) (by omega)]; omega
      have hb8 : b.toNat < 256 := b.toNat_lt
      have hsh : b.toNat * 2 ^ (8 * k) < 2 ^ 64 := by
        have h56 : (2 : Nat) ^ (8 * k) ≤ 2 ^ 56 := Nat.pow_le_pow_right (by decide) (by omega)
        have : b.toNat * 2 ^ (8 * k) ≤ 255 * 2 ^ 56 := Nat.mul_le_mul (by omega) h56
        omega
      have e1 : IntKind.u64.wrap (IntKind.u64.wrap ((b.toNat : Nat) : Int) * 2 ^ min (8 * (k : Int)).toNat 64) = ((b.toNat * 2 ^ (8 * k) : Nat) : Int) := by
        rw [u64_in (x := (b.toNat : Int)) (by omega) (by omega), show min (8 * (k : Int)).toNat 64 = 8 * k by omega]
        have : ((b.toNat : Nat) : Int) * 2 ^ (8 * k) = ((b.toNat * 2 ^ (8 * k) : Nat) : Int) := by simp
        rw [this, u64_in (by omega) (by omega)]
      rw [hk1, e1, bits_or_u64 _ _ (by omega) (by omega), or_add _ _ _ hb]
      refine ⟨⟨k + 1, by omega, ?_, rfl⟩, by simp only; omega⟩
      rw [htake, wordL_snoc, List.length_take, Nat.min_eq_left (by omega)]
    · have hge : k = s.size := by have := of_decide_eq_false hge; omega
      subst hge
      rw [List.take_of_length_le (by omega)]
      exact ⟨rfl, Later.refl _⟩
  · rw [if_neg h]
    by_cases h1 : s.size < 1
    · exact cnd_true (by simp; omega) ⟨rfl, Later.refl _⟩
    · exact cnd_false (by simp; omega) (cnd_true (by simp; omega) ⟨rfl, Later.refl _⟩)
end Go.Proofs.Ytoncpheocnjooaa
