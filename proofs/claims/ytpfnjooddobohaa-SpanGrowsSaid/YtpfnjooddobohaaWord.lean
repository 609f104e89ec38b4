/-
The contracts of package word: what each function of the machine's numbers comes to.
Conditions: each number is of its kind, as each theorem says.
-/
import Derived.Test.YtpfnjooddobohaaVword
import Derived.Test.YtpfnjooddobohaaVcNum
namespace Go.Proofs.Ytpfnjooddobohaa
open Go Go.Vc Go.RowKit
set_option linter.unusedVariables false
set_option linter.unusedSimpArgs false
set_option maxRecDepth 100000

/-- A call that comes to a value and turns nothing old. -/
def Gives (v : Value) (w : World) (e : Ending) (w' : World) : Prop := e = .returned v ∧ Later w w'
abbrev fnv (f : FuncId) : Value := .func (.func f) #[] #[]
abbrev u64v (a : Int) : Value := .int .u64 a
abbrev i64v (a : Int) : Value := .int .i64 a
abbrev okv : Value := .int .i64 0
abbrev pairv (a b : Value) : Value := .tuple #[a, b]

theorem tmod_nn {a : Int} (b : Int) (h : 0 ≤ a) : a.tmod b = a % b := Int.tmod_eq_emod_of_nonneg h
theorem fdiv_nn (a : Int) {b : Int} (h : 0 ≤ b) : a.fdiv b = a / b := Int.fdiv_eq_ediv_of_nonneg a h
theorem tdiv_nn {a : Int} (b : Int) (h : 0 ≤ a) : a.tdiv b = a / b := Int.tdiv_eq_ediv_of_nonneg h
theorem two_pow_pos (n : Nat) : (0 : Int) < 2 ^ n := Int.pow_pos (by decide)

theorem word_table_1_ok (a b : Int) (w : World) : Calls Try.prog word_table_1.N #[u64v a, u64v b] w (Gives (u64v ((a + b) % 18446744073709551616)) w) := by
  refine word_table_1.calls ?_
  exact ⟨by rw [wrap_u64], Later.refl _⟩
theorem word_table_2_ok (a b : Int) (w : World) : Calls Try.prog word_table_2.N #[u64v a, u64v b] w (Gives (u64v ((a - b) % 18446744073709551616)) w) := by
  refine word_table_2.calls ?_
  exact ⟨by rw [wrap_u64], Later.refl _⟩
theorem min64 {b : Int} (h : 0 ≤ b) : min (b % 64).toNat 64 = (b % 64).toNat := by omega
theorem word_sll_ok (a b : Int) (hb : 0 ≤ b) (w : World) : Calls Try.prog word_sll.N #[u64v a, u64v b] w (Gives (u64v (a * 2 ^ (b % 64).toNat % 18446744073709551616)) w) := by
  refine word_sll.calls ?_
  unfold word_sll.vc
  rw [tmod_nn 64 hb]
  refine cnd_false (by simp; omega) ?_
  exact ⟨by rw [wrap_u64, min64 hb], Later.refl _⟩
theorem word_srl_ok (a b : Int) (hb : 0 ≤ b) (w : World) : Calls Try.prog word_srl.N #[u64v a, u64v b] w (Gives (u64v (a / 2 ^ (b % 64).toNat)) w) := by
  refine word_srl.calls ?_
  unfold word_srl.vc
  rw [tmod_nn 64 hb]
  refine cnd_false (by simp; omega) ?_
  exact ⟨by rw [min64 hb, fdiv_nn _ (Int.le_of_lt (two_pow_pos _))], Later.refl _⟩
theorem word_sra_ok (a b : Int) (hb : 0 ≤ b) (w : World) : Calls Try.prog word_sra.N #[u64v a, u64v b] w (Gives (u64v ((IntKind.i64.wrap a / 2 ^ (b % 64).toNat) % 18446744073709551616)) w) := by
  refine word_sra.calls ?_
  unfold word_sra.vc
  rw [tmod_nn 64 hb]
  refine cnd_false (by simp; omega) ?_
  exact ⟨by rw [min64 hb, fdiv_nn _ (Int.le_of_lt (two_pow_pos _)), wrap_u64], Later.refl _⟩
theorem word_bit_ok (c : Bool) (w : World) : Calls Try.prog word_bit.N #[.bool c] w (Gives (u64v (if c then 1 else 0)) w) := by
  refine word_bit.calls ?_
  exact cnd_of (fun h => by subst h; exact ⟨rfl, Later.refl _⟩) (fun h => by subst h; exact ⟨rfl, Later.refl _⟩)
theorem word_slt_ok (a b : Int) (w : World) : Calls Try.prog word_slt.N #[u64v a, u64v b] w (Gives (u64v (if IntKind.i64.wrap a < IntKind.i64.wrap b then 1 else 0)) w) := by
  refine word_slt.calls ?_
  exact (word_bit_ok _ _).mono fun e w' ⟨he, hl⟩ => ⟨_, he, by simp, hl⟩
theorem word_table_3_ok (a b : Int) (w : World) : Calls Try.prog word_table_3.N #[u64v a, u64v b] w (Gives (u64v (if a < b then 1 else 0)) w) := by
  refine word_table_3.calls ?_
  exact (word_bit_ok _ _).mono fun e w' ⟨he, hl⟩ => ⟨_, he, by simp, hl⟩
theorem word_table_4_ok (a b : Int) (w : World) : Calls Try.prog word_table_4.N #[u64v a, u64v b] w (Gives (u64v (bits .xor .u64 a b)) w) := by
  refine word_table_4.calls ?_
  exact ⟨rfl, Later.refl _⟩
theorem word_table_5_ok (a b : Int) (w : World) : Calls Try.prog word_table_5.N #[u64v a, u64v b] w (Gives (u64v (bits .or .u64 a b)) w) := by
  refine word_table_5.calls ?_
  exact ⟨rfl, Later.refl _⟩
theorem word_table_6_ok (a b : Int) (w : World) : Calls Try.prog word_table_6.N #[u64v a, u64v b] w (Gives (u64v (bits .and .u64 a b)) w) := by
  refine word_table_6.calls ?_
  exact ⟨rfl, Later.refl _⟩
theorem word_table_7_ok (a b : Int) (w : World) : Calls Try.prog word_table_7.N #[u64v a, u64v b] w (Gives (u64v (a * b % 18446744073709551616)) w) := by
  refine word_table_7.calls ?_
  exact ⟨by rw [wrap_u64], Later.refl _⟩
theorem word_divu_ok (a b : Int) (ha : 0 ≤ a) (ha1 : a < 18446744073709551616) (hb : 0 ≤ b) (w : World) : Calls Try.prog word_divu.N #[u64v a, u64v b] w (Gives (u64v (if b = 0 then 18446744073709551615 else a / b)) w) := by
  refine word_divu.calls ?_
  refine cnd_of (fun h => ?_) (fun h => ?_)
  · have h : b = 0 := by simpa using h
    subst h
    exact ⟨rfl, Later.refl _⟩
  · have h : ¬ b = 0 := by simpa using h
    refine cnd_false (by simpa using h) ⟨?_, Later.refl _⟩
    have h1 : a / b ≤ a := Int.ediv_le_self _ ha
    have h0 : 0 ≤ a / b := Int.ediv_nonneg ha hb
    rw [if_neg h, tdiv_nn _ ha, u64_in h0 (by omega)]
theorem word_remu_ok (a b : Int) (ha : 0 ≤ a) (hb : 0 ≤ b) (w : World) : Calls Try.prog word_remu.N #[u64v a, u64v b] w (Gives (u64v (if b = 0 then a else a % b)) w) := by
  refine word_remu.calls ?_
  refine cnd_of (fun h => ?_) (fun h => ?_)
  · have h : b = 0 := by simpa using h
    subst h
    exact ⟨rfl, Later.refl _⟩
  · have h : ¬ b = 0 := by simpa using h
    refine cnd_false (by simpa using h) ⟨?_, Later.refl _⟩
    rw [if_neg h, tmod_nn _ ha]

/-! ### the table -/
def tableL : List Value := [.nilFunc, fnv word_table_1.N, fnv word_table_2.N, fnv word_sll.N, fnv word_slt.N, fnv word_table_3.N, fnv word_table_4.N, fnv word_srl.N, fnv word_sra.N, fnv word_table_5.N, fnv word_table_6.N, fnv word_table_7.N, fnv word_mulhu.N, fnv word_divu.N, fnv word_remu.N]
theorem word_table_ok (w : World) : Calls Try.prog word_table.N #[] w (Gives (.agg tableL.toArray) w) := by
  refine word_table.calls ?_
  intro w1 h1
  subst h1
  refine ⟨SetsAt_new _ _ _ 0 (by simp) (by simp [Value.oneCell']), ?_⟩
  intro w2 h2
  rw [setCellsAt_new _ _ _ (by simp)] at h2
  subst h2
  exact ⟨tableL.toArray, rfl, CellsAt_new' _ _ _ _, rfl, Later.alloc' _ _⟩

theorem math_bits_Mul64_ok (a b : Int) (ha : 0 ≤ a) (ha1 : a < 18446744073709551616) (hb : 0 ≤ b) (hb1 : b < 18446744073709551616) (w : World) :
    Calls Try.prog math_bits_Mul64.N #[u64v a, u64v b] w (Gives (pairv (u64v (a * b / 18446744073709551616)) (u64v (a * b % 18446744073709551616))) w) := by
  refine math_bits_Mul64.calls ?_
  unfold math_bits_Mul64.vc
  have e1 : ∀ x : Int, 0 ≤ x → x < 18446744073709551616 → bits .and .u64 x 4294967295 = x % 4294967296 := by
    intro x h0 h1
    obtain ⟨n, rfl⟩ := Int.eq_ofNat_of_zero_le h0
    exact low32_and n (by omega)
  have e2 : ∀ x : Int, x.fdiv 4294967296 = x / 4294967296 := fun x => fdiv_nn x (by decide)
  have hm : ∀ x : Int, 0 ≤ x % 18446744073709551616 ∧ x % 18446744073709551616 < 18446744073709551616 := fun x => ⟨Int.emod_nonneg _ (by decide), Int.emod_lt_of_pos _ (by decide)⟩
  simp only [wrap_u64, e2]
  rw [e1 a ha ha1, e1 b hb hb1, e1 _ (hm _).1 (hm _).2, mul_hi a b ha ha1 hb hb1]
  exact ⟨rfl, Later.refl _⟩
theorem word_mulhu_ok (a b : Int) (ha : 0 ≤ a) (ha1 : a < 18446744073709551616) (hb : 0 ≤ b) (hb1 : b < 18446744073709551616) (w : World) :
    Calls Try.prog word_mulhu.N #[u64v a, u64v b] w (Gives (u64v (a * b / 18446744073709551616)) w) := by
  refine word_mulhu.calls ?_
  exact (math_bits_Mul64_ok a b ha ha1 hb hb1 _).mono fun e w' ⟨he, hl⟩ => ⟨_, _, he, rfl, hl⟩

/-! ### Op -/
def opv (fn a b : Int) : Int :=
  if fn = 1 then (a + b) % 18446744073709551616
  else if fn = 2 then (a - b) % 18446744073709551616
  else if fn = 3 then a * 2 ^ (b % 64).toNat % 18446744073709551616
  else if fn = 4 then (if IntKind.i64.wrap a < IntKind.i64.wrap b then 1 else 0)
  else if fn = 5 then (if a < b then 1 else 0)
  else if fn = 6 then bits .xor .u64 a b
  else if fn = 7 then a / 2 ^ (b % 64).toNat
  else if fn = 8 then (IntKind.i64.wrap a / 2 ^ (b % 64).toNat) % 18446744073709551616
  else if fn = 9 then bits .or .u64 a b
  else if fn = 10 then bits .and .u64 a b
  else if fn = 11 then a * b % 18446744073709551616
  else if fn = 12 then a * b / 18446744073709551616
  else if fn = 13 then (if b = 0 then 18446744073709551615 else a / b)
  else if fn = 14 then (if b = 0 then a else a % b)
  else 0
def ope (fn : Int) : Int := if 1 ≤ fn ∧ fn ≤ 14 then 0 else 2
theorem word_Op_at (fn : Nat) (hfn : fn < 15) (k : FuncId) (hk : tableL[fn]? = some (fnv k)) (he : entersB Try.prog k = true) (a b r : Int)
    (hc : ∀ w, Calls Try.prog k #[u64v a, u64v b] w (Gives (u64v r) w)) (w : World) :
    Calls Try.prog word_Op.N #[.int .u8 fn, u64v a, u64v b] w (Gives (pairv (u64v r) okv) w) := by
  refine word_Op.calls ?_
  refine (word_table_ok w).mono fun e w1 ⟨h1, hl1⟩ => ⟨tableL.toArray, rfl, h1, ?_⟩
  intro w2 h2
  subst h2
  refine cnd_true rfl ⟨SetsAt_new _ _ _ 0 (by simp [tableL]) (by simp [tableL, Value.oneCell']), ?_⟩
  intro w3 h3
  have h3 := h3.trans (setCellsAt_new w1 _ _ (by simp [tableL]))
  subst h3
  have hw : IntKind.i64.wrap (fn : Int) = fn := i64_in (by omega) (by omega)
  have hcell : ∀ (t : TypeId), (w1.alloc (.cells tableL.toArray t)).cell? ((Addr.mk w1.heap.size 0 none).add ((fn : Int).toNat * 1)) = some (fnv k) := by
    intro t
    rw [add_block, cell_new]
    simpa using hk
  rw [hw]
  refine cnd_false (by simp; omega) ⟨⟨by omega, by omega⟩, _, hcell _, false, fun w => ?_, ?_⟩
  · kernel_rfl
  refine ⟨⟨by omega, by omega⟩, _, hcell _, ?_⟩
  show cnd (entersB _ k) _ _
  refine cnd_true he ?_
  refine (hc _).mono fun e w' ⟨h4, hl4⟩ => ⟨r, h4, rfl, ?_⟩
  exact hl1.trans ((Later.alloc' _ _).trans hl4)
theorem word_Op_bad (fn : Int) (h0 : 0 ≤ fn) (h1 : fn < 256) (hfn : fn = 0 ∨ 15 ≤ fn) (a b : Int) (w : World) :
    Calls Try.prog word_Op.N #[.int .u8 fn, u64v a, u64v b] w (Gives (pairv (u64v 0) (i64v 2)) w) := by
  refine word_Op.calls ?_
  refine (word_table_ok w).mono fun e w1 ⟨h1, hl1⟩ => ⟨tableL.toArray, rfl, h1, ?_⟩
  intro w2 h2
  subst h2
  refine cnd_true rfl ⟨SetsAt_new _ _ _ 0 (by simp [tableL]) (by simp [tableL, Value.oneCell']), ?_⟩
  intro w3 h3
  have h3 := h3.trans (setCellsAt_new w1 _ _ (by simp [tableL]))
  subst h3
  have hw : IntKind.i64.wrap fn = fn := i64_in (by omega) (by omega)
  rw [hw]
  have hl : ∀ o, Later w (w1.alloc o) := fun o => hl1.alloc o
  rcases hfn with rfl | hfn
  · refine cnd_false (by decide) ⟨⟨by omega, by omega⟩, .nilFunc, ?_, true, fun w => ?_, ?_⟩
    · show (w1.alloc _).cell? (Addr.mk w1.heap.size 0 none) = _
      rw [cell_new]; rfl
    · kernel_rfl
    · exact cnd_true rfl ⟨rfl, hl _⟩
  · exact cnd_true (by simp; omega) ⟨rfl, hl _⟩
theorem word_Op_ok (fn a b : Int) (h0 : 0 ≤ fn) (h1 : fn < 256) (ha : 0 ≤ a) (ha1 : a < 18446744073709551616) (hb : 0 ≤ b) (hb1 : b < 18446744073709551616) (w : World) :
    Calls Try.prog word_Op.N #[.int .u8 fn, u64v a, u64v b] w (Gives (pairv (u64v (opv fn a b)) (i64v (ope fn))) w) := by
  by_cases h : fn = 0 ∨ 15 ≤ fn
  · have e1 : opv fn a b = 0 := by unfold opv; repeat' (rw [if_neg (by omega)])
    have e2 : ope fn = 2 := by unfold ope; rw [if_neg (by omega)]
    rw [e1, e2]
    exact word_Op_bad fn h0 h1 h a b w
  · have e2 : ope fn = 0 := by unfold ope; rw [if_pos (by omega)]
    rw [e2]
    have : fn = 1 ∨ fn = 2 ∨ fn = 3 ∨ fn = 4 ∨ fn = 5 ∨ fn = 6 ∨ fn = 7 ∨ fn = 8 ∨ fn = 9 ∨ fn = 10 ∨ fn = 11 ∨ fn = 12 ∨ fn = 13 ∨ fn = 14 := by omega
    rcases this with rfl | rfl | rfl | rfl | rfl | rfl | rfl | rfl | rfl | rfl | rfl | rfl | rfl | rfl
    · exact word_Op_at 1 (by decide) _ rfl (by kernel_rfl) a b _ (fun w => word_table_1_ok a b w) w
    · exact word_Op_at 2 (by decide) _ rfl (by kernel_rfl) a b _ (fun w => word_table_2_ok a b w) w
    · exact word_Op_at 3 (by decide) _ rfl (by kernel_rfl) a b _ (fun w => word_sll_ok a b hb w) w
    · exact word_Op_at 4 (by decide) _ rfl (by kernel_rfl) a b _ (fun w => word_slt_ok a b w) w
    · exact word_Op_at 5 (by decide) _ rfl (by kernel_rfl) a b _ (fun w => word_table_3_ok a b w) w
    · exact word_Op_at 6 (by decide) _ rfl (by kernel_rfl) a b _ (fun w => word_table_4_ok a b w) w
    · exact word_Op_at 7 (by decide) _ rfl (by kernel_rfl) a b _ (fun w => word_srl_ok a b hb w) w
    · exact word_Op_at 8 (by decide) _ rfl (by kernel_rfl) a b _ (fun w => word_sra_ok a b hb w) w
    · exact word_Op_at 9 (by decide) _ rfl (by kernel_rfl) a b _ (fun w => word_table_5_ok a b w) w
    · exact word_Op_at 10 (by decide) _ rfl (by kernel_rfl) a b _ (fun w => word_table_6_ok a b w) w
    · exact word_Op_at 11 (by decide) _ rfl (by kernel_rfl) a b _ (fun w => word_table_7_ok a b w) w
    · exact word_Op_at 12 (by decide) _ rfl (by kernel_rfl) a b _ (fun w => word_mulhu_ok a b ha ha1 hb hb1 w) w
    · exact word_Op_at 13 (by decide) _ rfl (by kernel_rfl) a b _ (fun w => word_divu_ok a b ha ha1 hb w) w
    · exact word_Op_at 14 (by decide) _ rfl (by kernel_rfl) a b _ (fun w => word_remu_ok a b ha hb w) w

end Go.Proofs.Ytpfnjooddobohaa
