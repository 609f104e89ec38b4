/-
The contract of package insn's Encode: an instruction's word is the sum of its parts.
Conditions: each number is of its kind.
-/
import Derived.Test.YtjoikaklincfoaaInsnW
namespace Go.Proofs.Ytjoikaklincfoaa
open Go Go.Vc Go.RowKit
set_option linter.unusedVariables false
set_option linter.unusedSimpArgs false
set_option linter.unnecessarySimpa false
set_option maxRecDepth 100000

def rowOf (o : Int) : Option (Int × Int × Int × FD) := if 1 ≤ o then tabL[(o - 1).toNat]? else none
def baseS (x : Int × Int × Int × FD) (d a b : Int) : Int := x.1 + d * 128 + x.2.1 * 4096 + a * 32768 + b * 1048576 + x.2.2.1 * 33554432
def encv (o d a b v : Int) : Option Int :=
  match rowOf o with
  | some x => if mayF x.2.2.2 d a b v = true then some (baseS x d a b + laidv v x.2.2.2.spans) else none
  | none => none
def encR (r : Option Int) : Value := match r with | some w => pairv (u32v w) (i64v 0) | none => pairv (u32v 0) (i64v 2)
theorem bitsv_q (v fr to at_ N Pw : Int) (hN : (2 : Int) ^ (to - fr + 1).toNat = N) (hP : (2 : Int) ^ at_.toNat = Pw) : ∃ q, 0 ≤ q ∧ q < N ∧ bitsv v fr to at_ = q * Pw := by
  have hp : (0 : Int) < 2 ^ (to - fr + 1).toNat := two_pow_pos _
  refine ⟨_, Int.emod_nonneg (v % 18446744073709551616 / 2 ^ fr.toNat) (Int.ne_of_gt hp), ?_, ?_⟩
  · rw [← hN]; exact Int.emod_lt_of_pos _ hp
  · unfold bitsv; rw [hP]
/-- How a row's parts lie: the number's bits above the others, or in the places of what its form has not. -/
def Parts (x : Int × Int × Int × FD) (d a b v : Int) : Prop :=
  (0 ≤ x.1 ∧ x.1 < 128 ∧ 0 ≤ x.2.1 ∧ x.2.1 < 8 ∧ 0 ≤ x.2.2.1 ∧ x.2.2.1 < 128) ∧ (0 ≤ d ∧ d < 32 ∧ 0 ≤ a ∧ a < 32 ∧ 0 ≤ b ∧ b < 32) ∧
  ((∃ (k : Nat) (y : Int), k ≤ 32 ∧ 0 ≤ y ∧ baseS x d a b < 2 ^ k ∧ laidv v x.2.2.2.spans = y * 2 ^ k ∧ y * 2 ^ k + 2 ^ k ≤ 4294967296) ∨
   (x.2.2.1 = 32 ∧ b = 0 ∧ ∃ q, 0 ≤ q ∧ q < 64 ∧ laidv v x.2.2.2.spans = q * 1048576) ∨
   (d = 0 ∧ x.2.2.1 = 0 ∧ ∃ q r, 0 ≤ q ∧ q < 32 ∧ 0 ≤ r ∧ r < 128 ∧ laidv v x.2.2.2.spans = q * 128 + r * 33554432))
theorem may_regs {D : FD} {d a b v : Int} (h : mayF D d a b v = true) : d ≤ 31 ∧ a ≤ 31 ∧ b ≤ 31 ∧ (D.rd = false → d = 0) ∧ (D.rs1 = false → a = 0) ∧ (D.rs2 = false → b = 0) ∧ fitsF D.nb D.step v = true := by
  unfold mayF at h
  simp only [Bool.and_eq_true, Bool.not_eq_true', Bool.or_eq_false_iff, decide_eq_false_iff_not, Bool.and_eq_false_iff, bne_eq_false_iff_eq, Bool.not_eq_false'] at h
  obtain ⟨⟨⟨h1, h2⟩, h3⟩, ⟨⟨h4, h5⟩, h6⟩, h7⟩ := h
  refine ⟨by omega, by omega, by omega, fun hd => ?_, fun hd => ?_, fun hd => ?_, h7⟩
  · rcases h1 with h1 | h1
    · exact h1
    · rw [hd] at h1; cases h1
  · rcases h2 with h2 | h2
    · exact h2
    · rw [hd] at h2; cases h2
  · rcases h3 with h3 | h3
    · exact h3
    · rw [hd] at h3; cases h3
theorem parts_two (c f g : Int) (hc : 0 ≤ c ∧ c < 128) (hf : 0 ≤ f ∧ f < 8) (hg : 0 ≤ g ∧ g < 128) (d a b v : Int) (hd : 0 ≤ d) (ha : 0 ≤ a) (hb : 0 ≤ b) (h : mayF twoD d a b v = true) : Parts (c, f, g, twoD) d a b v := by
  obtain ⟨h1, h2, h3, -, -, -, -⟩ := may_regs h
  refine ⟨⟨hc.1, hc.2, hf.1, hf.2, hg.1, hg.2⟩, ⟨hd, by omega, ha, by omega, hb, by omega⟩, .inl ⟨32, 0, by omega, by omega, ?_, rfl, by decide⟩⟩
  show c + d * 128 + f * 4096 + a * 32768 + b * 1048576 + g * 33554432 < 4294967296
  omega
theorem parts_number (c f : Int) (hc : 0 ≤ c ∧ c < 128) (hf : 0 ≤ f ∧ f < 8) (d a b v : Int) (hd : 0 ≤ d) (ha : 0 ≤ a) (hb : 0 ≤ b) (h : mayF numberD d a b v = true) : Parts (c, f, 0, numberD) d a b v := by
  obtain ⟨h1, h2, h3, -, -, h6, -⟩ := may_regs h
  have h6 := h6 rfl
  obtain ⟨q, q0, q1, hq⟩ := bitsv_q v 0 11 20 4096 1048576 (by decide) (by decide)
  refine ⟨⟨hc.1, hc.2, hf.1, hf.2, by show (0 : Int) ≤ 0; omega, by show (0 : Int) < 128; omega⟩, ⟨hd, by omega, ha, by omega, hb, by omega⟩, .inl ⟨20, q, by omega, q0, ?_, ?_, ?_⟩⟩
  · show c + d * 128 + f * 4096 + a * 32768 + b * 1048576 + 0 * 33554432 < 1048576
    omega
  · show bitsv v 0 11 20 + 0 = q * 1048576
    omega
  · show q * 1048576 + 1048576 ≤ 4294967296
    omega
theorem parts_shift (c f g : Int) (hc : 0 ≤ c ∧ c < 128) (hf : 0 ≤ f ∧ f < 8) (hg : g = 0 ∨ g = 32) (d a b v : Int) (hd : 0 ≤ d) (ha : 0 ≤ a) (hb : 0 ≤ b) (h : mayF shiftD d a b v = true) : Parts (c, f, g, shiftD) d a b v := by
  obtain ⟨h1, h2, h3, -, -, h6, -⟩ := may_regs h
  have h6 := h6 rfl
  obtain ⟨q, q0, q1, hq⟩ := bitsv_q v 0 5 20 64 1048576 (by decide) (by decide)
  rcases hg with rfl | rfl
  · refine ⟨⟨hc.1, hc.2, hf.1, hf.2, by show (0 : Int) ≤ 0; omega, by show (0 : Int) < 128; omega⟩, ⟨hd, by omega, ha, by omega, hb, by omega⟩, .inl ⟨20, q, by omega, q0, ?_, ?_, ?_⟩⟩
    · show c + d * 128 + f * 4096 + a * 32768 + b * 1048576 + 0 * 33554432 < 1048576
      omega
    · show bitsv v 0 5 20 + 0 = q * 1048576
      omega
    · show q * 1048576 + 1048576 ≤ 4294967296
      omega
  · refine ⟨⟨hc.1, hc.2, hf.1, hf.2, by show (0 : Int) ≤ 32; omega, by show (32 : Int) < 128; omega⟩, ⟨hd, by omega, ha, by omega, hb, by omega⟩, .inr (.inl ⟨rfl, h6, q, q0, q1, ?_⟩)⟩
    show bitsv v 0 5 20 + 0 = q * 1048576
    omega
theorem parts_large (c : Int) (hc : 0 ≤ c ∧ c < 128) (d a b v : Int) (hd : 0 ≤ d) (ha : 0 ≤ a) (hb : 0 ≤ b) (h : mayF largeD d a b v = true) : Parts (c, 0, 0, largeD) d a b v := by
  obtain ⟨h1, h2, h3, -, h5, h6, -⟩ := may_regs h
  have h5 := h5 rfl
  have h6 := h6 rfl
  obtain ⟨q, q0, q1, hq⟩ := bitsv_q v 12 31 12 1048576 4096 (by decide) (by decide)
  refine ⟨⟨hc.1, hc.2, by show (0 : Int) ≤ 0; omega, by show (0 : Int) < 8; omega, by show (0 : Int) ≤ 0; omega, by show (0 : Int) < 128; omega⟩, ⟨hd, by omega, ha, by omega, hb, by omega⟩, .inl ⟨12, q, by omega, q0, ?_, ?_, ?_⟩⟩
  · show c + d * 128 + 0 * 4096 + a * 32768 + b * 1048576 + 0 * 33554432 < 4096
    omega
  · show bitsv v 12 31 12 + 0 = q * 4096
    omega
  · show q * 4096 + 4096 ≤ 4294967296
    omega
theorem parts_jump (c : Int) (hc : 0 ≤ c ∧ c < 128) (d a b v : Int) (hd : 0 ≤ d) (ha : 0 ≤ a) (hb : 0 ≤ b) (h : mayF jumpD d a b v = true) : Parts (c, 0, 0, jumpD) d a b v := by
  obtain ⟨h1, h2, h3, -, h5, h6, -⟩ := may_regs h
  have h5 := h5 rfl
  have h6 := h6 rfl
  obtain ⟨q, q0, q1, hq⟩ := bitsv_q v 12 19 12 256 4096 (by decide) (by decide)
  obtain ⟨r, r0, r1, hr⟩ := bitsv_q v 11 11 20 2 1048576 (by decide) (by decide)
  obtain ⟨s, s0, s1, hs⟩ := bitsv_q v 1 10 21 1024 2097152 (by decide) (by decide)
  obtain ⟨t, t0, t1, ht⟩ := bitsv_q v 20 20 31 2 2147483648 (by decide) (by decide)
  refine ⟨⟨hc.1, hc.2, by show (0 : Int) ≤ 0; omega, by show (0 : Int) < 8; omega, by show (0 : Int) ≤ 0; omega, by show (0 : Int) < 128; omega⟩, ⟨hd, by omega, ha, by omega, hb, by omega⟩, .inl ⟨12, q + 256 * r + 512 * s + 524288 * t, by omega, by omega, ?_, ?_, ?_⟩⟩
  · show c + d * 128 + 0 * 4096 + a * 32768 + b * 1048576 + 0 * 33554432 < 4096
    omega
  · show bitsv v 12 19 12 + (bitsv v 11 11 20 + (bitsv v 1 10 21 + (bitsv v 20 20 31 + 0))) = (q + 256 * r + 512 * s + 524288 * t) * 4096
    omega
  · show (q + 256 * r + 512 * s + 524288 * t) * 4096 + 4096 ≤ 4294967296
    omega
theorem parts_store (c f : Int) (hc : 0 ≤ c ∧ c < 128) (hf : 0 ≤ f ∧ f < 8) (d a b v : Int) (hd : 0 ≤ d) (ha : 0 ≤ a) (hb : 0 ≤ b) (h : mayF storeD d a b v = true) : Parts (c, f, 0, storeD) d a b v := by
  obtain ⟨h1, h2, h3, h4, -, -, -⟩ := may_regs h
  have h4 := h4 rfl
  obtain ⟨q, q0, q1, hq⟩ := bitsv_q v 0 4 7 32 128 (by decide) (by decide)
  obtain ⟨r, r0, r1, hr⟩ := bitsv_q v 5 11 25 128 33554432 (by decide) (by decide)
  refine ⟨⟨hc.1, hc.2, hf.1, hf.2, by show (0 : Int) ≤ 0; omega, by show (0 : Int) < 128; omega⟩, ⟨hd, by omega, ha, by omega, hb, by omega⟩, .inr (.inr ⟨h4, rfl, q, r, q0, q1, r0, r1, ?_⟩)⟩
  show bitsv v 0 4 7 + (bitsv v 5 11 25 + 0) = q * 128 + r * 33554432
  omega
theorem parts_branch (c f : Int) (hc : 0 ≤ c ∧ c < 128) (hf : 0 ≤ f ∧ f < 8) (d a b v : Int) (hd : 0 ≤ d) (ha : 0 ≤ a) (hb : 0 ≤ b) (h : mayF branchD d a b v = true) : Parts (c, f, 0, branchD) d a b v := by
  obtain ⟨h1, h2, h3, h4, -, -, -⟩ := may_regs h
  have h4 := h4 rfl
  obtain ⟨q, q0, q1, hq⟩ := bitsv_q v 11 11 7 2 128 (by decide) (by decide)
  obtain ⟨r, r0, r1, hr⟩ := bitsv_q v 1 4 8 16 256 (by decide) (by decide)
  obtain ⟨s, s0, s1, hs⟩ := bitsv_q v 5 10 25 64 33554432 (by decide) (by decide)
  obtain ⟨t, t0, t1, ht⟩ := bitsv_q v 12 12 31 2 2147483648 (by decide) (by decide)
  refine ⟨⟨hc.1, hc.2, hf.1, hf.2, by show (0 : Int) ≤ 0; omega, by show (0 : Int) < 128; omega⟩, ⟨hd, by omega, ha, by omega, hb, by omega⟩, .inr (.inr ⟨h4, rfl, q + 2 * r, s + 64 * t, by omega, by omega, by omega, by omega, ?_⟩)⟩
  show bitsv v 11 11 7 + (bitsv v 1 4 8 + (bitsv v 5 10 25 + (bitsv v 12 12 31 + 0))) = (q + 2 * r) * 128 + (s + 64 * t) * 33554432
  omega
theorem parts_bare (c : Int) (hc : 0 ≤ c ∧ c < 128) (d a b v : Int) (hd : 0 ≤ d) (ha : 0 ≤ a) (hb : 0 ≤ b) (h : mayF bareD d a b v = true) : Parts (c, 0, 0, bareD) d a b v := by
  obtain ⟨h1, h2, h3, -, -, -, -⟩ := may_regs h
  refine ⟨⟨hc.1, hc.2, by show (0 : Int) ≤ 0; omega, by show (0 : Int) < 8; omega, by show (0 : Int) ≤ 0; omega, by show (0 : Int) < 128; omega⟩, ⟨hd, by omega, ha, by omega, hb, by omega⟩, .inl ⟨32, 0, by omega, by omega, ?_, rfl, by decide⟩⟩
  show c + d * 128 + 0 * 4096 + a * 32768 + b * 1048576 + 0 * 33554432 < 4294967296
  omega
/-- What a form is. -/
inductive FormIs : Int × Int × Int × FD → Prop where
  | two (c f g : Int) (hc : 0 ≤ c ∧ c < 128) (hf : 0 ≤ f ∧ f < 8) (hg : 0 ≤ g ∧ g < 128) : FormIs (c, f, g, twoD)
  | number (c f : Int) (hc : 0 ≤ c ∧ c < 128) (hf : 0 ≤ f ∧ f < 8) : FormIs (c, f, 0, numberD)
  | shift (c f g : Int) (hc : 0 ≤ c ∧ c < 128) (hf : 0 ≤ f ∧ f < 8) (hg : g = 0 ∨ g = 32) : FormIs (c, f, g, shiftD)
  | large (c : Int) (hc : 0 ≤ c ∧ c < 128) : FormIs (c, 0, 0, largeD)
  | jump (c : Int) (hc : 0 ≤ c ∧ c < 128) : FormIs (c, 0, 0, jumpD)
  | store (c f : Int) (hc : 0 ≤ c ∧ c < 128) (hf : 0 ≤ f ∧ f < 8) : FormIs (c, f, 0, storeD)
  | branch (c f : Int) (hc : 0 ≤ c ∧ c < 128) (hf : 0 ≤ f ∧ f < 8) : FormIs (c, f, 0, branchD)
  | bare (c : Int) (hc : 0 ≤ c ∧ c < 128) : FormIs (c, 0, 0, bareD)
theorem tab_forms : ∀ x ∈ tabL, FormIs x := by
  intro x hx
  simp only [tabL, List.mem_cons, List.not_mem_nil, or_false] at hx
  rcases hx with rfl | rfl | rfl | rfl | rfl | rfl | rfl | rfl | rfl | rfl | rfl | rfl | rfl | rfl | rfl | rfl | rfl | rfl | rfl | rfl | rfl | rfl | rfl | rfl | rfl | rfl | rfl | rfl | rfl | rfl | rfl | rfl | rfl | rfl
  all_goals first
    | exact .two _ _ _ (by decide) (by decide) (by decide)
    | exact .number _ _ (by decide) (by decide)
    | exact .shift _ _ _ (by decide) (by decide) (by decide)
    | exact .large _ (by decide)
    | exact .jump _ (by decide)
    | exact .store _ _ (by decide) (by decide)
    | exact .branch _ _ (by decide) (by decide)
    | exact .bare _ (by decide)
theorem FormIs.parts {x : Int × Int × Int × FD} (h : FormIs x) (d a b v : Int) (hd : 0 ≤ d) (ha : 0 ≤ a) (hb : 0 ≤ b) (hm : mayF x.2.2.2 d a b v = true) : Parts x d a b v := by
  cases h with
  | two c f g hc hf hg => exact parts_two c f g hc hf hg d a b v hd ha hb hm
  | number c f hc hf => exact parts_number c f hc hf d a b v hd ha hb hm
  | shift c f g hc hf hg => exact parts_shift c f g hc hf hg d a b v hd ha hb hm
  | large c hc => exact parts_large c hc d a b v hd ha hb hm
  | jump c hc => exact parts_jump c hc d a b v hd ha hb hm
  | store c f hc hf => exact parts_store c f hc hf d a b v hd ha hb hm
  | branch c f hc hf => exact parts_branch c f hc hf d a b v hd ha hb hm
  | bare c hc => exact parts_bare c hc d a b v hd ha hb hm
theorem FormIs.nb {x : Int × Int × Int × FD} (h : FormIs x) : I64 x.2.2.2.nb := by
  cases h with
  | two => exact (by decide : I64 twoD.nb)
  | number => exact (by decide : I64 numberD.nb)
  | shift => exact (by decide : I64 shiftD.nb)
  | large => exact (by decide : I64 largeD.nb)
  | jump => exact (by decide : I64 jumpD.nb)
  | store => exact (by decide : I64 storeD.nb)
  | branch => exact (by decide : I64 branchD.nb)
  | bare => exact (by decide : I64 bareD.nb)
theorem asc_two : asc 0 twoD.spans ∧ twoD.spans.length ≤ 100 := ⟨trivial, by decide⟩
theorem asc_bare : asc 0 bareD.spans ∧ bareD.spans.length ≤ 100 := ⟨trivial, by decide⟩
theorem asc_number : asc 0 numberD.spans ∧ numberD.spans.length ≤ 100 := ⟨by simp only [numberD, asc, spanOk]; decide, by decide⟩
theorem asc_shift : asc 0 shiftD.spans ∧ shiftD.spans.length ≤ 100 := ⟨by simp only [shiftD, asc, spanOk]; decide, by decide⟩
theorem asc_large : asc 0 largeD.spans ∧ largeD.spans.length ≤ 100 := ⟨by simp only [largeD, asc, spanOk]; decide, by decide⟩
theorem asc_jump : asc 0 jumpD.spans ∧ jumpD.spans.length ≤ 100 := ⟨by simp only [jumpD, asc, spanOk]; decide, by decide⟩
theorem asc_store : asc 0 storeD.spans ∧ storeD.spans.length ≤ 100 := ⟨by simp only [storeD, asc, spanOk]; decide, by decide⟩
theorem asc_branch : asc 0 branchD.spans ∧ branchD.spans.length ≤ 100 := ⟨by simp only [branchD, asc, spanOk]; decide, by decide⟩
theorem FormIs.asc {x : Int × Int × Int × FD} (h : FormIs x) : asc 0 x.2.2.2.spans ∧ x.2.2.2.spans.length ≤ 100 := by
  cases h with
  | two => exact asc_two
  | number => exact asc_number
  | shift => exact asc_shift
  | large => exact asc_large
  | jump => exact asc_jump
  | store => exact asc_store
  | branch => exact asc_branch
  | bare => exact asc_bare

/-! ### 'or' of parts that lie apart is their sum -/
theorem or_chain (c d f a b g : Nat) (hc : c < 128) (hd : d < 32) (hf : f < 8) (ha : a < 32) (hb : b < 32) :
    c ||| d * 128 ||| f * 4096 ||| a * 32768 ||| b * 1048576 ||| g * 33554432 = c + d * 128 + f * 4096 + a * 32768 + b * 1048576 + g * 33554432 := by
  rw [show 128 = 2 ^ 7 from rfl, or_place c d 7 (by omega), show 4096 = 2 ^ 12 from rfl, or_place _ f 12 (by omega), show 32768 = 2 ^ 15 from rfl, or_place _ a 15 (by omega), show 1048576 = 2 ^ 20 from rfl, or_place _ b 20 (by omega),
    show 33554432 = 2 ^ 25 from rfl, or_place _ g 25 (by omega)]
theorem or_turn (c d f a b g m : Nat) : (((c ||| f * 4096) ||| g * 33554432) ||| ((d * 128 ||| a * 32768) ||| b * 1048576)) ||| m = (c ||| d * 128 ||| f * 4096 ||| a * 32768 ||| b * 1048576 ||| g * 33554432) ||| m := by
  ac_rfl
theorem or_turn_shift (c d f a x g : Nat) : (c ||| d * 128 ||| f * 4096 ||| a * 32768 ||| 0 ||| g) ||| x = (c ||| d * 128 ||| f * 4096 ||| a * 32768) ||| x ||| g := by
  rw [Nat.or_zero]
  ac_rfl
theorem or_turn_mid (c q f a b r : Nat) : (c ||| 0 ||| f * 4096 ||| a * 32768 ||| b * 1048576 ||| 0) ||| (q * 128 ||| r * 33554432) = c ||| q * 128 ||| f * 4096 ||| a * 32768 ||| b * 1048576 ||| r * 33554432 := by
  rw [Nat.or_zero, Nat.or_zero]
  ac_rfl
theorem or_sum (c d f a b g m : Nat) (hc : c < 128) (hd : d < 32) (hf : f < 8) (ha : a < 32) (hb : b < 32) (hg : g < 128)
    (h : (∃ k y, c + d * 128 + f * 4096 + a * 32768 + b * 1048576 + g * 33554432 < 2 ^ k ∧ m = y * 2 ^ k) ∨ (g = 32 ∧ b = 0 ∧ ∃ q, q < 64 ∧ m = q * 1048576) ∨ (d = 0 ∧ g = 0 ∧ ∃ q r, q < 32 ∧ r < 128 ∧ m = q * 128 + r * 33554432)) :
    (((c ||| f * 4096) ||| g * 33554432) ||| ((d * 128 ||| a * 32768) ||| b * 1048576)) ||| m = c + d * 128 + f * 4096 + a * 32768 + b * 1048576 + g * 33554432 + m := by
  rw [or_turn]
  rcases h with ⟨k, y, h1, rfl⟩ | ⟨rfl, rfl, q, hq, rfl⟩ | ⟨rfl, rfl, q, r, hq, hr, rfl⟩
  · rw [or_chain c d f a b g hc hd hf ha hb, or_place _ y k h1]
  · have e := or_chain c d f a (q % 32) (q / 32) hc hd hf ha (by omega)
    rw [Nat.zero_mul, or_turn_shift]
    have e1 : c ||| d * 128 ||| f * 4096 ||| a * 32768 = c + d * 128 + f * 4096 + a * 32768 := by
      have := or_chain c d f a 0 0 hc hd hf ha (by omega)
      simpa using this
    rw [e1, show 1048576 = 2 ^ 20 from rfl, or_place _ q 20 (by omega), show 32 * 33554432 = 1 * 2 ^ 30 from rfl, or_place _ 1 30 (by omega)]
    omega
  · rw [show q * 128 + r * 33554432 = q * 128 ||| r * 33554432 from (by rw [show 33554432 = 2 ^ 25 from rfl, or_place _ r 25 (by omega)]), Nat.zero_mul, or_turn_mid, or_chain c q f a b r hc hq hf ha hb]
    rw [show q * 128 ||| r * 33554432 = q * 128 + r * 33554432 from (by rw [show 33554432 = 2 ^ 25 from rfl, or_place _ r 25 (by omega)])]
    omega
theorem or_ints (x y : Int) (hx : 0 ≤ x ∧ x < 4294967296) (hy : 0 ≤ y ∧ y < 4294967296) : ∃ n m : Nat, x = n ∧ y = m ∧ bits .or .u32 x y = ((n ||| m : Nat) : Int) ∧ n ||| m < 4294967296 := by
  obtain ⟨n, rfl⟩ := Int.eq_ofNat_of_zero_le hx.1
  obtain ⟨m, rfl⟩ := Int.eq_ofNat_of_zero_le hy.1
  exact ⟨n, m, rfl, rfl, bits_or_u32 n m (by omega) (by omega), Nat.or_lt_two_pow (n := 32) (by omega) (by omega)⟩
theorem bor (n m : Nat) (hn : n < 4294967296) (hm : m < 4294967296) : bits .or .u32 (n : Int) (m : Int) = ((n ||| m : Nat) : Int) ∧ n ||| m < 4294967296 :=
  ⟨bits_or_u32 n m hn hm, Nat.or_lt_two_pow (n := 32) (by omega) (by omega)⟩
/-- The word that the code makes. -/
theorem word_sum (x : Int × Int × Int × FD) (d a b v : Int) (h : Parts x d a b v) :
    bits .or .u32 (bits .or .u32 (bits .or .u32 (bits .or .u32 x.1 (IntKind.u32.wrap (x.2.1 * 4096))) (IntKind.u32.wrap (x.2.2.1 * 33554432))) (bits .or .u32 (bits .or .u32 (IntKind.u32.wrap (IntKind.u32.wrap d * 128)) (IntKind.u32.wrap (IntKind.u32.wrap a * 32768))) (IntKind.u32.wrap (IntKind.u32.wrap b * 1048576)))) (laidv v x.2.2.2.spans)
      = baseS x d a b + laidv v x.2.2.2.spans ∧ 0 ≤ baseS x d a b + laidv v x.2.2.2.spans ∧ baseS x d a b + laidv v x.2.2.2.spans < 4294967296 := by
  obtain ⟨⟨c0, c1, f0, f1, g0, g1⟩, ⟨d0, d1, a0, a1, b0, b1⟩, hp⟩ := h
  obtain ⟨c, f, g, D⟩ := x
  simp only at c0 c1 f0 f1 g0 g1 hp ⊢
  have hm : 0 ≤ laidv v D.spans ∧ laidv v D.spans < 4294967296 ∧ baseS (c, f, g, D) d a b + laidv v D.spans < 4294967296 := by
    unfold baseS at hp ⊢
    simp only at hp ⊢
    rcases hp with ⟨k, y, hk, y0, h1, h2, h3⟩ | ⟨h1, h2, q, q0, q1, h3⟩ | ⟨h1, h2, q, r, q0, q1, r0, r1, h3⟩
    · have := two_pow_pos k
      have : 0 ≤ y * 2 ^ k := Int.mul_nonneg y0 (Int.le_of_lt this)
      omega
    · omega
    · omega
  obtain ⟨hm0, hm1, hm2⟩ := hm
  obtain ⟨m, hmm⟩ := Int.eq_ofNat_of_zero_le hm0
  rw [hmm] at hp hm1 hm2 ⊢
  obtain ⟨c, rfl⟩ := Int.eq_ofNat_of_zero_le c0
  obtain ⟨f, rfl⟩ := Int.eq_ofNat_of_zero_le f0
  obtain ⟨g, rfl⟩ := Int.eq_ofNat_of_zero_le g0
  obtain ⟨d, rfl⟩ := Int.eq_ofNat_of_zero_le d0
  obtain ⟨a, rfl⟩ := Int.eq_ofNat_of_zero_le a0
  obtain ⟨b, rfl⟩ := Int.eq_ofNat_of_zero_le b0
  unfold baseS at hp hm2 ⊢
  simp only at hp hm2 ⊢
  rw [u32_in (x := (d : Int)) (by omega) (by omega), u32_in (x := (a : Int)) (by omega) (by omega), u32_in (x := (b : Int)) (by omega) (by omega), u32_in (x := (f : Int) * 4096) (by omega) (by omega), u32_in (x := (g : Int) * 33554432) (by omega) (by omega),
    u32_in (x := (d : Int) * 128) (by omega) (by omega), u32_in (x := (a : Int) * 32768) (by omega) (by omega), u32_in (x := (b : Int) * 1048576) (by omega) (by omega)]
  have t1 := bor c (f * 4096) (by omega) (by omega)
  have t2 := bor (c ||| f * 4096) (g * 33554432) t1.2 (by omega)
  have t3 := bor (d * 128) (a * 32768) (by omega) (by omega)
  have t4 := bor (d * 128 ||| a * 32768) (b * 1048576) t3.2 (by omega)
  have t5 := bor _ _ t2.2 t4.2
  have t6 := bor _ m t5.2 (by omega)
  have hs := or_sum c d f a b g m (by omega) (by omega) (by omega) (by omega) (by omega) (by omega) (by
    rcases hp with ⟨k, y, hk, y0, h1, h2, h3⟩ | ⟨h1, h2, q, q0, q1, h3⟩ | ⟨h1, h2, q, r, q0, q1, r0, r1, h3⟩
    · obtain ⟨y, rfl⟩ := Int.eq_ofNat_of_zero_le y0
      have hpk : (2 : Int) ^ k = ((2 ^ k : Nat) : Int) := by push_cast; rfl
      rw [hpk] at h1 h2
      refine .inl ⟨k, y, ?_, ?_⟩
      · generalize 2 ^ k = K at *
        omega
      · generalize 2 ^ k = K at *
        rw [← Int.natCast_mul] at h2
        omega
    · obtain ⟨q, rfl⟩ := Int.eq_ofNat_of_zero_le q0
      exact .inr (.inl ⟨by omega, by omega, q, by omega, by omega⟩)
    · obtain ⟨q, rfl⟩ := Int.eq_ofNat_of_zero_le q0
      obtain ⟨r, rfl⟩ := Int.eq_ofNat_of_zero_le r0
      exact .inr (.inr ⟨by omega, by omega, q, r, by omega, by omega, by omega⟩))
  refine ⟨?_, by omega, hm2⟩
  have e1 : ((f : Int) * 4096) = ((f * 4096 : Nat) : Int) := by omega
  have e2 : ((g : Int) * 33554432) = ((g * 33554432 : Nat) : Int) := by omega
  have e3 : ((d : Int) * 128) = ((d * 128 : Nat) : Int) := by omega
  have e4 : ((a : Int) * 32768) = ((a * 32768 : Nat) : Int) := by omega
  have e5 : ((b : Int) * 1048576) = ((b * 1048576 : Nat) : Int) := by omega
  rw [e1, e2, e3, e4, e5, t1.1, t2.1, t3.1, t4.1, t5.1, t6.1, hs]
  omega
end Go.Proofs.Ytjoikaklincfoaa
