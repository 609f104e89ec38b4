/-
The plain law of words: unlike instructions have unlike words.
Conditions: each number is of its kind.
-/
import Derived.Test.YtgdbgbphbkefcaaInsnA
namespace Go.Proofs.Ytgdbgbphbkefcaa
open Go Go.Vc Go.RowKit
set_option linter.unusedVariables false
set_option linter.unusedSimpArgs false
set_option maxRecDepth 100000

theorem fits_range (v k m : Int) (hm : (2 : Int) ^ (k.toNat - 1) = m) (h : fitsv v k = true) : -m ≤ v ∧ v < m := by
  unfold fitsv at h
  have h := of_decide_eq_true h
  rw [hm] at h
  exact ⟨h.2.2.1, h.2.2.2⟩
/-- A number with its sign, out of so many bits' worth. -/
def sx (M x : Int) : Int := if 2 * x < M then x else x - M
theorem sx_12 {v x : Int} (h : v % 4096 = x) (h1 : -2048 ≤ v) (h2 : v < 2048) : v = sx 4096 x := by unfold sx; split <;> omega
theorem sx_13 {v x : Int} (h : v % 8192 = x) (h1 : -4096 ≤ v) (h2 : v < 4096) : v = sx 8192 x := by unfold sx; split <;> omega
theorem sx_21 {v x : Int} (h : v % 2097152 = x) (h1 : -1048576 ≤ v) (h2 : v < 1048576) : v = sx 2097152 x := by unfold sx; split <;> omega
theorem sx_32 {v x : Int} (h : v % 4294967296 = x) (h1 : -2147483648 ≤ v) (h2 : v < 2147483648) : v = sx 4294967296 x := by unfold sx; split <;> omega
/-- A word's parts, by the form: each is a part of the word. -/
inductive Lin : Int × Int × Int × FD → Int → Int → Int → Int → Int → Prop where
  | two (f g d a b w : Int) (hc : w % 128 = 51) (hd : d = w / 128 % 32) (hf : f = w / 4096 % 8) (ha : a = w / 32768 % 32) (hb : b = w / 1048576 % 32) (hg : g = w / 33554432) : Lin (51, f, g, twoD) d a b 0 w
  | number (c f d a v w : Int) (hk : c = 3 ∨ c = 103 ∨ (c = 19 ∧ f ≠ 1 ∧ f ≠ 5)) (hc : w % 128 = c) (hd : d = w / 128 % 32) (hf : f = w / 4096 % 8) (ha : a = w / 32768 % 32) (hv : v = sx 4096 (w / 1048576)) : Lin (c, f, 0, numberD) d a 0 v w
  | shift (f g d a v w : Int) (hk : f = 1 ∨ f = 5) (hc : w % 128 = 19) (hd : d = w / 128 % 32) (hf : f = w / 4096 % 8) (ha : a = w / 32768 % 32) (hv : v = w / 1048576 % 64) (hg : g = w / 1073741824 * 32) : Lin (19, f, g, shiftD) d a 0 v w
  | large (d v w : Int) (hc : w % 128 = 55) (hd : d = w / 128 % 32) (hv : v = sx 4294967296 (w / 4096 * 4096)) : Lin (55, 0, 0, largeD) d 0 0 v w
  | jump (d v w : Int) (hc : w % 128 = 111) (hd : d = w / 128 % 32) (hv : v = sx 2097152 (2 * (w / 2097152 % 1024) + 2048 * (w / 1048576 % 2) + 4096 * (w / 4096 % 256) + 1048576 * (w / 2147483648))) : Lin (111, 0, 0, jumpD) d 0 0 v w
  | store (f a b v w : Int) (hc : w % 128 = 35) (hf : f = w / 4096 % 8) (ha : a = w / 32768 % 32) (hb : b = w / 1048576 % 32) (hv : v = sx 4096 (w / 128 % 32 + 32 * (w / 33554432))) : Lin (35, f, 0, storeD) 0 a b v w
  | branch (f a b v w : Int) (hc : w % 128 = 99) (hf : f = w / 4096 % 8) (ha : a = w / 32768 % 32) (hb : b = w / 1048576 % 32) (hv : v = sx 8192 (2 * (w / 256 % 16) + 32 * (w / 33554432 % 64) + 2048 * (w / 128 % 2) + 4096 * (w / 2147483648))) : Lin (99, f, 0, branchD) 0 a b v w
  | bare : Lin (115, 0, 0, bareD) 0 0 0 0 115
theorem Lin.code {x : Int × Int × Int × FD} {d a b v w : Int} (h : Lin x d a b v w) : w % 128 = x.1 := by
  cases h <;> first | rfl | assumption
theorem field {w x : Int} (lo hi P Q : Int) (hP : 0 < P) (hl : 0 ≤ lo ∧ lo < P) (hx : 0 ≤ x ∧ x < Q) (h : w = lo + (x + hi * Q) * P) : x = w / P % Q := by
  rw [h, Int.add_mul_ediv_right _ _ (Int.ne_of_gt hP), Int.ediv_eq_zero_of_lt hl.1 hl.2, Int.zero_add, Int.add_mul_emod_self_right, Int.emod_eq_of_lt hx.1 hx.2]
theorem fieldTop {w x : Int} (lo P : Int) (hP : 0 < P) (hl : 0 ≤ lo ∧ lo < P) (h : w = lo + x * P) : x = w / P := by
  rw [h, Int.add_mul_ediv_right _ _ (Int.ne_of_gt hP), Int.ediv_eq_zero_of_lt hl.1 hl.2, Int.zero_add]
/-- What a word says. -/
def dec (w : Int) : Int × Int × Int × Int × Int × Int × Int :=
  if w % 128 = 51 then (51, w / 4096 % 8, w / 33554432, w / 128 % 32, w / 32768 % 32, w / 1048576 % 32, 0)
  else if w % 128 = 19 ∧ (w / 4096 % 8 = 1 ∨ w / 4096 % 8 = 5) then (19, w / 4096 % 8, w / 1073741824 * 32, w / 128 % 32, w / 32768 % 32, 0, w / 1048576 % 64)
  else if w % 128 = 3 ∨ w % 128 = 19 ∨ w % 128 = 103 then (w % 128, w / 4096 % 8, 0, w / 128 % 32, w / 32768 % 32, 0, sx 4096 (w / 1048576))
  else if w % 128 = 55 then (55, 0, 0, w / 128 % 32, 0, 0, sx 4294967296 (w / 4096 * 4096))
  else if w % 128 = 111 then (111, 0, 0, w / 128 % 32, 0, 0, sx 2097152 (2 * (w / 2097152 % 1024) + 2048 * (w / 1048576 % 2) + 4096 * (w / 4096 % 256) + 1048576 * (w / 2147483648)))
  else if w % 128 = 35 then (35, w / 4096 % 8, 0, 0, w / 32768 % 32, w / 1048576 % 32, sx 4096 (w / 128 % 32 + 32 * (w / 33554432)))
  else if w % 128 = 99 then (99, w / 4096 % 8, 0, 0, w / 32768 % 32, w / 1048576 % 32, sx 8192 (2 * (w / 256 % 16) + 32 * (w / 33554432 % 64) + 2048 * (w / 128 % 2) + 4096 * (w / 2147483648)))
  else (115, 0, 0, 0, 0, 0, 0)
theorem Lin.dec {x : Int × Int × Int × FD} {d a b v w : Int} (h : Lin x d a b v w) : dec w = (x.1, x.2.1, x.2.2.1, d, a, b, v) := by
  unfold Proofs.Ytgdbgbphbkefcaa.dec
  cases h with
  | two f g d a b w hc hd hf ha hb hg => rw [if_pos hc, hd, hf, ha, hb, hg]
  | number c f d a v w hk hc hd hf ha hv =>
    rw [if_neg (by omega), if_neg (by omega), if_pos (by omega), hc, ← hd, ← hf, ← ha, ← hv]
  | shift f g d a v w hk hc hd hf ha hv hg =>
    rw [if_neg (by omega), if_pos (by omega), ← hd, ← hf, ← ha, ← hv, ← hg]
  | large d v w hc hd hv => rw [if_neg (by omega), if_neg (by omega), if_neg (by omega), if_pos hc, ← hd, ← hv]
  | jump d v w hc hd hv => rw [if_neg (by omega), if_neg (by omega), if_neg (by omega), if_neg (by omega), if_pos hc, ← hd, ← hv]
  | store f a b v w hc hf ha hb hv => rw [if_neg (by omega), if_neg (by omega), if_neg (by omega), if_neg (by omega), if_neg (by omega), if_pos hc, ← hf, ← ha, ← hb, ← hv]
  | branch f a b v w hc hf ha hb hv => rw [if_neg (by omega), if_neg (by omega), if_neg (by omega), if_neg (by omega), if_neg (by omega), if_neg (by omega), if_pos hc, ← hf, ← ha, ← hb, ← hv]
  | bare => rfl
theorem Lin.inj {x x' : Int × Int × Int × FD} {d a b v d' a' b' v' w : Int} (h : Lin x d a b v w) (h' : Lin x' d' a' b' v' w) :
    (x.1 = x'.1 ∧ x.2.1 = x'.2.1 ∧ x.2.2.1 = x'.2.2.1) ∧ d = d' ∧ a = a' ∧ b = b' ∧ v = v' := by
  have e := h.dec.symm.trans h'.dec
  simp only [Prod.mk.injEq] at e
  exact ⟨⟨e.1, e.2.1, e.2.2.1⟩, e.2.2.2.1, e.2.2.2.2.1, e.2.2.2.2.2.1, e.2.2.2.2.2.2⟩
theorem tmod_zero {v k : Int} (hk : 0 < k) (h : (v.tmod k == 0) = true) : v % k = 0 := by
  have h : v.tmod k = 0 := by simpa using h
  have := Int.dvd_of_tmod_eq_zero h
  exact Int.emod_eq_zero_of_dvd this
theorem fits_two {v : Int} (h : fitsF 0 0 v = true) : v = 0 := by
  have h : (v == 0) = true := h
  simpa using h
theorem fits_num {v nb : Int} (hn : 0 < nb) (h : fitsF nb 0 v = true) : fitsv v nb = true := by
  unfold fitsF at h
  rw [if_neg (by omega), if_neg (by omega), Bool.and_eq_true] at h
  exact h.1
theorem fits_step {v nb step : Int} (hn : 0 < nb) (hs : 0 < step) (h : fitsF nb step v = true) : fitsv v nb = true ∧ v % step = 0 := by
  unfold fitsF at h
  rw [if_neg (by omega), if_neg (by omega), Bool.and_eq_true, Bool.or_eq_true] at h
  refine ⟨h.1, ?_⟩
  rcases h.2 with h | h
  · have : step = 0 := by simpa using h
    omega
  · exact tmod_zero hs h
theorem lin_two (f g d a b v : Int) (hf : 0 ≤ f ∧ f < 8) (hg : 0 ≤ g ∧ g < 128) (hd : 0 ≤ d) (ha : 0 ≤ a) (hb : 0 ≤ b) (h : mayF twoD d a b v = true) : Lin (51, f, g, twoD) d a b v (baseS (51, f, g, twoD) d a b + laidv v twoD.spans) := by
  obtain ⟨h1, h2, h3, -, -, -, h7⟩ := may_regs h
  obtain rfl := fits_two h7
  have e : baseS (51, f, g, twoD) d a b + laidv 0 twoD.spans = 51 + d * 128 + f * 4096 + a * 32768 + b * 1048576 + g * 33554432 := by
    show 51 + d * 128 + f * 4096 + a * 32768 + b * 1048576 + g * 33554432 + 0 = _
    omega
  rw [e]
  exact .two f g d a b _ (by omega) (by omega) (by omega) (by omega) (by omega) (by omega)
theorem lin_number (c f d a b v : Int) (hc : c = 3 ∨ c = 103 ∨ (c = 19 ∧ f ≠ 1 ∧ f ≠ 5)) (hf : 0 ≤ f ∧ f < 8) (hd : 0 ≤ d) (ha : 0 ≤ a) (hb : 0 ≤ b) (h : mayF numberD d a b v = true) : Lin (c, f, 0, numberD) d a b v (baseS (c, f, 0, numberD) d a b + laidv v numberD.spans) := by
  obtain ⟨h1, h2, h3, -, -, h6, h7⟩ := may_regs h
  obtain rfl := h6 rfl
  have hv := fits_range v 12 2048 (by decide) (fits_num (by decide) h7)
  have e : baseS (c, f, 0, numberD) d a 0 + laidv v numberD.spans = c + d * 128 + f * 4096 + a * 32768 + v % 4096 * 1048576 := by
    show c + d * 128 + f * 4096 + a * 32768 + 0 * 1048576 + 0 * 33554432 + (v % 18446744073709551616 / 1 % 4096 * 1048576 + 0) = _
    omega
  rw [e]
  exact .number c f d a v _ hc (by omega) (by omega) (by omega) (by omega) (sx_12 (by omega) hv.1 hv.2)
theorem lin_shift (f g d a b v : Int) (hf : f = 1 ∨ f = 5) (hg : g = 0 ∨ g = 32) (hd : 0 ≤ d) (ha : 0 ≤ a) (hb : 0 ≤ b) (h : mayF shiftD d a b v = true) : Lin (19, f, g, shiftD) d a b v (baseS (19, f, g, shiftD) d a b + laidv v shiftD.spans) := by
  obtain ⟨h1, h2, h3, -, -, h6, h7⟩ := may_regs h
  obtain rfl := h6 rfl
  have h7 : (decide (0 ≤ v) && decide (v < 64)) = true := h7
  have hv : 0 ≤ v ∧ v < 64 := by simpa using h7
  have e : baseS (19, f, g, shiftD) d a 0 + laidv v shiftD.spans = 19 + d * 128 + f * 4096 + a * 32768 + v * 1048576 + g * 33554432 := by
    show 19 + d * 128 + f * 4096 + a * 32768 + 0 * 1048576 + g * 33554432 + (v % 18446744073709551616 / 1 % 64 * 1048576 + 0) = _
    omega
  rw [e]
  exact .shift f g d a v _ hf (by omega) (by omega) (by omega) (by omega) (by omega) (by omega)
theorem lin_large (d a b v : Int) (hd : 0 ≤ d) (ha : 0 ≤ a) (hb : 0 ≤ b) (h : mayF largeD d a b v = true) : Lin (55, 0, 0, largeD) d a b v (baseS (55, 0, 0, largeD) d a b + laidv v largeD.spans) := by
  obtain ⟨h1, h2, h3, -, h5, h6, h7⟩ := may_regs h
  obtain rfl := h5 rfl
  obtain rfl := h6 rfl
  obtain ⟨h7, h8⟩ := fits_step (by decide) (by decide) h7
  have hv := fits_range v 32 2147483648 (by decide) h7
  have e : baseS (55, 0, 0, largeD) d 0 0 + laidv v largeD.spans = 55 + d * 128 + v / 4096 % 1048576 * 4096 := by
    show 55 + d * 128 + 0 * 4096 + 0 * 32768 + 0 * 1048576 + 0 * 33554432 + (v % 18446744073709551616 / 4096 % 1048576 * 4096 + 0) = _
    omega
  rw [e]
  have h8 : v % 4096 = 0 := h8
  obtain ⟨q, hq⟩ : ∃ q, q = v / 4096 % 1048576 := ⟨_, rfl⟩
  rw [← hq]
  have hv2 : v % 4294967296 = q * 4096 := by omega
  exact .large d v _ (by omega) (by omega) (sx_32 (by rw [hv2]; clear hv2; omega) hv.1 hv.2)
theorem lin_jump (d a b v : Int) (hd : 0 ≤ d) (ha : 0 ≤ a) (hb : 0 ≤ b) (h : mayF jumpD d a b v = true) : Lin (111, 0, 0, jumpD) d a b v (baseS (111, 0, 0, jumpD) d a b + laidv v jumpD.spans) := by
  obtain ⟨h1, h2, h3, -, h5, h6, h7⟩ := may_regs h
  obtain rfl := h5 rfl
  obtain rfl := h6 rfl
  obtain ⟨h7, h8⟩ := fits_step (by decide) (by decide) h7
  have hv := fits_range v 21 1048576 (by decide) h7
  have h8 : v % 2 = 0 := h8
  obtain ⟨q, hq⟩ : ∃ q, q = v / 4096 % 256 := ⟨_, rfl⟩
  obtain ⟨r, hr⟩ : ∃ r, r = v / 2048 % 2 := ⟨_, rfl⟩
  obtain ⟨s, hs⟩ : ∃ s, s = v / 2 % 1024 := ⟨_, rfl⟩
  obtain ⟨t, ht⟩ : ∃ t, t = v / 1048576 % 2 := ⟨_, rfl⟩
  have e : baseS (111, 0, 0, jumpD) d 0 0 + laidv v jumpD.spans = 111 + d * 128 + q * 4096 + r * 1048576 + s * 2097152 + t * 2147483648 := by
    show 111 + d * 128 + 0 * 4096 + 0 * 32768 + 0 * 1048576 + 0 * 33554432 + (v % 18446744073709551616 / 4096 % 256 * 4096 + (v % 18446744073709551616 / 2048 % 2 * 1048576 + (v % 18446744073709551616 / 2 % 1024 * 2097152 + (v % 18446744073709551616 / 1048576 % 2 * 2147483648 + 0)))) = _
    rw [hq, hr, hs, ht]
    omega
  rw [e]
  have hv2 : v % 2097152 = 2 * s + 2048 * r + 4096 * q + 1048576 * t := by omega
  have b1 : 0 ≤ q ∧ q < 256 := by omega
  have b2 : 0 ≤ r ∧ r < 2 := by omega
  have b3 : 0 ≤ s ∧ s < 1024 := by omega
  have b4 : 0 ≤ t ∧ t < 2 := by omega
  clear e hq hr hs ht
  exact .jump d v _ (by omega) (by omega) (sx_21 (by rw [hv2]; clear hv2; omega) hv.1 hv.2)
theorem lin_store (f d a b v : Int) (hf : 0 ≤ f ∧ f < 8) (hd : 0 ≤ d) (ha : 0 ≤ a) (hb : 0 ≤ b) (h : mayF storeD d a b v = true) : Lin (35, f, 0, storeD) d a b v (baseS (35, f, 0, storeD) d a b + laidv v storeD.spans) := by
  obtain ⟨h1, h2, h3, h4, -, -, h7⟩ := may_regs h
  obtain rfl := h4 rfl
  have hv := fits_range v 12 2048 (by decide) (fits_num (by decide) h7)
  obtain ⟨q, hq⟩ : ∃ q, q = v % 32 := ⟨_, rfl⟩
  obtain ⟨r, hr⟩ : ∃ r, r = v / 32 % 128 := ⟨_, rfl⟩
  have e : baseS (35, f, 0, storeD) 0 a b + laidv v storeD.spans = 35 + q * 128 + f * 4096 + a * 32768 + b * 1048576 + r * 33554432 := by
    show 35 + 0 * 128 + f * 4096 + a * 32768 + b * 1048576 + 0 * 33554432 + (v % 18446744073709551616 / 1 % 32 * 128 + (v % 18446744073709551616 / 32 % 128 * 33554432 + 0)) = _
    rw [hq, hr]
    omega
  rw [e]
  have hv2 : v % 4096 = q + 32 * r := by omega
  have b1 : 0 ≤ q ∧ q < 32 := by omega
  have b2 : 0 ≤ r ∧ r < 128 := by omega
  clear e hq hr
  refine .store f a b v _ (by omega) (field (35 + q * 128) (a + b * 32 + r * 1024) 4096 8 (by omega) (by omega) hf (by omega)) (field (35 + q * 128 + f * 4096) (b + r * 32) 32768 32 (by omega) (by omega) (by omega) (by omega))
    (field (35 + q * 128 + f * 4096 + a * 32768) r 1048576 32 (by omega) (by omega) (by omega) (by omega)) (sx_12 ?_ hv.1 hv.2)
  rw [hv2, ← field (w := 35 + q * 128 + f * 4096 + a * 32768 + b * 1048576 + r * 33554432) (x := q) 35 (f + a * 8 + b * 256 + r * 8192) 128 32 (by omega) (by omega) b1 (by omega),
    ← fieldTop (w := 35 + q * 128 + f * 4096 + a * 32768 + b * 1048576 + r * 33554432) (x := r) (35 + q * 128 + f * 4096 + a * 32768 + b * 1048576) 33554432 (by omega) (by omega) (by omega)]
theorem lin_branch (f d a b v : Int) (hf : 0 ≤ f ∧ f < 8) (hd : 0 ≤ d) (ha : 0 ≤ a) (hb : 0 ≤ b) (h : mayF branchD d a b v = true) : Lin (99, f, 0, branchD) d a b v (baseS (99, f, 0, branchD) d a b + laidv v branchD.spans) := by
  obtain ⟨h1, h2, h3, h4, -, -, h7⟩ := may_regs h
  obtain rfl := h4 rfl
  obtain ⟨h7, h8⟩ := fits_step (by decide) (by decide) h7
  have hv := fits_range v 13 4096 (by decide) h7
  have h8 : v % 2 = 0 := h8
  obtain ⟨q, hq⟩ : ∃ q, q = v / 2048 % 2 := ⟨_, rfl⟩
  obtain ⟨r, hr⟩ : ∃ r, r = v / 2 % 16 := ⟨_, rfl⟩
  obtain ⟨s, hs⟩ : ∃ s, s = v / 32 % 64 := ⟨_, rfl⟩
  obtain ⟨t, ht⟩ : ∃ t, t = v / 4096 % 2 := ⟨_, rfl⟩
  have e : baseS (99, f, 0, branchD) 0 a b + laidv v branchD.spans = 99 + q * 128 + r * 256 + f * 4096 + a * 32768 + b * 1048576 + s * 33554432 + t * 2147483648 := by
    show 99 + 0 * 128 + f * 4096 + a * 32768 + b * 1048576 + 0 * 33554432 + (v % 18446744073709551616 / 2048 % 2 * 128 + (v % 18446744073709551616 / 2 % 16 * 256 + (v % 18446744073709551616 / 32 % 64 * 33554432 + (v % 18446744073709551616 / 4096 % 2 * 2147483648 + 0)))) = _
    rw [hq, hr, hs, ht]
    omega
  rw [e]
  have hv2 : v % 8192 = 2 * r + 32 * s + 2048 * q + 4096 * t := by omega
  have b1 : 0 ≤ q ∧ q < 2 := by omega
  have b2 : 0 ≤ r ∧ r < 16 := by omega
  have b3 : 0 ≤ s ∧ s < 64 := by omega
  have b4 : 0 ≤ t ∧ t < 2 := by omega
  clear e hq hr hs ht
  refine .branch f a b v _ (by omega) (field (99 + q * 128 + r * 256) (a + b * 32 + s * 1024 + t * 65536) 4096 8 (by omega) (by omega) hf (by omega)) (field (99 + q * 128 + r * 256 + f * 4096) (b + s * 32 + t * 2048) 32768 32 (by omega) (by omega) (by omega) (by omega))
    (field (99 + q * 128 + r * 256 + f * 4096 + a * 32768) (s + t * 64) 1048576 32 (by omega) (by omega) (by omega) (by omega)) (sx_13 ?_ hv.1 hv.2)
  rw [hv2, ← field (w := 99 + q * 128 + r * 256 + f * 4096 + a * 32768 + b * 1048576 + s * 33554432 + t * 2147483648) (x := r) (99 + q * 128) (f + a * 8 + b * 256 + s * 8192 + t * 524288) 256 16 (by omega) (by omega) b2 (by omega),
    ← field (w := 99 + q * 128 + r * 256 + f * 4096 + a * 32768 + b * 1048576 + s * 33554432 + t * 2147483648) (x := s) (99 + q * 128 + r * 256 + f * 4096 + a * 32768 + b * 1048576) t 33554432 64 (by omega) (by omega) b3 (by omega),
    ← field (w := 99 + q * 128 + r * 256 + f * 4096 + a * 32768 + b * 1048576 + s * 33554432 + t * 2147483648) (x := q) 99 (r + f * 16 + a * 128 + b * 4096 + s * 131072 + t * 8388608) 128 2 (by omega) (by omega) b1 (by omega),
    ← fieldTop (w := 99 + q * 128 + r * 256 + f * 4096 + a * 32768 + b * 1048576 + s * 33554432 + t * 2147483648) (x := t) (99 + q * 128 + r * 256 + f * 4096 + a * 32768 + b * 1048576 + s * 33554432) 2147483648 (by omega) (by omega) (by omega)]
theorem lin_bare (d a b v : Int) (h : mayF bareD d a b v = true) : Lin (115, 0, 0, bareD) d a b v (baseS (115, 0, 0, bareD) d a b + laidv v bareD.spans) := by
  obtain ⟨h1, h2, h3, h4, h5, h6, h7⟩ := may_regs h
  obtain rfl := h4 rfl
  obtain rfl := h5 rfl
  obtain rfl := h6 rfl
  obtain rfl := fits_two h7
  exact .bare
theorem tab_lin (x : Int × Int × Int × FD) (hx : x ∈ tabL) (d a b v : Int) (hd : 0 ≤ d) (ha : 0 ≤ a) (hb : 0 ≤ b) (h : mayF x.2.2.2 d a b v = true) : Lin x d a b v (baseS x d a b + laidv v x.2.2.2.spans) := by
  simp only [tabL, List.mem_cons, List.not_mem_nil, or_false] at hx
  rcases hx with rfl | rfl | rfl | rfl | rfl | rfl | rfl | rfl | rfl | rfl | rfl | rfl | rfl | rfl | rfl | rfl | rfl | rfl | rfl | rfl | rfl | rfl | rfl | rfl | rfl | rfl | rfl | rfl | rfl | rfl | rfl | rfl | rfl | rfl
  all_goals first
    | exact lin_two _ _ d a b v (by decide) (by decide) hd ha hb h
    | exact lin_number _ _ d a b v (by decide) (by decide) hd ha hb h
    | exact lin_shift _ _ d a b v (by decide) (by decide) hd ha hb h
    | exact lin_large d a b v hd ha hb h
    | exact lin_jump d a b v hd ha hb h
    | exact lin_store _ d a b v (by decide) hd ha hb h
    | exact lin_branch _ d a b v (by decide) hd ha hb h
    | exact lin_bare d a b v h
theorem tab_nodup : (tabL.map fun x => (x.1, x.2.1, x.2.2.1)).Nodup := by decide
theorem enc_inj {o d a b v o' d' a' b' v' w : Int} (hd : U8 d) (ha : U8 a) (hb : U8 b) (hd' : U8 d') (ha' : U8 a') (hb' : U8 b') (h : encv o d a b v = some w) (h' : encv o' d' a' b' v' = some w) :
    o = o' ∧ d = d' ∧ a = a' ∧ b = b' ∧ v = v' := by
  have open_ : ∀ {o d a b v : Int}, U8 d → U8 a → U8 b → encv o d a b v = some w → 1 ≤ o ∧ ∃ x, tabL[(o - 1).toNat]? = some x ∧ Lin x d a b v w := by
    intro o d a b v hd ha hb h
    unfold encv at h
    split at h
    · rename_i x hx
      split at h
      · rename_i hm
        have hw := Option.some.inj h
        unfold rowOf at hx
        split at hx
        · rename_i h1
          refine ⟨h1, x, hx, ?_⟩
          rw [← hw]
          exact tab_lin x (List.mem_of_getElem? hx) d a b v hd.1 ha.1 hb.1 hm
        · cases hx
      · cases h
    · cases h
  obtain ⟨h1, x, hx, hl⟩ := open_ hd ha hb h
  obtain ⟨h1', x', hx', hl'⟩ := open_ hd' ha' hb' h'
  obtain ⟨⟨e1, e2, e3⟩, e4⟩ := hl.inj hl'
  refine ⟨?_, e4⟩
  have g1 : (tabL.map fun x => (x.1, x.2.1, x.2.2.1))[(o - 1).toNat]? = some (x.1, x.2.1, x.2.2.1) := by rw [List.getElem?_map, hx]; rfl
  have g2 : (tabL.map fun x => (x.1, x.2.1, x.2.2.1))[(o' - 1).toNat]? = some (x.1, x.2.1, x.2.2.1) := by rw [List.getElem?_map, hx', e1, e2, e3]; rfl
  have hlt := (List.getElem?_eq_some_iff.1 g1).1
  have := (List.getElem?_inj hlt tab_nodup).1 (g1.trans g2.symm)
  omega
theorem enc_low {o d a b v w : Int} (hd : U8 d) (ha : U8 a) (hb : U8 b) (h : encv o d a b v = some w) : w % 4 = 3 ∧ 0 ≤ w := by
  unfold encv at h
  split at h
  · rename_i x hx
    split at h
    · rename_i hm
      have hw := Option.some.inj h
      have hmem : x ∈ tabL := by
        unfold rowOf at hx
        split at hx
        · exact List.mem_of_getElem? hx
        · cases hx
      have hc := (tab_lin x hmem d a b v hd.1 ha.1 hb.1 hm).code
      have hp := (word_sum x d a b v ((tab_forms x hmem).parts d a b v hd.1 ha.1 hb.1 hm)).2
      have h4 : ∀ x ∈ tabL, x.1 % 4 = 3 := by
        have h : tabL.all (fun x => x.1 % 4 == 3) = true := by decide
        intro x hx
        have := List.all_eq_true.1 h x hx
        simpa using this
      have := h4 x hmem
      rw [hw] at hc hp
      omega
    · cases h
  · cases h
end Go.Proofs.Ytgdbgbphbkefcaa
