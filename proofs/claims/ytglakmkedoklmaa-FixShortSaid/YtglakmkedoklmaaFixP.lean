/-
What is promised of lines laid out, in plain words: long ones are too far, all instructions have words, where each stands.
Conditions: each theorem's hypotheses.
-/
import Derived.Test.YtglakmkedoklmaaFixG
namespace Go.Proofs.Ytglakmkedoklmaa
open Go Go.Vc Go.RowKit
set_option linter.unusedVariables false
set_option linter.unusedSimpArgs false
set_option maxRecDepth 100000

theorem iter_up {F : Nat → Nat → Int} {n i : Nat} : ∀ {k d : Nat}, iterL F n k i = true → iterL F n (k + d) i = true
  | k, 0, h => h
  | k, d + 1, h => by
    rw [show k + (d + 1) = (k + d) + 1 by omega, iterL, grown, iter_up (d := d) h, Bool.true_or]
theorem plc_diff {L M : Nat → Bool} (h : ∀ i, L i = true → M i = true) {i t : Nat} (hit : i ≤ t) : plc L t - plc L i ≤ plc M t - plc M i := by
  induction t with
  | zero => obtain rfl : i = 0 := by omega
            simp
  | succ t ih =>
    by_cases hi : i = t + 1
    · subst hi; simp
    · have := ih (by omega)
      rw [plc, plc]
      have hx : (if L t then (4 : Int) else 0) ≤ if M t then 4 else 0 := by
        cases hL : L t with
        | true => rw [h t hL]; decide
        | false => cases M t <;> decide
      omega
theorem iter_first {F : Nat → Nat → Int} {n i : Nat} : ∀ {k : Nat}, iterL F n k i = true → ∃ j, j < k ∧ iterL F n j i = false ∧ longer F n (iterL F n j) i = true
  | 0, h => by simp [iterL] at h
  | k + 1, h => by
    cases hk : iterL F n k i with
    | true =>
      obtain ⟨j, h1, h2⟩ := iter_first hk
      exact ⟨j, by omega, h2⟩
    | false =>
      refine ⟨k, by omega, hk, ?_⟩
      simp only [iterL, grown, hk, Bool.false_or, Bool.and_eq_true] at h
      exact h.2
/-- No line is long whose way would be short enough. -/
theorem long_far {F : Nat → Nat → Int} {n i : Nat} {L : Nat → Bool} (hV : valid F n) (hF : isFin F n L) (hi : i < n) (hl : L i = true) :
    (0 < wayL F n L i → 4094 < wayL F n L i - 4) ∧ (wayL F n L i ≤ 0 → wayL F n L i < -4096) := by
  obtain ⟨⟨k, rfl⟩, -⟩ := hF
  obtain ⟨j, hjk, hj0, hj1⟩ := iter_first hl
  have hle : ∀ x, iterL F n j x = true → iterL F n k x = true := fun x hx => by
    have := iter_up (d := k - j) hx
    rwa [show j + (k - j) = k by omega] at this
  have ht : 0 ≤ F i 6 := (iter_tgt hl).1
  obtain ⟨t, ht1, ht2, _⟩ := tgt_pos hV hi ht
  have w1 : wayL F n (iterL F n j) i = plc (iterL F n j) t - plc (iterL F n j) i := by unfold wayL; rw [ht1]; rfl
  have w2 : wayL F n (iterL F n k) i = plc (iterL F n k) t - plc (iterL F n k) i := by unfold wayL; rw [ht1]; rfl
  simp only [longer, Bool.and_eq_true, Bool.or_eq_true, decide_eq_true_eq] at hj1
  have hw := hj1.2
  rw [w1] at hw
  rw [w2]
  by_cases hit : i < t
  · have a := plc_diff (L := iterL F n j) (M := iterL F n k) hle (show i + 1 ≤ t by omega)
    have b := plc_mono (iterL F n j) (show i ≤ t by omega)
    have c : plc (iterL F n j) (i + 1) = plc (iterL F n j) i + 4 := by rw [plc, hj0]; simp
    have d : plc (iterL F n k) (i + 1) = plc (iterL F n k) i + 8 := by rw [plc, hl]; simp; omega
    omega
  · have a := plc_diff (L := iterL F n j) (M := iterL F n k) hle (show t ≤ i by omega)
    have b := plc_mono (iterL F n j) (show t ≤ i by omega)
    omega
/-- A line that is not long, whose way is short enough. -/
theorem short_near {F : Nat → Nat → Int} {n i : Nat} {L : Nat → Bool} (hF : isFin F n L) (hi : i < n) (hl : L i = false) (ht : 0 ≤ F i 6) (hj : F i 1 ≠ 32) : -4096 ≤ wayL F n L i ∧ wayL F n L i ≤ 4094 := by
  have := anyL_false hF.2 i hi
  simp only [longer, hl, Bool.and_eq_false_iff, Bool.or_eq_false_iff, decide_eq_false_iff_not] at this
  rcases this with (((h | h) | h) | h)
  · exact absurd ht h
  · exact absurd (by simpa using h) hj
  · cases h
  · omega
theorem plc_four (L : Nat → Bool) : ∀ k : Nat, plc L k % 4 = 0
  | 0 => rfl
  | k + 1 => by
    have := plc_four L k
    rw [plc]
    split <;> omega
/-! ### words -/
def fit0 (D : FD) (d a b : Int) : Bool := !((d != 0 && !D.rd) || (a != 0 && !D.rs1) || (b != 0 && !D.rs2)) && !(decide (d > 31) || decide (a > 31) || decide (b > 31))
theorem enc_isSome (o d a b v : Int) : (encv o d a b v).isSome = (match rowOf o with | some x => fit0 x.2.2.2 d a b && fitsF x.2.2.2.nb x.2.2.2.step v | none => false) := by
  unfold encv
  cases rowOf o with
  | none => rfl
  | some x =>
    have : ∀ (c : Bool) (y : Int), (if c = true then some y else none : Option Int).isSome = c := by intro c y; cases c <;> rfl
    simp only [mayF, fit0, Bool.and_assoc]
    exact this _ _
theorem branch_row {o : Int} (h0 : 28 ≤ o) (h1 : o ≤ 31) : ∃ x, rowOf o = some x ∧ x.2.2.2.rd = false ∧ x.2.2.2.rs1 = true ∧ x.2.2.2.rs2 = true ∧ x.2.2.2.nb = 13 ∧ x.2.2.2.step = 2 := by
  have : o = 28 ∨ o = 29 ∨ o = 30 ∨ o = 31 := by omega
  rcases this with rfl | rfl | rfl | rfl <;> exact ⟨_, rfl, rfl, rfl, rfl, rfl, rfl⟩
theorem jal_row : ∃ x, rowOf 32 = some x ∧ x.2.2.2.rd = true ∧ x.2.2.2.nb = 21 ∧ x.2.2.2.step = 2 := ⟨_, rfl, rfl, rfl, rfl⟩
theorem fits13 {v : Int} (h0 : -4096 ≤ v) (h1 : v ≤ 4094) (h2 : v % 4 = 0) : fitsF 13 2 v = true := by
  unfold fitsF fitsv
  rw [if_neg (by decide), if_neg (by decide)]
  have e : v.tmod 2 = 0 := Int.tmod_eq_zero_of_dvd (by omega)
  simp [e]
  omega
theorem fits21 {v : Int} (h0 : -1048576 ≤ v) (h1 : v ≤ 1048574) (h2 : v % 4 = 0) : fitsF 21 2 v = true := by
  unfold fitsF fitsv
  rw [if_neg (by decide), if_neg (by decide)]
  have e : v.tmod 2 = 0 := Int.tmod_eq_zero_of_dvd (by omega)
  simp [e]
  omega
theorem branch_enc {o o' d a b v v' : Int} (h0 : 28 ≤ o) (h1 : o ≤ 31) (h0' : 28 ≤ o') (h1' : o' ≤ 31) (h : (encv o d a b v).isSome = true) (hv0 : -4096 ≤ v') (hv1 : v' ≤ 4094) (hv2 : v' % 4 = 0) : (encv o' d a b v').isSome = true ∧ (encv o' 0 a b v').isSome = true := by
  obtain ⟨x, hx, x1, x2, x3, x4, x5⟩ := branch_row h0 h1
  obtain ⟨y, hy, y1, y2, y3, y4, y5⟩ := branch_row h0' h1'
  rw [enc_isSome, hx] at h
  rw [enc_isSome, enc_isSome, hy]
  simp only [Bool.and_eq_true] at h ⊢
  rw [y4, y5, fits13 hv0 hv1 hv2]
  have h := h.1
  unfold fit0 at h ⊢
  rw [x1, x2, x3] at h
  rw [y1, y2, y3]
  refine ⟨⟨h, rfl⟩, ⟨?_, rfl⟩⟩
  simp only [Bool.not_false, Bool.and_true, Bool.not_true, Bool.and_false, Bool.or_false, Bool.and_eq_true, Bool.not_eq_true', Bool.or_eq_false_iff] at h ⊢
  exact ⟨rfl, ⟨rfl, h.2.1.2⟩, h.2.2⟩
theorem jal_enc {d a b v v' : Int} (h : (encv 32 d a b v).isSome = true) (hv0 : -1048576 ≤ v') (hv1 : v' ≤ 1048574) (hv2 : v' % 4 = 0) : (encv 32 d a b v').isSome = true := by
  obtain ⟨x, hx, x1, x2, x3⟩ := jal_row
  rw [enc_isSome, hx] at h
  rw [enc_isSome, hx]
  simp only [Bool.and_eq_true] at h ⊢
  exact ⟨h.1, by rw [x2, x3]; exact fits21 hv0 hv1 hv2⟩
theorem jal_zero {v' : Int} (hv0 : -1048576 ≤ v') (hv1 : v' ≤ 1048574) (hv2 : v' % 4 = 0) : (encv 32 0 0 0 v').isSome = true :=
  jal_enc (show (encv 32 0 0 0 0).isSome = true by kernel_rfl) hv0 hv1 hv2
theorem oppv_range {o : Int} (h0 : 28 ≤ o) (h1 : o ≤ 31) : 28 ≤ oppv o ∧ oppv o ≤ 31 := by
  unfold oppv
  repeat' split
  all_goals omega
theorem wayL_four (F : Nat → Nat → Int) (n : Nat) (L : Nat → Bool) (i : Nat) : wayL F n L i % 4 = 0 := by
  have h1 := plc_four L i
  have h2 := plc_four L (tgt F n i).toNat
  unfold wayL
  omega
def enc5 (x : I5) : Option Int := encv x.1 x.2.1 x.2.2.1 x.2.2.2.1 x.2.2.2.2
theorem line_enc {F : Nat → Nat → Int} {n k : Nat} {L : Nat → Bool} (hn : n ≤ 3000) (hV : valid F n) (hF : isFin F n L) (hk : k < n) : ∀ x ∈ lineOut F n L k, (enc5 x).isSome = true := by
  intro x hx
  have hw := wayL_range F hk L
  have h4 := wayL_four F n L k
  have hE : (encv (F k 1) (F k 2) (F k 3) (F k 4) (F k 5)).isSome = true := (hV k hk).1.1
  unfold lineOut at hx
  split at hx
  · obtain rfl := List.mem_singleton.1 hx
    exact hE
  · rename_i ht
    have ht : 0 ≤ F k 6 := by omega
    obtain ⟨j1, j2, j3⟩ := (hV k hk).1.2.2.2.2 ht
    split at hx
    · rename_i hl
      have j4 := (fin_tgt hF hl).2
      have hop := oppv_range j1 (show F k 1 ≤ 31 by omega)
      simp only [List.mem_cons, List.not_mem_nil, or_false] at hx
      rcases hx with rfl | rfl
      · exact (branch_enc (v' := 8) j1 (by omega) hop.1 hop.2 hE (by decide) (by decide) (by decide)).2
      · exact jal_zero (v' := wayL F n L k - 4) (by omega) (by omega) (by omega)
    · rename_i hl
      obtain rfl := List.mem_singleton.1 hx
      by_cases hj : F k 1 = 32
      · unfold enc5
        simp only
        rw [hj] at hE ⊢
        exact jal_enc hE (by omega) (by omega) h4
      · have hs := short_near hF hk (by simpa using hl) ht hj
        exact (branch_enc j1 (by omega) j1 (by omega) hE hs.1 hs.2 h4).1
theorem outs_enc {F : Nat → Nat → Int} {n : Nat} {L : Nat → Bool} (hn : n ≤ 3000) (hV : valid F n) (hF : isFin F n L) : ∀ k, k ≤ n → ∀ x ∈ outs F n L k, (enc5 x).isSome = true
  | 0, _, x, hx => by cases hx
  | k + 1, hk, x, hx => by
    rw [outs] at hx
    rcases List.mem_append.1 hx with hx | hx
    · exact outs_enc hn hV hF k (by omega) x hx
    · exact line_enc hn hV hF (by omega) x hx
theorem code_allOk {l : List I5} (h : ∀ x ∈ l, (enc5 x).isSome = true) : allOk (encF (codeF l)) l.length := by
  intro k hk
  have hx : l[k]? = some l[k] := List.getElem?_eq_getElem hk
  have hc : ∀ j, codeF l k j = i5f l[k] j := fun j => by unfold codeF; rw [hx]
  unfold encF
  rw [hc, hc, hc, hc, hc]
  exact h _ (List.getElem_mem hk)
/-! ### where each stands -/
theorem outs_at (F : Nat → Nat → Int) (n : Nat) (L : Nat → Bool) {i j : Nat} : ∀ k : Nat, i < k → j < (lineOut F n L i).length → (outs F n L k)[(outs F n L i).length + j]? = (lineOut F n L i)[j]?
  | 0, h, _ => absurd h (Nat.not_lt_zero i)
  | k + 1, h, hj => by
    rw [outs]
    by_cases hik : i = k
    · subst hik
      rw [List.getElem?_append_right (by omega), Nat.add_sub_cancel_left]
    · have ih := outs_at F n L k (by omega) hj
      have hx : (lineOut F n L i)[j]? = some (lineOut F n L i)[j] := List.getElem?_eq_getElem hj
      rw [hx] at ih ⊢
      rw [List.getElem?_append_left (List.getElem?_eq_some_iff.1 ih).1]
      exact ih
end Go.Proofs.Ytglakmkedoklmaa
