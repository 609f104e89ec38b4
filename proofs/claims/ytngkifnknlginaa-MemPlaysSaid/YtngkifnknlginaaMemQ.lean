/-
Memories, the plain law: what was stored is loaded, what lies elsewhere stays; which kinds may be loaded, stored, fetched.
Conditions: each theorem's hypotheses.
-/
import Derived.Test.YtngkifnknlginaaMemP
namespace Go.Proofs.Ytngkifnknlginaa
open Go Go.Vc Go.RowKit
set_option linter.unusedVariables false
set_option linter.unusedSimpArgs false
set_option linter.unnecessarySimpa false
set_option linter.unusedSectionVars false
set_option maxRecDepth 100000

theorem find_lay : ∀ {st : List Pt} {i : Nat} {p : Pt} (hi : st[i]? = some p) (k : Nat) (l : List Int) (t : Bool) (a n : Int),
    findM (layM st i p k l t) a n = (findM st a n).map fun x => if x.1 = i then (i, layP p k l t) else x
  | [], i, p, hi, k, l, t, a, n => by simp at hi
  | q :: st, 0, p, hi, k, l, t, a, n => by
    obtain rfl : q = p := by simpa using hi
    show findM (layP q k l t :: st) a n = _
    simp only [findM]
    have e : (layP q k l t).r = q.r := rfl
    rw [e]
    split
    · simp
    · cases findM st a n <;> simp
  | q :: st, i + 1, p, hi, k, l, t, a, n => by
    have ih := find_lay (st := st) (i := i) (by simpa using hi) k l t a n
    show findM (q :: layM st i p k l t) a n = _
    simp only [findM]
    split
    · simp
    · rw [ih]
      cases findM st a n with
      | none => rfl
      | some x =>
        simp only [Option.map_some]
        by_cases hx : x.1 = i
        · rw [if_pos hx]
          simp [hx]
        · rw [if_neg hx]
          simp [hx]
/-- No two parts touch. -/
def Sep (st : List Pt) : Prop := okUpto [] (st.map (·.r)) = true
theorem Sep.lay {st : List Pt} (h : Sep st) {i : Nat} {p : Pt} (hi : st[i]? = some p) (k : Nat) (l : List Int) (t : Bool) : Sep (layM st i p k l t) := by
  unfold Sep at h ⊢
  have e : (layM st i p k l t).map (·.r) = st.map (·.r) := by
    apply List.ext_getElem?
    intro j
    simp only [layM, List.getElem?_map, List.getElem?_set]
    by_cases hj : i = j
    · subst hj
      have hil : i < st.length := (List.getElem?_eq_some_iff.1 hi).1
      rw [if_pos rfl, if_pos hil, hi]
      rfl
    · rw [if_neg hj]
  rw [e]
  exact h
theorem Sep.new {l : List Reg} (h : mayL l = true) : Sep (newM l) := by
  simp only [mayL, Bool.and_eq_true] at h
  unfold Sep newM
  rw [List.map_map]
  have : ((fun p : Pt => p.r) ∘ fun r : Reg => (⟨r, List.replicate r.s.toNat 0, List.replicate r.s.toNat false⟩ : Pt)) = id := rfl
  rw [this, List.map_id]
  exact h.2
theorem Sep.one {st : List Pt} (h : Sep st) {i j : Nat} {p q : Pt} (hi : st[i]? = some p) (hj : st[j]? = some q) {x : Int} (hp : p.r.f ≤ x ∧ x < p.r.f + p.r.s) (hq : q.r.f ≤ x ∧ x < q.r.f + q.r.s) : i = j := by
  have ei : (st.map (·.r))[i]? = some p.r := by rw [List.getElem?_map, hi]; rfl
  have ej : (st.map (·.r))[j]? = some q.r := by rw [List.getElem?_map, hj]; rfl
  rcases Nat.lt_trichotomy i j with hij | hij | hij
  · have := (okUpto_all h ej).2 i _ hij ei
    simp [touchR] at this
    omega
  · exact hij
  · have := (okUpto_all h ei).2 j _ hij ej
    simp [touchR] at this
    omega
theorem has_in {p : Pt} (hp : PtOk p) {a n : Int} (hn : 1 ≤ n ∧ n ≤ 8) (h : hasR p.r a n = true) {x : Int} (hx : a ≤ x ∧ x < a + n) : p.r.f ≤ x ∧ x < p.r.f + p.r.s := by
  simp only [hasR, Bool.and_eq_true, decide_eq_true_eq] at h
  have : n % 18446744073709551616 = n := by omega
  omega
theorem in_has {p : Pt} {x : Int} (h : p.r.f ≤ x ∧ x < p.r.f + p.r.s) : hasR p.r x 1 = true := by
  simp only [hasR, Bool.and_eq_true, decide_eq_true_eq]
  omega
theorem find_at {st : List Pt} (hs : Sep st) {i : Nat} {p : Pt} (hi : st[i]? = some p) {a n : Int} (hn : hasR p.r a n = true) : findM st a n = some (i, p) := by
  refine findM_some hi hn fun j q hj hq => ?_
  cases hb : hasR q.r a n with
  | false => rfl
  | true =>
    simp only [hasR, Bool.and_eq_true, decide_eq_true_eq] at hn hb
    have := hs.one hi hq (x := a) (by omega) (by omega)
    omega
theorem lowB_succ (v : Int) (n : Nat) : lowB v (n + 1) = v % 256 :: lowB (v / 256) n := by
  unfold lowB
  rw [List.range_succ_eq_map, List.map_cons, List.map_map]
  congr 1
  · simp
  · refine List.map_congr_left fun j _ => ?_
    show v / 2 ^ (8 * (j + 1)) % 256 = _
    rw [show 8 * (j + 1) = 8 + 8 * j by omega, Int.pow_add, show (2 : Int) ^ 8 = 256 from rfl, Int.ediv_ediv_of_nonneg (by decide)]
theorem valB_lowB : ∀ (n : Nat) (v : Int), valB (lowB v n) = v % 2 ^ (8 * n)
  | 0, v => by simp [lowB, valB, Int.emod_one]
  | n + 1, v => by
    rw [lowB_succ, valB, valB_lowB n, show 8 * (n + 1) = 8 + 8 * n by omega, Int.pow_add, show (2 : Int) ^ 8 = 256 from rfl]
    have hp : (0 : Int) < 2 ^ (8 * n) := Int.pow_pos (by decide)
    generalize (2 : Int) ^ (8 * n) = M at hp
    have h1 := Int.emod_add_mul_ediv v (256 * M)
    have h2 := Int.emod_add_mul_ediv v 256
    have h3 := Int.emod_add_mul_ediv (v / 256) M
    rw [← Int.ediv_ediv_of_nonneg (by decide : (0 : Int) ≤ 256)] at h1
    have : 256 * M * (v / 256 / M) = 256 * (M * (v / 256 / M)) := by rw [Int.mul_assoc]
    omega
theorem take_one {α : Type} {l : List α} {k : Nat} {x : α} (h : l[k]? = some x) : (l.drop k).take 1 = [x] := by
  have hk : k < l.length := (List.getElem?_eq_some_iff.1 h).1
  rw [List.drop_eq_getElem_cons hk]
  show [l[k]] = [x]
  rw [(List.getElem?_eq_some_iff.1 h).2]
theorem putL_same {α : Type} {B : List α} {o : Nat} {vs : List α} (h : o + vs.length ≤ B.length) : ((putL B o vs).drop o).take vs.length = vs := by
  unfold putL
  rw [List.append_assoc, List.drop_left' (by rw [List.length_take]; omega), List.take_left' rfl]
/-- One byte and its taint. -/
def oneM (p : Pt) (k : Nat) : Int × Bool := (p.bs.getD k 0, p.ts.getD k false)
theorem load_one {st : List Pt} (hs : StOk st) {x : Int} {i : Nat} {p : Pt} (hf : findM st x 1 = some (i, p)) : loadM st x 1 = if p.r.k = 1 then (0, false, 40) else ((oneM p (offR p x)).1, (oneM p (offR p x)).2, 0) := by
  obtain ⟨h1, h2⟩ := findM_get hf
  have hp := hs.2 i p h1
  obtain ⟨_, _, h3, _⟩ := hasR_facts hp h2
  unfold loadM
  rw [if_neg (by omega), hf]
  show (if p.r.k = 1 then _ else _) = _
  split
  · rfl
  · have eb : p.bs[offR p x]? = some (p.bs.getD (offR p x) 0) := by
      have : offR p x < p.bs.length := by rw [hp.bl]; exact h3
      simp [List.getD_eq_getElem?_getD, List.getElem?_eq_getElem this]
    have et : p.ts[offR p x]? = some (p.ts.getD (offR p x) false) := by
      have : offR p x < p.ts.length := by rw [hp.tl]; exact h3
      simp [List.getD_eq_getElem?_getD, List.getElem?_eq_getElem this]
    show (valB ((p.bs.drop (offR p x)).take 1), ((p.ts.drop (offR p x)).take 1).any id, (0 : Int)) = _
    rw [take_one eb, take_one et]
    simp [valB, oneM]
theorem lowB_get (v : Int) (n j : Nat) (h : j < n) : (lowB v n)[j]? = some (v / 2 ^ (8 * j) % 256) := by
  unfold lowB
  rw [List.getElem?_map, List.getElem?_range h]
  rfl
/-- What storing does to one byte. -/
theorem one_lay {p : Pt} (hp : PtOk p) {k n : Nat} (hk : k + n ≤ p.r.s.toNat) (v : Int) (t : Bool) (j : Nat) : oneM (layP p k (lowB v n) t) j = if k ≤ j ∧ j < k + n then (v / 2 ^ (8 * (j - k)) % 256, t) else oneM p j := by
  have l1 : (lowB v n).length = n := lowB_length v n
  unfold oneM layP
  simp only [List.getD_eq_getElem?_getD]
  rw [putL_get (by rw [hp.bl, l1]; exact hk), putL_get (by rw [hp.tl, List.length_replicate, l1]; exact hk), List.length_replicate, l1]
  by_cases h : k ≤ j ∧ j < k + n
  · rw [if_pos h, if_pos h, if_pos h, lowB_get v n _ (by omega)]
    rw [List.getElem?_replicate, if_pos (by omega)]
    rfl
  · rw [if_neg h, if_neg h, if_neg h]
section
variable {st : List Pt} (hs : StOk st) (hd : Sep st) {a n v : Int} {t : Bool}
include hs hd
/-- A store that comes about: where. -/
theorem store_some (h : (storeM st a n v t).2 = 0) : ∃ i p, (1 ≤ n ∧ n ≤ 8) ∧ findM st a n = some (i, p) ∧ (p.r.k = 3 ∨ p.r.k = 4) ∧ (storeM st a n v t).1 = layM st i p (offR p a) (lowB v n.toNat) t := by
  unfold storeM at h ⊢
  split at h
  · simp at h
  · rename_i hn
    cases hf : findM st a n with
    | none => rw [hf] at h; simp at h
    | some x =>
      obtain ⟨i, p⟩ := x
      rw [hf] at h
      simp only at h
      split at h
      · rename_i hk
        rw [if_neg hn]
        exact ⟨i, p, by omega, rfl, hk, by simp only; rw [if_pos hk]⟩
      · simp at h
theorem store_none (h : (storeM st a n v t).2 ≠ 0) : (storeM st a n v t).1 = st ∧ ((storeM st a n v t).2 = 40 ∨ (storeM st a n v t).2 = 2 ∧ (n < 1 ∨ 8 < n)) := by
  unfold storeM at h ⊢
  split at h
  · rename_i hn
    rw [if_pos hn]
    exact ⟨rfl, .inr ⟨rfl, hn⟩⟩
  · rename_i hn
    rw [if_neg hn]
    cases hf : findM st a n with
    | none => exact ⟨rfl, .inl rfl⟩
    | some x =>
      obtain ⟨i, p⟩ := x
      rw [hf] at h
      simp only at h ⊢
      split
      · rename_i hk
        rw [if_pos hk] at h
        simp at h
      · exact ⟨rfl, .inl rfl⟩
theorem keeps_err (o : Int) : (loadM (storeM st a n v t).1 o 1).2.2 = (loadM st o 1).2.2 := by
  by_cases h : (storeM st a n v t).2 = 0
  · obtain ⟨i, p, hn, hf, hk, e⟩ := store_some hs hd h
    rw [e]
    obtain ⟨g1, g2⟩ := findM_get hf
    have e2 := find_lay g1 (offR p a) (lowB v n.toNat) t o 1
    unfold loadM
    rw [if_neg (by omega), if_neg (by omega), e2]
    cases hq : findM st o 1 with
    | none => rfl
    | some x =>
      obtain ⟨j, q⟩ := x
      simp only [Option.map_some]
      by_cases hj : j = i
      · subst hj
        obtain ⟨g3, _⟩ := findM_get hq
        obtain rfl : p = q := by rw [g1] at g3; exact Option.some.inj g3
        simp only [if_true]
        show (if p.r.k = 1 then _ else _ : Int × Bool × Int).2.2 = (if p.r.k = 1 then _ else _ : Int × Bool × Int).2.2
        split <;> rfl
      · simp only [if_neg hj]
  · rw [(store_none hs hd h).1]
theorem fits_of {i : Nat} {p : Pt} (hn : 1 ≤ n ∧ n ≤ 8) (hf : findM st a n = some (i, p)) : offR p a + n.toNat ≤ p.r.s.toNat := by
  obtain ⟨g1, g2⟩ := findM_get hf
  obtain ⟨_, _, h3, h4⟩ := hasR_facts (hs.2 i p g1) g2
  have : n % 18446744073709551616 = n := by omega
  rw [this] at h4
  omega
theorem keeps_out (o : Int) (h : ¬ ((storeM st a n v t).2 = 0 ∧ a ≤ o ∧ o < a + n)) : loadM (storeM st a n v t).1 o 1 = loadM st o 1 := by
  by_cases h0 : (storeM st a n v t).2 = 0
  · obtain ⟨i, p, hn, hf, hk, e⟩ := store_some hs hd h0
    rw [e]
    obtain ⟨g1, g2⟩ := findM_get hf
    have hp := hs.2 i p g1
    have hfit := fits_of hs hd hn hf
    have e2 := find_lay g1 (offR p a) (lowB v n.toNat) t o 1
    have hs' : StOk (layM st i p (offR p a) (lowB v n.toNat) t) := layM_ok hs g1 (by rw [lowB_length]; exact hfit) (lowB_b8 v _)
    cases hq : findM st o 1 with
    | none =>
      rw [hq] at e2
      unfold loadM
      rw [if_neg (by omega), if_neg (by omega), e2, hq]
      rfl
    | some x =>
      obtain ⟨j, q⟩ := x
      rw [hq] at e2
      simp only [Option.map_some] at e2
      obtain ⟨g3, g4⟩ := findM_get hq
      by_cases hj : j = i
      · subst hj
        obtain rfl : p = q := by rw [g1] at g3; exact Option.some.inj g3
        rw [if_pos rfl] at e2
        rw [load_one hs' e2, load_one hs hq]
        show (if p.r.k = 1 then _ else _) = _
        split
        · rfl
        · show ((oneM (layP p _ _ t) (offR p o)).1, (oneM (layP p _ _ t) (offR p o)).2, (0 : Int)) = _
          obtain ⟨f1, f2, _⟩ := hasR_facts hp g2
          obtain ⟨f3, f4, _⟩ := hasR_facts hp g4
          rw [one_lay hp hfit, if_neg (by omega)]
      · rw [if_neg hj] at e2
        rw [load_one hs' e2, load_one hs hq]
  · rw [(store_none hs hd h0).1]
theorem keeps_in (o : Int) (h : (storeM st a n v t).2 = 0) (ho : a ≤ o ∧ o < a + n) : loadM (storeM st a n v t).1 o 1 = (v / 2 ^ (8 * (o - a).toNat) % 256, t, 0) := by
  obtain ⟨i, p, hn, hf, hk, e⟩ := store_some hs hd h
  rw [e]
  obtain ⟨g1, g2⟩ := findM_get hf
  have hp := hs.2 i p g1
  have hfit := fits_of hs hd hn hf
  have e2 := find_lay g1 (offR p a) (lowB v n.toNat) t o 1
  have hs' : StOk (layM st i p (offR p a) (lowB v n.toNat) t) := layM_ok hs g1 (by rw [lowB_length]; exact hfit) (lowB_b8 v _)
  have ho1 := in_has (has_in hp hn g2 ho)
  rw [find_at hd g1 ho1] at e2
  simp only [Option.map_some, if_true] at e2
  rw [load_one hs' e2]
  have k1 : ¬ (layP p (offR p a) (lowB v n.toNat) t).r.k = 1 := by show ¬ p.r.k = 1; omega
  rw [if_neg k1]
  show ((oneM (layP p _ _ t) (offR p o)).1, (oneM (layP p _ _ t) (offR p o)).2, (0 : Int)) = _
  obtain ⟨f1, f2, _⟩ := hasR_facts hp g2
  obtain ⟨f3, f4, _⟩ := hasR_facts hp ho1
  rw [one_lay hp hfit, if_pos (by omega), show offR p o - offR p a = (o - a).toNat by omega]
theorem keeps_back (h : (storeM st a n v t).2 = 0) : loadM (storeM st a n v t).1 a n = (v % 2 ^ (8 * n.toNat), t, 0) := by
  obtain ⟨i, p, hn, hf, hk, e⟩ := store_some hs hd h
  rw [e]
  obtain ⟨g1, g2⟩ := findM_get hf
  have hp := hs.2 i p g1
  have hfit := fits_of hs hd hn hf
  have e2 := find_lay g1 (offR p a) (lowB v n.toNat) t a n
  rw [hf] at e2
  simp only [Option.map_some, if_true] at e2
  unfold loadM
  rw [if_neg (by omega), e2]
  have k1 : ¬ (layP p (offR p a) (lowB v n.toNat) t).r.k = 1 := by show ¬ p.r.k = 1; omega
  show (if (layP p (offR p a) (lowB v n.toNat) t).r.k = 1 then _ else _) = _
  rw [if_neg k1]
  show (valB (((putL p.bs (offR p a) (lowB v n.toNat)).drop (offR p a)).take n.toNat), (((putL p.ts (offR p a) (List.replicate (lowB v n.toNat).length t)).drop (offR p a)).take n.toNat).any id, (0 : Int)) = _
  have b1 := putL_same (B := p.bs) (o := offR p a) (vs := lowB v n.toNat) (by rw [lowB_length, hp.bl]; exact hfit)
  rw [lowB_length] at b1
  have b2 := putL_same (B := p.ts) (o := offR p a) (vs := List.replicate (lowB v n.toNat).length t) (by rw [List.length_replicate, lowB_length, hp.tl]; exact hfit)
  rw [List.length_replicate, lowB_length] at b2
  rw [lowB_length, b1, b2, valB_lowB]
  have : (List.replicate n.toNat t).any id = t := by
    rw [show n.toNat = (n.toNat - 1) + 1 by omega, List.replicate_succ, List.any_cons]
    cases t with
    | true => rfl
    | false =>
      rw [Bool.eq_false_iff]
      intro hx
      simp at hx
  rw [this]
end
/-! ### kinds -/
section
variable {st : List Pt} (hs : StOk st) (hd : Sep st) {i : Nat} {p : Pt} (hi : st[i]? = some p) {x : Int} (hx : p.r.f ≤ x ∧ x < p.r.f + p.r.s)
include hs hd hi hx
theorem kind_load : (loadM st x 1).2.2 = if p.r.k = 1 then 40 else 0 := by
  rw [load_one hs (find_at hd hi (in_has hx))]
  split <;> rfl
theorem kind_store (v : Int) (t : Bool) : (storeM st x 1 v t).2 = if p.r.k = 3 ∨ p.r.k = 4 then 0 else 40 := by
  unfold storeM
  rw [if_neg (by omega), find_at hd hi (in_has hx)]
  show (if p.r.k = 3 ∨ p.r.k = 4 then _ else _ : List Pt × Int).2 = _
  split <;> rfl
end
end Go.Proofs.Ytngkifnknlginaa
