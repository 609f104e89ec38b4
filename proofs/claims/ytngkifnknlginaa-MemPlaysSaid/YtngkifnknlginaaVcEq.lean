/-
'==' of two structs whose fields are numbers, bools or texts, of one cell each.
Conditions: closed facts of the struct's type; the cells are of the fields' kinds.
-/
import Derived.Test.YtngkifnknlginaaVcOwn
import Derived.Laws.StructEq
namespace Go.Vc
open Go.RowKit
set_option linter.unusedVariables false
set_option linter.unusedSimpArgs false
set_option linter.unnecessarySimpa false

def eq1 : Value → Value → Bool
  | .int _ a, .int _ b => a == b
  | .bool a, .bool b => a == b
  | .string a, .string b => a.toList == b.toList
  | _, _ => false
def eqL : List Value → List Value → Bool
  | v :: vs, u :: us => eq1 v u && eqL vs us
  | _, _ => true
/-- Two cells of a type: numbers of its kind, bools, texts. -/
def ty2 (P : Program) (t : TypeId) (v u : Value) : Bool :=
  match P.underlying t, v, u with
  | some (.int k), .int k1 _, .int k2 _ => decide (k = k1) && decide (k = k2)
  | some .bool, .bool _, .bool _ => true
  | some .string, .string _, .string _ => true
  | _, _, _ => false
def flatL (P : Program) : Nat → List Field → List Value → List Value → Bool
  | _, [], [], [] => true
  | k, f :: fs, v :: vs, u :: us => !(f.name == "_") && Nat.beq f.offset k && ty2 P f.type v u && flatL P (k + 1) fs vs us
  | _, _, _, _ => false
theorem ty2_run {P : Program} {t : TypeId} {v u : Value} (h : ty2 P t v u = true) (d : Nat) (w : World) : (isAgg t).run P w = .ok false w ∧ (Op.equalIn (d + 1) t v u).run P w = .ok (eq1 v u) w := by
  unfold ty2 at h
  split at h
  · rename_i k k1 a k2 b hu
    simp only [Bool.and_eq_true, decide_eq_true_eq] at h
    obtain ⟨rfl, rfl⟩ := h
    exact ⟨by rw [run_isAgg hu]; simp [isAggT, hu], run_equalIn_int w d t _ _ a b hu⟩
  · rename_i a b hu
    exact ⟨by rw [run_isAgg hu]; simp [isAggT, hu], run_equalIn_bool' w d t a b hu⟩
  · rename_i a b hu
    exact ⟨by rw [run_isAgg hu]; simp [isAggT, hu], run_equalIn_string w d t a b hu⟩
  · cases h
theorem flat_run {P : Program} (d : Nat) (w : World) (xs ys : Array Value) : ∀ (fs : List Field) (k : Nat) (vs us : List Value), (∀ i, xs[k + i]? = vs[i]?) → (∀ i, ys[k + i]? = us[i]?) → flatL P k fs vs us = true →
    (Op.eqFields (d + 1) xs ys fs).run P w = .ok (eqL vs us) w := by
  intro fs
  induction fs with
  | nil =>
    intro k vs us _ _ h
    cases vs <;> cases us <;> first | (simp [Op.eqFields, eqL]; done) | (simp [flatL] at h)
  | cons f fs ih =>
    intro k vs us hx hy h
    cases vs with
    | nil => simp [flatL] at h
    | cons v vs =>
      cases us with
      | nil => simp [flatL] at h
      | cons u us =>
        simp only [flatL, Bool.and_eq_true, Bool.not_eq_true'] at h
        obtain ⟨⟨⟨hn, ho⟩, ht⟩, hr⟩ := h
        have ho : f.offset = k := Nat.eq_of_beq_eq_true ho
        obtain ⟨h1, h2⟩ := ty2_run ht d w
        have hv : xs[f.offset]? = some v := by have := hx 0; rw [ho]; simpa using this
        have hu : ys[f.offset]? = some u := by have := hy 0; rw [ho]; simpa using this
        have hn' : f.name ≠ "_" := by simpa using hn
        have := ih (k + 1) vs us (fun i => by have := hx (i + 1); simpa [Nat.add_assoc, Nat.add_comm 1 i] using this) (fun i => by have := hy (i + 1); simpa [Nat.add_assoc, Nat.add_comm 1 i] using this) hr
        simp only [Op.eqFields, if_pos hn', Sem.run_bind, part, h1, Result.andThen_ok, Bool.false_eq_true, if_false, hv, hu, Sem.run_pure, h2, Sem.run_ite, this, eqL]
        cases eq1 v u <;> simp
theorem eq_flat {P : Program} {t : TypeId} {fs : Array Field} {vs us : List Value} (xo yo : Operand) (hu : P.underlying t = some (.struct fs)) (hp : P.stoodInHeld t = false) (hm : P.eqGuardType P.depth t = false) (h : flatL P 0 fs.toList vs us = true) :
    EqRuns P .eql t xo yo (.agg vs.toArray) (.agg us.toArray) (eqL vs us) ∧ EqRuns P .neq t xo yo (.agg vs.toArray) (.agg us.toArray) (!eqL vs us) := by
  have hf : P.fieldsOf t = fs := by simp [Program.fieldsOf, hu]
  have main : ∀ w : World, (Op.equalIn 10000 t (.agg vs.toArray) (.agg us.toArray)).run P w = .ok (eqL vs us) w := fun w => by
    rw [show (10000 : Nat) = 9998 + 1 + 1 from rfl, run_equalIn_struct w (9998 + 1) t _ _ (by rw [hf]; exact hu) hp, hf]
    exact flat_run 9998 w _ _ _ 0 vs us (by simp) (by simp) h
  constructor
  · intro w
    simp only [Sem.run_bind, run_eqGuard_agg w .eql t xo yo _ _ hm, Result.andThen_ok, run_eql_struct, main w]
  · intro w
    simp only [Sem.run_bind, run_eqGuard_agg w .neq t xo yo _ _ hm, Result.andThen_ok, run_neq_struct, main w]
/-- As flatL, and a field may be a struct of such fields. -/
def flat2 (P : Program) : Nat → List Field → List Value → List Value → Bool
  | _, [], [], [] => true
  | _, [], _, _ => false
  | k, f :: fs, vs, us => !(f.name == "_") && Nat.beq f.offset k && (match P.underlying f.type with
    | some (.struct gs) => (match cellsT P f.type with
      | some n => isAggT P f.type && !P.stoodInHeld f.type && Nat.ble n vs.length && Nat.ble n us.length && flatL P 0 gs.toList (vs.take n) (us.take n) && flat2 P (k + n) fs (vs.drop n) (us.drop n)
      | none => false)
    | _ => (match vs, us with
      | v :: vs, u :: us => ty2 P f.type v u && flat2 P (k + 1) fs vs us
      | _, _ => false))
theorem eqL_split : ∀ (n : Nat) (vs us : List Value), n ≤ vs.length → n ≤ us.length → eqL vs us = (eqL (vs.take n) (us.take n) && eqL (vs.drop n) (us.drop n))
  | 0, vs, us, _, _ => by simp [eqL]
  | n + 1, [], us, h, _ => by simp at h
  | n + 1, _ :: _, [], _, h => by simp at h
  | n + 1, v :: vs, u :: us, h, h' => by
    simp only [List.length_cons, Nat.add_le_add_iff_right] at h h'
    simp only [eqL, List.take_succ_cons, List.drop_succ_cons, eqL_split n vs us h h', Bool.and_assoc]
theorem flat2_run {P : Program} (d : Nat) (w : World) (xs ys : Array Value) : ∀ (fs : List Field) (k : Nat) (vs us : List Value), (∀ i, xs[k + i]? = vs[i]?) → (∀ i, ys[k + i]? = us[i]?) → flat2 P k fs vs us = true →
    (Op.eqFields (d + 1 + 1) xs ys fs).run P w = .ok (eqL vs us) w := by
  intro fs
  induction fs with
  | nil =>
    intro k vs us _ _ h
    cases vs <;> cases us <;> first | (simp [Op.eqFields, eqL]; done) | (simp [flat2] at h)
  | cons f fs ih =>
    intro k vs us hx hy h
    unfold flat2 at h
    simp only [Bool.and_eq_true, Bool.not_eq_true'] at h
    obtain ⟨⟨hn, ho⟩, h⟩ := h
    have ho : f.offset = k := Nat.eq_of_beq_eq_true ho
    have hn' : f.name ≠ "_" := by simpa using hn
    split at h
    · rename_i gs hu
      split at h
      · rename_i n hc
        simp only [Bool.and_eq_true, Bool.not_eq_true'] at h
        obtain ⟨⟨⟨⟨⟨ha, hp⟩, hlv⟩, hlu⟩, hin⟩, hr⟩ := h
        have hlv := Nat.le_of_ble_eq_true hlv
        have hlu := Nat.le_of_ble_eq_true hlu
        have hfo : P.fieldsOf f.type = gs := by simp [Program.fieldsOf, hu]
        have get : ∀ (zs : Array Value) (ls : List Value), (∀ i, zs[k + i]? = ls[i]?) → n ≤ ls.length → zs.extract k (k + n) = (ls.take n).toArray := by
          intro zs ls hz hl
          apply Array.ext_getElem?
          intro i
          rw [Array.getElem?_extract]
          by_cases hi : i < n
          · have := hz i
            have hb : ls[i]? = some ls[i] := List.getElem?_eq_getElem (by omega)
            have hzk : k + i < zs.size := by
              rw [hb] at this
              exact (Array.getElem?_eq_some_iff.1 this).1
            rw [if_pos (by omega), this]
            simp [List.getElem?_take, hi]
          · have hzs : ¬ i < min (k + n) zs.size - k := by omega
            rw [if_neg hzs]
            simp [List.getElem?_take, hi]
        have px : (part f.type xs f.offset).run P w = .ok (.agg (vs.take n).toArray) w := by
          rw [ho, ← get xs vs hx hlv]
          simp [part, run_isAgg hu, ha, run_sizeOf hc]
        have py : (part f.type ys f.offset).run P w = .ok (.agg (us.take n).toArray) w := by
          rw [ho, ← get ys us hy hlu]
          simp [part, run_isAgg hu, ha, run_sizeOf hc]
        have he : (Op.equalIn (d + 1 + 1) f.type (.agg (vs.take n).toArray) (.agg (us.take n).toArray)).run P w = .ok (eqL (vs.take n) (us.take n)) w := by
          rw [run_equalIn_struct w (d + 1) f.type _ _ (by rw [hfo]; exact hu) hp, hfo]
          exact flat_run d w _ _ _ 0 _ _ (by simp) (by simp) hin
        have := ih (k + n) (vs.drop n) (us.drop n) (fun i => by rw [Nat.add_assoc, hx]; simp) (fun i => by rw [Nat.add_assoc, hy]; simp) hr
        rw [eqL_split n vs us hlv hlu]
        simp only [Op.eqFields, if_pos hn', Sem.run_bind, px, py, Result.andThen_ok, he, Sem.run_ite, Sem.run_pure, this]
        cases eqL (vs.take n) (us.take n) <;> simp
      · cases h
    · split at h
      · rename_i v vs' u us'
        simp only [Bool.and_eq_true] at h
        obtain ⟨ht, hr⟩ := h
        obtain ⟨h1, h2⟩ := ty2_run ht (d + 1) w
        have hv : xs[f.offset]? = some v := by have := hx 0; rw [ho]; simpa using this
        have hu : ys[f.offset]? = some u := by have := hy 0; rw [ho]; simpa using this
        have := ih (k + 1) vs' us' (fun i => by have := hx (i + 1); simpa [Nat.add_assoc, Nat.add_comm 1 i] using this) (fun i => by have := hy (i + 1); simpa [Nat.add_assoc, Nat.add_comm 1 i] using this) hr
        simp only [Op.eqFields, if_pos hn', Sem.run_bind, part, h1, Result.andThen_ok, Bool.false_eq_true, if_false, hv, hu, Sem.run_pure, h2, Sem.run_ite, this, eqL]
        cases eq1 v u <;> simp
      · cases h
theorem eq_flat2 {P : Program} {t : TypeId} {fs : Array Field} {vs us : List Value} (xo yo : Operand) (hu : P.underlying t = some (.struct fs)) (hp : P.stoodInHeld t = false) (hm : P.eqGuardType P.depth t = false) (h : flat2 P 0 fs.toList vs us = true) :
    EqRuns P .eql t xo yo (.agg vs.toArray) (.agg us.toArray) (eqL vs us) ∧ EqRuns P .neq t xo yo (.agg vs.toArray) (.agg us.toArray) (!eqL vs us) := by
  have hf : P.fieldsOf t = fs := by simp [Program.fieldsOf, hu]
  have main : ∀ w : World, (Op.equalIn 10000 t (.agg vs.toArray) (.agg us.toArray)).run P w = .ok (eqL vs us) w := fun w => by
    rw [show (10000 : Nat) = 9997 + 1 + 1 + 1 from rfl, run_equalIn_struct w (9997 + 1 + 1) t _ _ (by rw [hf]; exact hu) hp, hf]
    exact flat2_run 9997 w _ _ _ 0 vs us (by simp) (by simp) h
  constructor
  · intro w
    simp only [Sem.run_bind, run_eqGuard_agg w .eql t xo yo _ _ hm, Result.andThen_ok, run_eql_struct, main w]
  · intro w
    simp only [Sem.run_bind, run_eqGuard_agg w .neq t xo yo _ _ hm, Result.andThen_ok, run_neq_struct, main w]
end Go.Vc
