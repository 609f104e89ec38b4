/-
Texts of this claim, merged: Law5D, Law5E, Law5F, Law5T, Vlaw05r, Law5K, VcRead, Law5R.
Conditions: each theorem's own.
-/
import Derived.Test.YtcnnnlhoiodeaaaGreatPkCpuRunsE
import Derived.Test.YtcnnnlhoiodeaaaGreatProg
set_option linter.unusedSimpArgs false
set_option linter.unnecessarySimpa false
set_option linter.unusedVariables false
set_option linter.unusedSectionVars false

/-
What was told and seen: copied, compared.
Conditions: each theorem's hypotheses.
-/
namespace Go.Proofs.YtcnnnlhoiodeaaaGreat
open Go Go.Vc Go.RowKit
set_option maxRecDepth 100000

theorem clone_any {α : Type} {T : ElT α} {t e : TypeId} {bytes : Nat} (hT : RowTy Tryz.prog t e T.sz bytes) {ad : Addr} {c : Nat} {l : List α} {w w1 : World} (h1 : w1 = w.alloc (.cells #[] e)) (hr : ERow T w (some ad) l) (hn : l.length ≤ 2000000) (hby : bytes ≤ 100) {K : Value → World → Prop}
    (hK : ∀ b c' w', Later w w' → OwnE T w w' e b c' l → K (.slice b l.length c') w') : RunsV Tryz.prog (Builtin.append_ #[t, t] t #[.slice (some ⟨w.heap.size, 0, none⟩) 0 0, .slice (some ad) l.length c]) w1 K := by
  have L := (Trk.start w).alloc h1
  cases hl : l with
  | nil =>
    obtain ⟨i, z, hi, hz, hs, hby, hzs⟩ := hT.info
    refine RunsV_of (v := .slice (some ⟨w.heap.size, 0, none⟩) 0 0) (w' := w1) ?_ ?_
    · exact run_append_nothing w1 _ _ _ _ i hT.under hi _ 0 0 (Nat.le_refl 0) (.slice (some ad) 0 c) ⟨.inl ⟨_, hT.under⟩, fun w' => by simp [Builtin.lenOf], by simp [Builtin.firstCells, loadCells, loadCellsFrom], by simp [Builtin.firstCells, loadCells, loadCellsFrom], by simp, by simp⟩
    · have := hK (some ⟨w.heap.size, 0, none⟩) 0 w1 L.to (by rw [hl]; exact OwnE.new (T := T) (l := []) (Later.refl w) h1 rfl (Nat.zero_le _))
      rw [hl] at this
      exact this
  | cons x r =>
    rw [← hl]
    have hpos : 0 < l.length := by rw [hl]; simp
    refine OwnE.grow (T := T) (w0 := w1) (l := []) (news := l) t hT (Later.refl w1) (show CellsAt w1 _ 0 [] from trivial) (hr.later L.to).all (by simpa using hpos) (by simp [maxLen]; omega) (by
      simp only [List.length_nil, Nat.zero_add]
      exact Nat.le_trans (Nat.mul_le_mul hn hby) (by decide)) fun b c' w' ho hl' => ?_
    rw [List.nil_append] at ho ⊢
    exact hK _ _ _ (L.to.trans hl') (ho.weak (Later.size L.to))
/-- A copy of a row. -/
def Copy {α : Type} (T : ElT α) (e : TypeId) (l : List α) (w : World) (en : Ending) (w' : World) : Prop := ∃ b c, en = .returned (.slice b l.length c) ∧ Later w w' ∧ OwnE T w w' e b c l
theorem clone_Tale_ok {A : Option Addr} {c : Nat} {l : List (Int × Bool)} {w : World} (hr : ERow talT w A l) (hn : l.length ≤ 2000000) : Calls Tryz.prog clone_Tale.N #[.slice A l.length c] w (Copy talT 120 l w) := by
  refine clone_Tale.calls ?_
  unfold clone_Tale.vc
  refine ⟨_, slice_nil (e := 120) (by kernel_rfl) _ _ _ _ _, ?_⟩
  cases A with
  | none =>
    obtain rfl : l = [] := by
      cases l with
      | nil => rfl
      | cons m l => obtain ⟨ad, he, _⟩ := hr 0 m rfl; cases he
    exact cnd_true rfl ⟨none, 0, rfl, Later.refl _, OwnE.nil _ _ _⟩
  | some ad => exact cnd_false rfl fun w1 h1 => clone_any talRow h1 hr hn (by decide) fun b c' w' l' ho => ⟨_, _, _, rfl, _, _, rfl, l', ho⟩
theorem clone_Seen_ok {A : Option Addr} {c : Nat} {l : List Sn} {w : World} (hr : ERow snT w A l) (hn : l.length ≤ 2000000) : Calls Tryz.prog clone_Seen.N #[.slice A l.length c] w (Copy snT 80 l w) := by
  refine clone_Seen.calls ?_
  unfold clone_Seen.vc
  refine ⟨_, slice_nil (e := 80) (by kernel_rfl) _ _ _ _ _, ?_⟩
  cases A with
  | none =>
    obtain rfl : l = [] := by
      cases l with
      | nil => rfl
      | cons m l => obtain ⟨ad, he, _⟩ := hr 0 m rfl; cases he
    exact cnd_true rfl ⟨none, 0, rfl, Later.refl _, OwnE.nil _ _ _⟩
  | some ad => exact cnd_false rfl fun w1 h1 => clone_any snRow h1 hr hn (by decide) fun b c' w' l' ho => ⟨_, _, _, rfl, _, _, rfl, l', ho⟩
theorem cpu_Told_ok {m0 : Nat} {w0 w : World} {S : Nat → Prop} {cb : Nat} {s : Cst} (h : CA (mProg m0) w0 w S cb s) : Calls Tryz.prog sacristy_cpu_Cpu_Told.N #[.pointer (some ⟨cb, 0, none⟩)] w (Copy talT 120 s.told w) := by
  obtain ⟨a, b, mb, pt, pr, ct, cr, cs, h⟩ := h
  have h1 := h.ok.told
  have h2 := h.ok.tr
  refine sacristy_cpu_Cpu_Told.calls ?_
  unfold sacristy_cpu_Cpu_Told.vc
  refine ⟨_, ptr_nil (by kernel_rfl) _ _ _, cnd_false rfl (Deref_some rfl ⟨_, _, _, hat h.has h.cc.tl, ?_⟩)⟩
  exact (clone_Tale_ok h.told.row (by omega)).mono fun e w1 ⟨b, c, he, l1, ho⟩ => ⟨_, _, _, he, b, c, rfl, l1, ho⟩
theorem cpu_Trace_ok {m0 : Nat} {w0 w : World} {S : Nat → Prop} {cb : Nat} {s : Cst} (h : CA (mProg m0) w0 w S cb s) : Calls Tryz.prog sacristy_cpu_Cpu_Trace.N #[.pointer (some ⟨cb, 0, none⟩)] w (Copy snT 80 s.tr w) := by
  obtain ⟨a, b, mb, pt, pr, ct, cr, cs, h⟩ := h
  have h1 := h.ok.told
  have h2 := h.ok.tr
  refine sacristy_cpu_Cpu_Trace.calls ?_
  unfold sacristy_cpu_Cpu_Trace.vc
  refine ⟨_, ptr_nil (by kernel_rfl) _ _ _, cnd_false rfl (Deref_some rfl ⟨_, _, _, hat h.has h.cc.tr, ?_⟩)⟩
  exact (clone_Seen_ok h.tr.row (by omega)).mono fun e w1 ⟨b, c, he, l1, ho⟩ => ⟨_, _, _, he, b, c, rfl, l1, ho⟩
theorem sn_neq (a k c d : Int) (t : Bool) (a' k' c' d' : Int) (t' : Bool) (xo yo : Operand) : EqRuns Tryz.prog .neq 80 xo yo (.agg #[u64v a, u8v k, u64v c, u64v d, .bool t]) (.agg #[u64v a', u8v k', u64v c', u64v d', .bool t']) (!(a == a' && (k == k' && (c == c' && (d == d' && t == t'))))) := by
  have := (eq_flat (P := Tryz.prog) (vs := [u64v a, u8v k, u64v c, u64v d, .bool t]) (us := [u64v a', u8v k', u64v c', u64v d', .bool t']) xo yo Tryz.underlying80 (by kernel_rfl) (by kernel_rfl) (by kernel_rfl)).2
  simpa [eqL, eq1] using this
theorem tal_neq (a : Int) (t : Bool) (a' : Int) (t' : Bool) (xo yo : Operand) : EqRuns Tryz.prog .neq 120 xo yo (.agg #[u64v a, .bool t]) (.agg #[u64v a', .bool t']) (!(a == a' && t == t')) := by
  have := (eq_flat (P := Tryz.prog) (vs := [u64v a, .bool t]) (us := [u64v a', .bool t']) xo yo Tryz.underlying120 (by kernel_rfl) (by kernel_rfl) (by kernel_rfl)).2
  simpa [eqL, eq1] using this
theorem sn_at {w : World} {B : Option Addr} {l : List Sn} (h : ERow snT w B l) {k : Nat} {x : Sn} (hk : l[k]? = some x) : ∃ ad, B = some ad ∧ w.cell? (ad.add (k * 5)) = some (u64v x.pc) ∧ w.cell? ((ad.add (k * 5)).add 1) = some (u8v x.k) ∧ w.cell? ((ad.add (k * 5)).add 2) = some (u64v x.a) ∧ w.cell? ((ad.add (k * 5)).add 3) = some (u64v x.b) ∧ w.cell? ((ad.add (k * 5)).add 4) = some (.bool x.t) := by
  obtain ⟨ad, e, hc⟩ := h k x hk
  have h0 := hc 0 _ rfl
  rw [addr_add_zero] at h0
  exact ⟨ad, e, h0, hc 1 _ rfl, hc 2 _ rfl, hc 3 _ rfl, hc 4 _ rfl⟩
theorem sn_cells {w : World} {ad : Addr} {l : List Sn} (h : ERow snT w (some ad) l) {k : Nat} {x : Sn} (hk : l[k]? = some x) : w.cell? (ad.add (k * 5)) = some (u64v x.pc) ∧ w.cell? ((ad.add (k * 5)).add 1) = some (u8v x.k) ∧ w.cell? ((ad.add (k * 5)).add 2) = some (u64v x.a) ∧ w.cell? ((ad.add (k * 5)).add 3) = some (u64v x.b) ∧ w.cell? ((ad.add (k * 5)).add 4) = some (.bool x.t) := by
  obtain ⟨ad', e, h⟩ := sn_at h hk
  obtain rfl := Option.some.inj e
  exact h
theorem tal_at {w : World} {B : Option Addr} {l : List (Int × Bool)} (h : ERow talT w B l) {k : Nat} {x : Int × Bool} (hk : l[k]? = some x) : ∃ ad, B = some ad ∧ w.cell? (ad.add (k * 2)) = some (u64v x.1) ∧ w.cell? ((ad.add (k * 2)).add 1) = some (.bool x.2) := by
  obtain ⟨ad, e, hc⟩ := h k x hk
  have h0 := hc 0 _ rfl
  rw [addr_add_zero] at h0
  exact ⟨ad, e, h0, hc 1 _ rfl⟩
theorem tal_cells {w : World} {ad : Addr} {l : List (Int × Bool)} (h : ERow talT w (some ad) l) {k : Nat} {x : (Int × Bool)} (hk : l[k]? = some x) : w.cell? (ad.add (k * 2)) = some (u64v x.1) ∧ w.cell? ((ad.add (k * 2)).add 1) = some (.bool x.2) := by
  obtain ⟨ad', e, h⟩ := tal_at h hk
  obtain rfl := Option.some.inj e
  exact h
theorem ref_SameTrace_ok {A B : Option Addr} {ca cb : Nat} {l : List Sn} (w : World) (hA : ERow snT w A l) (hB : ERow snT w B l) (hl : l.length ≤ 2000000) : Calls Tryz.prog ref05_SameTrace.N #[.slice A l.length ca, .slice B l.length cb] w (Gives (.bool true) w) := by
  refine ref05_SameTrace.calls ?_
  unfold ref05_SameTrace.vc
  refine cnd_false (by simp) ⟨fun vs W => ∃ k : Nat, vs = [.int .i64 k] ∧ k ≤ l.length ∧ Later w W, fun vs _ => match vs with | [.int _ k] => (l.length - k.toNat) | _ => 0, ⟨0, rfl, Nat.zero_le _, Later.refl _⟩, ?_⟩
  rintro g i W ⟨k, hs, hk, lW⟩
  simp only [List.cons.injEq, Value.int.injEq, true_and, and_true] at hs
  subst hs
  refine cnd_of (fun q => ?_) fun q => ⟨rfl, lW⟩
  have q := of_decide_eq_true q
  have hkl : k < l.length := by omega
  obtain ⟨x, hx⟩ : ∃ x, l[k]? = some x := ⟨_, List.getElem?_eq_getElem hkl⟩
  obtain ⟨ad, rfl, -⟩ := sn_at hA hx
  obtain ⟨bd, rfl, -⟩ := sn_at hB hx
  have cA := fun W' (l' : Later W W') => sn_cells (hA.later (lW.trans l')) hx
  have cB := fun W' (l' : Later W W') => sn_cells (hB.later (lW.trans l')) hx
  refine ⟨⟨by omega, by omega⟩, Deref_some rfl ⟨_, _, _, _, _, fun W' l' => ⟨(cA W' l').1, (cA W' l').2.1, (cA W' l').2.2.1, (cA W' l').2.2.2.1, (cA W' l').2.2.2.2, trivial⟩, ⟨by omega, by omega⟩, Deref_some rfl ⟨_, _, _, _, _, fun W' l' => ⟨(cB W' l').1, (cB W' l').2.1, (cB W' l').2.2.1, (cB W' l').2.2.2.1, (cB W' l').2.2.2.2, trivial⟩, _, sn_neq _ _ _ _ _ _ _ _ _ _ _ _, fun W' l' => cnd_false (by simp) ⟨⟨k + 1, ?_, by omega, lW.trans l'⟩, ?_⟩⟩⟩⟩
  · rw [i64_in (by omega) (by omega)]; rfl
  · show l.length - (IntKind.i64.wrap ((k : Int) + 1)).toNat < l.length - k
    rw [i64_in (by omega) (by omega)]; omega
theorem ref_SameTold_ok {A B : Option Addr} {ca cb : Nat} {l : List (Int × Bool)} (w : World) (hA : ERow talT w A l) (hB : ERow talT w B l) (hl : l.length ≤ 2000000) : Calls Tryz.prog ref05_SameTold.N #[.slice A l.length ca, .slice B l.length cb] w (Gives (.bool true) w) := by
  refine ref05_SameTold.calls ?_
  unfold ref05_SameTold.vc
  refine cnd_false (by simp) ⟨fun vs W => ∃ k : Nat, vs = [.int .i64 k] ∧ k ≤ l.length ∧ Later w W, fun vs _ => match vs with | [.int _ k] => (l.length - k.toNat) | _ => 0, ⟨0, rfl, Nat.zero_le _, Later.refl _⟩, ?_⟩
  rintro g i W ⟨k, hs, hk, lW⟩
  simp only [List.cons.injEq, Value.int.injEq, true_and, and_true] at hs
  subst hs
  refine cnd_of (fun q => ?_) fun q => ⟨rfl, lW⟩
  have q := of_decide_eq_true q
  have hkl : k < l.length := by omega
  obtain ⟨x, hx⟩ : ∃ x, l[k]? = some x := ⟨_, List.getElem?_eq_getElem hkl⟩
  obtain ⟨ad, rfl, -⟩ := tal_at hA hx
  obtain ⟨bd, rfl, -⟩ := tal_at hB hx
  have cA := fun W' (l' : Later W W') => tal_cells (hA.later (lW.trans l')) hx
  have cB := fun W' (l' : Later W W') => tal_cells (hB.later (lW.trans l')) hx
  refine ⟨⟨by omega, by omega⟩, Deref_some rfl ⟨_, _, fun W' l' => ⟨(cA W' l').1, (cA W' l').2, trivial⟩, ⟨by omega, by omega⟩, Deref_some rfl ⟨_, _, fun W' l' => ⟨(cB W' l').1, (cB W' l').2, trivial⟩, _, tal_neq _ _ _ _ _ _, fun W' l' => cnd_false (by simp) ⟨⟨k + 1, ?_, by omega, lW.trans l'⟩, ?_⟩⟩⟩⟩
  · rw [i64_in (by omega) (by omega)]; rfl
  · show l.length - (IntKind.i64.wrap ((k : Int) + 1)).toNat < l.length - k
    rw [i64_in (by omega) (by omega)]; omega
end Go.Proofs.YtcnnnlhoiodeaaaGreat

/-
Runs: what stays of a state, Run, the examples of the chapter.
Conditions: each theorem's hypotheses.
-/
namespace Go.Proofs.YtcnnnlhoiodeaaaGreat
open Go Go.Vc Go.RowKit
set_option maxRecDepth 100000

theorem find_get : ∀ {st : List Pt} {a n : Int} {i : Nat} {p : Pt}, findM st a n = some (i, p) → st[i]? = some p ∧ hasR p.r a n = true
  | [], a, n, i, p, h => by simp [findM] at h
  | q :: st, a, n, i, p, h => by
    rw [findM] at h
    split at h
    · rename_i hq
      obtain ⟨rfl, rfl⟩ := Prod.mk.inj (Option.some.inj h)
      exact ⟨rfl, hq⟩
    · cases hf : findM st a n with
      | none => rw [hf] at h; cases h
      | some x =>
        rw [hf] at h
        obtain ⟨rfl, rfl⟩ := Prod.mk.inj (Option.some.inj h)
        exact find_get (st := st) hf
theorem storeM_r (st : List Pt) (a n v : Int) (t : Bool) : (storeM st a n v t).1.map (·.r) = st.map (·.r) := by
  unfold storeM
  split
  · rfl
  · split
    · rfl
    · rename_i i p hf
      split
      · exact layM_r (find_get hf).1 _ _ _
      · rfl
/-- What a step leaves of what was told, and of the memory's parts. -/
theorem doS_told (s : Cst) (o d v pc ra : Int) (ta : Bool) (rb : Int) (tb : Bool) : (doS s o d v pc ra ta rb tb).1.told.length ≤ s.told.length + 1 ∧ (doS s o d v pc ra ta rb tb).1.M.map (·.r) = s.M.map (·.r) := by
  have hS : ∀ (d v : Int) (t : Bool), (setS s d v t).told.length ≤ s.told.length + 1 ∧ (setS s d v t).M.map (·.r) = s.M.map (·.r) := fun d v t => by
    obtain ⟨h1, -, h3, -⟩ := setS_M s d v t
    rw [h1, h3]; exact ⟨Nat.le_succ _, rfl⟩
  have hI : s.told.length ≤ s.told.length + 1 ∧ s.M.map (·.r) = s.M.map (·.r) := ⟨Nat.le_succ _, rfl⟩
  unfold doS
  by_cases h1 : o ≤ 14
  · rw [if_pos h1]; exact hS _ _ _
  rw [if_neg h1]
  by_cases h2 : o ≤ 22
  · rw [if_pos h2]; exact hS _ _ _
  rw [if_neg h2]
  by_cases h3 : o ≤ 23
  · rw [if_pos h3]; exact hS _ _ _
  rw [if_neg h3]
  by_cases h4 : o ≤ 25
  · rw [if_pos h4]; exact hS _ _ _
  rw [if_neg h4]
  by_cases h5 : o ≤ 27
  · rw [if_pos h5]; exact ⟨Nat.le_succ _, storeM_r _ _ _ _ _⟩
  rw [if_neg h5]
  by_cases h6 : o ≤ 31
  · rw [if_pos h6]; show (if goesS o ra rb = true then _ else _ : Cst).told.length ≤ _ ∧ (if goesS o ra rb = true then _ else _ : Cst).M.map (·.r) = _; split <;> exact hI
  rw [if_neg h6]
  by_cases h7 : o ≤ 32
  · rw [if_pos h7]; exact hS _ _ _
  rw [if_neg h7]
  by_cases h8 : o ≤ 33
  · rw [if_pos h8]; exact hS _ _ _
  rw [if_neg h8]
  by_cases h9 : s.R 17 > 5
  · rw [if_pos h9]; exact hI
  rw [if_neg h9]
  by_cases h10 : s.R 17 = 4
  · rw [if_pos h10]; exact ⟨by simp, rfl⟩
  rw [if_neg h10]
  by_cases h11 : s.R 17 < 4
  · rw [if_pos h11]; exact hI
  rw [if_neg h11]; exact hI
theorem stepS_keeps {s : Cst} (h : s.told.length ≤ s.tr.length) : (stepS s).1.told.length ≤ (stepS s).1.tr.length ∧ (stepS s).1.M.map (·.r) = s.M.map (·.r) := by
  unfold stepS
  by_cases h1 : s.over = true
  · rw [if_pos h1]; exact ⟨h, rfl⟩
  rw [if_neg h1]
  by_cases h2 : 1048576 ≤ s.tr.length
  · rw [if_pos h2]; exact ⟨h, rfl⟩
  rw [if_neg h2]
  by_cases h3 : (fetchM s.M s.pc).2 ≠ 0
  · rw [if_pos h3]; exact ⟨h, rfl⟩
  rw [if_neg h3]
  by_cases h4 : decE (fetchM s.M s.pc).1 ≠ 0
  · rw [if_pos h4]; exact ⟨h, rfl⟩
  rw [if_neg h4]
  by_cases h5 : (insS s (fetchM s.M s.pc).1).2.2 ≠ 0
  · rw [if_pos h5]; exact ⟨h, rfl⟩
  rw [if_neg h5]
  have hd := doS_told { s with pc := uw (s.pc + 4) } (decF (fetchM s.M s.pc).1 0) (decF (fetchM s.M s.pc).1 1) (decF (fetchM s.M s.pc).1 4) s.pc (s.R (decF (fetchM s.M s.pc).1 2).toNat) (s.T (decF (fetchM s.M s.pc).1 2).toNat) (s.R (decF (fetchM s.M s.pc).1 3).toNat) (s.T (decF (fetchM s.M s.pc).1 3).toNat)
  have ht := doS_tr { s with pc := uw (s.pc + 4) } (decF (fetchM s.M s.pc).1 0) (decF (fetchM s.M s.pc).1 1) (decF (fetchM s.M s.pc).1 4) s.pc (s.R (decF (fetchM s.M s.pc).1 2).toNat) (s.T (decF (fetchM s.M s.pc).1 2).toNat) (s.R (decF (fetchM s.M s.pc).1 3).toNat) (s.T (decF (fetchM s.M s.pc).1 3).toNat)
  refine ⟨?_, hd.2⟩
  show (insS s _).1.told.length ≤ ((insS s _).1.tr ++ _).length
  have e1 : (insS s (fetchM s.M s.pc).1).1.tr = s.tr := ht
  have e2 : (insS s (fetchM s.M s.pc).1).1.told.length ≤ s.told.length + 1 := hd.1
  rw [e1, List.length_append]
  simp only [List.length_cons, List.length_nil]
  omega
/-! ### runs -/
def runL (s : Cst) : Nat → Cst × Int
  | 0 => (s, 52)
  | k + 1 => if (stepS s).2 ≠ 0 then stepS s else if (stepS s).1.over = true then stepS s else runL (stepS s).1 k
def runS (s : Cst) (fuel : Int) : Cst × Int := if s.over = true then (s, 50) else if fuel < 0 then (s, 2) else if fuel > 1048576 then (s, 2) else runL s fuel.toNat
/-- What comes of a machine: the state, the answer. -/
def MoveR (X : Mach) (w0 w : World) (S : Nat → Prop) (cb : Nat) (r : Cst × Int) (e : Ending) (w' : World) : Prop :=
  e = .returned (i64v r.2) ∧ But S w w' ∧ ∃ S', Grow S S' w ∧ CA X w0 w' S' cb r.1
theorem MoveR.trans {X : Mach} {w0 w w1 w2 : World} {S S1 : Nat → Prop} {cb : Nat} {r : Cst × Int} {e : Ending} (hb : But S w w1) (hg : Grow S S1 w) (h : MoveR X w0 w1 S1 cb r e w2) : MoveR X w0 w S cb r e w2 := by
  obtain ⟨he, b2, S2, g2, c2⟩ := h
  exact ⟨he, hb.step b2 fun k hk h1 => (hg k h1).elim id fun h2 => absurd hk (by omega), S2, hg.trans g2 hb.size, c2⟩
theorem over_at {X : Mach} {w0 w : World} {S : Nat → Prop} {cb : Nat} {s : Cst} (h : CA X w0 w S cb s) : w.cell? ⟨cb, 66, none⟩ = some (.bool s.over) := by
  obtain ⟨a, b, mb, pt, pr, ct, cr, cs, h⟩ := h
  exact h.cell h.cc.ov
set_option maxHeartbeats 3200000 in
theorem cpu_Run_ok {m0 : Nat} {w0 w : World} {S : Nat → Prop} {cb : Nat} {s : Cst} (h : CA (mProg m0) w0 w S cb s) (htl : s.told.length ≤ s.tr.length) (fuel : Int) :
    Calls Tryz.prog sacristy_cpu_Cpu_Run.N #[.pointer (some ⟨cb, 0, none⟩), i64v fuel] w (MoveR (mProg m0) w0 w S cb (runS s fuel)) := by
  refine sacristy_cpu_Cpu_Run.calls ?_
  unfold sacristy_cpu_Cpu_Run.vc
  refine ⟨_, ptr_nil (by kernel_rfl) _ _ _, cnd_false rfl (Deref_some rfl ⟨_, over_at h, ?_⟩)⟩
  have stay : ∀ k : Int, runS s fuel = (s, k) → MoveR (mProg m0) w0 w S cb (runS s fuel) (.returned (i64v k)) w := fun k hk => by
    rw [hk]; exact ⟨rfl, But.refl _ _, S, Grow.refl _ _, h⟩
  refine cnd_of (fun h1 => stay _ (by unfold runS; rw [if_pos h1])) fun h1 => cnd_of (fun h2 => stay _ (by unfold runS; rw [if_neg (by rw [h1]; decide), if_pos (of_decide_eq_true h2)])) fun h2 => cnd_of (fun h3 => stay _ (by unfold runS; rw [if_neg (by rw [h1]; decide), if_neg (of_decide_eq_false h2), if_pos (of_decide_eq_true h3)])) fun h3 => ?_
  have h2 := of_decide_eq_false h2
  have h3 := of_decide_eq_false h3
  have hr : runS s fuel = runL s fuel.toNat := by unfold runS; rw [if_neg (by rw [h1]; decide), if_neg h2, if_neg h3]
  rw [hr]
  refine ⟨fun vs W => ∃ (k : Nat) (q : Cst), vs = [.int .i64 k] ∧ k ≤ fuel.toNat ∧ runL s fuel.toNat = runL q (fuel.toNat - k) ∧ q.told.length ≤ q.tr.length ∧ But S w W ∧ ∃ S1, Grow S S1 w ∧ CA (mProg m0) w0 W S1 cb q, fun vs _ => match vs with | [.int _ k] => (fuel.toNat - k.toNat) | _ => 0, ⟨0, s, rfl, Nat.zero_le _, rfl, htl, But.refl _ _, S, Grow.refl _ _, h⟩, ?_⟩
  rintro g i W ⟨k, q, hs, hk, he, hq, hb, S1, hg, hc⟩
  simp only [List.cons.injEq, Value.int.injEq, true_and, and_true] at hs
  subst hs
  refine cnd_of (fun hlt => ?_) fun hlt => ?_
  · have hlt := of_decide_eq_true hlt
    have e1 : fuel.toNat - k = (fuel.toNat - (k + 1)) + 1 := by omega
    rw [e1, runL] at he
    refine (cpu_Step_ok hc hq).mono fun e W1 hst => ?_
    obtain ⟨he1, hb1, S2, hg2, hc2⟩ := hst
    refine ⟨_, he1, cnd_of (fun hn => ?_) fun hn => ?_⟩
    · have hn : (stepS q).2 ≠ 0 := by simpa using hn
      rw [he, if_pos hn]
      exact MoveR.trans hb hg ⟨rfl, hb1, S2, hg2, hc2⟩
    · have hn : (stepS q).2 = 0 := by simpa using hn
      rw [if_neg (by rw [hn]; decide)] at he
      refine Deref_some rfl ⟨_, over_at hc2, cnd_of (fun ho => ?_) fun ho => ?_⟩
      · rw [he, if_pos ho]
        exact MoveR.trans hb hg ⟨rfl, hb1, S2, hg2, hc2⟩
      · rw [if_neg (by rw [ho]; decide)] at he
        have hm := MoveR.trans (e := .returned (i64v (stepS q).2)) hb hg ⟨rfl, hb1, S2, hg2, hc2⟩
        obtain ⟨-, hb3, S3, hg3, hc3⟩ := hm
        have ei : IntKind.i64.wrap ((k : Int) + 1) = ((k + 1 : Nat) : Int) := by rw [i64_in (by omega) (by omega)]; rfl
        rw [ei]
        exact ⟨⟨k + 1, (stepS q).1, rfl, by omega, he, (stepS_keeps hq).1, hb3, S3, hg3, hc3⟩, by show fuel.toNat - (k + 1) < fuel.toNat - k; omega⟩
  · have hlt := of_decide_eq_false hlt
    have e0 : fuel.toNat - k = 0 := by omega
    rw [e0, runL] at he
    rw [he]
    exact ⟨rfl, hb, S1, hg, hc⟩
end Go.Proofs.YtcnnnlhoiodeaaaGreat

/-
The examples of chapter 05.
Conditions: each theorem's hypotheses.
-/
namespace Go.Proofs.YtcnnnlhoiodeaaaGreat
open Go Go.Vc Go.RowKit
set_option maxRecDepth 100000

def exF (i j : Nat) : Int := (([15, 10, 0, 0, 7, 15, 17, 0, 0, 4, 34, 0, 0, 0, 0, 15, 17, 0, 0, 0, 34, 0, 0, 0, 0] : List Int)[5 * i + j]?).getD 0
def exU : Su := ⟨5, exF, [], []⟩
def jaF (i j : Nat) : Int := (([32, 0, 0, 0, 0] : List Int)[5 * i + j]?).getD 0
def jaU : Su := ⟨1, jaF, [], []⟩
theorem ex_run : let r := runS (initS exU) 100; r.2 = 0 ∧ r.1.over = true ∧ r.1.code = 0 ∧ r.1.e = 0 ∧ r.1.told = [(7, false)] ∧ r.1.tr.length = 5 := by
  refine ⟨?_, ?_, ?_, ?_, ?_, ?_⟩ <;> kernel_rfl
theorem ja_run : let r := runS (initS jaU) 100; r.2 = 52 ∧ r.1.tr.length = 100 := by
  refine ⟨?_, ?_⟩ <;> kernel_rfl
theorem introw_of {w : World} {b n : Nat} {cs : List Value} {F : Nat → Nat → Int} (h : Has w b cs) (hc : ∀ i, i < n → ∀ j k, insK[j]? = some k → cs[i * 5 + j]? = some (.int k (F i j)) ∧ (Lit.int k (F i j)).wf = true) : IntRow w (some ⟨b, 0, none⟩) n insK F := by
  intro i hi
  refine ⟨_, rfl, fun j k hk => ?_⟩
  obtain ⟨h1, h2⟩ := hc i hi j k hk
  refine ⟨?_, h2⟩
  have := h.cell h1
  show w.cell? (((⟨b, 0, none⟩ : Addr).add (i * 5)).add j) = _
  rw [add_block, add_block, Nat.zero_add]
  exact this
theorem ex_row {w : World} {b : Nat} (h : Has w b [u8v 15, u8v 10, u8v 0, u8v 0, i64v 7, u8v 15, u8v 17, u8v 0, u8v 0, i64v 4, u8v 34, u8v 0, u8v 0, u8v 0, i64v 0, u8v 15, u8v 17, u8v 0, u8v 0, i64v 0, u8v 34, u8v 0, u8v 0, u8v 0, i64v 0]) : IntRow w (some ⟨b, 0, none⟩) 5 insK exF := by
  refine introw_of h fun i hi j k hk => ?_
  have hj : j < 5 := (List.getElem?_eq_some_iff.1 hk).1
  rcases i with _ | _ | _ | _ | _ | i <;> first | omega | (rcases j with _ | _ | _ | _ | _ | j <;> first | omega | (cases hk; exact ⟨rfl, by decide⟩))
theorem ja_row {w : World} {b : Nat} (h : Has w b [u8v 32, u8v 0, u8v 0, u8v 0, i64v 0]) : IntRow w (some ⟨b, 0, none⟩) 1 insK jaF := by
  refine introw_of h fun i hi j k hk => ?_
  have hj : j < 5 := (List.getElem?_eq_some_iff.1 hk).1
  rcases i with _ | i <;> first | omega | (rcases j with _ | _ | _ | _ | _ | j <;> first | omega | (cases hk; exact ⟨rfl, by decide⟩))
theorem ex_ok : SuOk exU := ⟨by decide, by decide, by decide, by decide, fun k c h => by simp [exU] at h, fun k c h => by simp [exU] at h⟩
theorem ja_ok : SuOk jaU := ⟨by decide, by decide, by decide, by decide, fun k c h => by simp [jaU] at h, fun k c h => by simp [jaU] at h⟩
theorem ptr_nen {t : TypeId} (h : Tryz.prog.underlying t = some (.pointer (Tryz.prog.pointee t))) (p : Option Addr) (xo yo : Operand) : EqRuns Tryz.prog .neq t xo yo (.pointer p) (.pointer none) (!p.isNone) := by
  intro w
  rw [eqGuard_at_pointer]
  simp only [Sem.run_bind, Sem.run_pure, Result.andThen_ok]
  exact run_neq_pointer_nil w _ p h
theorem tal_eq (a : Int) (t : Bool) (a' : Int) (t' : Bool) (xo yo : Operand) : EqRuns Tryz.prog .eql 120 xo yo (.agg #[u64v a, .bool t]) (.agg #[u64v a', .bool t']) (a == a' && t == t') := by
  have := (eq_flat (P := Tryz.prog) (vs := [u64v a, .bool t]) (us := [u64v a', .bool t']) xo yo Tryz.underlying120 (by kernel_rfl) (by kernel_rfl) (by kernel_rfl)).1
  simpa [eqL, eq1] using this
theorem init_told (u : Su) : ∀ k, (regI u k).told = [] ∧ (regI u k).tr = [] ∧ (regI u k).over = false ∧ (regI u k).M = memI u u.bys.length
  | 0 => ⟨rfl, rfl, rfl, rfl⟩
  | k + 1 => by
    have ih := init_told u k
    unfold regI
    split
    · rename_i c _
      obtain ⟨h1, h2, h3, -, -, h6, -⟩ := setS_M (regI u k) (c.a % 32) c.v c.t
      rw [h1, h2, h3, h6]; exact ih
    · exact ih
theorem init_keeps (u : Su) : (initS u).told.length ≤ (initS u).tr.length := by
  rw [show (initS u).told = [] from (init_told u _).1]
  exact Nat.zero_le _
theorem runL_keeps : ∀ (k : Nat) {s : Cst}, s.told.length ≤ s.tr.length → (runL s k).1.told.length ≤ (runL s k).1.tr.length
  | 0, s, h => h
  | k + 1, s, h => by
    have h' := (stepS_keeps h).1
    unfold runL
    split
    · exact h'
    · split
      · exact h'
      · exact runL_keeps k h'
theorem runS_keeps {s : Cst} (h : s.told.length ≤ s.tr.length) (f : Int) : (runS s f).1.told.length ≤ (runS s f).1.tr.length := by
  unfold runS
  split
  · exact h
  · split
    · exact h
    · split
      · exact h
      · exact runL_keeps _ h
set_option maxHeartbeats 3200000 in
theorem law05_alive_ok (w : World) : Calls Tryz.prog law05_alive.N #[] w (Gives (.bool true) w) := by
  obtain ⟨x1, x2, x3, x4, x5, x6⟩ := ex_run
  obtain ⟨j1, j2⟩ := ja_run
  refine law05_alive.calls ?_
  unfold law05_alive.vc
  intro w1 e1 w2 e2
  have T := ((Trk.start w).alloc e1).alloc e2
  refine T.setAll 1 rfl (by rfl) (ones rfl) fun w3 T3 => ?_
  refine ⟨_, _, _, _, _, _, _, _, _, ⟨T3.cell 1 rfl rfl, T3.cell 1 rfl rfl, T3.cell 1 rfl rfl, trivial⟩, ?_⟩
  refine (law05_Built_ok ex_ok (A := some ⟨w.heap.size, 0, none⟩) (B := none) (C := none) ⟨ex_row (T3.has 0 rfl), ERow.nil _ _, ERow.nil _ _⟩).mono fun e w4 ⟨x, mb, S, he, l4, c4, n4⟩ => ⟨_, _, he, ?_⟩
  refine ⟨_, ptr_nil (by kernel_rfl) _ _ _, cnd_false rfl ?_⟩
  refine (cpu_Run_ok c4 (init_keeps _) 100).mono fun e w5 ⟨he, b5, S1, g5, c5⟩ => ⟨_, he, ?_⟩
  rw [x1]
  refine cnd_false (by decide) ?_
  refine (cpu_Over_ok c5).mono fun e w6 ⟨he, l6⟩ => ⟨_, _, _, he, ?_⟩
  refine (cpu_Told_ok (c5.later l6)).mono fun e w7 ⟨tb, tc, he, l7, ho7⟩ => ⟨_, _, _, he, fun w8 e8 => ?_⟩
  have l8 : Later w7 w8 := e8 ▸ Later.alloc' w7 _
  have r8 : Has w8 w7.heap.size [u8v 32, u8v 0, u8v 0, u8v 0, i64v 0] := by rw [e8]; exact Has.new _ _ _
  refine (law05_Built_ok ja_ok (A := some ⟨w7.heap.size, 0, none⟩) (B := none) (C := none) ⟨ja_row r8, ERow.nil _ _, ERow.nil _ _⟩).mono fun e w9 ⟨y, mb2, S2, he, l9, c9, n9⟩ => ⟨_, _, he, ?_⟩
  refine ⟨_, ptr_nen (by kernel_rfl) _ _ _, cnd_true rfl ?_⟩
  refine (cpu_Run_ok c9 (init_keeps _) 100).mono fun e w10 ⟨he, b10, S3, g10, c10⟩ => ⟨_, he, ?_⟩
  have l69 : Later w5 w9 := ((l6.trans l7).trans l8).trans l9
  have z7 := Later.size (l6.trans l7)
  have z8 := Later.size l8
  have c10' := (c5.later l69).but b10 fun k h1 h2 => by
    have := (c5.new k h1).2
    have := n9 k h2
    omega
  have ho10 := OwnE.but (T := talT) (OwnS.later ho7 (l8.trans l9)) b10 fun k hk h2 => by
    have := (OwnS.lt ho7 hk).2
    have := n9 k h2
    omega
  rw [x2, x3, x4]
  rw [j1]
  refine cnd_true rfl (cnd_true (by decide) (cnd_true (by decide) ?_))
  have hrow := OwnE.row (T := talT) ho10
  rw [x5] at hrow ⊢
  obtain ⟨ad, rfl, h1, h2⟩ := tal_at hrow (k := 0) rfl
  rw [Nat.zero_mul, addr_add_zero] at h1 h2
  refine cnd_true (by decide) ⟨⟨Int.le_refl 0, by decide⟩, Deref_some rfl ⟨_, _, ⟨h1, h2, trivial⟩, _, tal_eq _ _ _ _ _ _, cnd_true (by decide) ?_⟩⟩
  refine (cpu_Trace_ok c10').mono fun e w11 ⟨b1, b2, he, l11, _⟩ => ⟨_, _, _, he, ?_⟩
  rw [x6]
  refine cnd_true (by decide) (cnd_true (by decide) ?_)
  refine (cpu_Trace_ok (c10.later l11)).mono fun e w12 ⟨b1, b2, he, l12, _⟩ => ⟨_, _, _, he, ?_⟩
  rw [j2]
  refine cnd_true (by decide) ?_
  refine (cpu_Step_ok (c10'.later (l11.trans l12)) (runS_keeps (init_keeps _) _)).mono fun e w13 ⟨he, b13, _⟩ => ⟨_, he, ?_⟩
  have : (stepS (runS (initS exU) 100).1).2 = 50 := by unfold stepS; rw [if_pos x2]
  rw [this]
  have q3 := Later.size T3.to
  have q4 := Later.size l4
  have q5 := b5.size
  have q9 := Later.size l9
  have u5 : Later w w5 := b5.later (T3.to.trans l4) fun k hk => by have := n4 k hk; omega
  have u10 : Later w w10 := b10.later (u5.trans l69) fun k hk => by have := n9 k hk; omega
  exact ⟨rfl, b13.later (u10.trans (l11.trans l12)) fun k hk => by
    rcases g5 k hk with hk | hk
    · have := n4 k hk; omega
    · omega⟩
end Go.Proofs.YtcnnnlhoiodeaaaGreat

/-
Two machines side by side.
Conditions: each theorem's hypotheses.
-/
namespace Go.Proofs.YtcnnnlhoiodeaaaGreat
open Go Go.Vc Go.RowKit
set_option maxRecDepth 100000

/-- Two machines side by side. -/
structure Two (X Y : Mach) (w1 w2 W : World) (S T : Nat → Prop) (x y : Nat) (s t : Cst) : Prop where
  a : CA X w1 W S x s
  b : CA Y w2 W T y t
  d : ∀ k, S k → ¬ T k
theorem Two.later {X Y : Mach} {w1 w2 W W' : World} {S T : Nat → Prop} {x y : Nat} {s t : Cst} (h : Two X Y w1 w2 W S T x y s t) (l : Later W W') : Two X Y w1 w2 W' S T x y s t := ⟨h.a.later l, h.b.later l, h.d⟩
theorem Two.left {X Y : Mach} {w1 w2 W W' : World} {S T : Nat → Prop} {x y : Nat} {s t : Cst} (h : Two X Y w1 w2 W S T x y s t) {r : Cst × Int} {e : Ending} (m : MoveR X w1 W S x r e W') : e = .returned (i64v r.2) ∧ (∀ w, Later w W → w.heap.size ≤ w1.heap.size → Later w W') ∧ ∃ S', Two X Y w1 w2 W' S' T x y r.1 t := by
  obtain ⟨he, hb, S', hg, hc⟩ := m
  refine ⟨he, fun w l hl => hb.later l fun k hk => Nat.le_trans hl (h.a.new k hk).1, S', hc, h.b.but hb fun k hk h2 => h.d k h2 hk, fun k h1 h2 => ?_⟩
  rcases hg k h1 with h3 | h3
  · exact h.d k h3 h2
  · have := (h.b.new k h2).2; omega
theorem Two.right {X Y : Mach} {w1 w2 W W' : World} {S T : Nat → Prop} {x y : Nat} {s t : Cst} (h : Two X Y w1 w2 W S T x y s t) {r : Cst × Int} {e : Ending} (m : MoveR Y w2 W T y r e W') : e = .returned (i64v r.2) ∧ (∀ w, Later w W → w.heap.size ≤ w2.heap.size → Later w W') ∧ ∃ T', Two X Y w1 w2 W' S T' x y s r.1 := by
  obtain ⟨he, hb, T', hg, hc⟩ := m
  refine ⟨he, fun w l hl => hb.later l fun k hk => Nat.le_trans hl (h.b.new k hk).1, T', h.a.but hb fun k hk h2 => h.d k hk h2, hc, fun k h1 h2 => ?_⟩
  rcases hg k h2 with h3 | h3
  · exact h.d k h1 h3
  · have := (h.a.new k h1).2; omega
end Go.Proofs.YtcnnnlhoiodeaaaGreat

/-
The explicit conditions of some functions of the program, printed by this repo's own program over VcTop: what is proved is that each is the condition.
Conditions: none.
-/
namespace Go.Proofs.YtcnnnlhoiodeaaaGreat
open Go Go.Vc Go.RowKit
set_option maxRecDepth 100000

/- function 5: sacristy/sacristylaw05.CpuRuns -/
abbrev law05_CpuRuns.N : FuncId := 5
def law05_CpuRuns.H : Hints := { loops := [(10, [(12, .one (.int .i64))]), (22, [(17, .one (.int .i64)), (18, .one (.int .i64))])], regs := [(1, [(46, .one .bool)]), (5, [(63, .one .bool)]), (16, [(97, .one .bool)])] }
def law05_CpuRuns.vc (x'_0 : Option Addr) (x'_0n x'_0c : Nat) (x'_1 : Option Addr) (x'_1n x'_1c : Nat) (x'_2 : Option Addr) (x'_2n x'_2c : Nat) (fuel' more' : Int) (w : World) (R : Ending → World → Prop) : Prop := ∀ w', w' = w.alloc (Obj.cells #[.slice x'_0 x'_0n x'_0c, .slice x'_1 x'_1n x'_1c, .slice x'_2 x'_2n x'_2c] 31) →
∃ (J : List Value → World → Prop),
(∃ (p : Option Addr) (n c : Nat) (p_1 : Option Addr) (n_1 c_1 : Nat) (p_2 : Option Addr) (n_2 c_2 : Nat),
(w'.cell? (Addr.mk w.heap.size 0 none) = some (.slice p n c) ∧
w'.cell? (Addr.mk w.heap.size 1 none) = some (.slice p_1 n_1 c_1) ∧
w'.cell? (Addr.mk w.heap.size 2 none) = some (.slice p_2 n_2 c_2) ∧ True) ∧
Calls Tryz.prog 21 #[.agg #[.slice p n c, .slice p_1 n_1 c_1, .slice p_2 n_2 c_2]] w' fun e w' =>
∃ (b : Bool),
e = .returned (.bool b) ∧
cnd b (J [.bool true] w') (cnd (decide (fuel' > 3000)) (cnd (decide (fuel' ≤ 1048576)) (J [.bool true] w') (cnd (decide (more' > 3000)) (J [.bool (decide (more' ≤ 1048576))] w') (J [.bool false] w'))) (cnd (decide (more' > 3000)) (J [.bool (decide (more' ≤ 1048576))] w') (J [.bool false] w')))) ∧
∀ (g : Nat → Value) (s46 : Bool) (w' : World),
J [.bool s46] w' →
cnd s46 (Calls Tryz.prog 14 #[] w' fun e w' =>
∃ (b : Bool), e = .returned (.bool b) ∧ R (.returned (.bool b)) w') (∃ (p : Option Addr) (n c : Nat) (p_1 : Option Addr) (n_1 c_1 : Nat) (p_2 : Option Addr) (n_2 c_2 : Nat),
(w'.cell? (Addr.mk w.heap.size 0 none) = some (.slice p n c) ∧
w'.cell? (Addr.mk w.heap.size 1 none) = some (.slice p_1 n_1 c_1) ∧
w'.cell? (Addr.mk w.heap.size 2 none) = some (.slice p_2 n_2 c_2) ∧ True) ∧
Calls Tryz.prog 8 #[.agg #[.slice p n c, .slice p_1 n_1 c_1, .slice p_2 n_2 c_2]] w' fun e w' =>
∃ (p p_3 : Option Addr),
e = .returned (.tuple #[.pointer p, .pointer p_3]) ∧
∃ (p_4 : Option Addr) (n c : Nat) (p_5 : Option Addr) (n_3 c_3 : Nat) (p_6 : Option Addr) (n_4 c_4 : Nat),
(w'.cell? (Addr.mk w.heap.size 0 none) = some (.slice p_4 n c) ∧
w'.cell? (Addr.mk w.heap.size 1 none) = some (.slice p_5 n_3 c_3) ∧
w'.cell? (Addr.mk w.heap.size 2 none) = some (.slice p_6 n_4 c_4) ∧
True) ∧
Calls Tryz.prog 8 #[.agg #[.slice p_4 n c, .slice p_5 n_3 c_3,
Value.slice p_6 n_4 c_4]] w' fun e w' =>
∃ (p_7 p_8 : Option Addr),
e = .returned (.tuple #[.pointer p_7, .pointer p_8]) ∧
∃ (J : List Value → World → Prop),
(∃ (b : Bool),
EqRuns Tryz.prog BinOp.eql 32 (Operand.tmp 58) (Operand.const (.pointer none)) (.pointer p) (.pointer none) b ∧
cnd b (J [.bool true] w') (∃ (b : Bool),
EqRuns Tryz.prog BinOp.eql 32 (Operand.tmp 61) (Operand.const (.pointer none)) (.pointer p_7) (.pointer none) b ∧
J [.bool b] w')) ∧
∀ (g : Nat → Value) (s63 : Bool) (w' : World),
J [.bool s63] w' →
cnd s63 (R (.returned (.bool false)) w') (∀ w'_1, w'_1 = w'.alloc (Obj.cells #[.int .i64 fuel',
Value.int .i64 more'] 3) →
∃ (I : List Value → World → Prop) (μ : List Value → World → Nat),
I [.int .i64 0] w'_1 ∧
∀ (g : Nat → Value) (i : Int) (w'_2 : World),
I [.int .i64 i] w'_2 →
cnd (decide (i < 2)) (Calls Tryz.prog 15 #[.pointer p_7] w'_2 fun e w'_3 =>
∃ (b : Bool) (n n_5 : Int),
e = .returned (.tuple #[.bool b,
Value.int .u8 n,
Value.int .i64 n_5]) ∧
(0 ≤ i ∧
i < 2) ∧
∃ (n : Int),
w'_3.cell? ((Addr.mk w'.heap.size 0 none).add (i.toNat * 1)) = some (.int .i64 n) ∧
Calls Tryz.prog 17 #[.pointer p,
Value.int .i64 n] w'_3 fun e w'_4 =>
∃ (n : Int),
e = .returned (.int .i64 n) ∧
cnd b (cnd (n != 50) (R (.returned (.bool false)) w'_4) (Goes I μ [.int .i64 i] w'_2 [.int .i64 (IntKind.i64.wrap (i + 1))] w'_4)) (∃ (J : List Value →
World →
Prop),
((0 ≤ i ∧
i < 2) ∧
∃ (n : Int),
w'_4.cell? ((Addr.mk w'.heap.size 0 none).add (i.toNat * 1)) = some (.int .i64 n) ∧
cnd (decide (n < 0)) (J [.bool true] w'_4) ((0 ≤ i ∧
i < 2) ∧
∃ (n : Int),
w'_4.cell? ((Addr.mk w'.heap.size 0 none).add (i.toNat * 1)) = some (.int .i64 n) ∧
J [.bool (decide (n >
1048576))] w'_4)) ∧
∀ (g : Nat →
Value) (s97 : Bool) (w'_5 : World),
J [.bool s97] w'_5 →
cnd s97 (cnd (n != 2) (R (.returned (.bool false)) w'_5) (Goes I μ [.int .i64 i] w'_2 [.int .i64 (IntKind.i64.wrap (i + 1))] w'_5)) (∃ (I_1 : List Value →
World →
Prop) (μ_1 : List Value →
World →
Nat),
I_1 [.int .i64 52,
Value.int .i64 0] w'_5 ∧
∀ (g : Nat →
Value) (f k : Int) (w'_6 : World),
I_1 [.int .i64 f,
Value.int .i64 k] w'_6 →
(0 ≤ i ∧
i < 2) ∧
∃ (n_6 : Int),
w'_6.cell? ((Addr.mk w'.heap.size 0 none).add (i.toNat * 1)) = some (.int .i64 n_6) ∧
cnd (decide (k < n_6)) (cnd (f == 52) (Calls Tryz.prog 9 #[.pointer p_7] w'_6 fun e w' =>
∃ (n : Int),
e = .returned (.int .i64 n) ∧
Calls Tryz.prog 15 #[.pointer p_7] w' fun e w' =>
∃ (b : Bool) (n_7 n_8 : Int),
e = .returned (.tuple #[.bool b,
Value.int .u8 n_7,
Value.int .i64 n_8]) ∧
cnd b (Goes I_1 μ_1 [.int .i64 f,
Value.int .i64 k] w'_6 [.int .i64 n,
Value.int .i64 (IntKind.i64.wrap (k + 1))] w') (cnd (n != 0) (Goes I_1 μ_1 [.int .i64 f,
Value.int .i64 k] w'_6 [.int .i64 n,
Value.int .i64 (IntKind.i64.wrap (k + 1))] w') (Goes I_1 μ_1 [.int .i64 f,
Value.int .i64 k] w'_6 [.int .i64 f,
Value.int .i64 (IntKind.i64.wrap (k + 1))] w'))) (cnd (n != f) (R (.returned (.bool false)) w'_6) (Goes I μ [.int .i64 i] w'_2 [.int .i64 (IntKind.i64.wrap (i + 1))] w'_6))) (cnd (n != f) (R (.returned (.bool false)) w'_6) (Goes I μ [.int .i64 i] w'_2 [.int .i64 (IntKind.i64.wrap (i + 1))] w'_6))))) (Calls Tryz.prog 22 #[.pointer p_3,
Value.int .u64 2097152,
Value.int .i64 256] w'_2 fun e w' =>
∃ (s : ByteArray) (p_9 : Option Addr) (n c : Nat) (n_5 : Int),
e = .returned (.tuple #[.string s,
Value.slice p_9 n c,
Value.int .i64 n_5]) ∧
Calls Tryz.prog 22 #[.pointer p_8,
Value.int .u64 2097152,
Value.int .i64 256] w' fun e w' =>
∃ (s_1 : ByteArray) (p_10 : Option Addr) (n_6 c_5 : Nat) (n_7 : Int),
e = .returned (.tuple #[.string s_1,
Value.slice p_10 n_6 c_5,
Value.int .i64 n_7]) ∧
Calls Tryz.prog 12 #[.pointer p] w' fun e w' =>
∃ (n_8 : Int),
e = .returned (.int .u64 n_8) ∧
Calls Tryz.prog 12 #[.pointer p_7] w' fun e w' =>
∃ (n_9 : Int),
e = .returned (.int .u64 n_9) ∧
cnd (n_8 == n_9) (Calls Tryz.prog 19 #[.pointer p] w' fun e w' =>
∃ (p_11 : Option Addr) (n_10 c_6 : Nat),
e = .returned (.slice p_11 n_10 c_6) ∧
Calls Tryz.prog 19 #[.pointer p_7] w' fun e w' =>
∃ (p_12 : Option Addr) (n_11 c_7 : Nat),
e = .returned (.slice p_12 n_11 c_7) ∧
Calls Tryz.prog 23 #[.slice p_11 n_10 c_6,
Value.slice p_12 n_11 c_7] w' fun e w' =>
∃ (b : Bool),
e = .returned (.bool b) ∧
cnd b (Calls Tryz.prog 18 #[.pointer p] w' fun e w' =>
∃ (p : Option Addr) (n_12 c_8 : Nat),
e = .returned (.slice p n_12 c_8) ∧
Calls Tryz.prog 18 #[.pointer p_7] w' fun e w' =>
∃ (p_13 : Option Addr) (n_13 c_9 : Nat),
e = .returned (.slice p_13 n_13 c_9) ∧
Calls Tryz.prog 24 #[.slice p n_12 c_8,
Value.slice p_13 n_13 c_9] w' fun e w' =>
∃ (b : Bool),
e = .returned (.bool b) ∧
cnd b (cnd (s.toList == s_1.toList) (Calls Tryz.prog 25 #[.slice p_9 n c,
Value.slice p_10 n_6 c_5] w' fun e w' =>
∃ (b : Bool),
e = .returned (.bool b) ∧
cnd b (Calls Tryz.prog 14 #[] w' fun e w' =>
∃ (b : Bool),
e = .returned (.bool b) ∧
R (.returned (.bool b)) w') (R (.returned (.bool false)) w')) (R (.returned (.bool false)) w')) (R (.returned (.bool false)) w')) (R (.returned (.bool false)) w')) (R (.returned (.bool false)) w'))))
theorem law05_CpuRuns.vc_eq (x'_0 : Option Addr) (x'_0n x'_0c : Nat) (x'_1 : Option Addr) (x'_1n x'_1c : Nat) (x'_2 : Option Addr) (x'_2n x'_2c : Nat) (fuel' more' : Int) (w : World) (R : Ending → World → Prop) : fnV Tryz.prog law05_CpuRuns.H 5 [.agg #[.slice x'_0 x'_0n x'_0c, .slice x'_1 x'_1n x'_1c, .slice x'_2 x'_2n x'_2c],
Value.int .i64 fuel', .int .i64 more'] w R = law05_CpuRuns.vc x'_0 x'_0n x'_0c x'_1 x'_1n x'_1c x'_2 x'_2n x'_2c fuel' more' w R := by kernel_rfl
theorem law05_CpuRuns.calls {x'_0 : Option Addr} {x'_0n x'_0c : Nat} {x'_1 : Option Addr} {x'_1n x'_1c : Nat} {x'_2 : Option Addr} {x'_2n x'_2c : Nat} {fuel' more' : Int} {w : World} {R : Ending → World → Prop} (h : law05_CpuRuns.vc x'_0 x'_0n x'_0c x'_1 x'_1n x'_1c x'_2 x'_2n x'_2c fuel' more' w R) : Calls Tryz.prog 5 ([.agg #[.slice x'_0 x'_0n x'_0c, .slice x'_1 x'_1n x'_1c, .slice x'_2 x'_2n x'_2c],
Value.int .i64 fuel', .int .i64 more'] : List Value).toArray w R := calls_of_eq (law05_CpuRuns.vc_eq x'_0 x'_0n x'_0c x'_1 x'_1n x'_1c x'_2 x'_2n x'_2c fuel' more' w R) h

end Go.Proofs.YtcnnnlhoiodeaaaGreat

/-
CpuRuns.
Conditions: each theorem's hypotheses.
-/
namespace Go.Proofs.YtcnnnlhoiodeaaaGreat
open Go Go.Vc Go.RowKit
set_option maxRecDepth 100000

theorem loadM_e (st : List Pt) (a n : Int) : (loadM st a n).2.2 = 0 ∨ (loadM st a n).2.2 = 2 ∨ (loadM st a n).2.2 = 40 := by
  unfold loadM
  split
  · exact .inr (.inl rfl)
  · split
    · exact .inr (.inr rfl)
    · split
      · exact .inr (.inr rfl)
      · exact .inl rfl
theorem storeM_e (st : List Pt) (a n v : Int) (t : Bool) : (storeM st a n v t).2 = 0 ∨ (storeM st a n v t).2 = 2 ∨ (storeM st a n v t).2 = 40 := by
  unfold storeM
  split
  · exact .inr (.inl rfl)
  · split
    · exact .inr (.inr rfl)
    · split
      · exact .inl rfl
      · exact .inr (.inr rfl)
theorem fetchM_e (st : List Pt) (a : Int) : (fetchM st a).2 = 0 ∨ (fetchM st a).2 = 40 := by
  unfold fetchM
  split
  · split
    · exact .inr rfl
    · split
      · exact .inl rfl
      · exact .inr rfl
  · exact .inr rfl
theorem decE_e (w : Int) : decE w ≠ 52 := by
  unfold decE
  split <;> decide
theorem doS_e (s : Cst) (o d v pc ra : Int) (ta : Bool) (rb : Int) (tb : Bool) : (doS s o d v pc ra ta rb tb).2.2 ≠ 52 := by
  unfold doS
  by_cases h1 : o ≤ 14
  · rw [if_pos h1]; exact (show (0 : Int) ≠ 52 by decide)
  rw [if_neg h1]
  by_cases h2 : o ≤ 22
  · rw [if_pos h2]; exact (show (0 : Int) ≠ 52 by decide)
  rw [if_neg h2]
  by_cases h3 : o ≤ 23
  · rw [if_pos h3]; exact (show (0 : Int) ≠ 52 by decide)
  rw [if_neg h3]
  by_cases h4 : o ≤ 25
  · rw [if_pos h4]
    have := loadM_e s.M (uw (ra + uw v)) (sizeS o)
    show (loadM s.M (uw (ra + uw v)) (sizeS o)).2.2 ≠ 52
    omega
  rw [if_neg h4]
  by_cases h5 : o ≤ 27
  · rw [if_pos h5]
    have := storeM_e s.M (uw (ra + uw v)) (sizeS o) rb (ta || tb)
    show (storeM s.M (uw (ra + uw v)) (sizeS o) rb (ta || tb)).2 ≠ 52
    omega
  rw [if_neg h5]
  by_cases h6 : o ≤ 31
  · rw [if_pos h6]; exact (show (0 : Int) ≠ 52 by decide)
  rw [if_neg h6]
  by_cases h7 : o ≤ 32
  · rw [if_pos h7]; exact (show (0 : Int) ≠ 52 by decide)
  rw [if_neg h7]
  by_cases h8 : o ≤ 33
  · rw [if_pos h8]; exact (show (0 : Int) ≠ 52 by decide)
  rw [if_neg h8]
  by_cases h9 : s.R 17 > 5
  · rw [if_pos h9]; exact (show (51 : Int) ≠ 52 by decide)
  rw [if_neg h9]
  by_cases h10 : s.R 17 = 4
  · rw [if_pos h10]; exact (show (0 : Int) ≠ 52 by decide)
  rw [if_neg h10]
  by_cases h11 : s.R 17 < 4
  · rw [if_pos h11]; exact (show (0 : Int) ≠ 52 by decide)
  rw [if_neg h11]; exact (show (0 : Int) ≠ 52 by decide)
theorem stepS_e (s : Cst) : (stepS s).2 ≠ 52 := by
  unfold stepS failS
  by_cases h1 : s.over = true
  · rw [if_pos h1]; exact (show (50 : Int) ≠ 52 by decide)
  rw [if_neg h1]
  by_cases h2 : 1048576 ≤ s.tr.length
  · rw [if_pos h2]; exact (show (4 : Int) ≠ 52 by decide)
  rw [if_neg h2]
  by_cases h3 : (fetchM s.M s.pc).2 ≠ 0
  · rw [if_pos h3]
    have := fetchM_e s.M s.pc
    show (fetchM s.M s.pc).2 ≠ 52
    omega
  rw [if_neg h3]
  by_cases h4 : decE (fetchM s.M s.pc).1 ≠ 0
  · rw [if_pos h4]; exact decE_e _
  rw [if_neg h4]
  by_cases h5 : (insS s (fetchM s.M s.pc).1).2.2 ≠ 0
  · rw [if_pos h5]; exact doS_e _ _ _ _ _ _ _ _ _
  rw [if_neg h5]; exact (show (0 : Int) ≠ 52 by decide)
theorem cpu_Bytes_ok {mb : Nat} {w0 w : World} {S : Nat → Prop} {x : Nat} {s : Cst} (h : CA (mProg mb) w0 w S x s) {a n : Int} (ha : U64 a) : Calls Tryz.prog sacristy_mem_Mem_Bytes.N #[.pointer (some ⟨mb, 0, none⟩), u64v a, i64v n] w (BytesR s.M a n w) := by
  obtain ⟨aP, bP, mbP, ptP, prP, ctP, crP, csP', h⟩ := h
  obtain ⟨hM, rfl⟩ := h.mem
  exact mem_Bytes_ok h.ok.ne ha hM
set_option maxHeartbeats 12800000 in
theorem law05_CpuRuns_ok {u : Su} {A B C : Option Addr} {ca cb cc : Nat} (hF : ∀ i, i < u.n → U8 (u.F i 0) ∧ U8 (u.F i 1) ∧ U8 (u.F i 2) ∧ U8 (u.F i 3) ∧ I64 (u.F i 4)) (hrg : ∀ (k : Nat) (c : Cl), u.regs[k]? = some c → U8 c.a ∧ U64 c.v) (hby : ∀ (k : Nat) (c : Cl), u.bys[k]? = some c → U8 c.a ∧ U64 c.v)
    {fuel more : Int} (w : World) (hu : SuAt w u A B C) : Calls Tryz.prog law05_CpuRuns.N #[suV u A B C ca cb cc, i64v fuel, i64v more] w (Gives (.bool true) w) := by
  refine law05_CpuRuns.calls ?_
  unfold law05_CpuRuns.vc
  intro w1 e1
  have T := (Trk.start w).alloc e1
  have fin : ∀ W : World, Later w W → Calls Tryz.prog law05_alive.N #[] W fun e w' => ∃ b, e = .returned (.bool b) ∧ Gives (.bool true) w (.returned (.bool b)) w' := fun W l => (law05_alive_ok W).mono fun e w'' ⟨he, l'⟩ => ⟨_, he, rfl, l.trans l'⟩
  refine ⟨fun vs W => ∃ b : Bool, vs = [.bool b] ∧ Later w1 W ∧ (b = false → SuOk u), ?_, ?_⟩
  · refine ⟨_, _, _, _, _, _, _, _, _, ⟨T.cell 0 rfl rfl, T.cell 0 rfl rfl, T.cell 0 rfl rfl, trivial⟩, ?_⟩
    refine (law05_heavy_ok A B C ca cb cc w1).mono fun e w2 ⟨he, l2⟩ => ⟨_, he, cnd_of (fun _ => ⟨true, rfl, l2, nofun⟩) fun hh => ?_⟩
    have ok : SuOk u := by
      simp only [Bool.or_eq_false_iff, decide_eq_false_iff_not] at hh
      exact ⟨by omega, hF, by omega, by omega, hrg, hby⟩
    have ex : ∀ b : Bool, ∃ b' : Bool, ([.bool b] : List Value) = [.bool b'] ∧ Later w1 w2 ∧ (b' = false → SuOk u) := fun b => ⟨b, rfl, l2, fun _ => ok⟩
    exact cnd_of (fun _ => cnd_of (fun _ => ex _) fun _ => cnd_of (fun _ => ex _) fun _ => ex _) fun _ => cnd_of (fun _ => ex _) fun _ => ex _
  rintro g b0 w2 ⟨b, hs, l2, hok⟩
  simp only [List.cons.injEq, Value.bool.injEq, and_true] at hs
  subst hs
  have T2 := T.later l2
  refine cnd_of (fun _ => fin _ T2.to) fun hb => ?_
  have ok := hok hb
  refine ⟨_, _, _, _, _, _, _, _, _, ⟨T2.cell 0 rfl rfl, T2.cell 0 rfl rfl, T2.cell 0 rfl rfl, trivial⟩, ?_⟩
  refine (law05_Built_ok ok (hu.later T2.to)).mono fun e w3 ⟨x, mb, S, he, l3, c3, n3⟩ => ⟨_, _, he, ?_⟩
  have T3 := T2.later l3
  refine ⟨_, _, _, _, _, _, _, _, _, ⟨T3.cell 0 rfl rfl, T3.cell 0 rfl rfl, T3.cell 0 rfl rfl, trivial⟩, ?_⟩
  refine (law05_Built_ok ok (hu.later T3.to)).mono fun e w4 ⟨y, nb, S', he, l4, c4, n4⟩ => ⟨_, _, he, ?_⟩
  have z2 := Later.size T2.to
  have z3 := Later.size T3.to
  have two : Two (mProg mb) (mProg nb) w2 w3 w4 S S' x y (initS u) (initS u) := ⟨c3.later l4, c4, fun k h1 h2 => by
    have := (c3.new k h1).2
    have := n4 k h2
    omega⟩
  have l04 := T3.to.trans l4
  refine ⟨fun vs W => vs = [.bool false] ∧ W = w4, ⟨_, ptr_nil (by kernel_rfl) _ _ _, cnd_false rfl ⟨_, ptr_nil (by kernel_rfl) _ _ _, rfl, rfl⟩⟩, ?_⟩
  rintro g b1 w5 ⟨hs, rfl⟩
  simp only [List.cons.injEq, Value.bool.injEq, and_true] at hs
  subst hs
  refine cnd_false rfl fun w6 e6 => ?_
  have l6 : Later w5 w6 := e6 ▸ Later.alloc' w5 _
  have q6 : Has w6 w5.heap.size [i64v fuel, i64v more] := by rw [e6]; exact Has.new _ _ _
  clear e6
  generalize hbz : w5.heap.size = bz at q6
  have nbz : ∀ k, S k ∨ S' k → k < bz := fun k hk => by
    rw [← hbz]
    rcases hk with hk | hk
    · exact (two.a.new k hk).2
    · exact (two.b.new k hk).2
  -- what is kept between the two runs
  let In : World → Cst → Cst → Prop := fun W s t => ∃ S1 S2, Two (mProg mb) (mProg nb) w2 w3 W S1 S2 x y s t ∧ Later w W ∧ Has W bz [i64v fuel, i64v more] ∧ (∀ k, S1 k ∨ S2 k → k ≠ bz)
  have in0 : In w6 (initS u) (initS u) := ⟨S, S', two.later l6, l04.trans l6, q6, fun k hk => Nat.ne_of_lt (nbz k hk)⟩
  have inL : ∀ {W W' : World} {s t : Cst}, In W s t → Later W W' → In W' s t := fun ⟨S1, S2, h1, h2, h3, h4⟩ l => ⟨S1, S2, h1.later l, h2.trans l, h3.later l, h4⟩
  have inRun : ∀ {W : World} {s t : Cst}, In W s t → s.told.length ≤ s.tr.length → ∀ n : Int, Calls Tryz.prog sacristy_cpu_Cpu_Run.N #[.pointer (some ⟨x, 0, none⟩), i64v n] W fun e W' => e = .returned (i64v (runS s n).2) ∧ In W' (runS s n).1 t := fun {W s t} ⟨S1, S2, h1, h2, h3, h4⟩ htl n => by
    refine (cpu_Run_ok h1.a htl n).mono fun e W' m => ?_
    have hm := m
    obtain ⟨-, hbm, S9, hg, hc⟩ := hm
    obtain ⟨he, L, S1', hT⟩ := h1.left m
    refine ⟨he, S9, S2, ⟨hc, hT.b, fun k k1 k2 => ?_⟩, L w h2 z2, hbm.has h3 fun hk => h4 bz (.inl hk) rfl, fun k hk => ?_⟩
    · rcases hg k k1 with k3 | k3
      · exact h1.d k k3 k2
      · have := (h1.b.new k k2).2; omega
    · rcases hk with hk | hk
      · rcases hg k hk with k3 | k3
        · exact h4 k (.inl k3)
        · have := h3.lt; omega
      · exact h4 k (.inr hk)
  have inStep : ∀ {W : World} {s t : Cst}, In W s t → t.told.length ≤ t.tr.length → Calls Tryz.prog sacristy_cpu_Cpu_Step.N #[.pointer (some ⟨y, 0, none⟩)] W fun e W' => e = .returned (i64v (stepS t).2) ∧ In W' s (stepS t).1 := fun {W s t} ⟨S1, S2, h1, h2, h3, h4⟩ htl => by
    refine (cpu_Step_ok h1.b htl).mono fun e W' m => ?_
    have hm := m
    obtain ⟨-, hbm, S9, hg, hc⟩ := hm
    obtain ⟨he, L, S1', hT⟩ := h1.right (r := stepS t) m
    refine ⟨he, S1, S9, ⟨hT.a, hc, fun k k1 k2 => ?_⟩, L w h2 z3, hbm.has h3 fun hk => h4 bz (.inr hk) rfl, fun k hk => ?_⟩
    · rcases hg k k2 with k3 | k3
      · exact h1.d k k1 k3
      · have := (h1.a.new k k1).2; omega
    · rcases hk with hk | hk
      · exact h4 k (.inl hk)
      · rcases hg k hk with k3 | k3
        · exact h4 k (.inr k3)
        · have := h3.lt; omega
  have li : ∀ {W : World} {s t : Cst}, In W s t → ∀ i : Nat, i < 2 → W.cell? ((⟨bz, 0, none⟩ : Addr).add (((i : Int)).toNat * 1)) = some (i64v (if i = 0 then fuel else more)) := fun {W s t} ⟨S1, S2, h1, h2, h3, h4⟩ i hi => by
    rw [Int.toNat_natCast, Nat.mul_one]
    rcases i with _ | _ | i
    · exact hat h3 rfl
    · exact hat h3 rfl
    · omega
  have aT : ∀ {W : World} {s t : Cst}, In W s t → ∃ S1, CA (mProg mb) w2 W S1 x s := fun ⟨S1, S2, h1, _⟩ => ⟨S1, h1.a⟩
  have bT : ∀ {W : World} {s t : Cst}, In W s t → ∃ S2, CA (mProg nb) w3 W S2 y t := fun ⟨S1, S2, h1, _⟩ => ⟨S2, h1.b⟩
  have lT : ∀ {W : World} {s t : Cst}, In W s t → Later w W := fun ⟨S1, S2, h1, h2, _⟩ => h2
  refine ⟨fun vs W => ∃ (k : Nat) (s : Cst), vs = [.int .i64 k] ∧ k ≤ 2 ∧ In W s s ∧ s.told.length ≤ s.tr.length, fun vs _ => match vs with | [.int _ k] => (2 - k.toNat) | _ => 0, ⟨0, _, rfl, by decide, in0, init_keeps u⟩, ?_⟩
  clear in0
  clear_value In
  rintro g i W ⟨k, s, hs, hk, hI, htl⟩
  simp only [List.cons.injEq, Value.int.injEq, true_and, and_true] at hs
  subst hs
  have ei : IntKind.i64.wrap ((k : Int) + 1) = ((k + 1 : Nat) : Int) := by rw [i64_in (by omega) (by omega)]; rfl
  rw [ei]
  refine cnd_of (fun q => ?_) fun q => ?_
  · have q := of_decide_eq_true q
    have hk2 : k < 2 := by omega
    obtain ⟨S2, cb2⟩ := bT hI
    refine (cpu_Over_ok cb2).mono fun e W1 ⟨he, l1⟩ => ⟨_, _, _, he, ⟨by omega, by omega⟩, _, li (inL hI l1) k hk2, ?_⟩
    generalize hnn : (if k = 0 then fuel else more) = n
    refine (inRun (inL hI l1) htl n).mono fun e W2 ⟨he, hI2⟩ => ⟨_, he, ?_⟩
    have next : ∀ {W3 : World} {t : Cst}, In W3 t t → t.told.length ≤ t.tr.length → Goes (fun vs W => ∃ (k : Nat) (s : Cst), vs = [.int .i64 k] ∧ k ≤ 2 ∧ In W s s ∧ s.told.length ≤ s.tr.length) (fun vs _ => match vs with | [.int _ k] => (2 - k.toNat) | _ => 0) [.int .i64 k] W [.int .i64 ((k + 1 : Nat) : Int)] W3 := fun h hh => ⟨⟨k + 1, _, rfl, by omega, h, hh⟩, by show 2 - (k + 1) < 2 - k; omega⟩
    refine cnd_of (fun ho => ?_) fun ho => ?_
    · have er : runS s n = (s, 50) := by unfold runS; rw [if_pos ho]
      rw [er] at hI2 ⊢
      exact cnd_false rfl (next hI2 htl)
    have hno : ¬ s.over = true := by rw [ho]; decide
    have l2' := li hI2 k hk2
    rw [hnn] at l2'
    refine ⟨fun vs W' => vs = [.bool (decide (n < 0) || decide (n > 1048576))] ∧ W' = W2, ⟨⟨by omega, by omega⟩, _, l2', cnd_of (fun h => ⟨by rw [h, Bool.true_or], rfl⟩) fun h => ⟨⟨by omega, by omega⟩, _, l2', by rw [h, Bool.false_or], rfl⟩⟩, ?_⟩
    rintro g b W3 ⟨hs, rfl⟩
    simp only [List.cons.injEq, Value.bool.injEq, and_true] at hs
    subst hs
    refine cnd_of (fun hr => ?_) fun hr => ?_
    · have er : runS s n = (s, 2) := by
        unfold runS
        rw [if_neg hno]
        by_cases h0 : n < 0
        · rw [if_pos h0]
        · rw [if_neg h0, if_pos (by simpa [h0] using hr)]
      rw [er] at hI2 ⊢
      exact cnd_false rfl (next hI2 htl)
    simp only [Bool.or_eq_false_iff, decide_eq_false_iff_not] at hr
    have er : runS s n = runL s n.toNat := by unfold runS; rw [if_neg hno, if_neg hr.1, if_neg hr.2]
    rw [er] at hI2 ⊢
    generalize hr1 : (runL s n.toNat).1 = r1 at hI2
    refine ⟨fun vs V => ∃ (f : Int) (j : Nat) (t : Cst), vs = [.int .i64 f, .int .i64 j] ∧ j ≤ n.toNat ∧ In V r1 t ∧ t.told.length ≤ t.tr.length ∧ ((f = 52 ∧ runL s n.toNat = runL t (n.toNat - j)) ∨ (f ≠ 52 ∧ runL s n.toNat = (t, f))), fun vs _ => match vs with | [_, .int _ j] => (n.toNat - j.toNat) | _ => 0, ⟨52, 0, s, rfl, Nat.zero_le _, hI2, htl, .inl ⟨rfl, rfl⟩⟩, ?_⟩
    rintro g f' j' V ⟨f, j, t, hs, hj, hV, ht, hcase⟩
    simp only [List.cons.injEq, Value.int.injEq, true_and, and_true] at hs
    obtain ⟨rfl, rfl⟩ := hs
    have ej : IntKind.i64.wrap ((j : Int) + 1) = ((j + 1 : Nat) : Int) := by rw [i64_in (by omega) (by omega)]; rfl
    rw [ej]
    have l3' := li hV k hk2
    rw [hnn] at l3'
    have done : runL s n.toNat = (t, f') → cnd ((runL s n.toNat).2 != f') (Gives (.bool true) w (.returned (.bool false)) V) (Goes (fun vs W => ∃ (k : Nat) (s : Cst), vs = [.int .i64 k] ∧ k ≤ 2 ∧ In W s s ∧ s.told.length ≤ s.tr.length) (fun vs _ => match vs with | [.int _ k] => (2 - k.toNat) | _ => 0) [.int .i64 k] W [.int .i64 ((k + 1 : Nat) : Int)] V) := fun h => by
      rw [h] at hr1 ⊢
      subst hr1
      exact cnd_false (by simp) (next hV ht)
    refine ⟨⟨by omega, by omega⟩, _, l3', cnd_of (fun hlt => ?_) fun hge => ?_⟩
    · have hlt := of_decide_eq_true hlt
      refine cnd_of (fun hf => ?_) fun hf => ?_
      · have hf : f' = 52 := by simpa using hf
        subst hf
        rcases hcase with ⟨-, hrun⟩ | ⟨h, _⟩
        rotate_left
        · exact absurd rfl h
        have e1 : n.toNat - j = (n.toNat - (j + 1)) + 1 := by omega
        rw [e1, runL] at hrun
        refine (inStep hV ht).mono fun e V1 ⟨he, hV1⟩ => ⟨_, he, ?_⟩
        obtain ⟨S3, cb3⟩ := bT hV1
        refine (cpu_Over_ok cb3).mono fun e V2 ⟨he, l2⟩ => ⟨_, _, _, he, ?_⟩
        have hV2 := inL hV1 l2
        have ht' := (stepS_keeps ht).1
        have meas : n.toNat - (j + 1) < n.toNat - j := by omega
        have n52 := stepS_e t
        refine cnd_of (fun ho => ?_) fun ho => cnd_of (fun hg => ?_) fun hg => ?_
        · refine ⟨⟨_, j + 1, _, rfl, by omega, hV2, ht', .inr ⟨n52, ?_⟩⟩, meas⟩
          rw [hrun]
          by_cases h0 : (stepS t).2 ≠ 0
          · rw [if_pos h0]
          · rw [if_neg h0, if_pos ho]
        · have hg : (stepS t).2 ≠ 0 := by simpa using hg
          refine ⟨⟨_, j + 1, _, rfl, by omega, hV2, ht', .inr ⟨n52, ?_⟩⟩, meas⟩
          rw [hrun, if_pos hg]
        · have hg : (stepS t).2 = 0 := by simpa using hg
          refine ⟨⟨_, j + 1, _, rfl, by omega, hV2, ht', .inl ⟨rfl, ?_⟩⟩, meas⟩
          rw [hrun, if_neg (by rw [hg]; decide), if_neg (by rw [ho]; decide)]
      · have hf : f' ≠ 52 := by simpa using hf
        rcases hcase with ⟨h, _⟩ | ⟨_, hrun⟩
        · exact absurd h hf
        · exact done hrun
    · have hge := of_decide_eq_false hge
      refine done ?_
      rcases hcase with ⟨h, hrun⟩ | ⟨_, hrun⟩
      · have e0 : n.toNat - j = 0 := by omega
        rw [e0, runL] at hrun
        rw [hrun, h]
      · exact hrun
  · obtain ⟨S1, ca1⟩ := aT hI
    obtain ⟨S2, cb2⟩ := bT hI
    have L0 := lT hI
    have htl' := ca1.ok.told
    have htr' := ca1.ok.tr
    refine (cpu_Bytes_ok ca1 ⟨by decide, by decide⟩).mono fun e W1 ⟨l1, b1, c1, he, o1⟩ => ⟨_, _, _, _, _, he, ?_⟩
    refine (cpu_Bytes_ok (cb2.later l1) ⟨by decide, by decide⟩).mono fun e W2 ⟨l2, b2, c2, he, o2⟩ => ⟨_, _, _, _, _, he, ?_⟩
    have l12 := l1.trans l2
    refine (cpu_Pc_ok (ca1.later l12)).mono fun e W3 ⟨he, l3⟩ => ⟨_, he, ?_⟩
    have l13 := l12.trans l3
    refine (cpu_Pc_ok (cb2.later l13)).mono fun e W4 ⟨he, l4⟩ => ⟨_, he, cnd_true (by simp) ?_⟩
    have l14 := l13.trans l4
    refine (cpu_Trace_ok (ca1.later l14)).mono fun e W5 ⟨b5, c5, he, l5, o5⟩ => ⟨_, _, _, he, ?_⟩
    have l15 := l14.trans l5
    refine (cpu_Trace_ok (cb2.later l15)).mono fun e W6 ⟨b6, c6, he, l6, o6⟩ => ⟨_, _, _, he, ?_⟩
    have l16 := l15.trans l6
    refine (ref_SameTrace_ok W6 ((OwnE.row (T := snT) o5).later l6) (OwnE.row (T := snT) o6) (by omega)).mono fun e W7 ⟨he, l7⟩ => ⟨_, he, cnd_true rfl ?_⟩
    have l17 := l16.trans l7
    refine (cpu_Told_ok (ca1.later l17)).mono fun e W8 ⟨b8, c8, he, l8, o8⟩ => ⟨_, _, _, he, ?_⟩
    have l18 := l17.trans l8
    refine (cpu_Told_ok (cb2.later l18)).mono fun e W9 ⟨b9, c9, he, l9, o9⟩ => ⟨_, _, _, he, ?_⟩
    have l19 := l18.trans l9
    refine (ref_SameTold_ok W9 ((OwnE.row (T := talT) o8).later l9) (OwnE.row (T := talT) o9) (by omega)).mono fun e W10 ⟨he, l10⟩ => ⟨_, he, cnd_true rfl (cnd_true (by simp) ?_)⟩
    have l20 := l19.trans l10
    have l2e : Later W2 W10 := l3.trans (l4.trans (l5.trans (l6.trans (l7.trans (l8.trans (l9.trans l10))))))
    have hbl : (bytesM s.M 2097152 256).2.1.length ≤ 16777216 := by
      unfold bytesM
      split
      · exact Nat.zero_le _
      · split
        · exact Nat.zero_le _
        · exact Nat.le_trans (List.length_take_le _ _) (by decide)
    refine (ref_Same_ok hbl ((OwnE.row (T := boT) o1).later (l2.trans l2e)) ((OwnE.row (T := boT) o2).later l2e)).mono fun e W11 ⟨he, l11⟩ => ⟨_, he, cnd_true (by simp) (fin _ (L0.trans (l20.trans l11)))⟩
end Go.Proofs.YtcnnnlhoiodeaaaGreat

/-
What is handed in: values, and elements of slices, that are numbers, bools, texts, and structs of them, however deep.
Conditions: each theorem's hypotheses; nothing is asked of a program.
-/
namespace Go.Vc
open Go.RowKit Go.ChangeShapes Go.WideShapes

inductive CK where
  | int (k : IntKind) | bool | str
def CK.fits : CK → Value → Prop
  | .int k, v => ∃ n, v = .int k n ∧ (Lit.int k n).wf = true
  | .bool, v => ∃ b, v = .bool b
  | .str, v => ∃ s : ByteArray, v = .string s ∧ s.size ≤ maxLen
/-- The kinds of the cells of a struct's fields. -/
def kindsFs (P : Program) (g : TypeId → Option (List CK)) : List Field → Nat → Option (List CK)
  | [], _ => some []
  | f :: fs, o => (match g f.type with
    | some ks => (match Nat.beq f.offset o && Nat.beq (P.cellsOf f.type) ks.length with
      | true => (match kindsFs P g fs (o + ks.length) with | some l => some (ks ++ l) | none => none)
      | false => none)
    | none => none)
def kindsT (P : Program) : Nat → TypeId → Option (List CK)
  | 0, _ => none
  | n + 1, t => (match P.underlying t with
    | some .bool => some [.bool]
    | some (.int k) => some [.int k]
    | some .string => some [.str]
    | some (.struct fs) => kindsFs P (kindsT P n) fs.toList 0
    | _ => none)
section
variable {H : Type} {enc : TypeId × Value → H} {P : Program} {w : World} {base : Nat} {spare : Nat → Bool} {held : Bool}
theorem kindsFs_read {g : TypeId → Option (List CK)} {cs : List Value} (hg : ∀ (t : TypeId) (ks : List CK) (m : Nat) (cs' : List Value) (x : DataW H × List MemPlace), g t = some ks → DataW.trod enc P w base spare held m t cs' = some x → ∀ (j : Nat) (k : CK), ks[j]? = some k → ∃ v, cs'[j]? = some v ∧ k.fits v) :
    ∀ (fs : List Field) (o : Nat) (ks : List CK), kindsFs P g fs o = some ks → (∀ f ∈ fs, ∃ m y, DataW.trod enc P w base spare held m f.type ((cs.drop f.offset).take (P.cellsOf f.type)) = some y) → ∀ (j : Nat) (k : CK), ks[j]? = some k → ∃ v, cs[o + j]? = some v ∧ k.fits v := by
  intro fs
  induction fs with
  | nil =>
    intro o ks h _ j k hj
    simp only [kindsFs, Option.some.injEq] at h
    subst h
    simp at hj
  | cons f fs ih =>
    intro o ks h hT j k hj
    unfold kindsFs at h
    split at h
    case h_2 => cases h
    rename_i ks1 hk1
    split at h
    case h_2 => cases h
    rename_i hb
    simp only [Bool.and_eq_true] at hb
    have ho := Nat.eq_of_beq_eq_true hb.1
    have hc := Nat.eq_of_beq_eq_true hb.2
    split at h
    case h_2 => cases h
    rename_i l hl
    obtain rfl := Option.some.inj h
    by_cases hjl : j < ks1.length
    · rw [List.getElem?_append_left hjl] at hj
      obtain ⟨m, y, hy⟩ := hT f List.mem_cons_self
      obtain ⟨v, hv, hf⟩ := hg _ _ _ _ _ hk1 hy j k hj
      refine ⟨v, ?_, hf⟩
      rw [List.getElem?_take, hc, if_pos hjl, List.getElem?_drop, ho] at hv
      exact hv
    · rw [List.getElem?_append_right (by omega)] at hj
      obtain ⟨v, hv, hf⟩ := ih _ _ hl (fun g hg => hT g (List.mem_cons_of_mem f hg)) _ _ hj
      exact ⟨v, by rwa [show o + ks1.length + (j - ks1.length) = o + j by omega] at hv, hf⟩
theorem kindsT_read : ∀ (n : Nat) (t : TypeId) (ks : List CK) (m : Nat) (cs : List Value) (x : DataW H × List MemPlace), kindsT P n t = some ks → DataW.trod enc P w base spare held m t cs = some x → ∀ (j : Nat) (k : CK), ks[j]? = some k → ∃ v, cs[j]? = some v ∧ k.fits v
  | 0, t, ks, m, cs, x, h, _ => by simp [kindsT] at h
  | n + 1, t, ks, m, cs, x, h, hx => by
    intro j k hj
    unfold kindsT at h
    split at h
    · rename_i hu
      obtain rfl := Option.some.inj h
      obtain ⟨b, rfl, _⟩ := DataW.trod_bool hu hx
      cases j with
      | zero => obtain rfl : CK.bool = k := by simpa using hj
                exact ⟨_, rfl, b, rfl⟩
      | succ j => simp at hj
    · rename_i k' hu
      obtain rfl := Option.some.inj h
      obtain ⟨q, rfl, _, hw⟩ := DataW.trod_int hu hx
      cases j with
      | zero => obtain rfl : CK.int k' = k := by simpa using hj
                exact ⟨_, rfl, q, rfl, hw⟩
      | succ j => simp at hj
    · rename_i hu
      obtain rfl := Option.some.inj h
      obtain ⟨s, rfl, _, hs⟩ := DataW.trod_string hu hx
      cases j with
      | zero => obtain rfl : CK.str = k := by simpa using hj
                exact ⟨_, rfl, s, rfl, hs⟩
      | succ j => simp at hj
    · rename_i fs hu
      obtain ⟨xs, n', _, _, hlen, hxs, hf⟩ := DataW.trod_struct hu hx
      have := kindsFs_read (cs := cs) (fun t ks m cs x => kindsT_read n t ks m cs x) fs.toList 0 ks h (fun f hf' => by
        obtain ⟨i, hi⟩ := List.getElem?_of_mem hf'
        have h1 := hf i f (by simpa using hi)
        have hil : i < xs.length := by
          have := (List.getElem?_eq_some_iff.1 hi).1
          rw [hxs]; simpa using this
        rw [List.getElem?_eq_getElem hil] at h1
        exact ⟨n', _, h1⟩) j k hj
      rwa [Nat.zero_add] at this
    · cases h
end
end Go.Vc

/-
A setup that is handed in.
Conditions: each theorem's hypotheses.
-/
namespace Go.Proofs.YtcnnnlhoiodeaaaGreat
open Go Go.Vc Go.RowKit Go.ChangeShapes Go.WideShapes
set_option maxRecDepth 100000

section
variable {H : Type} {enc : TypeId × Value → H} {w : World} {base : Nat} {spare : Nat → Bool} {held : Bool} {P : Program}
theorem row_read {t e : TypeId} {fuel : Nat} {cs : List Value} {x : DataW H × List MemPlace} (ht : P.underlying t = some (.slice e)) (h : DataW.trod enc P w base spare held fuel t cs = some x) :
    ∃ A n cap C, cs = [.slice A n cap] ∧ n ≤ cap ∧ cap ≤ maxLen ∧ ArgRow w A n (P.cellsOf e) C ∧ ∀ i, i < n → ∃ m x, DataW.trod enc P w base spare held m e (C i) = some x := by
  rcases Deep.open_slice ht h with ⟨hc, _⟩ | ⟨a, n, cap, m, q, D, Pl, hc, _, hl, hm, hmm, _, hx⟩
  · exact ⟨none, 0, 0, fun _ => [], hc, Nat.le_refl _, by decide, fun i hi => absurd hi (Nat.not_lt_zero i), fun i hi => absurd hi (Nat.not_lt_zero i)⟩
  · have hnm : n ≤ m := by rw [hmm]; split <;> omega
    obtain ⟨C, hC⟩ := Deep.choose_lt (fun i hi => hx i (Nat.lt_of_lt_of_le hi hnm) : ∀ i, i < n → _)
    refine ⟨some a, n, cap, C, hc, hl, hm, fun i hi => ?_, fun i hi => ⟨q, _, (hC i hi).2⟩⟩
    obtain ⟨_, h2, h3⟩ := World.cells?_some (hC i hi).1
    refine ⟨a, rfl, h2, fun j v hj => ?_⟩
    have hlt := (List.getElem?_eq_some_iff.1 hj).1
    rw [h3 j (by omega)]
    exact hj
theorem field_read {cs : List Value} {fs : Array Field} {n' : Nat} {xs : List (DataW H × List MemPlace)} (hlen : xs.length = fs.size) (hf : ∀ (i : Nat) (f : Field), fs[i]? = some f → DataW.trod enc P w base spare held n' f.type ((cs.drop f.offset).take (P.cellsOf f.type)) = xs[i]?)
    (i : Nat) (f : Field) (hi : fs[i]? = some f) (t o n : Nat) (ht : f.type = t) (ho : f.offset = o) (hn : P.cellsOf t = n) : ∃ m y, DataW.trod enc P w base spare held m t ((cs.drop o).take n) = some y := by
  subst ht; subst ho; subst hn
  have hil : i < xs.length := by rw [hlen]; exact (Array.getElem?_eq_some_iff.1 hi).1
  exact ⟨n', _, (hf i f hi).trans (List.getElem?_eq_getElem hil)⟩
/-- What a setup holds that was handed in. -/
structure SuIn (u : Su) : Prop where
  F : ∀ i, i < u.n → U8 (u.F i 0) ∧ U8 (u.F i 1) ∧ U8 (u.F i 2) ∧ U8 (u.F i 3) ∧ I64 (u.F i 4)
  regs : ∀ (k : Nat) (c : Cl), u.regs[k]? = some c → U8 c.a ∧ U64 c.v
  bys : ∀ (k : Nat) (c : Cl), u.bys[k]? = some c → U8 c.a ∧ U64 c.v
instance : Inhabited Cl := ⟨⟨0, 0, false⟩⟩
theorem cells_read {A : Option Addr} {n : Nat} {C : Nat → List Value} {e : TypeId} (he : ∀ (m : Nat) (x : DataW H × List MemPlace) (l : List Value), DataW.trod enc P w base spare held m e l = some x → ∃ a v t, l[0]? = some (u8v a) ∧ l[1]? = some (u64v v) ∧ l[2]? = some (.bool t) ∧ U8 a ∧ U64 v) (hc : P.cellsOf e = 3)
    (R : ArgRow w A n (P.cellsOf e) C) (T : ∀ i, i < n → ∃ m x, DataW.trod enc P w base spare held m e (C i) = some x) : ∃ l : List Cl, l.length = n ∧ ERow cellT w A l ∧ ∀ (k : Nat) (c : Cl), l[k]? = some c → U8 c.a ∧ U64 c.v := by
  obtain ⟨F, hF⟩ := Deep.choose_lt (p := fun i (m : Cl) => ((C i)[0]? = some (u8v m.a) ∧ (C i)[1]? = some (u64v m.v) ∧ (C i)[2]? = some (.bool m.t)) ∧ U8 m.a ∧ U64 m.v) (n := n) (fun i hi => by
    obtain ⟨m, x, hx⟩ := T i hi
    obtain ⟨a, v, t, h0, h1, h2, h3, h4⟩ := he m x _ hx
    exact ⟨⟨a, v, t⟩, ⟨h0, h1, h2⟩, h3, h4⟩)
  have hn : ((List.range n).map F).length = n := by simp
  refine ⟨(List.range n).map F, hn, fun i m hi => ?_, fun i m hi => ?_⟩
  · have hil : i < n := by have := (List.getElem?_eq_some_iff.1 hi).1; rwa [hn] at this
    obtain rfl : F i = m := by simpa [hil] using hi
    obtain ⟨ad, g1, _, g3⟩ := R i hil
    rw [hc] at g3
    obtain ⟨⟨c0, c1, c2⟩, -⟩ := hF i hil
    refine ⟨ad, g1, fun j v hv => ?_⟩
    have hj : j < 3 := (List.getElem?_eq_some_iff.1 hv).1
    match j, hj, hv with
    | 0, _, hv => obtain rfl := Option.some.inj hv; exact g3 0 _ c0
    | 1, _, hv => obtain rfl := Option.some.inj hv; exact g3 1 _ c1
    | 2, _, hv => obtain rfl := Option.some.inj hv; exact g3 2 _ c2
  · have hil : i < n := by have := (List.getElem?_eq_some_iff.1 hi).1; rwa [hn] at this
    obtain rfl : F i = m := by simpa [hil] using hi
    exact (hF i hil).2
theorem arg_setup {r : Reach} {b0 : Nat} {v : Value} {d : DataW H} {ps : List MemPlace} (hval : Value.okWide Tryz.prog w r b0 31 v) (h : DataW.Trod enc Tryz.prog w base spare held 31 v d ps) :
    ∃ A ca B cb C cc u, v = suV u A B C ca cb cc ∧ SuIn u ∧ SuAt w u A B C := by
  obtain ⟨cs, rfl, hsz⟩ := okWide_struct Tryz.underlying31 hval
  obtain ⟨fuel, h⟩ := h
  obtain ⟨xs, n', _, _, hlen, hxs, hf⟩ := DataW.trod_struct Tryz.underlying31 h
  have hsz : cs.size = 3 := hsz.trans (by kernel_rfl)
  obtain ⟨m0, y0, h0⟩ := field_read hxs hf 0 _ rfl 26 0 1 rfl rfl (by kernel_rfl)
  obtain ⟨m1, y1, h1⟩ := field_read hxs hf 1 _ rfl 29 1 1 rfl rfl (by kernel_rfl)
  obtain ⟨m2, y2, h2⟩ := field_read hxs hf 2 _ rfl 29 2 1 rfl rfl (by kernel_rfl)
  obtain ⟨l, rfl⟩ : ∃ l : List Value, cs = l.toArray := ⟨cs.toList, by simp⟩
  match l, hsz with
  | [v0, v1, v2], _ =>
  simp only [Value.cells, List.drop_zero, List.drop_succ_cons, List.take_succ_cons, List.take_zero] at h0 h1 h2
  obtain ⟨A0, l0, c0, C0, e0, hl0, hm0, R0, T0⟩ := row_read Tryz.underlying26 h0
  obtain ⟨A1, l1, c1, C1, e1, hl1, hm1, R1, T1⟩ := row_read Tryz.underlying29 h1
  obtain ⟨A2, l2, c2, C2, e2, hl2, hm2, R2, T2⟩ := row_read Tryz.underlying29 h2
  have hcell : ∀ (m : Nat) (x : DataW H × List MemPlace) (l : List Value), DataW.trod enc Tryz.prog w base spare held m 28 l = some x → ∃ a v t, l[0]? = some (u8v a) ∧ l[1]? = some (u64v v) ∧ l[2]? = some (.bool t) ∧ U8 a ∧ U64 v := fun m x l hx => by
    have hc := kindsT_read 2 _ [.int .u8, .int .u64, .bool] _ _ _ (by kernel_rfl) hx
    obtain ⟨u0, g0, n0, rfl, f0⟩ := hc 0 _ rfl
    obtain ⟨u1, g1, n1, rfl, f1⟩ := hc 1 _ rfl
    obtain ⟨u2, g2, b2, rfl⟩ := hc 2 _ rfl
    exact ⟨n0, n1, b2, g0, g1, g2, wf_u8 f0, wf_u64 f1⟩
  obtain ⟨lr, hr1, hr2, hr3⟩ := cells_read hcell (by kernel_rfl) R1 T1
  obtain ⟨lb, hb1, hb2, hb3⟩ := cells_read hcell (by kernel_rfl) R2 T2
  obtain ⟨F, hF⟩ := Deep.choose_lt (p := fun i (f : Nat → Int) => ∀ j k, insK[j]? = some k → (C0 i)[j]? = some (.int k (f j)) ∧ (Lit.int k (f j)).wf = true) (n := l0) (fun i hi => by
    obtain ⟨m, x, hx⟩ := T0 i hi
    have hc := kindsT_read 2 _ [.int .u8, .int .u8, .int .u8, .int .u8, .int .i64] _ _ _ (by kernel_rfl) hx
    obtain ⟨u0, g0, n0, rfl, f0⟩ := hc 0 _ rfl
    obtain ⟨u1, g1, n1, rfl, f1⟩ := hc 1 _ rfl
    obtain ⟨u2, g2, n2, rfl, f2⟩ := hc 2 _ rfl
    obtain ⟨u3, g3, n3, rfl, f3⟩ := hc 3 _ rfl
    obtain ⟨u4, g4, n4, rfl, f4⟩ := hc 4 _ rfl
    refine ⟨fun j => match j with | 0 => n0 | 1 => n1 | 2 => n2 | 3 => n3 | _ => n4, fun j k hk => ?_⟩
    have hj : j < 5 := (List.getElem?_eq_some_iff.1 hk).1
    match j, hj, hk with
    | 0, _, hk => obtain rfl := Option.some.inj hk; exact ⟨g0, f0⟩
    | 1, _, hk => obtain rfl := Option.some.inj hk; exact ⟨g1, f1⟩
    | 2, _, hk => obtain rfl := Option.some.inj hk; exact ⟨g2, f2⟩
    | 3, _, hk => obtain rfl := Option.some.inj hk; exact ⟨g3, f3⟩
    | 4, _, hk => obtain rfl := Option.some.inj hk; exact ⟨g4, f4⟩)
  obtain rfl : v0 = _ := by simpa using e0
  obtain rfl : v1 = _ := by simpa using e1
  obtain rfl : v2 = _ := by simpa using e2
  refine ⟨A0, c0, A1, c1, A2, c2, ⟨l0, F, lr, lb⟩, ?_, ⟨fun i hi => ?_, hr3, hb3⟩, ⟨fun i hi => ?_, hr2, hb2⟩⟩
  · simp [suV, hr1, hb1]
  · have := hF i hi
    exact ⟨wf_u8 (this 0 _ rfl).2, wf_u8 (this 1 _ rfl).2, wf_u8 (this 2 _ rfl).2, wf_u8 (this 3 _ rfl).2, wf_i64 (this 4 _ rfl).2⟩
  · obtain ⟨ad, g1, _, g3⟩ := R0 i hi
    exact ⟨ad, g1, fun j k hk => ⟨g3 j _ (hF i hi j k hk).1, (hF i hi j k hk).2⟩⟩
end
end Go.Proofs.YtcnnnlhoiodeaaaGreat
