/-
The reference's memory: how it lies in a world; where a stretch lies; loading, storing.
Conditions: each theorem's hypotheses.
-/
import Derived.Test.YtngkifnknlginaaMemL
namespace Go.Proofs.Ytngkifnknlginaa
open Go Go.Vc Go.RowKit
set_option linter.unusedVariables false
set_option linter.unusedSimpArgs false
set_option linter.unnecessarySimpa false
set_option linter.unusedSectionVars false
set_option maxRecDepth 100000

structure RA (w : World) (a b rb lb Bb Tb : Nat) (bi ti : Nat → Nat) (st : List Pt) : Prop where
  ok : StOk st
  rr : a ≤ rb ∧ rb < b
  rl : a ≤ lb ∧ lb < b
  rB : a ≤ Bb ∧ Bb < b
  rT : a ≤ Tb ∧ Tb < b
  rbi : ∀ i, i < st.length → (a ≤ bi i ∧ bi i < b) ∧ (a ≤ ti i ∧ ti i < b)
  hr : ∃ c1 c2 c3, Has w rb [.slice (some ⟨lb, 0, none⟩) st.length c1, .slice (some ⟨Bb, 0, none⟩) st.length c2, .slice (some ⟨Tb, 0, none⟩) st.length c3]
  L : ERow regT w (some ⟨lb, 0, none⟩) (st.map (·.r))
  B : ∀ (i : Nat) (p : Pt), st[i]? = some p → w.cell? ⟨Bb, i, none⟩ = some (.slice (some ⟨bi i, 0, none⟩) p.bs.length p.bs.length)
  T : ∀ (i : Nat) (p : Pt), st[i]? = some p → w.cell? ⟨Tb, i, none⟩ = some (.slice (some ⟨ti i, 0, none⟩) p.ts.length p.ts.length)
  hB : ∀ (i : Nat) (p : Pt), st[i]? = some p → Has w (bi i) (u8c p.bs)
  hT : ∀ (i : Nat) (p : Pt), st[i]? = some p → Has w (ti i) (boc p.ts)
  apart : ∀ i j, i < st.length → j < st.length → i ≠ j → bi i ≠ bi j ∧ ti i ≠ ti j
  cross : ∀ i j, i < st.length → j < st.length → bi i ≠ ti j
  out : ∀ i, i < st.length → (bi i ≠ rb ∧ bi i ≠ lb ∧ bi i ≠ Bb ∧ bi i ≠ Tb) ∧ (ti i ≠ rb ∧ ti i ≠ lb ∧ ti i ≠ Bb ∧ ti i ≠ Tb)
section
variable {w : World} {a b rb lb Bb Tb : Nat} {bi ti : Nat → Nat} {st : List Pt}
theorem erow_kept {α : Type} {T : ElT α} {w w' : World} {k : Nat} {l : List α} (h : ERow T w (some ⟨k, 0, none⟩) l) (e : k < w.heap.size → w'.heap[k]? = w.heap[k]?) : ERow T w' (some ⟨k, 0, none⟩) l := by
  intro i m hi
  obtain ⟨ad, h1, h2⟩ := h i m hi
  obtain rfl := Option.some.inj h1
  refine ⟨_, rfl, fun j v hv => ?_⟩
  have := h2 j v hv
  rw [addr_add_add, add_block] at this ⊢
  exact cell_kept this (e (lt_of_cell this))
theorem RA.kept {w' : World} (h : RA w a b rb lb Bb Tb bi ti st) (hk : ∀ k, a ≤ k → k < b → k < w.heap.size → w'.heap[k]? = w.heap[k]?) : RA w' a b rb lb Bb Tb bi ti st := by
  have kh : ∀ {k : Nat} {cs : List Value}, a ≤ k ∧ k < b → Has w k cs → Has w' k cs := fun r hx => hx.kept (hk _ r.1 r.2 hx.lt)
  obtain ⟨c1, c2, c3, hr⟩ := h.hr
  exact ⟨h.ok, h.rr, h.rl, h.rB, h.rT, h.rbi, ⟨c1, c2, c3, kh h.rr hr⟩, erow_kept h.L fun hl => hk _ h.rl.1 h.rl.2 hl,
    fun i p hi => cell_kept (h.B i p hi) (hk _ h.rB.1 h.rB.2 (lt_of_cell (h.B i p hi))), fun i p hi => cell_kept (h.T i p hi) (hk _ h.rT.1 h.rT.2 (lt_of_cell (h.T i p hi))),
    fun i p hi => kh (h.rbi i (List.getElem?_eq_some_iff.1 hi).1).1 (h.hB i p hi), fun i p hi => kh (h.rbi i (List.getElem?_eq_some_iff.1 hi).1).2 (h.hT i p hi), h.apart, h.cross, h.out⟩
theorem RA.later {w' : World} (h : RA w a b rb lb Bb Tb bi ti st) (hl : Later w w') : RA w' a b rb lb Bb Tb bi ti st := h.kept fun k _ _ hk => hl.block hk
/-- One part is written over. -/
theorem RA.put {w' : World} (h : RA w a b rb lb Bb Tb bi ti st) {i : Nat} {p p' : Pt} (hi : st[i]? = some p) (hk : But (fun k => k = bi i ∨ k = ti i) w w') (hp : PtOk p') (er : p'.r = p.r) (hB : Has w' (bi i) (u8c p'.bs)) (hT : Has w' (ti i) (boc p'.ts)) : RA w' a b rb lb Bb Tb bi ti (st.set i p') := by
  have hil : i < st.length := (List.getElem?_eq_some_iff.1 hi).1
  have hlen : (st.set i p').length = st.length := by simp
  have ho := h.out i hil
  have hpo := h.ok.2 i p hi
  have lb' : p'.bs.length = p.bs.length := by rw [hp.bl, hpo.bl, er]
  have lt' : p'.ts.length = p.ts.length := by rw [hp.tl, hpo.tl, er]
  have hget : ∀ (j : Nat) (x : Pt), (st.set i p')[j]? = some x → (j = i ∧ x = p') ∨ (j ≠ i ∧ st[j]? = some x) := by
    intro j x hj
    rw [List.getElem?_set] at hj
    split at hj
    · rename_i e
      exact .inl ⟨e.symm, by simpa [hil] using hj.symm⟩
    · rename_i e
      exact .inr ⟨fun e' => e e'.symm, hj⟩
  obtain ⟨c1, c2, c3, hr⟩ := h.hr
  have em : (st.set i p').map (·.r) = st.map (·.r) := by
    apply List.ext_getElem?
    intro j
    rw [List.getElem?_map, List.getElem?_map, List.getElem?_set]
    by_cases hj : i = j
    · subst hj
      rw [if_pos rfl, if_pos hil, hi]
      simp [er]
    · rw [if_neg hj]
  refine ⟨⟨by rw [hlen]; exact h.ok.1, fun j x hj => ?_⟩, h.rr, h.rl, h.rB, h.rT, by rw [hlen]; exact h.rbi, ⟨c1, c2, c3, ?_⟩, ?_, ?_, ?_, ?_, ?_, by rw [hlen]; exact h.apart, by rw [hlen]; exact h.cross, by rw [hlen]; exact h.out⟩
  · rcases hget j x hj with ⟨_, rfl⟩ | ⟨_, hj⟩
    · exact hp
    · exact h.ok.2 j x hj
  · rw [hlen]
    exact hk.has hr (by omega)
  · rw [em]
    exact erow_kept h.L fun hl => hk.keep _ hl (by omega)
  · intro j x hj
    rcases hget j x hj with ⟨rfl, rfl⟩ | ⟨_, hj⟩
    · rw [lb']
      exact hk.cell (h.B _ p hi) (by show ¬ (Bb = bi _ ∨ Bb = ti _); omega)
    · exact hk.cell (h.B j x hj) (by show ¬ (Bb = bi _ ∨ Bb = ti _); omega)
  · intro j x hj
    rcases hget j x hj with ⟨rfl, rfl⟩ | ⟨_, hj⟩
    · rw [lt']
      exact hk.cell (h.T _ p hi) (by show ¬ (Tb = bi _ ∨ Tb = ti _); omega)
    · exact hk.cell (h.T j x hj) (by show ¬ (Tb = bi _ ∨ Tb = ti _); omega)
  · intro j x hj
    rcases hget j x hj with ⟨rfl, rfl⟩ | ⟨hne, hj⟩
    · exact hB
    · have hjl := (List.getElem?_eq_some_iff.1 hj).1
      have := h.apart j i hjl hil hne
      have := h.cross j i hjl hil
      exact hk.has (h.hB j x hj) (by omega)
  · intro j x hj
    rcases hget j x hj with ⟨rfl, rfl⟩ | ⟨hne, hj⟩
    · exact hT
    · have hjl := (List.getElem?_eq_some_iff.1 hj).1
      have := h.apart j i hjl hil hne
      have := h.cross i j hil hjl
      exact hk.has (h.hT j x hj) (by omega)
end
def RefAt (w : World) (a b rb : Nat) (st : List Pt) : Prop := ∃ lb Bb Tb bi ti, RA w a b rb lb Bb Tb bi ti st
theorem RefAt.kept {w w' : World} {a b rb : Nat} {st : List Pt} (h : RefAt w a b rb st) (hk : ∀ k, a ≤ k → k < b → k < w.heap.size → w'.heap[k]? = w.heap[k]?) : RefAt w' a b rb st := by
  obtain ⟨lb, Bb, Tb, bi, ti, h⟩ := h
  exact ⟨lb, Bb, Tb, bi, ti, h.kept hk⟩
theorem RefAt.later {w w' : World} {a b rb : Nat} {st : List Pt} (h : RefAt w a b rb st) (hl : Later w w') : RefAt w' a b rb st := h.kept fun k _ _ hk => hl.block hk
theorem RefAt.beside {w w' : World} {a b c d rb : Nat} {st : List Pt} (h : RefAt w a b rb st) (hk : Kept c d w w') (hd : b ≤ c ∨ d ≤ a) : RefAt w' a b rb st := h.kept fun k h1 h2 h3 => hk.keep k h3 (by omega)
/-- What 'in' answers. -/
def refIn (st : List Pt) (x n : Int) : Value := match findM st x n with
  | none => .tuple #[i64v (-1), i64v 0]
  | some (i, p) => .tuple #[i64v i, i64v (offR p x : Int)]
theorem refIn_none {st : List Pt} {x n : Int} (h : findM st x n = none) : refIn st x n = .tuple #[i64v (-1), i64v 0] := by rw [refIn, h]
theorem refIn_some {st : List Pt} {x n : Int} {i : Nat} {p : Pt} (h : findM st x n = some (i, p)) : refIn st x n = .tuple #[i64v i, i64v (offR p x : Int)] := by rw [refIn, h]
theorem map_get {st : List Pt} {k : Nat} {p : Pt} (h : st[k]? = some p) : (st.map (·.r))[k]? = some p.r := by rw [List.getElem?_map, h]; rfl
set_option maxHeartbeats 1600000 in
theorem ref_in_ok {w : World} {a b rb lb Bb Tb : Nat} {bi ti : Nat → Nat} {st : List Pt} (h : RA w a b rb lb Bb Tb bi ti st) {x n : Int} (hx : 0 ≤ x ∧ x < 18446744073709551616) :
    Calls Try.prog sacristy_ref04_Mem_in.N #[.pointer (some ⟨rb, 0, none⟩), u64v x, i64v n] w (Gives (refIn st x n) w) := by
  refine sacristy_ref04_Mem_in.calls ?_
  unfold sacristy_ref04_Mem_in.vc
  have n16 := h.ok.1
  obtain ⟨c1, c2, c3, hr⟩ := h.hr
  refine ⟨fun vs w' => ∃ k : Nat, k ≤ st.length ∧ vs = [i64v k] ∧ (∀ (j : Nat) (q : Pt), j < k → st[j]? = some q → hasR q.r x n = false) ∧ Later w w', fun vs _ => match vs with | [.int _ m] => st.length - m.toNat | _ => 0, ⟨0, by omega, rfl, fun j q hj => by omega, Later.refl _⟩, ?_⟩
  rintro g i w1 ⟨k, hk, hs, hno, g1⟩
  simp only [List.cons.injEq, Value.int.injEq, true_and, and_true] at hs
  subst hs
  have hr1 := hr.later g1
  refine Deref_some rfl ⟨_, _, _, hr1.cell rfl, cnd_of (fun hlt => ?_) fun hge => ?_⟩
  · have hlt : k < st.length := by simp only [decide_eq_true_eq] at hlt; omega
    have hg := List.getElem?_eq_getElem hlt
    generalize st[k] = p at hg
    have hp := h.ok.2 k p hg
    have m := mayR_facts hp.may
    have := hp.inn.f0
    obtain ⟨ad, hA, hcell⟩ := reg_cells (h.L.later g1) (map_get hg)
    obtain rfl := Option.some.inj hA
    refine Deref_some rfl ⟨_, _, _, hr1.cell rfl, by omega, Deref_some rfl ⟨_, _, _, hcell, fun w2 h2 => ?_⟩⟩
    have M := (Trk.start w1).alloc h2
    refine M.setAll (l := regC p.r) 0 rfl rfl (by simp [Value.oneCell', regC]) fun w3 M => ?_
    have hw : IntKind.i64.wrap ((k : Int) + 1) = ((k + 1 : Nat) : Int) := by rw [i64_in (by omega) (by omega)]; omega
    have next : hasR p.r x n = false → Goes (fun vs w' => ∃ k : Nat, k ≤ st.length ∧ vs = [i64v k] ∧ (∀ (j : Nat) (q : Pt), j < k → st[j]? = some q → hasR q.r x n = false) ∧ Later w w') (fun vs _ => match vs with | [.int _ m] => st.length - m.toNat | _ => 0) [i64v k] w1 [i64v (IntKind.i64.wrap ((k : Int) + 1))] w3 := by
      intro hn
      rw [hw]
      refine ⟨⟨k + 1, by omega, rfl, fun j q hj hq => ?_, g1.trans M.to⟩, by show st.length - ((k + 1 : Nat) : Int).toNat < st.length - ((k : Nat) : Int).toNat; omega⟩
      by_cases hjk : j = k
      · subst hjk
        rw [hg] at hq
        rw [← Option.some.inj hq]
        exact hn
      · exact hno j q (by omega) hq
    refine ⟨_, M.cell 0 rfl rfl, cnd_of (fun h1 => ⟨_, M.cell 0 rfl rfl, _, M.cell 0 rfl rfl, ?_⟩) fun h1 => next ?_⟩
    · have h1 : x ≥ p.r.f := by simpa using h1
      rw [u64_in (x := p.r.f + p.r.s) (by omega) (by omega)]
      refine cnd_of (fun h2 => ⟨_, M.cell 0 rfl rfl, _, M.cell 0 rfl rfl, ?_⟩) fun h2 => next ?_
      · have h2 : x < p.r.f + p.r.s := by simpa using h2
        rw [u64_in (x := p.r.f + p.r.s) (by omega) (by omega), u64_in (x := p.r.f + p.r.s - x) (by omega) (by omega), wrap_u64]
        refine cnd_of (fun h3 => ⟨p.r.f, fun w' hl' => (M.later hl').cell 0 rfl rfl, fun w4 g4 => ?_⟩) fun h3 => next ?_
        · have h3 : n % 18446744073709551616 ≤ p.r.f + p.r.s - x := by simpa using h3
          have hh : hasR p.r x n = true := by
            simp only [hasR, Bool.and_eq_true, decide_eq_true_eq]
            omega
          rw [refIn_some (findM_some hg hh hno)]
          have : IntKind.i64.wrap (IntKind.u64.wrap (x - p.r.f)) = (offR p x : Int) := by
            rw [u64_in (by omega) (by omega), i64_in (by omega) (by omega)]
            unfold offR
            omega
          rw [this]
          exact ⟨rfl, (g1.trans M.to).trans g4⟩
        · have h3 : ¬ n % 18446744073709551616 ≤ p.r.f + p.r.s - x := by simpa using h3
          rw [hasR, decide_eq_false (show ¬ (n % 18446744073709551616 ≤ p.r.s - (x - p.r.f)) by omega)]
          simp
      · have h2 : ¬ x < p.r.f + p.r.s := by simpa using h2
        rw [hasR, decide_eq_false (show ¬ (x - p.r.f < p.r.s) by omega)]
        simp
    · have h1 : ¬ x ≥ p.r.f := by simpa using h1
      rw [hasR, decide_eq_false (show ¬ (p.r.f ≤ x) by omega)]
      simp
  · have : k = st.length := by simp only [decide_eq_false_iff_not] at hge; omega
    subst this
    rw [refIn_none (findM_none fun j q hq => hno j q (List.getElem?_eq_some_iff.1 hq).1 hq)]
    exact ⟨rfl, g1⟩
theorem valB_lt : ∀ l : List Int, (∀ b ∈ l, 0 ≤ b ∧ b < 256) → 0 ≤ valB l ∧ valB l < 2 ^ (8 * l.length)
  | [], _ => by simp [valB]
  | b :: l, h => by
    have ih := valB_lt l fun c hc => h c (List.mem_cons_of_mem b hc)
    have hb := h b List.mem_cons_self
    simp only [valB, List.length_cons]
    rw [show 8 * (l.length + 1) = 8 * l.length + 8 by omega, Int.pow_add, show (2 : Int) ^ 8 = 256 from rfl]
    omega
theorem pow_leI {k m : Nat} (h : k ≤ m) : (2 : Int) ^ k ≤ 2 ^ m := by
  have h1 : ((2 ^ k : Nat) : Int) ≤ ((2 ^ m : Nat) : Int) := Int.ofNat_le.2 (Nat.pow_le_pow_right (by decide) h)
  rwa [Int.natCast_pow, Int.natCast_pow] at h1
theorem pow_le64 {k : Nat} (h : k ≤ 64) : (2 : Int) ^ k ≤ 18446744073709551616 := by
  have h1 := pow_leI h
  rwa [show (2 : Int) ^ 64 = 18446744073709551616 by decide] at h1
/-- A stretch of a part. -/
theorem part_get {l : List Int} {k n j : Nat} (hk : k + n ≤ l.length) (hj : j < n) : ∃ x, l[k + j]? = some x ∧ ((l.drop k).take n).drop j = x :: ((l.drop k).take n).drop (j + 1) := by
  have hl : k + j < l.length := by omega
  refine ⟨l[k + j], List.getElem?_eq_getElem hl, ?_⟩
  have hl2 : j < ((l.drop k).take n).length := by simp; omega
  rw [List.drop_eq_getElem_cons hl2, List.getElem_take, List.getElem_drop]
theorem part_getB {l : List Bool} {k n j : Nat} (hk : k + n ≤ l.length) (hj : j < n) : ∃ x, l[k + j]? = some x ∧ ((l.drop k).take n).drop j = x :: ((l.drop k).take n).drop (j + 1) := by
  have hl : k + j < l.length := by omega
  refine ⟨l[k + j], List.getElem?_eq_getElem hl, ?_⟩
  have hl2 : j < ((l.drop k).take n).length := by simp; omega
  rw [List.drop_eq_getElem_cons hl2, List.getElem_take, List.getElem_drop]
section
variable {w : World} {a b rb lb Bb Tb : Nat} {bi ti : Nat → Nat} {st : List Pt} (h : RA w a b rb lb Bb Tb bi ti st) {i : Nat} {p : Pt} (hi : st[i]? = some p)
include h hi
theorem RA.byte {j : Nat} {x : Int} (hj : p.bs[j]? = some x) : w.cell? ⟨bi i, j, none⟩ = some (.int .u8 x) := (h.hB i p hi).cell (u8c_get hj)
theorem RA.taint {j : Nat} {x : Bool} (hj : p.ts[j]? = some x) : w.cell? ⟨ti i, j, none⟩ = some (.bool x) := (h.hT i p hi).cell (boc_get hj)
end
set_option maxHeartbeats 3200000 in
theorem ref_Load_ok {a b rb : Nat} {st : List Pt} {x n : Int} (hx : 0 ≤ x ∧ x < 18446744073709551616) {w : World} (hM : RefAt w a b rb st) :
    Calls Try.prog sacristy_ref04_Mem_Load.N #[.pointer (some ⟨rb, 0, none⟩), u64v x, i64v n] w (Gives (.tuple #[u64v (loadM st x n).1, .bool (loadM st x n).2.1, i64v (loadM st x n).2.2]) w) := by
  obtain ⟨lb, Bb, Tb, bi, ti, h⟩ := hM
  refine sacristy_ref04_Mem_Load.calls ?_
  unfold sacristy_ref04_Mem_Load.vc
  refine cnd_of (fun h1 => ⟨?_, Later.refl _⟩) fun h1 => cnd_of (fun h2 => ⟨?_, Later.refl _⟩) fun h2 => ?_
  · rw [loadM, if_pos (.inl (by simpa using h1))]
  · rw [loadM, if_pos (.inr (by simpa using h2))]
  have hn : ¬ (n < 1 ∨ 8 < n) := by simp only [decide_eq_false_iff_not] at h1 h2; omega
  have eL : loadM st x n = match findM st x n with
    | none => (0, false, 40)
    | some (_, p) => if p.r.k = 1 then (0, false, 40) else (valB ((p.bs.drop (offR p x)).take n.toNat), ((p.ts.drop (offR p x)).take n.toNat).any id, 0) := by rw [loadM, if_neg hn]; rfl
  refine (ref_in_ok h hx).mono fun e w2 ⟨he, g2⟩ => ?_
  have h2 := h.later g2
  have n16 := h.ok.1
  cases hf : findM st x n with
  | none =>
    rw [refIn_none hf] at he
    rw [hf] at eL
    rw [eL]
    exact ⟨_, _, he, cnd_true rfl ⟨rfl, g2⟩⟩
  | some y =>
    obtain ⟨i, p⟩ := y
    rw [refIn_some hf] at he
    rw [hf] at eL
    simp only at eL
    obtain ⟨hi, hh⟩ := findM_get hf
    have hil : i < st.length := (List.getElem?_eq_some_iff.1 hi).1
    have hp := h.ok.2 i p hi
    obtain ⟨f1, f2, f3, f4⟩ := hasR_facts hp hh
    have m := mayR_facts hp.may
    have hn64 : n % 18446744073709551616 = n := by omega
    rw [hn64] at f4
    have hk : offR p x + n.toNat ≤ p.r.s.toNat := by omega
    have lb' := hp.bl
    have lt' := hp.tl
    obtain ⟨c1, c2, c3, hr⟩ := h2.hr
    obtain ⟨ad, hA, d0, d1, d2, -⟩ := reg_cells h2.L (map_get hi)
    obtain rfl := Option.some.inj hA
    refine ⟨_, _, he, cnd_false (by rw [decide_eq_false_iff_not]; omega) (Deref_some rfl ⟨_, _, _, hr.cell rfl, by omega, Deref_some rfl ⟨_, d2, cnd_of (fun hk1 => ⟨?_, g2⟩) fun hk1 => ?_⟩⟩)⟩
    · rw [eL, if_pos (by simpa using hk1)]
    have hk1 : ¬ p.r.k = 1 := by simpa using hk1
    rw [if_neg hk1] at eL
    have hw0 : IntKind.i64.wrap (n - 1) = n - 1 := i64_in (by omega) (by omega)
    rw [hw0]
    let PB := (p.bs.drop (offR p x)).take n.toNat
    let PT := (p.ts.drop (offR p x)).take n.toNat
    have lPB : PB.length = n.toNat := by show ((p.bs.drop (offR p x)).take n.toNat).length = _; rw [List.length_take, List.length_drop]; omega
    have lPT : PT.length = n.toNat := by show ((p.ts.drop (offR p x)).take n.toNat).length = _; rw [List.length_take, List.length_drop]; omega
    refine ⟨fun vs w' => ∃ j : Nat, j ≤ n.toNat ∧ vs = [u64v (valB (PB.drop j)), .bool ((PT.drop j).any id), i64v ((j : Int) - 1)] ∧ w' = w2, fun vs _ => match vs with | [_, _, .int _ m] => (m + 1).toNat | _ => 0,
      ⟨n.toNat, by omega, ?_, rfl⟩, ?_⟩
    · rw [List.drop_of_length_le (by omega), List.drop_of_length_le (by omega)]
      have : ((n.toNat : Nat) : Int) - 1 = n - 1 := by omega
      rw [this]
      rfl
    rintro g v taint jj w3 ⟨j, hj, hs', rfl⟩
    simp only [List.cons.injEq, Value.int.injEq, Value.bool.injEq, true_and, and_true] at hs'
    obtain ⟨rfl, rfl, rfl⟩ := hs'
    refine cnd_of (fun hge => ?_) fun hlt => ?_
    · have hj1 : 1 ≤ j := by simp only [decide_eq_true_eq] at hge; omega
      obtain ⟨j, rfl⟩ : ∃ k, j = k + 1 := ⟨j - 1, by omega⟩
      have ej : (((j + 1 : Nat) : Int) - 1) = (j : Int) := by omega
      rw [ej]
      obtain ⟨xb, hxb, exb⟩ := part_get (l := p.bs) (k := offR p x) (n := n.toNat) (j := j) (by omega) (by omega)
      obtain ⟨xt, hxt, ext⟩ := part_getB (l := p.ts) (k := offR p x) (n := n.toNat) (j := j) (by omega) (by omega)
      have hw : IntKind.i64.wrap ((offR p x : Int) + (j : Int)) = ((offR p x + j : Nat) : Int) := by rw [i64_in (by omega) (by omega)]; omega
      have hw2 : IntKind.i64.wrap ((j : Int) - 1) = (j : Int) - 1 := i64_in (by omega) (by omega)
      rw [hw, hw2]
      have hb8 : ∀ b ∈ PB, 0 ≤ b ∧ b < 256 := b8_part hp _ _
      have hxb8 : 0 ≤ xb ∧ xb < 256 := hp.b8 xb (List.mem_of_getElem? hxb)
      have eB : valB (PB.drop j) = xb + 256 * valB (PB.drop (j + 1)) := by
        show valB (((p.bs.drop (offR p x)).take n.toNat).drop j) = _
        rw [exb]
        rfl
      have bnd : 0 ≤ valB (PB.drop j) ∧ valB (PB.drop j) < 18446744073709551616 := by
        have := valB_lt (PB.drop j) fun b hb => hb8 b (List.mem_of_mem_drop hb)
        have hl : (PB.drop j).length ≤ 8 := by rw [List.length_drop, lPB]; omega
        have := pow_le64 (k := 8 * (PB.drop j).length) (by omega)
        omega
      have bnd1 := (valB_lt (PB.drop (j + 1)) fun b hb => hb8 b (List.mem_of_mem_drop hb)).1
      have ev : IntKind.u64.wrap (IntKind.u64.wrap (256 * valB (PB.drop (j + 1))) + IntKind.u64.wrap xb) = valB (PB.drop j) := by
        rw [u64_in (x := 256 * valB (PB.drop (j + 1))) (by omega) (by omega), u64_in (x := xb) (by omega) (by omega), u64_in (by omega) (by omega), eB]
        omega
      have eT : (PT.drop j).any id = (xt || (PT.drop (j + 1)).any id) := by
        show (((p.ts.drop (offR p x)).take n.toNat).drop j).any id = _
        rw [ext]
        rfl
      have a1 : (⟨bi i, 0, none⟩ : Addr).add ((((offR p x + j : Nat) : Int)).toNat * 1) = ⟨bi i, offR p x + j, none⟩ := by rw [add_block]; simp
      have a2 : (⟨ti i, 0, none⟩ : Addr).add ((((offR p x + j : Nat) : Int)).toNat * 1) = ⟨ti i, offR p x + j, none⟩ := by rw [add_block]; simp
      have b1 : (⟨Bb, 0, none⟩ : Addr).add ((i : Int).toNat * 1) = ⟨Bb, i, none⟩ := by rw [add_block]; simp
      have b2 : (⟨Tb, 0, none⟩ : Addr).add ((i : Int).toNat * 1) = ⟨Tb, i, none⟩ := by rw [add_block]; simp
      have dec : (((j : Int) - 1) + 1).toNat < ((j : Int) + 1).toNat := by omega
      refine Deref_some rfl ⟨_, _, _, hr.cell (i := 1) rfl, by omega, Deref_some rfl ?_⟩
      rw [b1]
      refine ⟨_, _, _, h2.B i p hi, by omega, Deref_some rfl ?_⟩
      rw [a1]
      refine ⟨xb, h2.byte hi hxb, ?_⟩
      rw [ev]
      refine cnd_of (fun ht => ⟨⟨j, by omega, ?_, rfl⟩, by simpa using dec⟩) fun ht => ?_
      · rw [eT, ht]
        simp
      · refine Deref_some rfl ⟨_, _, _, hr.cell (i := 2) rfl, by omega, Deref_some rfl ?_⟩
        rw [b2]
        refine ⟨_, _, _, h2.T i p hi, by omega, Deref_some rfl ?_⟩
        rw [a2]
        refine ⟨xt, h2.taint hi hxt, ⟨j, by omega, ?_, rfl⟩, by simpa using dec⟩
        rw [eT, ht]
        simp
    · have : j = 0 := by simp only [decide_eq_false_iff_not] at hlt; omega
      subst this
      refine ⟨?_, g2⟩
      rw [eL]
      rfl
end Go.Proofs.Ytngkifnknlginaa
