/-
The reference's memory: storing, fetching, setting, bytes; rows compared.
Conditions: each theorem's hypotheses.
-/
import Derived.Test.YtngkifnknlginaaRefA
namespace Go.Proofs.Ytngkifnknlginaa
open Go Go.Vc Go.RowKit
set_option linter.unusedVariables false
set_option linter.unusedSimpArgs false
set_option linter.unnecessarySimpa false
set_option linter.unusedSectionVars false
set_option maxRecDepth 100000

theorem take_snoc {α : Type} {l : List α} {j : Nat} {x : α} (h : l[j]? = some x) : l.take (j + 1) = l.take j ++ [x] := by
  rw [List.take_add_one, h]
  rfl
theorem Has.setE {w w' : World} {b b' : Nat} {cs : List Value} (h : Has w b cs) (hb : b ≠ b') {i : Nat} {v : Value} (e : w' = w.setCell ⟨b', i, none⟩ v) : Has w' b cs := by
  rw [e]
  exact h.set_other hb i v
/-- While a part is written, cell by cell. -/
structure Wr (w : World) (bi ti : Nat) (p : Pt) (k : Nat) (l : List Int) (t : Bool) (j : Nat) (w' : World) : Prop where
  but : But (fun x => x = bi ∨ x = ti) w w'
  hB : Has w' bi (u8c (putL p.bs k (l.take j)))
  hT : Has w' ti (boc (putL p.ts k (List.replicate j t)))
section
variable {w : World} {a b rb lb Bb Tb : Nat} {bi ti : Nat → Nat} {st : List Pt} (h : RA w a b rb lb Bb Tb bi ti st) {i : Nat} {p : Pt} (hi : st[i]? = some p)
include h hi
theorem RA.wr0 (k : Nat) (l : List Int) (t : Bool) : Wr w (bi i) (ti i) p k l t 0 w := by
  refine ⟨But.refl _ _, ?_, ?_⟩
  · rw [List.take_zero, putL_nil]
    exact h.hB i p hi
  · show Has w (ti i) (boc (putL p.ts k []))
    rw [putL_nil]
    exact h.hT i p hi
theorem RA.wrote {k : Nat} {l : List Int} {t : Bool} {w' : World} (hw : Wr w (bi i) (ti i) p k l t l.length w') (hk : k + l.length ≤ p.r.s.toNat) (hl : ∀ b ∈ l, 0 ≤ b ∧ b < 256) : RefAt w' a b rb (layM st i p k l t) ∧ Kept a b w w' := by
  have hil : i < st.length := (List.getElem?_eq_some_iff.1 hi).1
  refine ⟨⟨lb, Bb, Tb, bi, ti, h.put hi hw.but (layP_ok (h.ok.2 i p hi) hk hl) rfl ?_ ?_⟩, hw.but.kept fun x hx => ?_⟩
  · have := hw.hB
    rw [List.take_length] at this
    exact this
  · exact hw.hT
  · have := h.rbi i hil
    rcases hx with rfl | rfl
    · exact this.1
    · exact this.2
end
/-- One round: a byte, and its taint. -/
theorem Wr.step {w w' w1 w2 : World} {bi ti : Nat} (hne : bi ≠ ti) {p : Pt} {k : Nat} {l : List Int} {t : Bool} {j : Nat} (hw : Wr w bi ti p k l t j w') {x : Int} (hx : l[j]? = some x) (hB : k + l.length ≤ p.bs.length) (hT : k + l.length ≤ p.ts.length)
    (e1 : w1 = w'.setCell ⟨bi, k + j, none⟩ (.int .u8 x)) (e2 : w2 = w1.setCell ⟨ti, k + j, none⟩ (.bool t)) : Wr w bi ti p k l t (j + 1) w2 := by
  have hj : j < l.length := (List.getElem?_eq_some_iff.1 hx).1
  have hlt : (l.take j).length = j := by rw [List.length_take]; omega
  have gB : k + j < (putL p.bs k (l.take j)).length := by rw [putL_length (by omega)]; omega
  have gT : k + j < (putL p.ts k (List.replicate j t)).length := by rw [putL_length (by rw [List.length_replicate]; omega)]; omega
  refine ⟨?_, ?_, ?_⟩
  · rw [e2, e1]
    exact (hw.but.trans (But.setCell _ _ (.inl rfl))).trans (But.setCell _ _ (.inr rfl))
  · have h1 := hw.hB.set (k + j) (.int .u8 x)
    rw [e2, e1]
    refine Has.set_other ?_ hne _ _
    have e : (u8c (putL p.bs k (l.take j))).set (k + j) (.int .u8 x) = u8c (putL p.bs k (l.take (j + 1))) := by
      have := putL_snoc (B := p.bs) (o := k) (vs := l.take j) (v := x) (by omega)
      rw [hlt, putL_one gB] at this
      rw [take_snoc hx, ← this]
      simp [u8c]
    rw [← e]
    exact h1
  · have h0 : Has w1 ti (boc (putL p.ts k (List.replicate j t))) := by rw [e1]; exact hw.hT.set_other (fun e => hne e.symm) _ _
    have h1 := h0.set (k + j) (.bool t)
    have e : (boc (putL p.ts k (List.replicate j t))).set (k + j) (.bool t) = boc (putL p.ts k (List.replicate (j + 1) t)) := by
      have := putL_snoc (B := p.ts) (o := k) (vs := List.replicate j t) (v := t) (by rw [List.length_replicate]; omega)
      rw [List.length_replicate, putL_one gT] at this
      rw [List.replicate_succ', ← this]
      simp [boc]
    rw [e2, ← e]
    exact h1
theorem addr_cell (x n : Nat) : (⟨x, 0, none⟩ : Addr).add (((n : Int)).toNat * 1) = ⟨x, n, none⟩ := by rw [add_block]; simp
/-- What a writing call of the reference's leaves. -/
def RWrote (v : Value) (w : World) (a b rb : Nat) (st : List Pt) (e : Ending) (w' : World) : Prop := e = .returned v ∧ Kept a b w w' ∧ RefAt w' a b rb st
theorem shift8 (v : Int) (j : Nat) : v / 2 ^ (8 * j) / 256 = v / 2 ^ (8 * (j + 1)) := by
  rw [show 8 * (j + 1) = 8 * j + 8 by omega, Int.pow_add, show (2 : Int) ^ 8 = 256 from rfl, Int.ediv_ediv_of_nonneg (Int.le_of_lt (two_pow_pos _))]
theorem shift_bound {v : Int} (hv : 0 ≤ v ∧ v < 18446744073709551616) (k : Nat) : 0 ≤ v / 2 ^ k ∧ v / 2 ^ k < 18446744073709551616 := by
  have hp := two_pow_pos k
  refine ⟨Int.ediv_nonneg hv.1 (Int.le_of_lt hp), ?_⟩
  have : v / 2 ^ k ≤ v := Int.ediv_le_self _ hv.1
  omega
set_option maxHeartbeats 3200000 in
/-- The reference's loop over a word's bytes. -/
theorem ref_loop {w2 : World} {a b rb lb Bb Tb : Nat} {bi ti : Nat → Nat} {st : List Pt} (h2 : RA w2 a b rb lb Bb Tb bi ti st) {i : Nat} {p : Pt} (hi : st[i]? = some p) (hne : bi i ≠ ti i) (hout : (bi i ≠ rb ∧ bi i ≠ lb ∧ bi i ≠ Bb ∧ bi i ≠ Tb) ∧ (ti i ≠ rb ∧ ti i ≠ lb ∧ ti i ≠ Bb ∧ ti i ≠ Tb)) (hil : i < st.length)
    {c1 c2 c3 : Nat} (hr : Has w2 rb [.slice (some ⟨lb, 0, none⟩) st.length c1, .slice (some ⟨Bb, 0, none⟩) st.length c2, .slice (some ⟨Tb, 0, none⟩) st.length c3]) {o : Nat} {oi : Int} (eo : oi = (o : Int)) {ii : Int} (ei : ii = (i : Int)) {v n : Int} {t : Bool} (hv : 0 ≤ v ∧ v < 18446744073709551616) (hn : 1 ≤ n ∧ n ≤ 8) (hk : o + n.toNat ≤ p.r.s.toNat) (lb' : p.bs.length = p.r.s.toNat) (lt' : p.ts.length = p.r.s.toNat) (hs20 : p.r.s.toNat ≤ 1048576) (n16 : st.length ≤ 16)
    {R : Ending → World → Prop} (hR : ∀ w', RefAt w' a b rb (layM st i p o (lowB v n.toNat) t) ∧ Kept a b w2 w' → R (.returned (i64v 0)) w') :
    ∃ (I : List Value → World → Prop), ∃ (μ : List Value → World → Nat), I [u64v v, i64v 0] w2 ∧ ∀ (g : Nat → Value) (v j : Int) (w' : World), I [u64v v, i64v j] w' →
      cnd (decide (j < n)) (Deref (some ⟨rb, 0, none⟩) fun (a : Addr) => ∃ (p : Option Addr), ∃ (n_6 : Nat), ∃ (c : Nat), w'.cell? (a.add 1) = some (.slice p n_6 c) ∧ (0 ≤ ii ∧ ii < (n_6 : Int)) ∧ Deref p fun (a : Addr) =>
        ∃ (p : Option Addr), ∃ (n_7 : Nat), ∃ (c : Nat), w'.cell? (a.add (ii.toNat * 1)) = some (.slice p n_7 c) ∧ (0 ≤ IntKind.i64.wrap (oi + j) ∧ IntKind.i64.wrap (oi + j) < (n_7 : Int)) ∧ Deref p fun (a : Addr) => ((w'.cell? (a.add ((IntKind.i64.wrap (oi + j)).toNat * 1))).isSome = true ∧ w'.frozen? (a.add ((IntKind.i64.wrap (oi + j)).toNat * 1)) = false) ∧
        ∀ (w'_1 : World), w'_1 = w'.setCell (a.add ((IntKind.i64.wrap (oi + j)).toNat * 1)) (.int .u8 (IntKind.u8.wrap (v.tmod 256))) → Deref (some ⟨rb, 0, none⟩) fun (a : Addr) =>
        ∃ (p : Option Addr), ∃ (n_8 : Nat), ∃ (c : Nat), w'_1.cell? (a.add 2) = some (.slice p n_8 c) ∧ (0 ≤ ii ∧ ii < (n_8 : Int)) ∧ Deref p fun (a : Addr) =>
        ∃ (p : Option Addr), ∃ (n_9 : Nat), ∃ (c : Nat), w'_1.cell? (a.add (ii.toNat * 1)) = some (.slice p n_9 c) ∧ (0 ≤ IntKind.i64.wrap (oi + j) ∧ IntKind.i64.wrap (oi + j) < (n_9 : Int)) ∧ Deref p fun (a : Addr) => ((w'_1.cell? (a.add ((IntKind.i64.wrap (oi + j)).toNat * 1))).isSome = true ∧ w'_1.frozen? (a.add ((IntKind.i64.wrap (oi + j)).toNat * 1)) = false) ∧
        ∀ (w'_2 : World), w'_2 = w'_1.setCell (a.add ((IntKind.i64.wrap (oi + j)).toNat * 1)) (.bool t) → Goes I μ [u64v v, i64v j] w' [u64v (IntKind.u64.wrap (v.tdiv 256)), i64v (IntKind.i64.wrap (j + 1))] w'_2)
      (R (.returned (i64v 0)) w') := by
  subst eo
  subst ei
  have ll := lowB_length v n.toNat
  refine ⟨fun vs w' => ∃ j : Nat, j ≤ n.toNat ∧ vs = [u64v (v / 2 ^ (8 * j)), i64v j] ∧ Wr w2 (bi i) (ti i) p o (lowB v n.toNat) t j w', fun vs _ => match vs with | [_, .int _ m] => n.toNat - m.toNat | _ => 0, ⟨0, by omega, by simp, h2.wr0 hi _ _ _⟩, ?_⟩
  rintro g v' jj w3 ⟨j, hj, hs', hW⟩
  simp only [List.cons.injEq, Value.int.injEq, true_and, and_true] at hs'
  obtain ⟨rfl, rfl⟩ := hs'
  refine cnd_of (fun hlt => ?_) fun hge => ?_
  · have hlt : j < n.toNat := by simp only [decide_eq_true_eq] at hlt; omega
    have hw : IntKind.i64.wrap ((o : Int) + (j : Int)) = ((o + j : Nat) : Int) := by rw [i64_in (by omega) (by omega)]; omega
    have hw2 : IntKind.i64.wrap ((j : Int) + 1) = ((j + 1 : Nat) : Int) := by rw [i64_in (by omega) (by omega)]; omega
    have sb := shift_bound hv (8 * j)
    have hx := lowB_get v n.toNat j hlt
    have eb : IntKind.u8.wrap ((v / 2 ^ (8 * j)).tmod 256) = v / 2 ^ (8 * j) % 256 := by
      rw [tmod_nn _ sb.1, wrap_u8]
      omega
    have ev : IntKind.u64.wrap ((v / 2 ^ (8 * j)).tdiv 256) = v / 2 ^ (8 * (j + 1)) := by
      have := shift_bound hv (8 * (j + 1))
      rw [tdiv_nn _ sb.1, shift8, u64_in this.1 this.2]
    rw [hw, hw2, eb, ev]
    have hr3 := hW.but.has hr (by show ¬ (rb = bi i ∨ rb = ti i); omega)
    have hB3 := hW.but.cell (h2.B i p hi) (by show ¬ (Bb = bi i ∨ Bb = ti i); omega)
    have hT3 := hW.but.cell (h2.T i p hi) (by show ¬ (Tb = bi i ∨ Tb = ti i); omega)
    have gB : o + j < (u8c (putL p.bs o ((lowB v n.toNat).take j))).length := by rw [u8c_length, putL_length (by rw [List.length_take]; omega)]; omega
    have gT : o + j < (boc (putL p.ts o (List.replicate j t))).length := by rw [boc_length, putL_length (by rw [List.length_replicate]; omega)]; omega
    refine Deref_some rfl ⟨_, _, _, hr3.cell (i := 1) rfl, by omega, Deref_some rfl ?_⟩
    rw [addr_cell]
    refine ⟨_, _, _, hB3, by omega, Deref_some rfl ?_⟩
    rw [addr_cell]
    refine ⟨⟨by rw [hW.hB.cell (List.getElem?_eq_getElem gB)]; rfl, hW.hB.frozen _⟩, fun w4 h4 => ?_⟩
    have hr4 := Has.setE hr3 (by omega) h4
    have hT4 : w4.cell? ⟨Tb, i, none⟩ = some (.slice (some ⟨ti i, 0, none⟩) p.ts.length p.ts.length) := by
      rw [h4]
      exact cell_kept hT3 (cell_heap (by show bi i ≠ Tb; omega))
    have hti4 := Has.setE hW.hT (fun e => hne e.symm) h4
    refine Deref_some rfl ⟨_, _, _, hr4.cell (i := 2) rfl, by omega, Deref_some rfl ?_⟩
    rw [addr_cell]
    refine ⟨_, _, _, hT4, by omega, Deref_some rfl ?_⟩
    rw [addr_cell]
    refine ⟨⟨by rw [hti4.cell (List.getElem?_eq_getElem gT)]; rfl, hti4.frozen _⟩, fun w5 h5 => ⟨⟨j + 1, by omega, rfl, hW.step hne hx (by omega) (by omega) h4 h5⟩, by show n.toNat - ((j + 1 : Nat) : Int).toNat < n.toNat - ((j : Nat) : Int).toNat; omega⟩⟩
  · have : j = n.toNat := by simp only [decide_eq_false_iff_not] at hge; omega
    subst this
    have hW' : Wr w2 (bi i) (ti i) p o (lowB v n.toNat) t (lowB v n.toNat).length w3 := by rw [ll]; exact hW
    exact hR _ (h2.wrote hi hW' (by rw [ll]; exact hk) (lowB_b8 v _))
set_option maxHeartbeats 3200000 in
theorem ref_Store_ok {a b rb : Nat} {st : List Pt} {x n v : Int} {t : Bool} (hx : 0 ≤ x ∧ x < 18446744073709551616) (hv : 0 ≤ v ∧ v < 18446744073709551616) {w : World} (hM : RefAt w a b rb st) :
    Calls Try.prog sacristy_ref04_Mem_Store.N #[.pointer (some ⟨rb, 0, none⟩), u64v x, i64v n, u64v v, .bool t] w (RWrote (i64v (storeM st x n v t).2) w a b rb (storeM st x n v t).1) := by
  have hM' := hM
  obtain ⟨lb, Bb, Tb, bi, ti, h⟩ := hM
  refine sacristy_ref04_Mem_Store.calls ?_
  unfold sacristy_ref04_Mem_Store.vc
  have two : (n < 1 ∨ 8 < n) → RWrote (i64v (storeM st x n v t).2) w a b rb (storeM st x n v t).1 (.returned (i64v 2)) w := fun hn => by
    rw [storeM, if_pos hn]
    exact ⟨rfl, Kept.refl _ _ _, hM'⟩
  refine cnd_of (fun h1 => two (.inl (by simpa using h1))) fun h1 => cnd_of (fun h2 => two (.inr (by simpa using h2))) fun h2 => ?_
  have hn : ¬ (n < 1 ∨ 8 < n) := by simp only [decide_eq_false_iff_not] at h1 h2; omega
  have eL : storeM st x n v t = match findM st x n with
    | none => (st, 40)
    | some (i, p) => if p.r.k = 3 ∨ p.r.k = 4 then (layM st i p (offR p x) (lowB v n.toNat) t, 0) else (st, 40) := by rw [storeM, if_neg hn]; rfl
  refine (ref_in_ok h hx).mono fun e w2 ⟨he, g2⟩ => ?_
  have h2 := h.later g2
  have n16 := h.ok.1
  cases hf : findM st x n with
  | none =>
    rw [refIn_none hf] at he
    rw [hf] at eL
    rw [eL]
    exact ⟨_, _, he, cnd_true rfl ⟨rfl, g2.kept _ _, hM'.later g2⟩⟩
  | some y =>
    obtain ⟨i, p⟩ := y
    rw [refIn_some hf] at he
    rw [hf] at eL
    simp only at eL
    obtain ⟨hi, hh⟩ := findM_get hf
    have hil : i < st.length := (List.getElem?_eq_some_iff.1 hi).1
    have hp := h.ok.2 i p hi
    obtain ⟨f1, f2, f3, f4⟩ := hasR_facts hp hh
    have m := mayR_facts hp.may
    have hn64 : n % 18446744073709551616 = n := by omega
    rw [hn64] at f4
    have hk : offR p x + n.toNat ≤ p.r.s.toNat := by omega
    have lb' := hp.bl
    have lt' := hp.tl
    have hne : bi i ≠ ti i := h.cross i i hil hil
    have hout := h.out i hil
    obtain ⟨c1, c2, c3, hr⟩ := h2.hr
    obtain ⟨ad, hA, d0, d1, d2, -⟩ := reg_cells h2.L (map_get hi)
    obtain rfl := Option.some.inj hA
    refine ⟨_, _, he, cnd_false (by rw [decide_eq_false_iff_not]; omega) (Deref_some rfl ⟨_, _, _, hr.cell rfl, by omega, Deref_some rfl ⟨_, d2, cnd_of (fun hk3 => Deref_some rfl ⟨_, _, _, hr.cell rfl, by omega, Deref_some rfl ⟨_, d2, cnd_of (fun hk4 => ?_) fun hk4 => ?_⟩⟩) fun hk3 => ?_⟩⟩)⟩
    · have h3 : ¬ p.r.k = 3 := by simpa using hk3
      have h4 : ¬ p.r.k = 4 := by simpa using hk4
      rw [if_neg (by omega)] at eL
      rw [eL]
      exact ⟨rfl, g2.kept _ _, hM'.later g2⟩
    · have hk34 : p.r.k = 3 ∨ p.r.k = 4 := .inr (by simpa using hk4)
      rw [if_pos hk34] at eL
      rw [eL]
      exact ref_loop h2 hi hne hout hil hr rfl rfl hv (by omega) hk (by omega) (by omega) (by omega) n16 (fun w' hl => ⟨rfl, (g2.kept a b).trans hl.2, hl.1⟩)
    · have hk34 : p.r.k = 3 ∨ p.r.k = 4 := .inl (by simpa using hk3)
      rw [if_pos hk34] at eL
      rw [eL]
      exact ref_loop h2 hi hne hout hil hr rfl rfl hv (by omega) hk (by omega) (by omega) (by omega) n16 (fun w' hl => ⟨rfl, (g2.kept a b).trans hl.2, hl.1⟩)
end Go.Proofs.Ytngkifnknlginaa
