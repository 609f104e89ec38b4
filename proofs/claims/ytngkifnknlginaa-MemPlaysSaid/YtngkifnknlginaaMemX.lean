/-
Chapter 04's law MemPlays: all bytes of both memories, the law once called.
Conditions: each theorem's hypotheses.
-/
import Derived.Test.YtngkifnknlginaaMemV
namespace Go.Proofs.Ytngkifnknlginaa
open Go Go.Vc Go.RowKit
set_option linter.unusedVariables false
set_option linter.unusedSimpArgs false
set_option linter.unnecessarySimpa false
set_option linter.unusedSectionVars false
set_option maxRecDepth 100000

theorem reg_neq (a0 a1 a2 b0 b1 b2 : Int) (xo yo : Operand) : EqRuns Try.prog .neq 42 xo yo (.agg #[u64v a0, u64v a1, .int .u8 a2]) (.agg #[u64v b0, u64v b1, .int .u8 b2]) (!(a0 == b0 && (a1 == b1 && a2 == b2))) := by
  have := (eq_flat (P := Try.prog) (vs := [u64v a0, u64v a1, .int .u8 a2]) (us := [u64v b0, u64v b1, .int .u8 b2]) xo yo Try.underlying42 (by kernel_rfl) (by kernel_rfl) (by kernel_rfl)).2
  simpa [eqL, eq1] using this
/-- A whole part. -/
theorem bytes_all {st : List Pt} (hs : StOk st) (hd : Sep st) {i : Nat} {p : Pt} (hi : st[i]? = some p) : bytesM st p.r.f p.r.s = (p.bs, p.ts, 0) := by
  have hp := hs.2 i p hi
  have m := mayR_facts hp.may
  have hh : hasR p.r p.r.f p.r.s = true := by
    simp only [hasR, Bool.and_eq_true, decide_eq_true_eq]
    omega
  unfold bytesM
  rw [if_neg (by omega), find_at hd hi hh]
  have e : offR p p.r.f = 0 := by unfold offR; omega
  show ((p.bs.drop (offR p p.r.f)).take p.r.s.toNat, (p.ts.drop (offR p p.r.f)).take p.r.s.toNat, (0 : Int)) = _
  rw [e, List.drop_zero, List.drop_zero, List.take_of_length_le (by rw [hp.bl]; exact Nat.le_refl _), List.take_of_length_le (by rw [hp.tl]; exact Nat.le_refl _)]
set_option maxHeartbeats 6400000 in
theorem law04_all_ok {a b c d mb rb : Nat} {st : List Pt} (hs : StOk st) (hd : Sep st) (hne : 0 < st.length) {w : World} (hM : MemAt w a b mb st) (hR : RefAt w c d rb st) :
    Calls Try.prog law04_all.N #[.pointer (some ⟨mb, 0, none⟩), .pointer (some ⟨rb, 0, none⟩)] w (Gives (.bool true) w) := by
  refine law04_all.calls ?_
  unfold law04_all.vc
  have n16 := hs.1
  refine (mem_Regions_ok hne hM).mono fun e w1 ⟨PR, cR, he, g1, oR⟩ => ⟨_, _, _, he, ?_⟩
  obtain ⟨lb, Bb, Tb, bi, ti, h⟩ := hR
  have h1 := h.later g1
  obtain ⟨c1, c2, c3, hr⟩ := h1.hr
  have hrow := oR.row
  have hlm : (st.map (·.r)).length = st.length := by simp
  refine Deref_some rfl ⟨_, _, _, hr.cell rfl, cnd_false (by simp) ?_⟩
  refine ⟨fun vs W => ∃ k : Nat, k ≤ st.length ∧ vs = [i64v k] ∧ Later w1 W, fun vs _ => match vs with | [.int _ m] => st.length - m.toNat | _ => 0, ⟨0, by omega, rfl, Later.refl _⟩, ?_⟩
  rintro g i W ⟨k, hk, hvs, gW⟩
  simp only [List.cons.injEq, Value.int.injEq, true_and, and_true] at hvs
  subst hvs
  refine cnd_of (fun hlt => ?_) fun hge => ⟨rfl, g1.trans gW⟩
  have hlt : k < st.length := by simp only [decide_eq_true_eq] at hlt; omega
  have hg := List.getElem?_eq_getElem hlt
  generalize st[k] = p at hg
  have hp := hs.2 k p hg
  have m := mayR_facts hp.may
  have hf0 := hp.inn.f0
  obtain ⟨ad, hA, d0, d1, d2, -⟩ := reg_cells h1.L (map_get hg)
  obtain rfl := Option.some.inj hA
  refine ⟨fun W' => Later w1 W', fun W' hl => gW.trans hl, fun W2 g2 => ?_⟩
  have hwk : IntKind.i64.wrap ((k : Int) + 1) = ((k + 1 : Nat) : Int) := by rw [i64_in (by omega) (by omega)]; omega
  refine Deref_some rfl ⟨_, _, _, fun W' hC => (hr.later hC).cell rfl, by omega, Deref_some rfl ⟨_, fun W' hC => hC.cell_some d0, Deref_some rfl ⟨_, _, _, fun W' hC => (hr.later hC).cell rfl, by omega, Deref_some rfl ⟨_, fun W' hC => hC.cell_some d1, ?_⟩⟩⟩⟩
  rw [i64_in (x := p.r.s) (by omega) (by omega)]
  have eb := bytes_all hs hd hg
  have g12 := gW.trans g2
  refine (mem_Bytes_ok hne (x := p.r.f) (n := p.r.s) (by omega) (hM.later (g1.trans g12))).mono fun e W3 ⟨g3, Q, cQ, he, oQ⟩ => ⟨_, _, _, _, _, he, g12.trans g3, by omega, ?_⟩
  rw [eb] at oQ ⊢
  have g13 := g12.trans g3
  have hrW := hr.later g13
  have h3 := h1.later g13
  obtain ⟨ad2, hA2, q0, q1, q2, -⟩ := reg_cells (hrow.later g13) (map_get hg)
  obtain ⟨ad3, hA3, z0, z1, z2, -⟩ := reg_cells h3.L (map_get hg)
  obtain rfl := Option.some.inj hA3
  rw [hA2]
  refine Deref_some rfl ⟨_, _, _, fun W' hl => ⟨hl.cell_some q0, hl.cell_some q1, hl.cell_some q2, trivial⟩, Deref_some rfl ⟨_, _, _, fun W' hl => (hrW.later hl).cell rfl, by omega, Deref_some rfl ⟨_, _, _, fun W' hl => ⟨hl.cell_some z0, hl.cell_some z1, hl.cell_some z2, trivial⟩, _, reg_neq _ _ _ _ _ _ _ _, cnd_false (by simp) (cnd_false rfl ?_)⟩⟩⟩
  refine Deref_some rfl ⟨_, _, _, fun W' hl => (hrW.later hl).cell (i := 1) rfl, by omega, Deref_some rfl ?_⟩
  rw [addr_cell]
  refine ⟨_, _, _, fun W' hl => hl.cell_some (h3.B k p hg), strOf p.bs, fun W' hl => ?_, cnd_false (by simp) ?_⟩
  · have hcells : CellsAt W' ⟨bi k, 0, none⟩ 0 (p.bs.map (Value.int .u8)) := by
      have := ((h3.hB k p hg).later hl).cellsAt (u8c p.bs) 0 (fun j v hj => by rw [Nat.zero_add]; exact hj)
      exact this
    have := runs_bytes_string (P := Try.prog) (w := W') (src := 60) (dst := 9) (e := 5) (l := p.bs.length) (c := p.bs.length) (K := fun v w' => v = .string (strOf p.bs) ∧ w' = W') (by kernel_rfl) (by kernel_rfl) (by kernel_rfl) rfl hcells ⟨rfl, rfl⟩
    obtain ⟨v, w', hrun, rfl, rfl⟩ := RunsV_elim this
    exact hrun
  refine Deref_some rfl ⟨_, _, _, fun W' hl => (hrW.later hl).cell (i := 2) rfl, by omega, Deref_some rfl ?_⟩
  rw [addr_cell]
  have hrt : ERow boT W3 (some ⟨ti k, 0, none⟩) p.ts := by
    have hh := h3.hT k p hg
    intro j m' hj
    refine ⟨_, rfl, fun y v hv => ?_⟩
    have hy : y < 1 := (List.getElem?_eq_some_iff.1 hv).1
    obtain rfl : y = 0 := by omega
    have hv : v = .bool m' := by simpa [boT] using hv.symm
    rw [hv, addr_add_add, add_block, show 0 + (j * boT.sz + 0) = j by show 0 + (j * 1 + 0) = j; omega]
    exact hh.cell (boc_get hj)
  refine ⟨_, _, _, fun W' hl => hl.cell_some (h3.T k p hg), true, fun W' hl => ?_, fun W4 g4 => cnd_false rfl ?_⟩
  · refine (ref_Same_ok (by rw [hp.tl]; omega) (oQ.row.later hl) (hrt.later hl)).mono fun e w' ⟨he, hl'⟩ => ⟨?_, hl'⟩
    rw [he]
    simp
  rw [hwk]
  exact ⟨⟨k + 1, by omega, rfl, g13.trans g4⟩, by show st.length - ((k + 1 : Nat) : Int).toNat < st.length - ((k : Nat) : Int).toNat; omega⟩
set_option maxHeartbeats 6400000 in
theorem law04_MemPlays_ok {l : List Reg} (hl : RegsIn l) {A : Option Addr} {c : Nat} (hc : l.length ≤ c) (hc2 : c < 9223372036854775808) {L : List Stp} (hL : ∀ (i : Nat) (y : Stp), L[i]? = some y → StpIn y) {A2 : Option Addr} {c2 : Nat} (hcL : L.length < 9223372036854775808) (w : World) (hr : ERow regT w A l) (hr2 : ERow stpT w A2 L) :
    Calls Try.prog law04_MemPlays.N #[.slice A l.length c, .slice A2 L.length c2] w (Gives (.bool true) w) := by
  refine law04_MemPlays.calls ?_
  unfold law04_MemPlays.vc
  have alive : ∀ {w' : World}, Later w w' → Calls Try.prog law04_alive.N #[] w' fun e w'' => ∃ b : Bool, e = .returned (.bool b) ∧ Gives (.bool true) w (.returned (.bool b)) w'' := fun hl => (law04_alive_ok _).mono fun e w3 ⟨he, g3⟩ => ⟨_, he, rfl, hl.trans g3⟩
  refine (law04_Large_ok hl (by omega) hr).mono fun e w1 ⟨b, he, hb, g1⟩ => ⟨_, he, cnd_of (fun _ => alive g1) fun hb0 => ?_⟩
  have hlen := hb hb0
  refine (law04_heavy_ok hcL (hr2.later g1)).mono fun e w2 ⟨b2, he, hb2, g2⟩ => ⟨_, he, cnd_of (fun _ => alive (g1.trans g2)) fun hb20 => ?_⟩
  have hlen2 := hb2 hb20
  have g12 := g1.trans g2
  refine ERow.copy (T := regT) 22 rtReg (by simp only [maxLen]; omega) (by omega) (hr.later g12) fun P cP w3 oP g3 => ⟨_, _, _, rfl, ?_⟩
  have g13 := g12.trans g3
  have hcP : cP < 9223372036854775808 := by
    rcases Nat.eq_zero_or_pos l.length with h0 | h0
    · obtain ⟨_, h | ⟨g, cap, cur, h2', h3', h4', h5', h6', _⟩⟩ := oP
      · simp only [Value.slice.injEq] at h
        omega
      · simp only [Value.slice.injEq] at h2'
        simp only [maxLen] at h6'
        omega
    · obtain ⟨_, _, _, _, h, _⟩ := oP.split h0
      simp only [maxLen] at h
      omega
  refine (mem_New_ok hl (OwnE.cap oP) hcP oP.row).mono fun e w4 ⟨g4, hN⟩ => ?_
  have g14 := g13.trans g4
  have hne0 : mayL l = true → 0 < l.length := fun h => by
    simp only [mayL, Bool.and_eq_true, decide_eq_true_eq] at h
    omega
  rcases hN with ⟨hmay, mb, he, hM⟩ | ⟨hmay, he⟩
  case inr =>
    refine ⟨_, _, he, (ref_New_ok hl (by omega) (hr.later g14)).mono fun e w5 ⟨g5, hN⟩ => ?_⟩
    rcases hN with ⟨hm2, _⟩ | ⟨_, he⟩
    · rw [hmay] at hm2
      cases hm2
    exact ⟨_, _, he, cnd_true rfl ⟨_, ptr_nil (by kernel_rfl) _ _ _, cnd_true rfl (cnd_true rfl (alive (g14.trans g5)))⟩⟩
  refine ⟨_, _, he, (ref_New_ok hl (by omega) (hr.later g14)).mono fun e w5 ⟨g5, hN⟩ => ?_⟩
  rcases hN with ⟨_, rb, he, hR⟩ | ⟨hm2, _⟩
  case inr =>
    rw [hmay] at hm2
    cases hm2
  have hpos := hne0 hmay
  refine ⟨_, _, he, cnd_false rfl ⟨_, ptr_nil (by kernel_rfl) _ _ _, cnd_false rfl (cnd_false rfl ?_)⟩⟩
  have g15 := g14.trans g5
  have hM5 := hM.later g5
  have s1 := Later.size g1
  have s12 := Later.size g12
  have s3 := Later.size g3
  have s4 := Later.size g4
  have s5 := Later.size g5
  obtain ⟨gp, rfl, -⟩ := oP.split hpos
  have hgp := oP.lt (k := gp) rfl
  have oP5 := OwnS.later oP (g4.trans g5)
  have xget : ∀ (i : Nat) (x : Reg), l[i]? = some x → ∀ j, j < 3 → (rowC regT l)[i * 3 + j]? = (regC x)[j]? := fun i x hi j hj => rowC_get regT l i j x hi hj
  -- the first loop: the copy is turned, no memory is
  refine ⟨fun vs W => ∃ (k : Nat) (xs : List Value), k ≤ l.length ∧ vs = [i64v k] ∧ OwnS w2 W 42 3 (.slice (some ⟨gp, 0, none⟩) l.length cP) l.length xs ∧ (∀ (i : Nat) (x : Reg), k ≤ i → l[i]? = some x → ∀ j, j < 3 → xs[i * 3 + j]? = (regC x)[j]?) ∧ But (fun k => k = gp) w5 W, fun vs _ => match vs with | [.int _ m] => l.length - m.toNat | _ => 0,
    ⟨0, rowC regT l, by omega, rfl, oP5, fun i x _ hi j hj => xget i x hi j hj, But.refl _ _⟩, ?_⟩
  rintro g i W ⟨k, xs, hk, hvs, oW, hxs, hbut⟩
  simp only [List.cons.injEq, Value.int.injEq, true_and, and_true] at hvs
  subst hvs
  have gW : Later w W := hbut.later g15 fun k hk => by omega
  refine cnd_of (fun hlt => ?_) fun hge => ?_
  · have hlt : k < l.length := by simp only [decide_eq_true_eq] at hlt; omega
    have hg := List.getElem?_eq_getElem hlt
    generalize l[k] = x at hg
    have hcell : ∀ (j : Nat) (v : Value), (regC x)[j]? = some v → W.cell? ⟨gp, k * 3 + j, none⟩ = some v := fun j v hj => by
      have hj3 : j < 3 := (List.getElem?_eq_some_iff.1 hj).1
      have := CellsAt_get oW.cells (k * 3 + j) v (by rw [hxs k x (Nat.le_refl _) hg j hj3]; exact hj)
      rwa [add_block, Nat.zero_add, Nat.zero_add] at this
    have p0 : (⟨gp, 0, none⟩ : Addr).add ((k : Int).toNat * 3) = ⟨gp, k * 3, none⟩ := by rw [add_block]; simp
    have p1 : (⟨gp, k * 3, none⟩ : Addr).add 1 = ⟨gp, k * 3 + 1, none⟩ := add_block _ _ _
    have p2 : (⟨gp, k * 3, none⟩ : Addr).add 2 = ⟨gp, k * 3 + 2, none⟩ := add_block _ _ _
    obtain ⟨ad2, rfl, z0, z1, z2, -⟩ := reg_cells (hr.later gW) hg
    refine ⟨by omega, Deref_some rfl ?_⟩
    rw [p0, p1, p2]
    refine ⟨_, _, _, fun W' hl' => ⟨hl'.cell_some (hcell 0 (u64v x.f) rfl), hl'.cell_some (hcell 1 (u64v x.s) rfl), hl'.cell_some (hcell 2 (.int .u8 x.k) rfl), trivial⟩, by omega, Deref_some rfl ⟨_, _, _, fun W' hl' => ⟨hl'.cell_some z0, hl'.cell_some z1, hl'.cell_some z2, trivial⟩, _, reg_neq _ _ _ _ _ _ _ _, fun W2 g2' => cnd_false (by simp) ⟨by omega, Deref_some rfl ?_⟩⟩⟩
    rw [p0, p1]
    refine ⟨_, g2'.cell_some (hcell 1 (u64v x.s) rfl), by omega, Deref_some rfl ?_⟩
    rw [p0, p1]
    have oW2 := OwnS.later oW g2'
    have hfz : W2.frozen? ⟨gp, k * 3 + 1, none⟩ = false := by
      obtain ⟨g', hb', _, _, _, cur, hh, _⟩ := oW2.split (by omega)
      simp only [Option.some.injEq, Addr.mk.injEq] at hb'
      rw [← hb'.1] at hh
      simp [World.frozen?, hh]
    refine ⟨⟨by rw [g2'.cell_some (hcell 1 (u64v x.s) rfl)]; rfl, hfz⟩, fun W3 h3 => ?_⟩
    have hw2 : IntKind.i64.wrap ((k : Int) + 1) = ((k + 1 : Nat) : Int) := by rw [i64_in (by omega) (by omega)]; omega
    rw [hw2]
    have st2 := OwnS.store oW2 (k * 3 + 1) (u64v (IntKind.u64.wrap (x.s + 1)))
    rw [← h3] at st2
    refine ⟨⟨k + 1, _, by omega, rfl, st2.1, fun i y hki hi j hj => ?_, ?_⟩, by show l.length - ((k + 1 : Nat) : Int).toNat < l.length - ((k : Nat) : Int).toNat; omega⟩
    · rw [List.getElem?_set_ne (by omega)]
      exact hxs i y (by omega) hi j hj
    · rw [h3]
      exact (hbut.trans (g2'.but _)).trans (But.setCell _ _ rfl)
  -- the second: each step
  have hkeep : ∀ k, w3.heap.size ≤ k → k < w5.heap.size → W.heap[k]? = w5.heap[k]? := fun k h1 h2 => hbut.keep k h2 (by show ¬ k = gp; omega)
  have hMW : MemAt W w3.heap.size w4.heap.size mb (newM l) := hM5.kept fun k h1 _ h3 => hkeep k h1 h3
  have hRW : RefAt W w4.heap.size w5.heap.size rb (newM l) := hR.kept fun k h1 _ h3 => hkeep k (by omega) h3
  have sW : w5.heap.size ≤ W.heap.size := hbut.size
  refine ⟨fun vs W' => ∃ (k : Nat) (st : List Pt), k ≤ L.length ∧ vs = [i64v k] ∧ StOk st ∧ Sep st ∧ 0 < st.length ∧ MemAt W' w3.heap.size w4.heap.size mb st ∧ RefAt W' w4.heap.size w5.heap.size rb st ∧ Later w W' ∧ w5.heap.size ≤ W'.heap.size, fun vs _ => match vs with | [.int _ m] => L.length - m.toNat | _ => 0,
    ⟨0, newM l, by omega, rfl, newM_ok hl hmay, Sep.new hmay, by simp [newM]; exact hpos, hMW, hRW, gW, sW⟩, ?_⟩
  rintro g2' i2 W' ⟨k2, st, hk2, hvs2, hs, hd, hne, hM', hR', gW', sW'⟩
  simp only [List.cons.injEq, Value.int.injEq, true_and, and_true] at hvs2
  subst hvs2
  refine cnd_of (fun hlt => ?_) fun hge2 => ?_
  · have hlt : k2 < L.length := by simp only [decide_eq_true_eq] at hlt; omega
    have hg := List.getElem?_eq_getElem hlt
    generalize L[k2] = y at hg
    have hy := hL k2 y hg
    obtain ⟨ad2, rfl, hcell⟩ := stp_cells (hr2.later gW') hg
    refine ⟨by omega, Deref_some rfl ⟨_, _, _, _, _, _, hcell, ?_⟩⟩
    refine (law04_does_ok hs hd hne hy hM' hR' (by omega) (by omega) (by omega)).mono fun e W2 ⟨he, st', q1, q2, q3, q4, hM2, hR2, bt⟩ => ⟨_, he, cnd_false rfl ?_⟩
    have hw2 : IntKind.i64.wrap ((k2 : Int) + 1) = ((k2 + 1 : Nat) : Int) := by rw [i64_in (by omega) (by omega)]; omega
    rw [hw2]
    refine ⟨⟨k2 + 1, st', by omega, rfl, q1, q2, by rw [q3]; exact hne, hM2, hR2, bt.later gW' fun k hk => ?_, Nat.le_trans sW' bt.size⟩, by show L.length - ((k2 + 1 : Nat) : Int).toNat < L.length - ((k2 : Nat) : Int).toNat; omega⟩
    unfold Two at hk
    omega
  · refine (law04_all_ok hs hd hne hM' hR').mono fun e W2 ⟨he, gl⟩ => ⟨_, he, cnd_true rfl (alive (gW'.trans gl))⟩
end Go.Proofs.Ytngkifnknlginaa
