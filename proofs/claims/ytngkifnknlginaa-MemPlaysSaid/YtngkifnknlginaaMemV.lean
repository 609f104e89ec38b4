/-
Chapter 04's law MemPlays: a step of both memories, all their bytes, the law once called.
Conditions: each theorem's hypotheses.
-/
import Derived.Test.YtngkifnknlginaaVlaw04d
import Derived.Test.YtngkifnknlginaaVlaw04p
import Derived.Test.YtngkifnknlginaaRefD
import Derived.Test.YtngkifnknlginaaMemK
import Derived.Test.YtngkifnknlginaaVcEq
namespace Go.Proofs.Ytngkifnknlginaa
open Go Go.Vc Go.RowKit
set_option linter.unusedVariables false
set_option linter.unusedSimpArgs false
set_option linter.unnecessarySimpa false
set_option linter.unusedSectionVars false
set_option maxRecDepth 100000

/-- Two stretches of blocks. -/
abbrev Two (a b c d : Nat) : Nat → Prop := fun k => (a ≤ k ∧ k < b) ∨ (c ≤ k ∧ k < d)
theorem keptA {a b c d : Nat} {w w' : World} (h : Kept a b w w') : But (Two a b c d) w w' := ⟨h.os, h.tape, h.output, h.size, fun k hk hn => h.keep k hk (by unfold Two at hn; omega)⟩
theorem keptB {a b c d : Nat} {w w' : World} (h : Kept c d w w') : But (Two a b c d) w w' := ⟨h.os, h.tape, h.output, h.size, fun k hk hn => h.keep k hk (by unfold Two at hn; omega)⟩
/-- What a step leaves of both. -/
def Both (w : World) (a b c d mb rb : Nat) (st : List Pt) (e : Ending) (w' : World) : Prop := e = .returned (.bool true) ∧ ∃ st', StOk st' ∧ Sep st' ∧ st'.length = st.length ∧ st'.map (·.r) = st.map (·.r) ∧ MemAt w' a b mb st' ∧ RefAt w' c d rb st' ∧ But (Two a b c d) w w'
theorem regs_lay {st : List Pt} {i : Nat} {p : Pt} (hi : st[i]? = some p) (k : Nat) (l : List Int) (t : Bool) : (layM st i p k l t).map (·.r) = st.map (·.r) := by
  apply List.ext_getElem?
  intro j
  simp only [layM, List.getElem?_map, List.getElem?_set]
  by_cases hj : i = j
  · subst hj
    have hil : i < st.length := (List.getElem?_eq_some_iff.1 hi).1
    rw [if_pos rfl, if_pos hil, hi]
    rfl
  · rw [if_neg hj]
theorem regs_store (st : List Pt) (a n v : Int) (t : Bool) : (storeM st a n v t).1.map (·.r) = st.map (·.r) := by
  unfold storeM
  split
  · rfl
  · cases hf : findM st a n with
    | none => rfl
    | some x =>
      obtain ⟨i, p⟩ := x
      simp only
      split
      · exact regs_lay (findM_get hf).1 _ _ _
      · rfl
theorem regs_set (st : List Pt) (a : Int) (l : List Int) (t : Bool) : (setM st a l t).1.map (·.r) = st.map (·.r) := by
  unfold setM
  cases hf : findM st a l.length with
  | none => rfl
  | some x =>
    obtain ⟨i, p⟩ := x
    exact regs_lay (findM_get hf).1 _ _ _
set_option maxHeartbeats 6400000 in
theorem law04_does_ok {a b c d mb rb : Nat} {st : List Pt} (hs : StOk st) (hd : Sep st) (hne : 0 < st.length) {x : Stp} (hx : StpIn x) {w : World} (hM : MemAt w a b mb st) (hR : RefAt w c d rb st) (hap : b ≤ c ∨ d ≤ a) (hbw : b ≤ w.heap.size) (hdw : d ≤ w.heap.size) :
    Calls Try.prog law04_does.N #[.pointer (some ⟨mb, 0, none⟩), .pointer (some ⟨rb, 0, none⟩), stpV x] w (Both w a b c d mb rb st) := by
  refine law04_does.calls ?_
  unfold law04_does.vc
  intro w1 h1
  have L := (Trk.start w).alloc h1
  have hM1 := hM.later L.to
  have hR1 := hR.later L.to
  have done : ∀ {w' : World}, Later w w' → Both w a b c d mb rb st (.returned (.bool true)) w' := fun hl => ⟨rfl, st, hs, hd, rfl, rfl, hM.later hl, hR.later hl, hl.but _⟩
  have sW : w.heap.size < w1.heap.size := (L.has 0 rfl).lt
  refine ⟨_, L.cell 0 rfl rfl, cnd_of (fun _ => ?_) fun _ => ?_⟩
  · refine ⟨_, L.cell 0 rfl rfl, _, L.cell 0 rfl rfl, ?_⟩
    refine (mem_Load_ok hne hx.a hM1).mono fun e w2 ⟨he, g2⟩ => ⟨_, _, _, he, ?_⟩
    have L := L.later g2
    refine ⟨_, L.cell 0 rfl rfl, _, L.cell 0 rfl rfl, ?_⟩
    refine (ref_Load_ok hx.a (hR1.later g2)).mono fun e w3 ⟨he, g3⟩ => ⟨_, _, _, he, ?_⟩
    refine cnd_true (by simp) (cnd_true (by simp) ?_)
    have := done (L.later g3).to
    simpa using this
  refine cnd_of (fun _ => ?_) fun _ => cnd_of (fun _ => ?_) fun _ => cnd_of (fun _ => ?_) fun _ => ?_
  · refine ⟨fun W => Has W w.heap.size (stpC x), fun W hl => (L.has 0 rfl).later hl, fun w2 g2 => ?_⟩
    have c1 : ∀ W, Has W w.heap.size (stpC x) → W.cell? ⟨w.heap.size, 1, none⟩ = some (u64v x.a) := fun W h => h.cell rfl
    have c2 : ∀ W, Has W w.heap.size (stpC x) → W.cell? ⟨w.heap.size, 2, none⟩ = some (i64v x.n) := fun W h => h.cell rfl
    have c3 : ∀ W, Has W w.heap.size (stpC x) → W.cell? ⟨w.heap.size, 3, none⟩ = some (u64v x.v) := fun W h => h.cell rfl
    have c5 : ∀ W, Has W w.heap.size (stpC x) → W.cell? ⟨w.heap.size, 5, none⟩ = some (.bool x.t) := fun W h => h.cell rfl
    refine ⟨_, c1, _, c2, _, c3, _, c5, _, c1, _, c2, _, c3, _, c5, ?_⟩
    have L := L.later g2
    refine (mem_Store_ok hne hx.a hx.v (hM1.later g2)).mono fun e w3 ⟨he, k3, hM3⟩ => ⟨_, he, ?_⟩
    have hS3 : Has w3 w.heap.size (stpC x) := k3.has (L.has 0 rfl) (.inr hbw)
    refine ⟨hS3, (ref_Store_ok hx.a hx.v ((hR1.later g2).beside k3 (by omega))).mono fun e w4 ⟨he, k4, hR4⟩ => ⟨_, he, k4.has hS3 (.inr hdw), ?_⟩⟩
    obtain ⟨q1, q2⟩ := store_ok hs hd x.a x.n x.v x.t
    have : (((storeM st x.a x.n x.v x.t).2 == (storeM st x.a x.n x.v x.t).2) : Bool) = true := by simp
    rw [this]
    exact ⟨rfl, _, q1, q2, len_store _ _ _ _ _, regs_store _ _ _ _ _, hM3.beside k4 (by omega), hR4, ((L.to.but _).trans (keptA k3)).trans (keptB k4)⟩
  · refine ⟨_, L.cell 0 rfl rfl, (mem_Fetch_ok hne hx.a hM1).mono fun e w2 ⟨he, g2⟩ => ⟨_, _, he, ?_⟩⟩
    have L := L.later g2
    refine ⟨_, L.cell 0 rfl rfl, (ref_Fetch_ok hx.a (hR1.later g2)).mono fun e w3 ⟨he, g3⟩ => ⟨_, _, he, ?_⟩⟩
    refine cnd_true (by simp) ?_
    have := done (L.later g3).to
    simpa using this
  · refine ⟨fun W => Has W w.heap.size (stpC x), fun W hl => (L.has 0 rfl).later hl, fun w2 g2 => ?_⟩
    have c1 : ∀ W, Has W w.heap.size (stpC x) → W.cell? ⟨w.heap.size, 1, none⟩ = some (u64v x.a) := fun W h => h.cell rfl
    have c4 : ∀ W, Has W w.heap.size (stpC x) → W.cell? ⟨w.heap.size, 4, none⟩ = some (.string x.s) := fun W h => h.cell rfl
    have c5 : ∀ W, Has W w.heap.size (stpC x) → W.cell? ⟨w.heap.size, 5, none⟩ = some (.bool x.t) := fun W h => h.cell rfl
    refine ⟨_, c1, _, c4, _, c5, _, c1, _, c4, _, c5, ?_⟩
    have L := L.later g2
    refine (mem_Set_ok hne hx.s hx.a (hM1.later g2)).mono fun e w3 ⟨he, k3, hM3⟩ => ⟨_, he, ?_⟩
    have hS3 : Has w3 w.heap.size (stpC x) := k3.has (L.has 0 rfl) (.inr hbw)
    refine ⟨hS3, (ref_Set_ok hx.s hx.a ((hR1.later g2).beside k3 (by omega))).mono fun e w4 ⟨he, k4, hR4⟩ => ⟨_, he, k4.has hS3 (.inr hdw), ?_⟩⟩
    obtain ⟨q1, q2, q3⟩ := set_ok hs hd x.a (strB x.s) (by rw [strB_length]; exact hx.s) (strB_b8 x.s) x.t
    have : (((setM st x.a (strB x.s) x.t).2 == (setM st x.a (strB x.s) x.t).2) : Bool) = true := by simp
    rw [this]
    exact ⟨rfl, _, q1, q2, q3, regs_set _ _ _ _, hM3.beside k4 (by omega), hR4, ((L.to.but _).trans (keptA k3)).trans (keptB k4)⟩
  · refine ⟨_, L.cell 0 rfl rfl, _, L.cell 0 rfl rfl, (mem_Bytes_ok hne hx.a hM1).mono fun e w2 ⟨g2, P, cP, he, oP⟩ => ⟨_, _, _, _, _, he, ?_⟩⟩
    have L := L.later g2
    refine ⟨_, L.cell 0 rfl rfl, _, L.cell 0 rfl rfl, (ref_Bytes_ok hx.a (hR1.later g2)).mono fun e w3 ⟨g3, Q, cQ, he, oQ⟩ => ⟨_, _, _, _, _, he, ?_⟩⟩
    have L := L.later g3
    have hlen : (bytesM st x.a x.n).2.1.length ≤ 1048576 := by
      unfold bytesM
      split
      · simp
      · split
        · simp
        · simp only [List.length_take]; omega
    refine (ref_Same_ok (by omega) (oP.row.later g3) oQ.row).mono fun e w4 ⟨he, g4⟩ => ⟨_, he, ?_⟩
    have L := L.later g4
    have oP4 := OwnS.later oP (g3.trans g4)
    generalize hT : (bytesM st x.a x.n).2.1 = ts at *
    have x0 : ∀ j, j < ts.length → ∃ t, (rowC boT ts)[j]? = some (.bool t) := fun j hj => ⟨ts[j], by
      have := rowC_get boT ts j 0 _ (List.getElem?_eq_getElem hj) (by decide)
      have e : j * boT.sz + 0 = j := Nat.mul_one j
      rw [e] at this
      exact this⟩
    refine ⟨fun vs W => ∃ (k : Nat) (xs : List Value), k ≤ ts.length ∧ vs = [i64v k] ∧ OwnS w1 W 4 1 (.slice P ts.length cP) ts.length xs ∧ (∀ j, j < ts.length → ∃ t, xs[j]? = some (.bool t)) ∧ But (fun k => rowB P = some k) w4 W, fun vs _ => match vs with | [.int _ m] => ts.length - m.toNat | _ => 0,
      ⟨0, _, by omega, rfl, oP4, x0, But.refl _ _⟩, ?_⟩
    rintro g i W ⟨k, xs, hk, hvs, oW, hxs, hbut⟩
    simp only [List.cons.injEq, Value.int.injEq, true_and, and_true] at hvs
    subst hvs
    have hP : ∀ k, rowB P = some k → w1.heap.size ≤ k := fun k hk => (oP.lt hk).1
    refine cnd_of (fun hlt => ?_) fun hge => ?_
    · have hlt : k < ts.length := by simp only [decide_eq_true_eq] at hlt; omega
      obtain ⟨gp, rfl, -⟩ := oW.split (by omega)
      obtain ⟨t, ht⟩ := hxs k hlt
      have hc := CellsAt_get oW.cells k _ ht
      rw [add_block, Nat.zero_add, Nat.zero_add] at hc
      have hfz : W.frozen? ⟨gp, k, none⟩ = false := by
        obtain ⟨_, _, _, _, _, cur, hh, _⟩ := oW.split (by omega)
        rename_i hbb _ _ _ _ 
        simp only [Option.some.injEq, Addr.mk.injEq] at hbb
        rw [← hbb.1] at hh
        simp [World.frozen?, hh]
      refine ⟨by omega, Deref_some rfl ?_⟩
      rw [addr_cell]
      refine ⟨t, hc, by omega, Deref_some rfl ?_⟩
      rw [addr_cell]
      refine ⟨⟨by rw [hc]; rfl, hfz⟩, fun W2 h2 => ?_⟩
      have hw2 : IntKind.i64.wrap ((k : Int) + 1) = ((k + 1 : Nat) : Int) := by rw [i64_in (by omega) (by omega)]; omega
      rw [hw2]
      have st2 := OwnS.store oW k (.bool !t)
      rw [← h2] at st2
      refine ⟨⟨k + 1, _, by omega, rfl, st2.1, fun j hj => ?_, ?_⟩, by show ts.length - ((k + 1 : Nat) : Int).toNat < ts.length - ((k : Nat) : Int).toNat; omega⟩
      · rw [List.getElem?_set]
        by_cases hkj : k = j
        · rw [if_pos hkj]
          have hl : k < xs.length := (List.getElem?_eq_some_iff.1 ht).1
          exact ⟨!t, by rw [if_pos hl]⟩
        · rw [if_neg hkj]
          exact hxs j hj
      · rw [h2]
        exact hbut.trans (But.setCell _ _ rfl)
    · refine cnd_true (by simp) (cnd_true (by simp) ?_)
      have e1 : ((bytesM st x.a x.n).2.2 == (bytesM st x.a x.n).2.2) = true := by simp
      rw [e1]
      have hm4 : ∀ k, k < w.heap.size → W.heap[k]? = w.heap[k]? := fun k hk => by
        rw [hbut.keep k (by have := Later.size L.to; omega) fun hh => by have := hP k hh; omega]
        exact Later.block L.to hk
      refine ⟨rfl, st, hs, hd, rfl, rfl, hM.kept fun k _ _ hk => hm4 k hk, hR.kept fun k _ _ hk => hm4 k hk, ?_⟩
      exact ⟨hbut.os.trans (show Below _ _ _ from L.to).os, hbut.tape.trans (show Below _ _ _ from L.to).tape, hbut.output.trans (show Below _ _ _ from L.to).output, Nat.le_trans (Later.size L.to) hbut.size, fun k hk _ => hm4 k hk⟩
end Go.Proofs.Ytngkifnknlginaa
