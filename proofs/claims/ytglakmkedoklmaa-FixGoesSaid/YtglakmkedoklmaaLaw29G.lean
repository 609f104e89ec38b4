/-
What the chapter's second law comes to, once called: true, and nothing old is turned.
Conditions: each number is of its kind.
-/
import Derived.Test.YtglakmkedoklmaaVlaw29b
import Derived.Test.YtglakmkedoklmaaLaw29
import Derived.Test.YtglakmkedoklmaaFixP
namespace Go.Proofs.Ytglakmkedoklmaa
open Go Go.Vc Go.RowKit
set_option linter.unusedVariables false
set_option linter.unusedSimpArgs false
set_option maxRecDepth 100000

theorem tdiv4 (q : Nat) : (4 * (q : Int)).tdiv 4 = q := by rw [tdiv_nn _ (by omega)]; omega
theorem tmod4 (q : Nat) : (4 * (q : Int)).tmod 4 = 0 := by rw [tmod_nn _ (by omega)]; omega
def takev (o v a : Int) (t : Bool) : Int := if o = 32 then a + v else if 28 ≤ o ∧ o ≤ 31 ∧ t = true then a + v else a + 4
theorem law29_take_ok {A : Option Addr} {m cap : Nat} {G : Nat → Nat → Int} (hm : m ≤ 10000) (w : World) (hR : IntRow w A m insK G) {q : Nat} (hq : q < m) (t : Bool) (hb : -1100000 ≤ G q 4 ∧ G q 4 ≤ 1100000) :
    Calls Try.prog law29_take.N #[.slice A m cap, i64v (4 * (q : Int)), .bool t] w (Gives (i64v (takev (G q 0) (G q 4) (4 * (q : Int)) t)) w) := by
  refine law29_take.calls ?_
  unfold law29_take.vc
  obtain ⟨ad, rfl, hc, -⟩ := row_cells hR hq
  rw [tdiv4, tmod4, i64_in (x := (q : Int)) (by omega) (by omega)]
  refine cnd_false (decide_eq_false (by omega)) (cnd_false rfl (cnd_false (decide_eq_false (by omega)) ⟨⟨by omega, by omega⟩, Deref_some rfl ⟨_, _, _, _, _, hc, fun w1 e1 => ?_⟩⟩))
  refine ((Trk.start w).alloc e1).setAll 0 rfl (l := [u8v (G q 0), u8v (G q 1), u8v (G q 2), u8v (G q 3), i64v (G q 4)]) (by rfl) (ones rfl) fun w2 T2 => ?_
  unfold takev
  rw [i64_in (x := 4 * (q : Int) + 4) (by omega) (by omega)]
  refine ⟨_, T2.cell 0 rfl rfl, cnd_of (fun h => ?_) (fun h => ?_)⟩
  · refine ⟨_, T2.cell 0 rfl rfl, ?_, T2.to⟩
    rw [i64_in (by omega) (by omega), if_pos (eq_of_beq h)]
  · have h : ¬ G q 0 = 32 := by simpa using h
    rw [if_neg h]
    refine ⟨_, T2.cell 0 rfl rfl, cnd_of (fun h2 => ?_) (fun h2 => ?_)⟩
    · have h2 := of_decide_eq_true h2
      refine ⟨_, T2.cell 0 rfl rfl, cnd_of (fun h3 => ?_) (fun h3 => ?_)⟩
      · have h3 := of_decide_eq_true h3
        refine cnd_of (fun h4 => ?_) (fun h4 => ?_)
        · refine ⟨_, T2.cell 0 rfl rfl, ?_, T2.to⟩
          rw [i64_in (by omega) (by omega), if_pos ⟨h2, h3, h4⟩]
        · exact ⟨by rw [if_neg (fun hh => by rw [h4] at hh; cases hh.2.2)], T2.to⟩
      · have h3 := of_decide_eq_false h3
        exact ⟨by rw [if_neg (fun hh => h3 hh.2.1)], T2.to⟩
    · have h2 := of_decide_eq_false h2
      exact ⟨by rw [if_neg (fun hh => h2 hh.1)], T2.to⟩
theorem law29_asks_same (o d a b v d' v' : Int) (h0 : 28 ≤ o) (h1 : o ≤ 31) (w : World) : Calls Try.prog law29_asks.N #[insv o d a b v, insv o d' a b v'] w (Gives (pairv (.bool true) (.bool false)) w) := by
  refine law29_asks.calls ?_
  unfold law29_asks.vc
  intro w1 e1 w2 e2
  have L := ((Trk.start w).alloc e1).alloc e2
  refine ⟨_, L.cell 0 rfl rfl, _, L.cell 1 rfl rfl, cnd_false (by simp) ⟨_, L.cell 0 rfl rfl, _, L.cell 1 rfl rfl, cnd_false (by simp) ?_⟩⟩
  refine ⟨_, fun w' h' => (L.later h').cell 0 rfl rfl, _, fun w' h' => (L.later h').cell 1 rfl rfl, _, fun w' h' => (L.later h').cell 0 rfl rfl, _, fun w' h' => (L.later h').cell 1 rfl rfl, fun w3 l3 => ?_⟩
  have L3 := L.later l3
  refine ⟨_, L3.cell 0 rfl rfl, _, L3.cell 1 rfl rfl, ?_⟩
  have : o = 28 ∨ o = 29 ∨ o = 30 ∨ o = 31 := by omega
  rcases this with rfl | rfl | rfl | rfl
  all_goals repeat (first | refine cnd_true rfl ?_ | refine cnd_false rfl ?_)
  all_goals exact ⟨rfl, L3.to⟩
theorem law29_asks_turned (o d a b v d' v' : Int) (h0 : 28 ≤ o) (h1 : o ≤ 31) (w : World) : Calls Try.prog law29_asks.N #[insv (oppv o) d a b v, insv o d' a b v'] w (Gives (pairv (.bool false) (.bool true)) w) := by
  refine law29_asks.calls ?_
  unfold law29_asks.vc
  intro w1 e1 w2 e2
  have L := ((Trk.start w).alloc e1).alloc e2
  refine ⟨_, L.cell 0 rfl rfl, _, L.cell 1 rfl rfl, cnd_false (by simp) ⟨_, L.cell 0 rfl rfl, _, L.cell 1 rfl rfl, cnd_false (by simp) ?_⟩⟩
  refine ⟨_, fun w' h' => (L.later h').cell 0 rfl rfl, _, fun w' h' => (L.later h').cell 1 rfl rfl, _, fun w' h' => (L.later h').cell 0 rfl rfl, _, fun w' h' => (L.later h').cell 1 rfl rfl, fun w3 l3 => ?_⟩
  have L3 := L.later l3
  refine ⟨_, L3.cell 0 rfl rfl, _, L3.cell 1 rfl rfl, ?_⟩
  have : o = 28 ∨ o = 29 ∨ o = 30 ∨ o = 31 := by omega
  rcases this with rfl | rfl | rfl | rfl
  all_goals repeat (first | refine cnd_true rfl ?_ | refine cnd_false rfl ?_)
  all_goals exact ⟨rfl, L3.to⟩
set_option maxHeartbeats 1600000 in
theorem law29_goes_ok {A : Option Addr} {n cap : Nat} {F : Nat → Nat → Int} {L : Nat → Bool} (hn : n ≤ 3000) (hV : valid F n) (hF : isFin F n L) {i : Nat} (hi : i < n) (ht : 0 ≤ F i 6) (w : World) (hR : IntRow w A (outs F n L n).length insK (codeF (outs F n L n))) (t : Bool) (hjt : F i 1 = 32 → t = true) :
    Calls Try.prog law29_goes.N #[.slice A (outs F n L n).length cap, .agg (lineCells F i).toArray, i64v (plc L i), i64v (plc L (tgt F n i).toNat), i64v (plc L (i + 1)), .bool t] w (Gives (.bool true) w) := by
  refine law29_goes.calls ?_
  unfold law29_goes.vc
  intro w1 e1
  have hm := outs_le hF n
  have hq0 := outs_length hF i
  have hw := wayL_range F hi L
  have hlo := lineOut_length (F := F) (n := n) (L := L) (k := i) (fun _ => ht)
  have hat := fun j (hj : j < (lineOut F n L i).length) => outs_at F n L n hi hj
  have hwd : plc L (tgt F n i).toNat = plc L i + wayL F n L i := by unfold wayL; omega
  have hnx : plc L (i + 1) = plc L i + 4 + if L i then 4 else 0 := rfl
  obtain ⟨j1, j2, j3⟩ := (hV i hi).1.2.2.2.2 ht
  generalize hl : outs F n L n = l at *
  generalize hq : (outs F n L i).length = q at *
  have hqm : q < l.length := by
    have h0 := hat 0 (by rw [hlo]; omega)
    rw [Nat.add_zero] at h0
    have hx : (lineOut F n L i)[0]? = some (lineOut F n L i)[0] := List.getElem?_eq_getElem (by rw [hlo]; omega)
    rw [hx] at h0
    exact (List.getElem?_eq_some_iff.1 h0).1
  rw [hnx, hwd, ← hq0]
  rw [tdiv4, i64_in (x := (q : Int)) (by omega) (by omega)]
  have T1 := (Trk.start w).alloc e1
  have R1 := hR.later T1.to
  obtain ⟨ad, rfl, ⟨c0, c1, c2, c3, c4, -⟩, -⟩ := row_cells R1 hqm
  refine cnd_false (decide_eq_false (by omega)) (cnd_false (decide_eq_false (by omega)) ⟨_, T1.cell 0 rfl rfl, ?_⟩)
  have tk := fun (w' : World) (h' : Later w w') {q : Nat} (hq : q < l.length) (t : Bool) (hb : -1100000 ≤ codeF l q 4 ∧ codeF l q 4 ≤ 1100000) => law29_take_ok (cap := cap) (by omega) w' (hR.later h') hq t hb
  have cell : ∀ {q : Nat} {x : I5}, l[q]? = some x → ∀ j, codeF l q j = i5f x j := fun h j => by unfold codeF; rw [h]
  have h0 := hat 0 (by rw [hlo]; omega)
  rw [Nat.add_zero] at h0
  cases hLi : L i with
  | false =>
    have hx : lineOut F n L i = [(F i 1, F i 2, F i 3, F i 4, wayL F n L i)] := by unfold lineOut; rw [if_neg (by omega), if_neg (by rw [hLi]; decide)]
    rw [hx] at h0
    have hc := cell h0
    rw [hc] at c0 c1 c2 c3 c4
    have b4 : -1100000 ≤ codeF l q 4 ∧ codeF l q 4 ≤ 1100000 := by rw [hc]; simp only [i5f]; omega
    refine cnd_of (fun hj => ?_) (fun hj => ?_)
    · have hj := eq_of_beq hj
      have htk : takev (codeF l q 0) (codeF l q 4) (4 * (q : Int)) true = 4 * (q : Int) + wayL F n L i := by
        rw [hc, hc]; unfold takev; rw [if_pos (by simpa [i5f] using hj)]; rfl
      refine ⟨_, fun w' h' => htk ▸ tk w' (T1.to.trans h') hqm true b4, cnd_true (beq_self_eq_true _) ⟨⟨by omega, by omega⟩, Deref_some rfl ⟨_, fun w' h' => h'.cell_some c1, _, fun w' h' => (T1.later h').cell 0 rfl rfl, cnd_true (beq_self_eq_true _) ⟨⟨by omega, by omega⟩, Deref_some rfl ⟨_, fun w' h' => h'.cell_some c0, fun w2 l2 => ⟨?_, T1.to.trans l2⟩⟩⟩⟩⟩⟩
      rw [show i5f (F i 1, F i 2, F i 3, F i 4, wayL F n L i) 0 = F i 1 from rfl, hj]; rfl
    · have hj : F i 1 ≠ 32 := by simpa using hj
      refine ⟨fun vs w' => vs = [.int .i64 (if t then 4 * (q : Int) + wayL F n L i else 4 * (q : Int) + 4)] ∧ Later w1 w', cnd_of (fun h => ⟨by rw [h]; rfl, Later.refl _⟩) (fun h => ⟨by rw [h]; simp, Later.refl _⟩), ?_⟩
      rintro g _ w2 ⟨hs, l2⟩
      simp only [List.cons.injEq, Value.int.injEq, true_and, and_true] at hs
      subst hs
      refine ⟨⟨by omega, by omega⟩, Deref_some rfl ⟨_, _, _, _, _, fun w' h' => ⟨(l2.trans h').cell_some c0, (l2.trans h').cell_some c1, (l2.trans h').cell_some c2, (l2.trans h').cell_some c3, (l2.trans h').cell_some c4, trivial⟩, _, _, _, _, _, fun w' h' => ⟨(T1.later (l2.trans h')).cell 0 rfl rfl, (T1.later (l2.trans h')).cell 0 rfl rfl, (T1.later (l2.trans h')).cell 0 rfl rfl, (T1.later (l2.trans h')).cell 0 rfl rfl, (T1.later (l2.trans h')).cell 0 rfl rfl, trivial⟩, true, false, fun w' h' => law29_asks_same _ _ _ _ _ _ _ j1 (by omega) w', fun w3 l3 => cnd_true rfl ?_⟩⟩
      refine (tk w3 (T1.to.trans (l2.trans l3)) hqm t b4).mono fun e w4 ⟨he, l4⟩ => ⟨_, he, ?_, T1.to.trans (l2.trans (l3.trans l4))⟩
      have htk : takev (codeF l q 0) (codeF l q 4) (4 * (q : Int)) t = if t then 4 * (q : Int) + wayL F n L i else 4 * (q : Int) + 4 := by
        rw [hc, hc]; unfold takev
        simp only [i5f]
        rw [if_neg hj]
        cases t with
        | true => rw [if_pos ⟨j1, by omega, rfl⟩]; rfl
        | false => rw [if_neg (fun hh => by cases hh.2.2)]; rfl
      rw [htk]; simp
  | true =>
    have j4 := (fin_tgt hF hLi).2
    have hop := oppv_range j1 (show F i 1 ≤ 31 by omega)
    have hx : lineOut F n L i = [(oppv (F i 1), 0, F i 3, F i 4, 8), (32, 0, 0, 0, wayL F n L i - 4)] := by unfold lineOut; rw [if_neg (by omega), if_pos hLi]
    have h1 := hat 1 (by rw [hlo, hLi]; decide)
    rw [hx] at h0 h1
    have hc := cell h0
    have hc' := cell h1
    have hqm' : q + 1 < l.length := (List.getElem?_eq_some_iff.1 h1).1
    rw [hc] at c0 c1 c2 c3 c4
    have b4 : -1100000 ≤ codeF l q 4 ∧ codeF l q 4 ≤ 1100000 := by rw [hc]; simp only [i5f]; omega
    have b4' : -1100000 ≤ codeF l (q + 1) 4 ∧ codeF l (q + 1) 4 ≤ 1100000 := by rw [hc']; simp only [i5f]; omega
    refine cnd_of (fun hj => absurd (eq_of_beq hj) j4) (fun hj => ?_)
    refine ⟨fun vs w' => vs = [.int .i64 (if t then 4 * (q : Int) + wayL F n L i else 4 * (q : Int) + 4 + 4)] ∧ Later w1 w', cnd_of (fun h => ⟨by rw [h]; rfl, Later.refl _⟩) (fun h => ⟨by rw [h]; simp, Later.refl _⟩), ?_⟩
    rintro g _ w2 ⟨hs, l2⟩
    simp only [List.cons.injEq, Value.int.injEq, true_and, and_true] at hs
    subst hs
    refine ⟨⟨by omega, by omega⟩, Deref_some rfl ⟨_, _, _, _, _, fun w' h' => ⟨(l2.trans h').cell_some c0, (l2.trans h').cell_some c1, (l2.trans h').cell_some c2, (l2.trans h').cell_some c3, (l2.trans h').cell_some c4, trivial⟩, _, _, _, _, _, fun w' h' => ⟨(T1.later (l2.trans h')).cell 0 rfl rfl, (T1.later (l2.trans h')).cell 0 rfl rfl, (T1.later (l2.trans h')).cell 0 rfl rfl, (T1.later (l2.trans h')).cell 0 rfl rfl, (T1.later (l2.trans h')).cell 0 rfl rfl, trivial⟩, false, true, fun w' h' => law29_asks_turned _ _ _ _ _ _ _ j1 (by omega) w', fun w3 l3 => cnd_false rfl (cnd_false rfl ?_)⟩⟩
    have l03 := T1.to.trans (l2.trans l3)
    refine (tk w3 l03 hqm (!t) b4).mono fun e w4 ⟨he, l4⟩ => ⟨_, he, ?_⟩
    have htk : takev (codeF l q 0) (codeF l q 4) (4 * (q : Int)) (!t) = if t then 4 * ((q + 1 : Nat) : Int) else 4 * (q : Int) + 4 + 4 := by
      rw [hc, hc]; unfold takev
      simp only [i5f]
      rw [if_neg (by omega)]
      cases t with
      | true => rw [if_neg (fun hh => by cases hh.2.2)]; simp; omega
      | false => rw [if_pos ⟨hop.1, hop.2, rfl⟩]; simp; omega
    rw [htk]
    have l04 := l03.trans l4
    cases t with
    | false => exact cnd_true (beq_self_eq_true _) (cnd_true rfl ⟨rfl, l04⟩)
    | true =>
      simp only [if_true]
      obtain ⟨ad', had, ⟨e0, e1', e2, e3, e4, -⟩, -⟩ := row_cells (hR.later l04) hqm'
      obtain rfl := Option.some.inj had
      rw [hc'] at e0 e1'
      rw [tdiv4, i64_in (x := ((q + 1 : Nat) : Int)) (by omega) (by omega)]
      have rest : ∀ R : Prop, R → R := fun _ h => h
      have tail : Calls Try.prog law29_take.N #[.slice (some ad) l.length cap, i64v (4 * ((q + 1 : Nat) : Int)), .bool true] w4 (fun e w' => ∃ n_1 : Int, e = .returned (i64v n_1) ∧ Gives (.bool true) w (.returned (.bool (n_1 == 4 * (q : Int) + wayL F n L i))) w') := by
        refine (tk w4 l04 hqm' true b4').mono fun e w5 ⟨he, l5⟩ => ⟨_, he, ?_, l04.trans l5⟩
        have : takev (codeF l (q + 1) 0) (codeF l (q + 1) 4) (4 * ((q + 1 : Nat) : Int)) true = 4 * (q : Int) + wayL F n L i := by
          rw [hc', hc']; unfold takev
          simp only [i5f]
          rw [if_pos trivial]; omega
        rw [this]; simp
      refine cnd_of (fun hh => cnd_false rfl ?_) (fun hh => ?_)
      all_goals exact cnd_false (decide_eq_false (by omega)) (cnd_false (decide_eq_false (by omega)) ⟨⟨by omega, by omega⟩, Deref_some rfl ⟨_, e0, cnd_false rfl ⟨⟨by omega, by omega⟩, Deref_some rfl ⟨_, e1', cnd_false rfl (cnd_true rfl tail)⟩⟩⟩⟩)
set_option maxHeartbeats 3200000 in
theorem law29_FixGoes_ok (A : Option Addr) (n cap : Nat) (F : Nat → Nat → Int) (w : World) (hR : IntRow w A n linK F) :
    Calls Try.prog law29_FixGoes.N #[.slice A n cap] w (Gives (.bool true) w) := by
  refine law29_FixGoes.calls ?_
  unfold law29_FixGoes.vc
  refine (law29_Large_ok A n cap w).mono fun e w1 ⟨he, l1⟩ => ⟨_, he, cnd_of (fun h => law29_done w _ l1) (fun h => ?_)⟩
  have h := of_decide_eq_false h
  have hn : n ≤ 3000 := by omega
  have r2 := fun w' (h' : Later w w') => fix_Places_ok (cap := cap) hn w' (hR.later h')
  have r3 := fun w' (h' : Later w w') => ref29_Ways_ok (cap := cap) hn w' (hR.later h')
  refine (fix_Fix_ok (cap := cap) hn w1 (hR.later l1)).mono fun e w2 ⟨l2, h2⟩ => ?_
  rcases h2 with ⟨hV, L, b2, d2, hF, he, o2⟩ | ⟨hV, he⟩
  case inr =>
    refine ⟨_, _, _, _, he, (r2 w2 (l1.trans l2)).mono fun e w3 ⟨l3, h3⟩ => ?_⟩
    rcases h3 with ⟨hV', -⟩ | ⟨-, he⟩
    · exact absurd hV' hV
    exact ⟨_, _, _, _, he, cnd_true rfl (cnd_true rfl (cnd_true rfl (law29_done w _ (l1.trans (l2.trans l3)))))⟩
  refine ⟨_, _, _, _, he, (r2 w2 (l1.trans l2)).mono fun e w3 ⟨l3, h3⟩ => ?_⟩
  rcases h3 with ⟨-, L', kp, hF', he, hkp, xp⟩ | ⟨hV', -⟩
  case inr => exact absurd hV hV'
  obtain rfl := fin_uniq hF hF'
  refine ⟨_, _, _, _, he, cnd_false rfl (cnd_false rfl ?_)⟩
  refine (r3 w3 (l1.trans (l2.trans l3))).mono fun e w4 ⟨l4, h4⟩ => ?_
  rcases h4 with ⟨-, kt, he, hkt, xt⟩ | ⟨hV', -⟩
  case inr => exact absurd hV hV'
  have hm := outs_le hF n
  have l04 := l1.trans (l2.trans (l3.trans l4))
  refine ⟨_, _, _, _, he, fun vs w' => vs = [.bool false] ∧ Later w4 w', cnd_false rfl (cnd_false (by simp) ⟨?_, Later.refl _⟩), ?_⟩
  · rw [i64_in (by omega) (by omega), decide_eq_false (by omega)]
  rintro g _ w5 ⟨hs, l5⟩
  simp only [List.cons.injEq, Value.bool.injEq, and_true] at hs
  subst hs
  have hok := outs_code (L := L) hn (row_kinds hR) n (Nat.le_refl _)
  have RC : ∀ w', Later w2 w' → IntRow w' b2 (outs F n L n).length insK (codeF (outs F n L n)) := fun w' h' => code_row (o2.later h') hok
  have hlen := outs_length hF n
  refine cnd_false rfl ((insn_All_ok _ _ _ _ (by omega) w5 (RC w5 (l3.trans (l4.trans l5)))).mono fun e w6 ⟨he, l6⟩ => ?_)
  rw [allR_good (code_allOk (outs_enc hn hV hF n (Nat.le_refl _)))] at he
  refine ⟨_, _, he, cnd_false rfl ?_⟩
  have l26 := l3.trans (l4.trans (l5.trans l6))
  have l06 := l04.trans (l5.trans l6)
  refine ⟨fun vs w' => ∃ k : Nat, vs = [.int .i64 k] ∧ k ≤ n ∧ Later w6 w', fun vs _ => match vs with | [.int _ k] => (n - k.toNat) | _ => 0, ⟨0, rfl, Nat.zero_le _, Later.refl _⟩, ?_⟩
  rintro g _ w7 ⟨k, hs, hk, l7⟩
  simp only [List.cons.injEq, Value.int.injEq, true_and, and_true] at hs
  subst hs
  refine cnd_of (fun hlt => ?_) (fun hlt => law29_done w _ (l06.trans l7))
  have hkn : k < n := by have := of_decide_eq_true hlt; omega
  have l37 : Later w3 w7 := l4.trans (l5.trans (l6.trans l7))
  have cp : ∀ w', Later w7 w' → ∀ j, j < n → w'.cell? ((Addr.mk kp 0 none).add (((j : Nat) : Int).toNat * 1)) = some (i64v (plc L j)) := fun w' h' j hj => by
    rw [show ((j : Int)).toNat = j from rfl, addk]; exact (xp.later (l37.trans h')).cell (fcells_get _ hj)
  have ct : ∀ w', Later w7 w' → w'.cell? ((Addr.mk kt 0 none).add (((k : Nat) : Int).toNat * 1)) = some (i64v (tgt F n k)) := fun w' h' => by
    rw [show ((k : Int)).toNat = k from rfl, addk]; exact (xt.later (l5.trans (l6.trans (l7.trans h')))).cell (fcells_get _ hkn)
  rw [i64_in (x := (k : Int) + 1) (by omega) (by omega)]
  refine ⟨fun vs w' => vs = [.int .i64 (plc L (k + 1))] ∧ Later w7 w', cnd_of (fun h1 => ?_) (fun h1 => ?_), ?_⟩
  · have h1 := of_decide_eq_true h1
    refine ⟨⟨by omega, by omega⟩, Deref_some rfl ⟨_, ?_, rfl, Later.refl _⟩⟩
    exact cp w7 (Later.refl _) (k + 1) (by omega)
  · have h1 := of_decide_eq_false h1
    obtain rfl : k + 1 = n := by omega
    refine ⟨?_, Later.refl _⟩
    rw [i64_in (by omega) (by omega), hlen]
  rintro g2 _ w8 ⟨hs, l8⟩
  simp only [List.cons.injEq, Value.int.injEq, true_and, and_true] at hs
  subst hs
  have hp := plc_range L k
  have hp4 := plc_four L k
  have hnx : plc L (k + 1) = plc L k + 4 + if L k then 4 else 0 := rfl
  have hq0 := outs_length hF k
  have hd : (plc L k).tdiv 4 = ((outs F n L k).length : Int) := by rw [← hq0, tdiv4]
  have cpk := cp w8 l8 k hkn
  refine ⟨fun vs w' => vs = [.bool false] ∧ Later w8 w', ?_, ?_⟩
  · refine ⟨⟨by omega, by omega⟩, Deref_some rfl ⟨_, cpk, cnd_false (decide_eq_false (by omega)) ⟨⟨by omega, by omega⟩, Deref_some rfl ⟨_, cpk, cnd_false ?_ ⟨⟨by omega, by omega⟩, Deref_some rfl ⟨_, cpk, cnd_false ?_ ⟨⟨by omega, by omega⟩, Deref_some rfl ⟨_, cpk, cnd_false ?_ (cnd_of (fun h0 => ⟨⟨by omega, by omega⟩, Deref_some rfl ⟨_, cpk, ?_, Later.refl _⟩⟩) (fun h0 => ⟨rfl, Later.refl _⟩))⟩⟩⟩⟩⟩⟩⟩⟩
    · rw [← hq0, tmod4]; rfl
    · refine decide_eq_false ?_
      rw [hnx]; split <;> omega
    · refine decide_eq_false ?_
      rw [i64_in (by omega) (by omega), hnx]; split <;> omega
    · obtain rfl : k = 0 := by have := eq_of_beq h0; omega
      rfl
  rintro g3 _ w9 ⟨hs, l9⟩
  simp only [List.cons.injEq, Value.bool.injEq, and_true] at hs
  subst hs
  have l79 := l8.trans l9
  have l09 := l06.trans (l7.trans l79)
  have fin : ∀ w', Later w9 w' → (∃ j : Nat, [Value.int .i64 ((k : Int) + 1)] = [.int .i64 j] ∧ j ≤ n ∧ Later w6 w') ∧ n - ((k : Int) + 1).toNat < n - ((k : Int)).toNat := fun w' h' => ⟨⟨k + 1, rfl, by omega, l7.trans (l79.trans h')⟩, by omega⟩
  obtain ⟨ad, rfl, ⟨c0, c1, c2, c3, c4, c5, c6, -⟩, -⟩ := lin_cells (hR.later l09) hkn
  refine cnd_false rfl ⟨⟨by omega, by omega⟩, Deref_some rfl ⟨_, ct w9 l79, cnd_of (fun ht => ?_) (fun ht => ?_)⟩⟩
  · have ht := of_decide_eq_true ht
    have ht6 : F k 6 < 0 := by
      rcases Int.lt_or_le (F k 6) 0 with h | h
      · exact h
      · obtain ⟨j, hj, _⟩ := tgt_pos hV hkn h
        rw [hj] at ht; omega
    have hl : L k = false := by
      cases hL : L k with
      | false => rfl
      | true => have := (fin_tgt hF hL).1; omega
    have hlo : lineOut F n L k = [lineX F k] := by unfold lineOut; rw [if_pos ht6]
    have hat := outs_at F n L n (j := 0) hkn (by rw [hlo]; exact Nat.zero_lt_one)
    rw [hlo, Nat.add_zero] at hat
    have hq : (outs F n L k).length < (outs F n L n).length := (List.getElem?_eq_some_iff.1 hat).1
    have hc : ∀ j, codeF (outs F n L n) (outs F n L k).length j = i5f (lineX F k) j := fun j => by unfold codeF; rw [hat]; rfl
    obtain ⟨ae, rfl, ⟨d0, d1, d2, d3, d4, -⟩, -⟩ := row_cells (RC w9 (l3.trans (l37.trans l79))) hq
    rw [hc] at d0 d1 d2 d3 d4
    have cc : ∀ j, ((ad.add (k * 7)).add 1).add j = (ad.add (k * 7)).add (1 + j) := fun j => Deep.add_add _ _ _
    refine ⟨fun vs w' => vs = [.bool false] ∧ Later w9 w', ?_, ?_⟩
    · have c9 := fun w' (h' : Later w9 w') => cp w' (l79.trans h') k hkn
      refine ⟨⟨by omega, by omega⟩, Deref_some rfl ⟨_, c9, cnd_false ?_ ⟨⟨by omega, by omega⟩, Deref_some rfl ⟨_, c9, cnd_false ?_ ⟨⟨by omega, by omega⟩, Deref_some rfl ⟨_, c9, ?_⟩⟩⟩⟩⟩⟩
      · rw [i64_in (by omega) (by omega), hnx, hl]; simp
      · rw [hd, i64_in (by omega) (by omega)]
        exact decide_eq_false (by omega)
      · rw [hd, i64_in (x := ((outs F n L k).length : Int)) (by omega) (by omega)]
        refine ⟨⟨by omega, by omega⟩, Deref_some rfl ⟨_, _, _, _, _, fun w' h' => ⟨h'.cell_some d0, h'.cell_some d1, h'.cell_some d2, h'.cell_some d3, h'.cell_some d4, trivial⟩, ⟨by omega, by omega⟩, Deref_some rfl ⟨_, _, _, _, _, fun w' h' => ⟨h'.cell_some c1, by rw [show (((k : Nat) : Int)).toNat = k from rfl, cc]; exact h'.cell_some c2, by rw [show (((k : Nat) : Int)).toNat = k from rfl, cc]; exact h'.cell_some c3, by rw [show (((k : Nat) : Int)).toNat = k from rfl, cc]; exact h'.cell_some c4, by rw [show (((k : Nat) : Int)).toNat = k from rfl, cc]; exact h'.cell_some c5, trivial⟩, _, (eq_ins _ _ _ _ _ _ _ _ _ _ _ _).2, fun w' h' => ⟨?_, h'⟩⟩⟩⟩
        simp [i5f, lineX]
    · rintro g4 _ w10 ⟨hs, l10⟩
      simp only [List.cons.injEq, Value.bool.injEq, and_true] at hs
      subst hs
      exact cnd_false rfl (fin _ l10)
  · have ht := of_decide_eq_false ht
    have ht6 : 0 ≤ F k 6 := by
      rcases Int.lt_or_le (F k 6) 0 with h | h
      · rw [tgt_neg h] at ht; omega
      · exact h
    obtain ⟨j, hj1, hj2, hj3⟩ := tgt_pos hV hkn ht6
    have ln : ∀ w', Later w9 w' → w'.cell? (ad.add (((k : Nat) : Int).toNat * 7)) = some (i64v (F k 0)) ∧ w'.cell? ((ad.add (((k : Nat) : Int).toNat * 7)).add 1) = some (u8v (F k 1)) ∧ w'.cell? ((ad.add (((k : Nat) : Int).toNat * 7)).add 2) = some (u8v (F k 2)) ∧ w'.cell? ((ad.add (((k : Nat) : Int).toNat * 7)).add 3) = some (u8v (F k 3)) ∧ w'.cell? ((ad.add (((k : Nat) : Int).toNat * 7)).add 4) = some (u8v (F k 4)) ∧ w'.cell? ((ad.add (((k : Nat) : Int).toNat * 7)).add 5) = some (i64v (F k 5)) ∧ w'.cell? ((ad.add (((k : Nat) : Int).toNat * 7)).add 6) = some (i64v (F k 6)) ∧ True :=
      fun w' h' => ⟨h'.cell_some c0, h'.cell_some c1, h'.cell_some c2, h'.cell_some c3, h'.cell_some c4, h'.cell_some c5, h'.cell_some c6, trivial⟩
    have c9 := fun w' (h' : Later w9 w') => cp w' (l79.trans h') k hkn
    have cj := fun w' (h' : Later w9 w') => cp w' (l79.trans h') j hj2
    have c9t := fun w' (h' : Later w9 w') => ct w' (l79.trans h')
    have gs := fun (t : Bool) (hjt : F k 1 = 32 → t = true) (w' : World) (h' : Later w9 w') => law29_goes_ok (cap := d2) hn hV hF hkn ht6 w' (RC w' (l3.trans (l37.trans (l79.trans h')))) t hjt
    rw [hj1, show ((j : Int)).toNat = j from rfl] at gs
    refine ⟨fun vs w' => vs = [.bool false] ∧ Later w9 w', ?_, ?_⟩
    · refine ⟨⟨by omega, by omega⟩, Deref_some rfl ⟨_, _, _, _, _, _, _, ln, ⟨by omega, by omega⟩, Deref_some rfl ⟨_, c9, ⟨by omega, by omega⟩, Deref_some rfl ⟨j, fun w' h' => by rw [← hj1]; exact c9t w' h', ⟨by omega, by omega⟩, Deref_some rfl ⟨_, cj, true, gs true (fun _ => rfl), cnd_false rfl ⟨⟨by omega, by omega⟩, Deref_some rfl ⟨_, fun w' h' => (ln w' h').2.1, cnd_of (fun h32 => ?_) (fun h32 w' h' => ⟨rfl, h'⟩)⟩⟩⟩⟩⟩⟩⟩
      exact ⟨⟨by omega, by omega⟩, Deref_some rfl ⟨_, _, _, _, _, _, _, ln, ⟨by omega, by omega⟩, Deref_some rfl ⟨_, c9, ⟨by omega, by omega⟩, Deref_some rfl ⟨j, fun w' h' => by rw [← hj1]; exact c9t w' h', ⟨by omega, by omega⟩, Deref_some rfl ⟨_, cj, true, gs false (fun h => absurd h (by simpa using h32)), fun w' h' => ⟨rfl, h'⟩⟩⟩⟩⟩⟩
    · rintro g4 _ w10 ⟨hs, l10⟩
      simp only [List.cons.injEq, Value.bool.injEq, and_true] at hs
      subst hs
      exact cnd_false rfl (fin _ l10)
end Go.Proofs.Ytglakmkedoklmaa
