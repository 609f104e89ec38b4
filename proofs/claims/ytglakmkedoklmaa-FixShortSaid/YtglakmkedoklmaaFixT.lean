/-
The contracts of the document's answer for lines, second part: Fix; what is the same.
Conditions: at most 3000 lines; each number is of its kind.
-/
import Derived.Test.YtglakmkedoklmaaFixR
namespace Go.Proofs.Ytglakmkedoklmaa
open Go Go.Vc Go.RowKit
set_option linter.unusedVariables false
set_option linter.unusedSimpArgs false
set_option maxRecDepth 100000

theorem Has.ints {w : World} {k n : Nat} {f : Nat → Int} (h : Has w k (fcells n fun i => i64v (f i))) {i : Nat} (hi : i < n) : w.cell? ⟨k, i, none⟩ = some (i64v (f i)) := h.cell (fcells_get _ hi)
theorem ref03_Same_ok {A B : Option Addr} {n ca cb : Nat} {F : Nat → Nat → Int} (hn : n ≤ 1000000) (w : World) (hA : IntRow w A n insK F) (hB : IntRow w B n insK F) : Calls Try.prog ref03_Same.N #[.slice A n ca, .slice B n cb] w (Gives (.bool true) w) := by
  refine ref03_Same.calls ?_
  unfold ref03_Same.vc
  refine cnd_false (by simp) ?_
  refine ⟨fun vs w' => ∃ k : Nat, vs = [.int .i64 k] ∧ k ≤ n ∧ Later w w', fun vs _ => match vs with | [.int _ k] => (n - k.toNat) | _ => 0, ⟨0, rfl, Nat.zero_le _, Later.refl _⟩, ?_⟩
  rintro g _ w4 ⟨k, hs, hk, l4⟩
  simp only [List.cons.injEq, Value.int.injEq, true_and, and_true] at hs
  subst hs
  refine cnd_of (fun h => ?_) (fun h => ?_)
  · have h := of_decide_eq_true h
    have hkn : k < n := by omega
    obtain ⟨ad, rfl, ⟨c0, c1, c2, c3, c4, -⟩, -⟩ := row_cells (hA.later l4) hkn
    obtain ⟨ae, rfl, ⟨d0, d1, d2, d3, d4, -⟩, -⟩ := row_cells (hB.later l4) hkn
    refine ⟨⟨by omega, by omega⟩, Deref_some rfl ⟨_, _, _, _, _, fun w' h' => ⟨h'.cell_some c0, h'.cell_some c1, h'.cell_some c2, h'.cell_some c3, h'.cell_some c4, trivial⟩, ⟨by omega, by omega⟩, Deref_some rfl ⟨_, _, _, _, _, fun w' h' => ⟨h'.cell_some d0, h'.cell_some d1, h'.cell_some d2, h'.cell_some d3, h'.cell_some d4, trivial⟩, _, (eq_ins _ _ _ _ _ _ _ _ _ _ _ _).2, fun w5 h5 => cnd_false (by simp) ?_⟩⟩⟩
    rw [i64_in (by omega) (by omega)]
    refine ⟨⟨k + 1, rfl, by omega, l4.trans h5⟩, ?_⟩
    simp only
    omega
  · exact ⟨rfl, l4⟩
theorem ref24_Same_ok {A B : Option Addr} {n ca cb : Nat} {f : Nat → Int} (hn : n ≤ 1000000) (w : World) (hA : ∀ i, i < n → ∃ ad, A = some ad ∧ w.cell? (ad.add (i * 1)) = some (i64v (f i))) (hB : ∀ i, i < n → ∃ ad, B = some ad ∧ w.cell? (ad.add (i * 1)) = some (i64v (f i))) :
    Calls Try.prog ref24_Same.N #[.slice A n ca, .slice B n cb] w (Gives (.bool true) w) := by
  refine ref24_Same.calls ?_
  unfold ref24_Same.vc
  refine cnd_false (by simp) ?_
  refine ⟨fun vs w' => ∃ k : Nat, vs = [.int .i64 k] ∧ k ≤ n ∧ Later w w', fun vs _ => match vs with | [.int _ k] => (n - k.toNat) | _ => 0, ⟨0, rfl, Nat.zero_le _, Later.refl _⟩, ?_⟩
  rintro g _ w4 ⟨k, hs, hk, l4⟩
  simp only [List.cons.injEq, Value.int.injEq, true_and, and_true] at hs
  subst hs
  refine cnd_of (fun h => ?_) (fun h => ?_)
  · have h := of_decide_eq_true h
    have hkn : k < n := by omega
    obtain ⟨ad, rfl, c0⟩ := hA k hkn
    obtain ⟨ae, rfl, d0⟩ := hB k hkn
    refine ⟨⟨by omega, by omega⟩, Deref_some rfl ⟨_, fun w' h' => (l4.trans h').cell_some c0, ⟨by omega, by omega⟩, Deref_some rfl ⟨_, fun w' h' => (l4.trans h').cell_some d0, fun w5 h5 => cnd_false (by simp) ?_⟩⟩⟩
    rw [i64_in (by omega) (by omega)]
    refine ⟨⟨k + 1, rfl, by omega, l4.trans h5⟩, ?_⟩
    simp only
    omega
  · exact ⟨rfl, l4⟩
theorem tgt_dec {F : Nat → Nat → Int} {n i : Nat} (hV : valid F n) (hi : i < n) : decide (tgt F n i ≥ 0) = decide (0 ≤ F i 6) := by
  by_cases h : 0 ≤ F i 6
  · obtain ⟨j, hj, _⟩ := tgt_pos hV hi h
    rw [hj, decide_eq_true h, decide_eq_true (by omega)]
  · rw [tgt_neg (by omega), decide_eq_false h]; rfl
set_option maxHeartbeats 6400000 in
theorem ref29_Fix_ok {A : Option Addr} {n cap : Nat} {F : Nat → Nat → Int} (hn : n ≤ 3000) (w : World) (hR : IntRow w A n linK F) :
    Calls Try.prog ref29_Fix.N #[.slice A n cap] w (fun e w' => Later w w' ∧ ((valid F n ∧ ∃ L b c k, isFin F n L ∧ e = .returned (.tuple #[.slice b (outs F n L n).length c, .slice (some ⟨k, 0, none⟩) n n, okv]) ∧ OwnS w w' 35 5 (.slice b (outs F n L n).length c) (outs F n L n).length (codeC (outs F n L n)) ∧ Has w' k (fcells n fun i => i64v (plc L i))) ∨
      (¬ valid F n ∧ e = .returned (.tuple #[.slice none 0 0, .slice none 0 0, i64v 2])))) := by
  refine ref29_Fix.calls ?_
  unfold ref29_Fix.vc
  refine (ref29_Ways_ok hn w hR).mono fun e w1 ⟨l1, h1⟩ => ?_
  rcases h1 with ⟨hV, kt, he, hkt, ht1⟩ | ⟨hV, he⟩
  case inr => exact ⟨_, _, _, _, he, cnd_true rfl ⟨l1, .inr ⟨hV, rfl⟩⟩⟩
  refine ⟨_, _, _, _, he, cnd_false rfl ?_⟩
  refine RunsV_makeSlice (size := 1) (bytes := 1) (.bool false) Try.underlying50 (by kernel_rfl) rfl (by decide) (by decide) (by omega) fun kl w2 ekl l2 hb2 => ⟨_, _, _, rfl, ?_⟩
  have hb2 : Has w2 kl (fcells n fun i => .bool ((iterL F n 0) i)) := hb2.of_fcells (fcells_rep n _)
  have T1 : Trk w w1 [(kt, fcells n fun i => i64v (tgt F n i))] := by simpa using Trk_add (Trk.start w) l1 hkt ht1
  have T2 : Trk w w2 [(kt, fcells n fun i => i64v (tgt F n i)), (kl, fcells n fun i => .bool ((iterL F n 0) i))] := by simpa using Trk_add T1 l2 (by omega) hb2
  refine ⟨fun vs w' => ∃ k t, vs = [.bool t] ∧ (t = false → anyL F n (iterL F n k) n = false) ∧ Trk w w' [(kt, fcells n fun i => i64v (tgt F n i)), (kl, fcells n fun i => .bool ((iterL F n k) i))], fun vs w' => 2 * falses w' kl + (match vs with | [.bool true] => 1 | _ => 0),
    ⟨0, true, rfl, fun h => (by cases h), T2⟩, ?_⟩
  rintro g _ w3 ⟨k, t, hs, hst, T3⟩
  simp only [List.cons.injEq, Value.bool.injEq, and_true] at hs
  subst hs
  refine cnd_of (fun hag => ?_) (fun hag => ?_)
  · -- one pass
    refine (ref29_places_ok (L := iterL F n k) hn w3 (T3.has 1 rfl)).mono fun e w4 ⟨l4, kp, he, hkp, hp4⟩ => ⟨_, _, _, he, ?_⟩
    have T4 : Trk w w4 [(kt, fcells n fun i => i64v (tgt F n i)), (kl, fcells n fun i => .bool ((iterL F n k) i)), (kp, fcells n fun i => i64v (plc (iterL F n k) i))] := by simpa using Trk_add T3 l4 hkp hp4
    refine ⟨fun vs w' => ∃ i : Nat, vs = [.bool (anyL F n (iterL F n k) i), .int .i64 i] ∧ i ≤ n ∧ Trk w w' [(kt, fcells n fun i => i64v (tgt F n i)), (kl, fcells n fun j => .bool ((mid F n (iterL F n k) i) j)), (kp, fcells n fun i => i64v (plc (iterL F n k) i))], fun vs _ => match vs with | [_, .int _ i] => (n - i.toNat) | _ => 0,
      ⟨0, rfl, Nat.zero_le _, by rw [mid_zero]; exact T4⟩, ?_⟩
    rintro g2 _ _ w5 ⟨i, hs, hi, T5⟩
    simp only [List.cons.injEq, Value.bool.injEq, Value.int.injEq, true_and, and_true] at hs
    obtain ⟨rfl, rfl⟩ := hs
    refine cnd_of (fun hlt => ?_) (fun hlt => ?_)
    case refine_2 =>
      have := of_decide_eq_false hlt
      obtain rfl : i = n := by omega
      rw [mid_all] at T5
      have T6 : Trk w w5 [(kt, fcells i fun j => i64v (tgt F i j)), (kl, fcells i fun j => .bool ((iterL F i (k + 1)) j))] := Trk.front (M := [(kp, fcells i fun j => i64v (plc (iterL F i k) j))]) T5
      refine ⟨⟨k + 1, _, rfl, fun h => ?_, T6⟩, ?_⟩
      · rw [iterL, stable_of h]; exact h
      · have f3 := falses_of (T3.has 1 rfl)
        have f5 := falses_of (T6.has 1 rfl)
        have hc := grown_count (F := F) (n := i) (L := iterL F i k) (k := i) (Nat.le_refl _)
        rw [hag]
        show 2 * falses w5 kl + _ < 2 * falses w3 kl + 1
        rw [f3, f5]
        change 2 * cF (grown F i (iterL F i k)) i + _ < _
        cases ha : anyL F i (iterL F i k) i with
        | true => rw [ha] at hc; simp only [if_true] at hc; simp only; omega
        | false => rw [ha] at hc; simp at hc; simp only; omega
    have hin : i < n := by have := of_decide_eq_true hlt; omega
    obtain ⟨ad, rfl, ⟨c0, c1, c2, c3, c4, c5, c6, -⟩, u0, u1, u2, u3, u4, u5, u6⟩ := lin_cells (hR.later T5.to) hin
    have dec : n - (IntKind.i64.wrap ((i : Int) + 1)).toNat < n - ((i : Int)).toNat := by
      rw [i64_in (by omega) (by omega)]; omega
    have no : longer F n (iterL F n k) i = false → ∀ w', Trk w w' [(kt, fcells n fun i => i64v (tgt F n i)), (kl, fcells n fun j => .bool ((mid F n (iterL F n k) i) j)), (kp, fcells n fun i => i64v (plc (iterL F n k) i))] →
        (∃ j : Nat, [Value.bool (anyL F n (iterL F n k) i), .int .i64 (IntKind.i64.wrap ((i : Int) + 1))] = [.bool (anyL F n (iterL F n k) j), .int .i64 j] ∧ j ≤ n ∧ Trk w w' [(kt, fcells n fun i => i64v (tgt F n i)), (kl, fcells n fun x => .bool ((mid F n (iterL F n k) j) x)), (kp, fcells n fun i => i64v (plc (iterL F n k) i))]) ∧ n - (IntKind.i64.wrap ((i : Int) + 1)).toNat < n - ((i : Int)).toNat := by
      intro hl w' T'
      rw [mid_no hl] at T'
      refine ⟨⟨i + 1, ?_, by omega, T'⟩, dec⟩
      rw [i64_in (by omega) (by omega), anyL, hl, Bool.or_false]; rfl
    have yes : longer F n (iterL F n k) i = true → ∀ w', Trk w w' [(kt, fcells n fun i => i64v (tgt F n i)), (kl, fcells n fun j => .bool (if j = i then true else (mid F n (iterL F n k) i) j)), (kp, fcells n fun i => i64v (plc (iterL F n k) i))] →
        (∃ j : Nat, [Value.bool true, .int .i64 (IntKind.i64.wrap ((i : Int) + 1))] = [.bool (anyL F n (iterL F n k) j), .int .i64 j] ∧ j ≤ n ∧ Trk w w' [(kt, fcells n fun i => i64v (tgt F n i)), (kl, fcells n fun x => .bool ((mid F n (iterL F n k) j) x)), (kp, fcells n fun i => i64v (plc (iterL F n k) i))]) ∧ n - (IntKind.i64.wrap ((i : Int) + 1)).toNat < n - ((i : Int)).toNat := by
      intro hl w' T'
      have hm := mid_yes hin hl
      have e1 : (fcells n fun j => Value.bool (if j = i then true else (mid F n (iterL F n k) i) j)) = fcells n fun j => .bool ((mid F n (iterL F n k) (i + 1)) j) := fcells_congr fun j hj => by rw [← hm]
      rw [e1] at T'
      refine ⟨⟨i + 1, ?_, by omega, T'⟩, dec⟩
      rw [i64_in (by omega) (by omega), anyL, hl, Bool.or_true]; rfl
    have ct : ∀ w', Later w5 w' → w'.cell? ((Addr.mk kt 0 none).add (((i : Nat) : Int).toNat * 1)) = some (i64v (tgt F n i)) := fun w' h' => by
      rw [show ((i : Int)).toNat = i from rfl, addk]; exact (T5.later h').cell 0 rfl (fcells_get _ hin)
    have cl : ∀ w', Later w5 w' → w'.cell? ((Addr.mk kl 0 none).add (((i : Nat) : Int).toNat * 1)) = some (.bool (iterL F n k i)) := fun w' h' => by
      rw [show ((i : Int)).toNat = i from rfl, addk, ← mid_at F n (iterL F n k) i]; exact (T5.later h').cell 1 rfl (fcells_get _ hin)
    have cp : ∀ w', Later w5 w' → ∀ j, j < n → w'.cell? ((Addr.mk kp 0 none).add (((j : Nat) : Int).toNat * 1)) = some (i64v (plc (iterL F n k) j)) := fun w' h' j hj => by
      rw [show ((j : Int)).toNat = j from rfl, addk]; exact (T5.later h').cell 2 rfl (fcells_get _ hj)
    refine ⟨⟨by omega, by omega⟩, Deref_some rfl ⟨_, ct, ?_⟩⟩
    rw [tgt_dec hV hin]
    refine cnd_of (fun h6 => ?_) (fun h6 w' h' => no ?_ _ (T5.later h'))
    case refine_2 => unfold longer; rw [h6]; rfl
    have h6' := of_decide_eq_true h6
    obtain ⟨j, hj1, hj2, hj3⟩ := tgt_pos hV hin h6'
    refine ⟨⟨by omega, by omega⟩, Deref_some rfl ⟨_, fun w' h' => h'.cell_some c1, cnd_of (fun h7 => ?_) (fun h7 w' h' => no ?_ _ (T5.later h'))⟩⟩
    case refine_2 => unfold longer; rw [h7]; simp
    refine ⟨⟨by omega, by omega⟩, Deref_some rfl ⟨_, cl, cnd_of (fun h8 => ?_) (fun h8 w' h' => no ?_ _ (T5.later h'))⟩⟩
    case refine_2 => unfold longer; rw [h8]; simp
    have hway : wayL F n (iterL F n k) i = plc (iterL F n k) j - plc (iterL F n k) i := by unfold wayL; rw [hj1]; rfl
    have hw := wayL_range F hin (iterL F n k)
    have hlong : longer F n (iterL F n k) i = (decide (plc (iterL F n k) j - plc (iterL F n k) i < -4096) || decide (plc (iterL F n k) j - plc (iterL F n k) i > 4094)) := by
      unfold longer; rw [h6, h7, h8, hway]; rfl
    refine ⟨⟨by omega, by omega⟩, Deref_some rfl ⟨j, fun w' h' => by rw [← hj1]; exact ct w' h', ⟨by omega, by omega⟩, Deref_some rfl ⟨_, fun w' h' => cp w' h' j hj2, ⟨by omega, by omega⟩, Deref_some rfl ⟨_, fun w' h' => cp w' h' i hin, ?_⟩⟩⟩⟩
    rw [i64_in (by omega) (by omega)]
    refine cnd_of (fun h9 w6 l6 => ?_) (fun h9 => ?_)
    · refine ⟨⟨by omega, by omega⟩, Deref_some rfl ?_⟩
      rw [show ((i : Int)).toNat = i from rfl, addk]
      refine (T5.later l6).set1 1 rfl (by rw [fcells_length]; exact hin) fun w7 T7 => ?_
      simp only [List.set_cons_succ, List.set_cons_zero, fcells_set] at T7
      have e1 : (fcells n fun j => if j = i then Value.bool true else .bool ((mid F n (iterL F n k) i) j)) = fcells n fun j => .bool (if j = i then true else (mid F n (iterL F n k) i) j) := fcells_congr fun j hj => by split <;> rfl
      rw [e1] at T7
      exact yes (by rw [hlong, h9]; rfl) _ T7
    · refine ⟨⟨by omega, by omega⟩, Deref_some rfl ⟨j, fun w' h' => by rw [← hj1]; exact ct w' h', ⟨by omega, by omega⟩, Deref_some rfl ⟨_, fun w' h' => cp w' h' j hj2, ⟨by omega, by omega⟩, Deref_some rfl ⟨_, fun w' h' => cp w' h' i hin, fun w6 l6 => ?_⟩⟩⟩⟩
      rw [i64_in (by omega) (by omega)]
      refine cnd_of (fun h10 => ?_) (fun h10 => no (by rw [hlong, h9, h10]; rfl) _ (T5.later l6))
      refine ⟨⟨by omega, by omega⟩, Deref_some rfl ?_⟩
      rw [show ((i : Int)).toNat = i from rfl, addk]
      refine (T5.later l6).set1 1 rfl (by rw [fcells_length]; exact hin) fun w7 T7 => ?_
      simp only [List.set_cons_succ, List.set_cons_zero, fcells_set] at T7
      have e1 : (fcells n fun j => if j = i then Value.bool true else .bool ((mid F n (iterL F n k) i) j)) = fcells n fun j => .bool (if j = i then true else (mid F n (iterL F n k) i) j) := fcells_congr fun j hj => by split <;> rfl
      rw [e1] at T7
      exact yes (by rw [hlong, h9, h10]; rfl) _ T7
  · -- what comes out
    have hF : isFin F n (iterL F n k) := ⟨⟨k, rfl⟩, hst hag⟩
    generalize hLd : iterL F n k = L at T3 hF
    refine (ref29_places_ok (L := L) hn w3 (T3.has 1 rfl)).mono fun e w4 ⟨l4, kp, he, hkp, hp4⟩ => ⟨_, _, _, he, ?_⟩
    have T4 : Trk w w4 [(kt, fcells n fun i => i64v (tgt F n i)), (kl, fcells n fun i => .bool (L i)), (kp, fcells n fun i => i64v (plc L i))] := by simpa using Trk_add T3 l4 hkp hp4
    refine ⟨fun vs w' => ∃ k p c, vs = [.slice p (outs F n L k).length c, .int .i64 (k : Nat)] ∧ k ≤ n ∧ OwnS w4 w' 35 5 (.slice p (outs F n L k).length c) (outs F n L k).length (codeC (outs F n L k)) ∧ (k = 0 → p = none) ∧ Later w4 w', fun vs _ => match vs with | [_, .int _ k] => (n - k.toNat) | _ => 0,
      ⟨0, none, 0, rfl, Nat.zero_le _, OwnS_nil _ _ _ _, fun _ => rfl, Later.refl _⟩, ?_⟩
    rintro g2 p _ c _ w5 ⟨i, _, _, hs, hi, ho, hp0, l5⟩
    simp only [List.cons.injEq, Value.int.injEq, Value.slice.injEq, true_and, and_true] at hs
    obtain ⟨⟨rfl, rfl, rfl⟩, rfl⟩ := hs
    have hlen := outs_le hF i
    have T5 := T4.later l5
    refine cnd_of (fun hlt => ?_) (fun hlt => ?_)
    case refine_2 =>
      have := of_decide_eq_false hlt
      obtain rfl : i = n := by omega
      exact ⟨T5.to, .inl ⟨hV, L, _, _, kp, hF, rfl, ho.weak T4.to.size, T5.has 2 rfl⟩⟩
    have hin : i < n := by have := of_decide_eq_true hlt; omega
    obtain ⟨ad, rfl, ⟨c0, c1, c2, c3, c4, c5, c6, -⟩, u0, u1, u2, u3, u4, u5, u6⟩ := lin_cells (hR.later T5.to) hin
    have cc : ∀ j, ((ad.add (i * 7)).add 1).add j = (ad.add (i * 7)).add (1 + j) := fun j => Deep.add_add _ _ _
    refine ⟨⟨by omega, by omega⟩, Deref_some rfl ⟨_, _, _, _, _, ⟨c1, by rw [show (((i : Nat) : Int)).toNat = i from rfl, cc]; exact c2, by rw [show (((i : Nat) : Int)).toNat = i from rfl, cc]; exact c3, by rw [show (((i : Nat) : Int)).toNat = i from rfl, cc]; exact c4, by rw [show (((i : Nat) : Int)).toNat = i from rfl, cc]; exact c5, trivial⟩, fun w6 e6 => ?_⟩⟩
    refine ((Trk.start w5).alloc e6).setAll 0 rfl (l := i5c (lineX F i)) (by rfl) (ones rfl) fun w7 T7 => ?_
    have ho7 := ho.later T7.to
    have hne7 : p.map (·.block) ≠ some w5.heap.size := ho.beside (Nat.le_refl _)
    have l7 := l5.trans T7.to
    have R7 := T5.later T7.to
    have hx7 : Has w7 w5.heap.size (i5c (lineX F i)) := T7.has 0 rfl
    have xnew : w4.heap.size ≤ w5.heap.size := l5.size
    have dec : n - (IntKind.i64.wrap ((i : Int) + 1)).toNat < n - ((i : Int)).toNat := by
      rw [i64_in (by omega) (by omega)]; omega
    have next : ∀ {m : Nat} {p' : Option Addr} {c' : Nat} {w' : World} {cs : List I5}, cs = outs F n L (i + 1) → m = cs.length → OwnS w4 w' 35 5 (.slice p' m c') m (codeC cs) → Later w4 w' →
        (∃ j p c, [Value.slice p' m c', .int .i64 (IntKind.i64.wrap ((i : Int) + 1))] = [.slice p (outs F n L j).length c, .int .i64 (j : Nat)] ∧ j ≤ n ∧ OwnS w4 w' 35 5 (.slice p (outs F n L j).length c) (outs F n L j).length (codeC (outs F n L j)) ∧ (j = 0 → p = none) ∧ Later w4 w') ∧ n - (IntKind.i64.wrap ((i : Int) + 1)).toNat < n - ((i : Int)).toNat := by
      rintro m p' c' w' cs rfl rfl ho' hl'
      refine ⟨⟨i + 1, p', c', ?_, by omega, ho', fun h => by omega, hl'⟩, dec⟩
      rw [i64_in (by omega) (by omega)]; rfl
    have ct : ∀ w', Later w7 w' → w'.cell? ((Addr.mk kt 0 none).add (((i : Nat) : Int).toNat * 1)) = some (i64v (tgt F n i)) := fun w' h' => by
      rw [show ((i : Int)).toNat = i from rfl, addk]; exact (R7.later h').cell 0 rfl (fcells_get _ hin)
    have cl : ∀ w', Later w7 w' → w'.cell? ((Addr.mk kl 0 none).add (((i : Nat) : Int).toNat * 1)) = some (.bool (L i)) := fun w' h' => by
      rw [show ((i : Int)).toNat = i from rfl, addk]; exact (R7.later h').cell 1 rfl (fcells_get _ hin)
    have cp : ∀ w', Later w7 w' → ∀ j, j < n → w'.cell? ((Addr.mk kp 0 none).add (((j : Nat) : Int).toNat * 1)) = some (i64v (plc L j)) := fun w' h' j hj => by
      rw [show ((j : Int)).toNat = j from rfl, addk]; exact (R7.later h').cell 2 rfl (fcells_get _ hj)
    refine ⟨⟨by omega, by omega⟩, Deref_some rfl ⟨_, ct w7 (Later.refl _), ?_⟩⟩
    by_cases ht : F i 6 < 0
    · refine cnd_true (by rw [tgt_neg ht]; rfl) ⟨_, _, _, _, _, ⟨T7.cell 0 rfl rfl, T7.cell 0 rfl rfl, T7.cell 0 rfl rfl, T7.cell 0 rfl rfl, T7.cell 0 rfl rfl, trivial⟩, fun w8 e8 => ?_⟩
      refine code_push _ _ _ _ _ ho7 l7 (by omega) e8 fun p' c' w' ho' hl' => ⟨_, _, _, rfl, next ?_ ?_ ho' hl'⟩
      · rw [outs, lineOut, if_pos ht]
      · simp
    have ht : 0 ≤ F i 6 := by omega
    obtain ⟨j, hj1, hj2, hj3⟩ := tgt_pos hV hin ht
    have hway := wayL_range F hin L
    have hwj : wayL F n L i = plc L j - plc L i := by unfold wayL; rw [hj1]; rfl
    refine cnd_false (by rw [hj1]; exact decide_eq_false (by omega)) ⟨⟨by omega, by omega⟩, Deref_some rfl ⟨j, fun w' h' => by rw [← hj1]; exact ct w' h', ⟨by omega, by omega⟩, Deref_some rfl ⟨_, fun w' h' => cp w' h' j hj2, ⟨by omega, by omega⟩, Deref_some rfl ⟨_, fun w' h' => cp w' h' i hin, fun w8 l8 => ?_⟩⟩⟩⟩
    have T8 := T7.later l8
    refine ⟨⟨by omega, by omega⟩, Deref_some rfl ⟨_, cl w8 l8, ?_⟩⟩
    rw [i64_in (x := plc L j - plc L i) (by omega) (by omega), ← hwj]
    refine cnd_of (fun hl => ?_) (fun hl => ?_)
    · refine ⟨_, fun w' h' => (T8.later h').cell 0 rfl rfl, _, fun w' h' => ref29_opposite_ok _ w', _, fun w' h' => (T8.later h').cell 0 rfl rfl, _, fun w' h' => (T8.later h').cell 0 rfl rfl, fun w9 l9 w10 e10 => ?_⟩
      refine code_push_by _ _ _ _ _ (ho7.later (l8.trans l9)) (l7.trans (l8.trans l9)) (by omega) e10 (hx7.later (l8.trans l9)) hne7 rfl (fun h => hp0 (outs_pos hF h)) fun p' c' w11 ho11 l11 hx11 hne11 => ⟨_, _, _, rfl, ?_⟩
      have T11 : Trk w4 w11 [(w5.heap.size, i5c (lineX F i))] := ⟨l11, fun x hx => by obtain rfl : x = _ := List.mem_singleton.1 hx; exact ⟨xnew, hx11⟩, by simp⟩
      have S := T11.setAll (K := fun w' => Trk w4 w' [(w5.heap.size, i5c (32, 0, 0, 0, 0))]) 0 rfl (l := i5c (32, 0, 0, 0, 0)) (by rfl) (ones rfl) (fun _ h => h)
      refine ⟨S.1, fun w12 e12 => ?_⟩
      have T12 := S.2 w12 e12
      have ho12 : OwnS w4 w12 35 5 _ _ _ := e12 ▸ OwnS.sets_other hne11 _ 0 ho11
      rw [i64_in (x := wayL F n L i - 4) (by omega) (by omega)]
      refine cnd_false (decide_eq_false (by omega)) (cnd_false (decide_eq_false (by omega)) ?_)
      have S2 := T12.set1 (K := fun w' => Trk w4 w' [(w5.heap.size, i5c (32, 0, 0, 0, wayL F n L i - 4))]) 0 (i := 4) (v := i64v (wayL F n L i - 4)) rfl (by simp) (fun _ h => h)
      refine ⟨S2.1, fun w13 e13 => ?_⟩
      have T13 := S2.2 w13 e13
      have ho13 : OwnS w4 w13 35 5 _ _ _ := e13 ▸ OwnS.set_other ho12 hne11 4 _
      refine ⟨_, _, _, _, _, ⟨T13.cell 0 rfl rfl, T13.cell 0 rfl rfl, T13.cell 0 rfl rfl, T13.cell 0 rfl rfl, T13.cell 0 rfl rfl, trivial⟩, fun w14 e14 => ?_⟩
      refine code_push (l := outs F n L i ++ [(oppv (F i 1), 0, F i 3, F i 4, 8)]) _ _ _ _ _ ?_ T13.to ?_ e14 fun p' c' w' ho' hl' => ⟨_, _, _, rfl, next ?_ ?_ ho' hl'⟩
      · rw [List.length_append]; exact ho13
      · rw [List.length_append]; simp only [List.length_cons, List.length_nil]; omega
      · rw [outs, lineOut, if_neg (by omega), if_pos hl, List.append_assoc]; rfl
      · simp
    · refine cnd_false (decide_eq_false (by omega)) (cnd_false (decide_eq_false (by omega)) ?_)
      have T8' : Trk w4 w8 [(w5.heap.size, i5c (lineX F i))] := ⟨l7.trans l8, fun x hx => by obtain rfl : x = _ := List.mem_singleton.1 hx; exact ⟨xnew, hx7.later l8⟩, by simp⟩
      have S := T8'.set1 (K := fun w' => Trk w4 w' [(w5.heap.size, i5c (F i 1, F i 2, F i 3, F i 4, wayL F n L i))]) 0 (i := 4) (v := i64v (wayL F n L i)) rfl (by simp) (fun _ h => h)
      refine ⟨S.1, fun w9 e9 => ?_⟩
      have T9 := S.2 w9 e9
      have ho9 : OwnS w4 w9 35 5 _ _ _ := e9 ▸ OwnS.set_other (ho7.later l8) hne7 4 _
      refine ⟨_, _, _, _, _, ⟨T9.cell 0 rfl rfl, T9.cell 0 rfl rfl, T9.cell 0 rfl rfl, T9.cell 0 rfl rfl, T9.cell 0 rfl rfl, trivial⟩, fun w10 e10 => ?_⟩
      refine code_push _ _ _ _ _ ho9 T9.to (by omega) e10 fun p' c' w' ho' hl' => ⟨_, _, _, rfl, next ?_ ?_ ho' hl'⟩
      · rw [outs, lineOut, if_neg (by omega), if_neg (by rw [hl]; decide)]
      · simp
end Go.Proofs.Ytglakmkedoklmaa
