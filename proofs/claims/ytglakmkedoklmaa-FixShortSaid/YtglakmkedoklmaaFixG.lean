/-
The contracts of package fix, fourth part: Fix and Places.
Conditions: at most 3000 lines; each number is of its kind.
-/
import Derived.Test.YtglakmkedoklmaaFixF
namespace Go.Proofs.Ytglakmkedoklmaa
open Go Go.Vc Go.RowKit
set_option linter.unusedVariables false
set_option linter.unusedSimpArgs false
set_option maxRecDepth 100000

theorem code_push {w0 w w1 : World} {b : Option Addr} {bn bc : Nat} {l : List I5} (o d a b' v : Int) (hown : OwnS w0 w 35 5 (.slice b bn bc) l.length (codeC l)) (hl : Later w0 w) (hb : l.length ≤ 10000)
    (e1 : w1 = w.alloc (.cells #[u8v o, u8v d, u8v a, u8v b', i64v v] 35)) {K : Value → World → Prop}
    (hK : ∀ p c w', OwnS w0 w' 35 5 (.slice p (l.length + 1) c) (l.length + 1) (codeC (l ++ [(o, d, a, b', v)])) → Later w0 w' → K (.slice p (l.length + 1) c) w') :
    RunsV Try.prog (Builtin.append_ #[25, 25] 25 #[.slice b bn bc, .slice (some ⟨w.heap.size, 0, none⟩) 1 1]) w1 K := by
  subst e1
  refine RunsV_append 25 insRow (hown.alloc _) (hl.alloc _) (m := 1) (news := i5c (o, d, a, b', v)) rfl (CellsAt_new' w _ _ _) (ones rfl) (by unfold maxLen; omega) (by omega) ?_
  intro p pn pc w' ho hl' _
  obtain rfl := ho.len
  rw [← codeC_one, ← codeC_append] at ho
  exact hK _ _ _ ho hl'
theorem code_push_by {w0 w w1 : World} {b : Option Addr} {bn bc : Nat} {l : List I5} (o d a b' v : Int) (hown : OwnS w0 w 35 5 (.slice b bn bc) l.length (codeC l)) (hl : Later w0 w) (hb : l.length ≤ 10000)
    (e1 : w1 = w.alloc (.cells #[u8v o, u8v d, u8v a, u8v b', i64v v] 35)) {xb : Nat} {cs : List Value} (hx : Has w xb cs) (hne : b.map (·.block) ≠ some xb) (hcs : cs.length = 5) (h0 : l.length = 0 → b = none) {K : Value → World → Prop}
    (hK : ∀ p c w', OwnS w0 w' 35 5 (.slice p (l.length + 1) c) (l.length + 1) (codeC (l ++ [(o, d, a, b', v)])) → Later w0 w' → Has w' xb cs → p.map (·.block) ≠ some xb → K (.slice p (l.length + 1) c) w') :
    RunsV Try.prog (Builtin.append_ #[25, 25] 25 #[.slice b bn bc, .slice (some ⟨w.heap.size, 0, none⟩) 1 1]) w1 K := by
  subst e1
  refine RunsV_append_by 25 insRow (hown.alloc _) (hl.alloc _) (m := 1) (news := i5c (o, d, a, b', v)) rfl (CellsAt_new' w _ _ _) (ones rfl) (by unfold maxLen; omega) (by omega) (hx.later (Later.alloc' _ _)) hne ?_ ?_
  · rcases Nat.eq_zero_or_pos l.length with h | h
    · exact .inl (h0 h)
    · exact .inr (by omega)
  · intro p pn pc w' ho hl' hx' hne'
    obtain rfl := ho.len
    rw [← codeC_one, ← codeC_append] at ho
    exact hK _ _ _ ho hl' hx' hne'
theorem outs_pos {F : Nat → Nat → Int} {n : Nat} {L : Nat → Bool} (h : isFin F n L) {k : Nat} (h0 : (outs F n L k).length = 0) : k = 0 := by have := (outs_le h k).2; omega
set_option maxHeartbeats 3200000 in
theorem fix_Fix_ok {A : Option Addr} {n cap : Nat} {F : Nat → Nat → Int} (hn : n ≤ 3000) (w : World) (hR : IntRow w A n linK F) :
    Calls Try.prog fix_Fix.N #[.slice A n cap] w (fun e w' => Later w w' ∧ ((valid F n ∧ ∃ L b c, isFin F n L ∧ e = .returned (pairv (.slice b (outs F n L n).length c) okv) ∧ OwnS w w' 35 5 (.slice b (outs F n L n).length c) (outs F n L n).length (codeC (outs F n L n))) ∨
      (¬ valid F n ∧ e = .returned (pairv (.slice none 0 0) (i64v 2))))) := by
  refine fix_Fix.calls ?_
  unfold fix_Fix.vc
  refine (fix_made_ok hn w hR).mono fun e w1 h1 => ?_
  rcases h1 with ⟨hV, b, r, k1, k2, L, hF, he, hL⟩ | ⟨hV, he, l1⟩
  case inr => exact ⟨_, _, he, cnd_true rfl ⟨l1, .inr ⟨hV, rfl⟩⟩⟩
  refine ⟨_, _, he, cnd_false rfl ?_⟩
  have l1 := hL.trk.to
  refine ⟨fun vs w' => ∃ k p c, vs = [.slice p (outs F n L k).length c, .int .i64 (k : Nat)] ∧ k ≤ n ∧ OwnS w1 w' 35 5 (.slice p (outs F n L k).length c) (outs F n L k).length (codeC (outs F n L k)) ∧ (k = 0 → p = none) ∧ Later w1 w', fun vs _ => match vs with | [_, .int _ k] => (n - k.toNat) | _ => 0,
    ⟨0, none, 0, rfl, Nat.zero_le _, OwnS_nil _ _ _ _, fun _ => rfl, Later.refl _⟩, ?_⟩
  rintro g p _ c _ w3 ⟨k, _, _, hs, hk, ho, hp0, l3⟩
  simp only [List.cons.injEq, Value.int.injEq, Value.slice.injEq, true_and, and_true] at hs
  obtain ⟨⟨rfl, rfl, rfl⟩, rfl⟩ := hs
  have hlen := outs_le hF k
  have h3 := hL.later l3
  refine cnd_of (fun hlt => ?_) (fun hlt => ?_)
  case refine_2 =>
    have := of_decide_eq_false hlt
    obtain rfl : k = n := by omega
    exact ⟨l1.trans l3, .inl ⟨hV, L, _, _, hF, rfl, ho.weak l1.size⟩⟩
  have hkn : k < n := by have := of_decide_eq_true hlt; omega
  obtain ⟨ad, rfl, hc, u0, u1, u2, u3, u4, u5, u6⟩ := lin_cells h3.row hkn
  refine ⟨⟨by omega, by omega⟩, Deref_some rfl ⟨_, _, _, _, _, _, _, hc, fun w4 e4 => ?_⟩⟩
  refine ((Trk.start w3).alloc e4).setAll 0 rfl (l := lineCells F k) (by rfl) (ones rfl) fun w5 T5 => ?_
  refine ⟨_, _, _, _, _, ⟨T5.cell 0 rfl rfl, T5.cell 0 rfl rfl, T5.cell 0 rfl rfl, T5.cell 0 rfl rfl, T5.cell 0 rfl rfl, trivial⟩, fun w6 e6 => ?_⟩
  refine (T5.alloc e6).setAll 1 rfl (l := i5c (lineX F k)) (by rfl) (ones rfl) fun w7 T7 => ?_
  have ho7 := ho.later T7.to
  have hne7 : p.map (·.block) ≠ some w5.heap.size := ho.beside T5.to.size
  have l7 := l3.trans T7.to
  have h7 := hL.later l7
  have hx7 : Has w7 w5.heap.size (i5c (lineX F k)) := T7.has 1 rfl
  have xnew : w1.heap.size ≤ w5.heap.size := Nat.le_trans l3.size T5.to.size
  have dec : n - (IntKind.i64.wrap ((k : Int) + 1)).toNat < n - ((k : Int)).toNat := by
    rw [i64_in (by omega) (by omega)]; omega
  have next : ∀ {m : Nat} {p' : Option Addr} {c' : Nat} {w' : World} {cs : List I5}, cs = outs F n L (k + 1) → m = cs.length → OwnS w1 w' 35 5 (.slice p' m c') m (codeC cs) → Later w1 w' →
      (∃ j p c, [Value.slice p' m c', .int .i64 (IntKind.i64.wrap ((k : Int) + 1))] = [.slice p (outs F n L j).length c, .int .i64 (j : Nat)] ∧ j ≤ n ∧ OwnS w1 w' 35 5 (.slice p (outs F n L j).length c) (outs F n L j).length (codeC (outs F n L j)) ∧ (j = 0 → p = none) ∧ Later w1 w') ∧ n - (IntKind.i64.wrap ((k : Int) + 1)).toNat < n - ((k : Int)).toNat := by
    rintro m p' c' w' cs rfl rfl ho' hl'
    refine ⟨⟨k + 1, p', c', ?_, by omega, ho', fun h => by omega, hl'⟩, dec⟩
    rw [i64_in (by omega) (by omega)]; rfl
  refine ⟨_, T7.cell 0 rfl rfl, cnd_of (fun ht => ?_) (fun ht => ?_)⟩
  · have ht := of_decide_eq_true ht
    refine ⟨_, _, _, _, _, ⟨T7.cell 1 rfl rfl, T7.cell 1 rfl rfl, T7.cell 1 rfl rfl, T7.cell 1 rfl rfl, T7.cell 1 rfl rfl, trivial⟩, fun w8 e8 => ?_⟩
    refine code_push _ _ _ _ _ ho7 l7 (by omega) e8 fun p' c' w' ho' hl' => ⟨_, _, _, rfl, next ?_ ?_ ho' hl'⟩
    · rw [outs, lineOut, if_pos ht]
    · simp
  · have ht := of_decide_eq_false ht
    have ht : 0 ≤ F k 6 := by omega
    have hway := wayL_range F hkn L
    refine Deref_some rfl ⟨_, _, _, h7.c2, ⟨by omega, by omega⟩, Deref_some rfl ⟨_, by rw [show ((k : Int)).toNat = k from rfl, addk]; exact h7.long hkn, cnd_of (fun hl => ?_) (fun hl => ?_)⟩⟩
    · obtain ⟨j1, j2, j3⟩ := (hV k hkn).1.2.2.2.2 ht
      have j4 := (fin_tgt hF hl).2
      refine ⟨_, fun w' h' => (T7.later h').cell 1 rfl rfl, _, fun w' h' => fix_opposite_ok _ j1 (by omega) w', _, fun w' h' => (T7.later h').cell 1 rfl rfl, _, fun w' h' => (T7.later h').cell 1 rfl rfl, fun w8 l8 w9 e9 => ?_⟩
      refine code_push_by _ _ _ _ _ (ho7.later l8) (l7.trans l8) (by omega) e9 (hx7.later l8) hne7 rfl (fun h => hp0 (outs_pos hF h)) fun p' c' w10 ho10 l10 hx10 hne10 => ⟨_, _, _, rfl, ?_⟩
      refine (fix_way_ok hn hV hkn ht (fun j hj => ?_) w10 (hL.later l10)).mono fun e w11 ⟨he, l11⟩ => ⟨_, he, ?_⟩
      · have := plc_range L j
        omega
      have T11 : Trk w1 w11 [(w5.heap.size, i5c (lineX F k))] := ⟨l10.trans l11, fun x hx => by obtain rfl : x = _ := List.mem_singleton.1 hx; exact ⟨xnew, hx10.later l11⟩, by simp⟩
      have S := T11.setAll (K := fun w' => Trk w1 w' [(w5.heap.size, i5c (32, 0, 0, 0, wayL F n L k - 4))]) 0 rfl (l := i5c (32, 0, 0, 0, wayL F n L k - 4)) (by rfl) (ones rfl) (fun _ h => h)
      change -8 * (n : Int) ≤ plc L (tgt F n k).toNat - plc L k ∧ plc L (tgt F n k).toNat - plc L k ≤ 8 * n at hway
      rw [i64_in (by omega) (by omega)]
      refine ⟨S.1, fun w12 e12 => ?_⟩
      have T12 := S.2 w12 e12
      have ho12 : OwnS w1 w12 35 5 _ _ _ := e12 ▸ OwnS.sets_other hne10 _ 0 (ho10.later l11)
      refine ⟨_, _, _, _, _, ⟨T12.cell 0 rfl rfl, T12.cell 0 rfl rfl, T12.cell 0 rfl rfl, T12.cell 0 rfl rfl, T12.cell 0 rfl rfl, trivial⟩, fun w13 e13 => ?_⟩
      refine code_push (l := outs F n L k ++ [(oppv (F k 1), 0, F k 3, F k 4, 8)]) _ _ _ _ _ ?_ T12.to ?_ e13 fun p' c' w' ho' hl' => ⟨_, _, _, rfl, next ?_ ?_ ho' hl'⟩
      · rw [List.length_append]; exact ho12
      · rw [List.length_append]; simp only [List.length_cons, List.length_nil]; omega
      · rw [outs, lineOut, if_neg (by omega), if_pos hl, List.append_assoc]; rfl
      · simp
    · refine (fix_way_ok hn hV hkn ht (fun j hj => ?_) w7 h7).mono fun e w8 ⟨he, l8⟩ => ⟨_, he, ?_⟩
      · have := plc_range L j
        omega
      have T8 : Trk w1 w8 [(w5.heap.size, i5c (lineX F k))] := ⟨l7.trans l8, fun x hx => by obtain rfl : x = _ := List.mem_singleton.1 hx; exact ⟨xnew, hx7.later l8⟩, by simp⟩
      have S := T8.set1 (K := fun w' => Trk w1 w' [(w5.heap.size, i5c (F k 1, F k 2, F k 3, F k 4, wayL F n L k))]) 0 (i := 4) (v := i64v (wayL F n L k)) rfl (by simp) (fun _ h => h)
      refine ⟨S.1, fun w9 e9 => ?_⟩
      have T9 := S.2 w9 e9
      have ho9 : OwnS w1 w9 35 5 _ _ _ := e9 ▸ OwnS.set_other (ho7.later l8) hne7 4 _
      refine ⟨_, _, _, _, _, ⟨T9.cell 0 rfl rfl, T9.cell 0 rfl rfl, T9.cell 0 rfl rfl, T9.cell 0 rfl rfl, T9.cell 0 rfl rfl, trivial⟩, fun w10 e10 => ?_⟩
      refine code_push _ _ _ _ _ ho9 T9.to (by omega) e10 fun p' c' w' ho' hl' => ⟨_, _, _, rfl, next ?_ ?_ ho' hl'⟩
      · rw [outs, lineOut, if_neg (by omega), if_neg (by rw [hl]; decide)]
      · simp
theorem fix_Places_ok {A : Option Addr} {n cap : Nat} {F : Nat → Nat → Int} (hn : n ≤ 3000) (w : World) (hR : IntRow w A n linK F) :
    Calls Try.prog fix_Places.N #[.slice A n cap] w (fun e w' => Later w w' ∧ ((valid F n ∧ ∃ L k, isFin F n L ∧ e = .returned (pairv (.slice (some ⟨k, 0, none⟩) n n) okv) ∧ w.heap.size ≤ k ∧ Has w' k (fcells n fun i => i64v (plc L i))) ∨
      (¬ valid F n ∧ e = .returned (pairv (.slice none 0 0) (i64v 2))))) := by
  refine fix_Places.calls ?_
  unfold fix_Places.vc
  refine (fix_made_ok hn w hR).mono fun e w1 h1 => ?_
  rcases h1 with ⟨hV, b, r, k1, k2, L, hF, he, hL⟩ | ⟨hV, he, l1⟩
  · have h2 := hL.trk.2.1 (k2, fcells n fun i => i64v (plc L i)) (by simp)
    exact ⟨_, _, he, cnd_false rfl (Deref_some rfl ⟨_, _, _, hL.c3, hL.trk.to, .inl ⟨hV, L, k2, hF, rfl, h2.1, h2.2⟩⟩)⟩
  · exact ⟨_, _, he, cnd_true rfl ⟨l1, .inr ⟨hV, rfl⟩⟩⟩
end Go.Proofs.Ytglakmkedoklmaa
