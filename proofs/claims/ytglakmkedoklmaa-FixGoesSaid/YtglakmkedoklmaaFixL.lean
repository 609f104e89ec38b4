/-
The contracts of package fix, second part: which lines may be fixed, and the layout.
Conditions: at most 3000 lines; each number is of its kind.
-/
import Derived.Test.YtglakmkedoklmaaFixW
namespace Go.Proofs.Ytglakmkedoklmaa
open Go Go.Vc Go.RowKit
set_option linter.unusedVariables false
set_option linter.unusedSimpArgs false
set_option maxRecDepth 100000

def labV (F : Nat → Nat → Int) (k : Nat) (a : Int) : Int := if a < 0 then 0 else (match firstAt F a k with | some i => i | none => 0)
theorem run_labF {r : Nat} {F : Nat → Nat → Int} {k : Nat} {w : World} (h : MapI w r .i64 (mapF F k)) (a : Int) : (Instr.lookup 49 (.map (some r)) (.int .i64 a) true).run Try.prog w = .ok (.tuple #[i64v (labV F k a), .bool (mapF F k a).isSome]) w := by
  rw [run_labels h, if_pos rfl]
  congr 2
  unfold mapF labV
  by_cases ha : a < 0
  · rw [if_pos ha, if_pos ha]; rfl
  · rw [if_neg ha, if_neg ha]
    cases firstAt F a k <;> rfl
theorem LayP.mapped {w0 w w' : World} {A : Option Addr} {n cap : Nat} {F : Nat → Nat → Int} {b r k1 k2 : Nat} {L : Nat → Bool} {p : Nat → Int} {m m' : Int → Option Value} (h : LayP w0 w A n cap F b r k1 k2 L p m []) (hm : MapI w' r .i64 m')
    (hl : ∀ w0, Later w0 w → w0.heap.size ≤ r → Later w0 w') (ho : ∀ b, b ≠ r → w'.heap[b]? = w.heap[b]?) (hR : IntRow w0 A n linK F) : LayP w0 w' A n cap F b r k1 k2 L p m' [] := by
  have hto := hl w0 h.trk.to h.new
  refine ⟨⟨hto, ?_, h.trk.2.2⟩, hm, h.new, h.apart, hR.later hto⟩
  intro x hx
  have := h.trk.2.1 x hx
  refine ⟨this.1, this.2.kept (ho _ ?_)⟩
  simp only [List.mem_cons, List.not_mem_nil, or_false] at hx
  rcases hx with rfl | rfl | rfl
  · exact Ne.symm h.apart.1
  · exact Ne.symm h.apart.2.1
  · exact Ne.symm h.apart.2.2
set_option maxHeartbeats 3200000 in
theorem fix_look_ok {w0 : World} {A : Option Addr} {n cap : Nat} {F : Nat → Nat → Int} {b r k1 k2 : Nat} {L : Nat → Bool} {p : Nat → Int} (hn : n ≤ 3000) (hR : IntRow w0 A n linK F) (w : World) (h : LayP w0 w A n cap F b r k1 k2 L p (fun _ => none) []) :
    Calls Try.prog sacristy_fix_layout_look.N #[.pointer (some ⟨b, 0, none⟩)] w (fun e w' => (valid F n ∧ e = .returned (i64v 0) ∧ LayP w0 w' A n cap F b r k1 k2 L p (mapF F n) []) ∨ (¬ valid F n ∧ e = .returned (i64v 2) ∧ Later w0 w')) := by
  refine sacristy_fix_layout_look.calls ?_
  unfold sacristy_fix_layout_look.vc
  refine Deref_some rfl ⟨_, _, _, h.c0, cnd_false (by rw [decide_eq_false]; omega) (Deref_some rfl ⟨_, _, _, h.c0, ?_⟩)⟩
  refine ⟨fun vs w' => ∃ k : Nat, vs = [.int .i64 k] ∧ k ≤ n ∧ (∀ j, j < k → lineV F j) ∧ LayP w0 w' A n cap F b r k1 k2 L p (mapF F k) [], fun vs _ => match vs with | [.int _ k] => (n - k.toNat) | _ => 0, ⟨0, rfl, Nat.zero_le _, fun j hj => absurd hj (Nat.not_lt_zero j), mapF_zero F ▸ h⟩, ?_⟩
  rintro g _ w3 ⟨k, hs, hk, hv, h3⟩
  simp only [List.cons.injEq, Value.int.injEq, true_and, and_true] at hs
  subst hs
  refine cnd_of (fun hlt => ?_) (fun hlt => ?_)
  · have hkn : k < n := by have := of_decide_eq_true hlt; omega
    obtain ⟨ad, rfl, hc, u0, u1, u2, u3, u4, u5, u6⟩ := lin_cells h3.row hkn
    refine ⟨⟨by omega, by omega⟩, Deref_some rfl ⟨_, _, _, _, _, _, _, hc, fun w4 e4 => ?_⟩⟩
    refine ((Trk.start w3).alloc e4).setAll 0 rfl (l := lineCells F k) (by rfl) (ones rfl) fun w5 T5 => ?_
    have h5 := h3.later T5.to
    have dec : n - (IntKind.i64.wrap ((k : Int) + 1)).toNat < n - ((k : Int)).toNat := by
      rw [i64_in (by omega) (by omega)]; omega
    refine ⟨_, _, _, _, _, ⟨T5.cell 0 rfl rfl, T5.cell 0 rfl rfl, T5.cell 0 rfl rfl, T5.cell 0 rfl rfl, T5.cell 0 rfl rfl, trivial⟩, ?_⟩
    refine (insn_Encode_ok _ _ _ _ _ u1 u2 u3 u4 u5 w5).mono fun e w6 ⟨he, l6⟩ => ?_
    have C := T5.later l6
    have H := h5.later l6
    cases hE : encL F k with
    | none =>
      have hE' : encv (F k 1) (F k 2) (F k 3) (F k 4) (F k 5) = none := hE
      rw [hE', encR_none] at he
      refine ⟨_, _, he, cnd_true rfl (.inr ⟨fun hV => ?_, rfl, H.trk.to⟩)⟩
      have := (hV k hkn).1.1
      rw [hE] at this
      cases this
    | some v =>
      have hE' : encv (F k 1) (F k 2) (F k 3) (F k 4) (F k 5) = some v := hE
      rw [hE', encR_some] at he
      refine ⟨_, _, he, cnd_false rfl ⟨_, C.cell 0 rfl rfl, cnd_of (fun hA => ?_) (fun hA => ?_)⟩⟩
      · have hA := of_decide_eq_true hA
        refine .inr ⟨fun hV => ?_, rfl, H.trk.to⟩
        have := (hV k hkn).1.2.1
        omega
      have hA := of_decide_eq_false hA
      refine ⟨_, C.cell 0 rfl rfl, cnd_of (fun hB => ?_) (fun hB => ?_)⟩
      · have hB := of_decide_eq_true hB
        refine .inr ⟨fun hV => ?_, rfl, H.trk.to⟩
        have := (hV k hkn).1.2.2.1
        omega
      have hB := of_decide_eq_false hB
      have next : (0 ≤ F k 6 → 28 ≤ F k 1 ∧ F k 1 ≤ 32 ∧ F k 5 = 0) → (0 ≤ F k 0 → firstAt F (F k 0) k = none) → ∀ w', LayP w0 w' (some ad) n cap F b r k1 k2 L p (mapF F (k + 1)) [] →
          (∃ j : Nat, [Value.int .i64 (IntKind.i64.wrap ((k : Int) + 1))] = [.int .i64 j] ∧ j ≤ n ∧ (∀ i, i < j → lineV F i) ∧ LayP w0 w' (some ad) n cap F b r k1 k2 L p (mapF F j) []) ∧ n - (IntKind.i64.wrap ((k : Int) + 1)).toNat < n - ((k : Int)).toNat := by
        intro hT h0 w' h'
        refine ⟨⟨k + 1, ?_, by omega, ?_, h'⟩, dec⟩
        · rw [i64_in (by omega) (by omega)]; rfl
        · intro i hi
          by_cases hik : i = k
          · subst hik
            exact ⟨by rw [hE]; rfl, by omega, by omega, h0, hT⟩
          · exact hv i (by omega)
      refine ⟨_, C.cell 0 rfl rfl, cnd_of (fun hD => ?_) (fun hD => ?_)⟩
      · have hD := of_decide_eq_true hD
        refine ⟨_, _, _, _, _, ⟨C.cell 0 rfl rfl, C.cell 0 rfl rfl, C.cell 0 rfl rfl, C.cell 0 rfl rfl, C.cell 0 rfl rfl, trivial⟩, ?_⟩
        refine (fix_jumps_ok _ _ _ _ _ w6).mono fun e w7 ⟨he, l7⟩ => ⟨_, he, ?_⟩
        have C := C.later l7
        have H := H.later l7
        refine cnd_of (fun hj => ?_) (fun hj => ?_)
        · refine .inr ⟨fun hV => ?_, rfl, H.trk.to⟩
          obtain ⟨j1, j2, j3⟩ := (hV k hkn).1.2.2.2.2 hD
          rw [decide_eq_true j1, decide_eq_true j2, j3] at hj
          cases hj
        have hT : 0 ≤ F k 6 → 28 ≤ F k 1 ∧ F k 1 ≤ 32 ∧ F k 5 = 0 := by
          intro _
          simp only [Bool.not_eq_false', Bool.and_eq_true, decide_eq_true_eq, beq_iff_eq] at hj
          exact hj
        refine ⟨_, C.cell 0 rfl rfl, cnd_of (fun h0 => ?_) (fun h0 => ?_)⟩
        · have h0 := of_decide_eq_true h0
          refine Deref_some rfl ⟨_, fun w' h' => (H.later h').c1, _, fun w' h' => (C.later h').cell 0 rfl rfl, ?_⟩
          refine ⟨_, _, fun w' h' => run_labF (H.later h').map (F k 0), fun w6 l6 => cnd_of (fun hd => ?_) (fun hd => ?_)⟩
          · refine .inr ⟨fun hV => ?_, rfl, (H.later l6).trk.to⟩
            have := (hV k hkn).1.2.2.2.1 h0
            rw [mapF_get h0, this] at hd
            cases hd
          · have hnone : firstAt F (F k 0) k = none := by
              rw [mapF_get h0] at hd
              cases hf : firstAt F (F k 0) k with
              | none => rfl
              | some i => rw [hf] at hd; cases hd
            have H6 := H.later l6
            refine Deref_some rfl ⟨_, fun w' h' => (H6.later h').c1, _, fun w' h' => ((C.later l6).later h').cell 0 rfl rfl, fun w7 l7 => ?_⟩
            have H7 := H6.later l7
            refine MapI.insert Try.underlying49 Try.underlying3 H7.map (by rw [mapF_get h0, hnone]; rfl) fun w8 hm8 hl8 ho8 => ?_
            rw [← mapF_add h0 hnone] at hm8
            exact next hT (fun _ => hnone) _ (H7.mapped hm8 hl8 ho8 hR)
        · have h0 := of_decide_eq_false h0
          exact next hT (fun h => absurd h h0) _ (mapF_keep (F := F) (k := k) (by omega) ▸ H)
      · have hD := of_decide_eq_false hD
        have hT : 0 ≤ F k 6 → 28 ≤ F k 1 ∧ F k 1 ≤ 32 ∧ F k 5 = 0 := fun h => absurd h hD
        refine ⟨_, C.cell 0 rfl rfl, cnd_of (fun h0 => ?_) (fun h0 => ?_)⟩
        · have h0 := of_decide_eq_true h0
          refine Deref_some rfl ⟨_, fun w' h' => (H.later h').c1, _, fun w' h' => (C.later h').cell 0 rfl rfl, ?_⟩
          refine ⟨_, _, fun w' h' => run_labF (H.later h').map (F k 0), fun w6 l6 => cnd_of (fun hd => ?_) (fun hd => ?_)⟩
          · refine .inr ⟨fun hV => ?_, rfl, (H.later l6).trk.to⟩
            have := (hV k hkn).1.2.2.2.1 h0
            rw [mapF_get h0, this] at hd
            cases hd
          · have hnone : firstAt F (F k 0) k = none := by
              rw [mapF_get h0] at hd
              cases hf : firstAt F (F k 0) k with
              | none => rfl
              | some i => rw [hf] at hd; cases hd
            have H6 := H.later l6
            refine Deref_some rfl ⟨_, fun w' h' => (H6.later h').c1, _, fun w' h' => ((C.later l6).later h').cell 0 rfl rfl, fun w7 l7 => ?_⟩
            have H7 := H6.later l7
            refine MapI.insert Try.underlying49 Try.underlying3 H7.map (by rw [mapF_get h0, hnone]; rfl) fun w8 hm8 hl8 ho8 => ?_
            rw [← mapF_add h0 hnone] at hm8
            exact next hT (fun _ => hnone) _ (H7.mapped hm8 hl8 ho8 hR)
        · have h0 := of_decide_eq_false h0
          exact next hT (fun h => absurd h h0) _ (mapF_keep (F := F) (k := k) (by omega) ▸ H)
  · have := of_decide_eq_false hlt
    obtain rfl : k = n := by omega
    refine Deref_some rfl ⟨_, _, _, h3.c0, ?_⟩
    refine ⟨fun vs w' => ∃ i : Nat, vs = [.int .i64 i] ∧ i ≤ k ∧ (∀ j, j < i → lineT F k j) ∧ LayP w0 w' A k cap F b r k1 k2 L p (mapF F k) [], fun vs _ => match vs with | [.int _ i] => (k - i.toNat) | _ => 0, ⟨0, rfl, Nat.zero_le _, fun j hj => absurd hj (Nat.not_lt_zero j), h3⟩, ?_⟩
    rintro g _ w4 ⟨i, hs, hi, ht, h4⟩
    simp only [List.cons.injEq, Value.int.injEq, true_and, and_true] at hs
    subst hs
    refine cnd_of (fun hlt => ?_) (fun hlt => ?_)
    · have hik : i < k := by have := of_decide_eq_true hlt; omega
      obtain ⟨ad, rfl, hc, u0, u1, u2, u3, u4, u5, u6⟩ := lin_cells h4.row hik
      refine ⟨⟨by omega, by omega⟩, Deref_some rfl ⟨_, _, _, _, _, _, _, hc, fun w5 e5 => ?_⟩⟩
      refine ((Trk.start w4).alloc e5).setAll 0 rfl (l := lineCells F i) (by rfl) (ones rfl) fun w6 T6 => ?_
      have h6 := h4.later T6.to
      refine Deref_some rfl ⟨_, fun w' h' => (h6.later h').c1, _, fun w' h' => (T6.later h').cell 0 rfl rfl, ?_⟩
      refine ⟨_, _, fun w' h' => run_labF (h6.later h').map (F i 6), fun w7 l7 => ⟨_, (T6.later l7).cell 0 rfl rfl, ?_⟩⟩
      have dec : k - (IntKind.i64.wrap ((i : Int) + 1)).toNat < k - ((i : Int)).toNat := by
        rw [i64_in (by omega) (by omega)]; omega
      have next : lineT F k i → (∃ j : Nat, [Value.int .i64 (IntKind.i64.wrap ((i : Int) + 1))] = [.int .i64 j] ∧ j ≤ k ∧ (∀ i, i < j → lineT F k i) ∧ LayP w0 w7 (some ad) k cap F b r k1 k2 L p (mapF F k) []) ∧ k - (IntKind.i64.wrap ((i : Int) + 1)).toNat < k - ((i : Int)).toNat := by
        intro hT
        refine ⟨⟨i + 1, by rw [i64_in (by omega) (by omega)]; rfl, by omega, ?_, h6.later l7⟩, dec⟩
        intro j hj
        by_cases hji : j = i
        · subst hji; exact hT
        · exact ht j (by omega)
      refine cnd_of (fun h0 => ?_) (fun h0 => next fun h => absurd h (of_decide_eq_false h0))
      have h0 := of_decide_eq_true h0
      have e0 : (mapF F k (F i 6)).isSome = (firstAt F (F i 6) k).isSome := by rw [mapF_get h0]; cases firstAt F (F i 6) k <;> rfl
      refine cnd_of (fun hm => ?_) (fun hm => next fun _ => ?_)
      · refine .inr ⟨fun hV => ?_, rfl, (h6.later l7).trk.to⟩
        have := (hV i hik).2 h0
        rw [e0, this] at hm
        cases hm
      · rw [e0] at hm
        simpa using hm
    · have := of_decide_eq_false hlt
      obtain rfl : i = k := by omega
      exact .inl ⟨fun j hj => ⟨hv j hj, ht j hj⟩, rfl, h4⟩
def noPt : Value := .pointer none
/-- What comes of 'made'. -/
theorem fix_made_ok {A : Option Addr} {n cap : Nat} {F : Nat → Nat → Int} (hn : n ≤ 3000) (w : World) (hR : IntRow w A n linK F) :
    Calls Try.prog fix_made.N #[.slice A n cap] w (fun e w' => (valid F n ∧ ∃ b r k1 k2 L, isFin F n L ∧ e = .returned (pairv (.pointer (some ⟨b, 0, none⟩)) okv) ∧ LayP w w' A n cap F b r k1 k2 L (plc L) (mapF F n) []) ∨
      (¬ valid F n ∧ e = .returned (pairv (.pointer none) (i64v 2)) ∧ Later w w')) := by
  refine fix_made.calls ?_
  unfold fix_made.vc
  refine ⟨trivial, fun r hr => ⟨⟨by omega, rfl, by omega, by decide, rfl, by decide⟩, fun k1 hk1 => ⟨⟨by omega, rfl, by omega, by decide, rfl, by decide⟩, fun k2 hk2 => ⟨trivial, fun b hb w1 hG => ?_⟩⟩⟩⟩
  obtain ⟨g1, g2, g3⟩ := hG
  simp only [List.map_cons, List.map_nil, List.nodup_cons, List.mem_cons, List.not_mem_nil, or_false, not_or, List.nodup_nil, and_true] at g3
  obtain ⟨m0, g2⟩ := List.forall_mem_cons.1 g2
  obtain ⟨m2, g2⟩ := List.forall_mem_cons.1 g2
  obtain ⟨m1, g2⟩ := List.forall_mem_cons.1 g2
  obtain ⟨m3, g2⟩ := List.forall_mem_cons.1 g2
  have h1 : LayP w w1 A n cap F b r k1 k2 (fun _ => false) (fun _ => 0) (fun _ => none) [] := by
    refine ⟨⟨g1, ?_, ?_⟩, MapI.empty .i64 m3.2, hr, ⟨?_, ?_, ?_⟩, hR.later g1⟩
    · intro x hx
      simp only [List.mem_cons, List.not_mem_nil, or_false] at hx
      rcases hx with rfl | rfl | rfl
      · exact ⟨hb, _, m0.2⟩
      · refine ⟨hk1, 4, m1.2.trans ?_⟩
        rw [fcells_rep]; rfl
      · refine ⟨hk2, 3, m2.2.trans ?_⟩
        rw [fcells_rep]; rfl
    · simp only [List.map_cons, List.map_nil, List.nodup_cons, List.mem_cons, List.not_mem_nil, or_false, not_or, List.nodup_nil, and_true]
      exact ⟨⟨g3.1.2.1, g3.1.1⟩, fun h => g3.2.1.1 h.symm, fun h => h⟩
    · exact fun h => g3.1.2.2 h.symm
    · exact fun h => g3.2.2.1 h.symm
    · exact fun h => g3.2.1.2 h.symm
  refine (fix_look_ok hn hR w1 h1).mono fun e w2 h2 => ?_
  rcases h2 with ⟨hV, he, h2⟩ | ⟨hV, he, l2⟩
  · refine ⟨_, he, cnd_false rfl ?_⟩
    refine ⟨fun vs w' => ∃ k p, vs = [] ∧ LayP w w' A n cap F b r k1 k2 (iterL F n k) p (mapF F n) [], fun vs w' => falses w' k1, ⟨0, _, rfl, h2⟩, ?_⟩
    rintro g w3 ⟨k, p, -, h3⟩
    refine (fix_grow_ok hn hV hR w3 h3).mono fun e w4 ⟨he, h4⟩ => ⟨_, he, ?_⟩
    refine cnd_of (fun ha => ?_) (fun ha => ?_)
    · refine ⟨⟨k + 1, _, rfl, h4⟩, ?_⟩
      have f3 := falses_of (h3.trk.has 1 rfl)
      have f4 := falses_of (h4.trk.has 1 rfl)
      have := grown_count (F := F) (n := n) (L := iterL F n k) (k := n) (Nat.le_refl _)
      rw [ha] at this
      simp only [if_true] at this
      show falses w4 k1 < falses w3 k1
      rw [f3, f4]
      omega
    · rw [stable_of ha] at h4
      refine (fix_lay_ok hn hR w4 h4).mono fun e w5 ⟨he, h5⟩ => ⟨he, ?_⟩
      refine ⟨fun vs w' => ∃ i : Nat, vs = [.int .i64 i] ∧ i ≤ n ∧ LayP w w' A n cap F b r k1 k2 (iterL F n k) (plc (iterL F n k)) (mapF F n) [], fun vs _ => match vs with | [.int _ i] => (n - i.toNat) | _ => 0, ⟨0, rfl, Nat.zero_le _, h5⟩, ?_⟩
      rintro g _ w6 ⟨i, hs, hi, h6⟩
      simp only [List.cons.injEq, Value.int.injEq, true_and, and_true] at hs
      subst hs
      refine cnd_of (fun hlt => ?_) (fun hlt => ?_)
      · have hin : i < n := by have := of_decide_eq_true hlt; omega
        obtain ⟨ad, rfl, hc, u0, u1, u2, u3, u4, u5, u6⟩ := lin_cells h6.row hin
        refine ⟨⟨by omega, by omega⟩, Deref_some rfl ⟨_, _, _, _, _, _, _, hc, fun w7 e7 => ?_⟩⟩
        refine ((Trk.start w6).alloc e7).setAll 0 rfl (l := lineCells F i) (by rfl) (ones rfl) fun w8 T8 => ?_
        have h8 := h6.later T8.to
        have next : ∀ w', LayP w w' (some ad) n cap F b r k1 k2 (iterL F n k) (plc (iterL F n k)) (mapF F n) [] → (∃ j : Nat, [Value.int .i64 (IntKind.i64.wrap ((i : Int) + 1))] = [.int .i64 j] ∧ j ≤ n ∧ LayP w w' (some ad) n cap F b r k1 k2 (iterL F n k) (plc (iterL F n k)) (mapF F n) []) ∧ n - (IntKind.i64.wrap ((i : Int) + 1)).toNat < n - ((i : Int)).toNat := by
          intro w' h'
          rw [i64_in (by omega) (by omega)]
          exact ⟨⟨i + 1, rfl, by omega, h'⟩, by omega⟩
        refine ⟨_, T8.cell 0 rfl rfl, cnd_of (fun h0 => next _ h8) (fun h0 => ?_)⟩
        have h0 := of_decide_eq_false h0
        have hr := wayL_range F hin (iterL F n k)
        refine (fix_way_ok hn hV hin (by omega) (fun j hj => ?_) w8 h8).mono fun e w9 ⟨he, l9⟩ => ⟨_, he, ?_⟩
        · have := plc_range (iterL F n k) j
          omega
        have h9 := h8.later l9
        refine ⟨_, _, _, h9.c2, ⟨by omega, by omega⟩, Deref_some rfl ⟨_, by rw [show ((i : Int)).toNat = i from rfl, addk]; exact h9.long hin, ?_⟩⟩
        change -8 * (n : Int) ≤ plc (iterL F n k) (tgt F n i).toNat - plc (iterL F n k) i ∧ plc (iterL F n k) (tgt F n i).toNat - plc (iterL F n k) i ≤ 8 * n at hr
        refine cnd_of (fun hl => ?_) (fun hl => ?_)
        · rw [i64_in (by omega) (by omega)]
          exact cnd_false (decide_eq_false (by omega)) (cnd_false (decide_eq_false (by omega)) (next _ h9))
        · exact cnd_false (decide_eq_false (by omega)) (cnd_false (decide_eq_false (by omega)) (next _ h9))
      · exact .inl ⟨hV, b, r, k1, k2, _, ⟨⟨k, rfl⟩, ha⟩, rfl, h6⟩
  · exact ⟨_, he, cnd_true rfl (.inr ⟨hV, rfl, l2⟩)⟩
end Go.Proofs.Ytglakmkedoklmaa
