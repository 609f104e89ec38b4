/-
The contracts of the document's answer for lines, first part: which lines may be fixed, where their ways go, places.
Conditions: at most 3000 lines; each number is of its kind.
-/
import Derived.Test.YtglakmkedoklmaaVref29
import Derived.Test.YtglakmkedoklmaaFixG
namespace Go.Proofs.Ytglakmkedoklmaa
open Go Go.Vc Go.RowKit
set_option linter.unusedVariables false
set_option linter.unusedSimpArgs false
set_option maxRecDepth 100000

theorem Trk_add {w0 w w' : World} {L : List Blk} (h : Trk w0 w L) (hl : Later w w') {k : Nat} {cs : List Value} (hk : w.heap.size ≤ k) (hx : Has w' k cs) : Trk w0 w' (L ++ [(k, cs)]) := by
  have h' := h.later hl
  refine ⟨h'.1, ?_, ?_⟩
  · intro x hx'
    rcases List.mem_append.1 hx' with hx' | hx'
    · exact h'.2.1 x hx'
    · obtain rfl := List.mem_singleton.1 hx'
      exact ⟨Nat.le_trans h.1.size hk, hx⟩
  · rw [List.map_append, List.nodup_append]
    refine ⟨h'.2.2, by simp, ?_⟩
    intro a ha b hb
    obtain ⟨x, hx, rfl⟩ := List.mem_map.1 ha
    have := (h.2.1 x hx).2.lt
    simp at hb
    omega
theorem ref29_opposite_ok (op : Int) (w : World) : Calls Try.prog ref29_opposite.N #[u8v op] w (Gives (u8v (oppv op)) w) := by
  refine ref29_opposite.calls ?_
  unfold ref29_opposite.vc
  have r : ∀ x : Int, oppv op = x → Gives (u8v (oppv op)) w (.returned (u8v x)) w := fun x h => ⟨by rw [h], Later.refl _⟩
  unfold oppv at r ⊢
  refine cnd_of (fun h => ?_) (fun h => cnd_of (fun h2 => ?_) (fun h2 => cnd_of (fun h3 => ?_) (fun h3 => ?_)))
  · exact r 29 (if_pos (eq_of_beq h))
  · exact r 28 (by rw [if_neg (by simpa using h), if_pos (eq_of_beq h2)])
  · exact r 31 (by rw [if_neg (by simpa using h), if_neg (by simpa using h2), if_pos (eq_of_beq h3)])
  · exact r 30 (by rw [if_neg (by simpa using h), if_neg (by simpa using h2), if_neg (by simpa using h3)])
theorem ref29_at_ok {A : Option Addr} {n cap : Nat} {F : Nat → Nat → Int} (hn : n ≤ 3000) (w : World) (hR : IntRow w A n linK F) (a : Int) : Calls Try.prog ref29_at.N #[.slice A n cap, i64v a] w (Gives (i64v (firstI (firstAt F a n))) w) := by
  refine ref29_at.calls ?_
  unfold ref29_at.vc
  refine ⟨fun vs w' => ∃ k : Nat, vs = [.int .i64 k] ∧ k ≤ n ∧ firstAt F a k = none ∧ Later w w', fun vs _ => match vs with | [.int _ k] => (n - k.toNat) | _ => 0, ⟨0, rfl, Nat.zero_le _, rfl, Later.refl _⟩, ?_⟩
  rintro g _ w2 ⟨k, hs, hk, hf, l2⟩
  simp only [List.cons.injEq, Value.int.injEq, true_and, and_true] at hs
  subst hs
  refine cnd_of (fun hlt => ?_) (fun hlt => ?_)
  · have hkn : k < n := by have := of_decide_eq_true hlt; omega
    obtain ⟨ad, rfl, ⟨c0, -⟩, -⟩ := lin_cells (hR.later l2) hkn
    refine ⟨⟨by omega, by omega⟩, Deref_some rfl ⟨_, c0, cnd_of (fun he => ?_) (fun he => ?_)⟩⟩
    · refine ⟨?_, l2⟩
      rw [firstAt_of (eq_of_beq he) hf n hkn]; rfl
    · rw [i64_in (by omega) (by omega)]
      refine ⟨⟨k + 1, rfl, by omega, ?_, l2⟩, by simp only; omega⟩
      rw [firstAt, hf]
      simp only
      rw [if_neg (by simpa using he)]
  · have := of_decide_eq_false hlt
    obtain rfl : k = n := by omega
    exact ⟨by rw [hf]; rfl, l2⟩
theorem tgt_nn {F : Nat → Nat → Int} {n i : Nat} (h : 0 ≤ F i 6) : tgt F n i = firstI (firstAt F (F i 6) n) := by unfold tgt; rw [if_neg (by omega)]
set_option maxHeartbeats 3200000 in
theorem ref29_Ways_ok {A : Option Addr} {n cap : Nat} {F : Nat → Nat → Int} (hn : n ≤ 3000) (w : World) (hR : IntRow w A n linK F) :
    Calls Try.prog ref29_Ways.N #[.slice A n cap] w (fun e w' => Later w w' ∧ ((valid F n ∧ ∃ k, e = .returned (pairv (.slice (some ⟨k, 0, none⟩) n n) (.bool true)) ∧ w.heap.size ≤ k ∧ Has w' k (fcells n fun i => i64v (tgt F n i))) ∨
      (¬ valid F n ∧ e = .returned (pairv (.slice none 0 0) (.bool false))))) := by
  refine ref29_Ways.calls ?_
  unfold ref29_Ways.vc
  refine cnd_false (by rw [decide_eq_false]; omega) ?_
  refine RunsV_makeSlice (size := 1) (bytes := 8) (i64v 0) Try.underlying29 (by kernel_rfl) rfl (by decide) (by decide) (by omega) fun b w1 eb l1 hb1 => ⟨_, _, _, rfl, ?_⟩
  have hb1 : Has w1 b (fcells n fun _ => i64v 0) := hb1.of_fcells (fcells_rep n _)
  refine ⟨fun vs w' => ∃ i : Nat, vs = [.int .i64 i] ∧ i ≤ n ∧ (∀ j, j < i → lineV F j ∧ lineT F n j) ∧ Trk w w' [(b, fcells n fun j => if j < i then i64v (tgt F n j) else i64v 0)], fun vs _ => match vs with | [.int _ i] => (n - i.toNat) | _ => 0,
    ⟨0, rfl, Nat.zero_le _, fun j hj => absurd hj (Nat.not_lt_zero j), ?_⟩, ?_⟩
  · have := Trk_add (Trk.start w) l1 (k := b) (by omega) hb1
    simpa using this
  rintro g _ w2 ⟨i, hs, hi, hv, T2⟩
  simp only [List.cons.injEq, Value.int.injEq, true_and, and_true] at hs
  subst hs
  refine cnd_of (fun hlt => ?_) (fun hlt => ?_)
  case refine_2 =>
    have := of_decide_eq_false hlt
    obtain rfl : i = n := by omega
    refine ⟨T2.to, .inl ⟨hv, b, rfl, by omega, (T2.has 0 rfl).of_fcells (fcells_congr fun j hj => if_pos hj)⟩⟩
  have hin : i < n := by have := of_decide_eq_true hlt; omega
  obtain ⟨ad, rfl, hc, u0, u1, u2, u3, u4, u5, u6⟩ := lin_cells (hR.later T2.to) hin
  refine ⟨⟨by omega, by omega⟩, Deref_some rfl ⟨_, _, _, _, _, _, _, hc, fun w3 e3 => ?_⟩⟩
  refine (T2.alloc e3).setAll 1 rfl (l := lineCells F i) (by rfl) (ones rfl) fun w4 T4 => ?_
  refine ⟨_, _, _, _, _, ⟨T4.cell 1 rfl rfl, T4.cell 1 rfl rfl, T4.cell 1 rfl rfl, T4.cell 1 rfl rfl, T4.cell 1 rfl rfl, trivial⟩, ?_⟩
  refine (ref02_Encode_ok _ _ _ _ _ u1 u2 u3 u4 u5 w4).mono fun e w5 ⟨he, l5⟩ => ?_
  have T5 := T4.later l5
  obtain ⟨x, hx, er, her⟩ : ∃ x er, encR (encL F i) = pairv (u32v x) (i64v er) ∧ (er != 0) = !(encL F i).isSome := by
    cases encL F i with
    | none => exact ⟨0, 2, rfl, rfl⟩
    | some v => exact ⟨v, 0, rfl, rfl⟩
  have he' : e = .returned (pairv (u32v x) (i64v hx)) := by rw [← er]; exact he
  refine ⟨_, _, he', ?_⟩
  have good : Prop := True
  refine ⟨fun vs w' => ∃ t : Bool, vs = [.bool t] ∧ (t = false ↔ ((encL F i).isSome = true ∧ -1 ≤ F i 0 ∧ -1 ≤ F i 6 ∧ (0 ≤ F i 0 → firstAt F (F i 0) i = none))) ∧ Later w5 w', ?_, ?_⟩
  · refine cnd_of (fun h => ?_) (fun h => ⟨_, T5.cell 1 rfl rfl, cnd_of (fun h2 => ?_) (fun h2 => ⟨_, T5.cell 1 rfl rfl, cnd_of (fun h3 => ?_) (fun h3 => ⟨_, T5.cell 1 rfl rfl, cnd_of (fun h4 => ?_) (fun h4 => ?_)⟩)⟩)⟩)
    · refine ⟨true, rfl, ⟨fun h => (by cases h), fun h' => ?_⟩, Later.refl _⟩
      rw [her, h'.1] at h; cases h
    · have := of_decide_eq_true h2
      exact ⟨true, rfl, ⟨fun h => (by cases h), fun h' => by have := h'.2.1; omega⟩, Later.refl _⟩
    · have := of_decide_eq_true h3
      exact ⟨true, rfl, ⟨fun h => (by cases h), fun h' => by have := h'.2.2.1; omega⟩, Later.refl _⟩
    · refine ⟨_, T5.cell 1 rfl rfl, (ref29_at_ok hn w5 (hR.later T5.to) (F i 0)).mono fun e w6 ⟨he, l6⟩ => ⟨_, he, _, rfl, ?_, l6⟩⟩
      have h2 := of_decide_eq_false h2
      have h3 := of_decide_eq_false h3
      have h4 := of_decide_eq_true h4
      rw [her] at h
      have hs : (encL F i).isSome = true := by simpa using h
      constructor
      · intro hb
        refine ⟨hs, by omega, by omega, fun _ => ?_⟩
        simp only [bne_eq_false_iff_eq] at hb
        cases hf : firstAt F (F i 0) n with
        | none => rw [hf] at hb; simp only [firstI] at hb; omega
        | some j =>
          rw [hf] at hb
          simp only [firstI] at hb
          obtain rfl : j = i := by omega
          exact (firstAt_some hf).2.2
      · intro hh
        rw [firstAt_of rfl (hh.2.2.2 h4) n hin]
        simp [firstI]
    · have h2 := of_decide_eq_false h2
      have h3 := of_decide_eq_false h3
      have h4 := of_decide_eq_false h4
      rw [her] at h
      exact ⟨false, rfl, ⟨fun _ => ⟨by simpa using h, by omega, by omega, fun h => absurd h h4⟩, fun _ => rfl⟩, Later.refl _⟩
  rintro g2 _ w6 ⟨t, hs, ht, l6⟩
  simp only [List.cons.injEq, Value.bool.injEq, and_true] at hs
  subst hs
  have T6 := T5.later l6
  refine cnd_of (fun h => ?_) (fun h => ?_)
  · refine ⟨T6.to, .inr ⟨fun hV => ?_, rfl⟩⟩
    have := (hV i hin).1
    have := ht.2 ⟨this.1, this.2.1, this.2.2.1, this.2.2.2.1⟩
    rw [h] at this; cases this
  obtain ⟨g1, g2', g3, g4⟩ := ht.1 h
  have dec : n - (IntKind.i64.wrap ((i : Int) + 1)).toNat < n - ((i : Int)).toNat := by
    rw [i64_in (by omega) (by omega)]; omega
  have next : ∀ {v : Int} {w' : World} {cs : List Value} {L : List Blk}, (0 ≤ F i 6 → 28 ≤ F i 1 ∧ F i 1 ≤ 32 ∧ F i 5 = 0) → lineT F n i → v = tgt F n i → (cs = fcells n fun j => if j = i then i64v v else if j < i then i64v (tgt F n j) else i64v 0) → Trk w w' ((b, cs) :: L) →
      (∃ k : Nat, [Value.int .i64 (IntKind.i64.wrap ((i : Int) + 1))] = [.int .i64 (k : Nat)] ∧ k ≤ n ∧ (∀ j, j < k → lineV F j ∧ lineT F n j) ∧ Trk w w' [(b, fcells n fun j => if j < k then i64v (tgt F n j) else i64v 0)]) ∧ n - (IntKind.i64.wrap ((i : Int) + 1)).toNat < n - ((i : Int)).toNat := by
    rintro v w' cs L hT hT2 rfl rfl T'
    refine ⟨⟨i + 1, by rw [i64_in (by omega) (by omega)]; rfl, by omega, ?_, ?_⟩, dec⟩
    · intro j hj
      by_cases hji : j = i
      · subst hji; exact ⟨⟨g1, g2', g3, g4, hT⟩, hT2⟩
      · exact hv j (by omega)
    · have := Trk.front (L := [(b, _)]) (M := L) T'
      refine ⟨this.1, ?_, this.2.2⟩
      intro x hx
      have hx' := this.2.1 _ (List.mem_singleton.2 rfl)
      obtain rfl := List.mem_singleton.1 hx
      refine ⟨hx'.1, hx'.2.of_fcells (fcells_congr fun j hj => ?_)⟩
      by_cases hji : j = i
      · subst hji; simp
      · rw [if_neg hji]
        by_cases hji' : j < i
        · rw [if_pos hji', if_pos (by omega)]
        · rw [if_neg hji', if_neg (by omega)]
  refine ⟨⟨by omega, by omega⟩, Deref_some rfl ?_⟩
  rw [show ((i : Int)).toNat = i from rfl, addk]
  refine T6.set1 0 rfl (by rw [fcells_length]; exact hin) fun w7 T7 => ?_
  rw [fcells_set] at T7
  refine ⟨_, T7.cell 1 rfl rfl, cnd_of (fun h6 => ?_) (fun h6 => ?_)⟩
  · have h6 := of_decide_eq_true h6
    refine ⟨_, T7.cell 1 rfl rfl, (ref29_at_ok hn w7 (hR.later T7.to) (F i 6)).mono fun e w8 ⟨he, l8⟩ => ⟨_, he, ⟨by omega, by omega⟩, Deref_some rfl ?_⟩⟩
    rw [addk]
    have T8 := T7.later l8
    refine T8.set1 0 rfl (by rw [fcells_length]; exact hin) fun w9 T9 => ?_
    simp only [List.set_cons_zero, fcells_set] at T9
    have hcs : (fcells n fun j => if j = i then i64v (firstI (firstAt F (F i 6) n)) else if j = i then i64v (-1) else if j < i then i64v (tgt F n j) else i64v 0) = fcells n fun j => if j = i then i64v (firstI (firstAt F (F i 6) n)) else if j < i then i64v (tgt F n j) else i64v 0 :=
      fcells_congr fun j hj => by by_cases h : j = i <;> simp [h]
    rw [hcs] at T9
    refine ⟨⟨by omega, by omega⟩, Deref_some rfl ⟨_, by rw [addk]; exact T9.cell 0 rfl (by rw [fcells_get _ hin, if_pos rfl]), cnd_of (fun h7 => ?_) (fun h7 => ?_)⟩⟩
    · have h7 := of_decide_eq_true h7
      refine ⟨T9.to, .inr ⟨fun hV => ?_, rfl⟩⟩
      obtain ⟨j, _, _, hj⟩ := tgt_pos hV hin h6
      rw [hj] at h7
      simp only [firstI] at h7
      omega
    have h7 := of_decide_eq_false h7
    refine ⟨_, T9.cell 1 rfl rfl, cnd_of (fun h8 => ?_) (fun h8 => ?_)⟩
    · have h8 := of_decide_eq_true h8
      refine ⟨T9.to, .inr ⟨fun hV => ?_, rfl⟩⟩
      have := ((hV i hin).1.2.2.2.2 h6).1
      omega
    have h8 := of_decide_eq_false h8
    refine ⟨_, T9.cell 1 rfl rfl, cnd_of (fun h9 => ?_) (fun h9 => ?_)⟩
    · have h9 := of_decide_eq_true h9
      refine ⟨T9.to, .inr ⟨fun hV => ?_, rfl⟩⟩
      have := ((hV i hin).1.2.2.2.2 h6).2.1
      omega
    have h9 := of_decide_eq_false h9
    refine ⟨_, T9.cell 1 rfl rfl, cnd_of (fun h10 => ?_) (fun h10 => ?_)⟩
    · refine ⟨T9.to, .inr ⟨fun hV => ?_, rfl⟩⟩
      have := ((hV i hin).1.2.2.2.2 h6).2.2
      rw [this] at h10; cases h10
    refine next (fun _ => ⟨by omega, by omega, by simpa using h10⟩) ?_ (tgt_nn h6).symm rfl T9
    intro _
    cases hf : firstAt F (F i 6) n with
    | none => rw [hf] at h7; simp only [firstI] at h7; omega
    | some j => rfl
  · have h6 := of_decide_eq_false h6
    exact next (fun h => absurd h h6) (fun h => absurd h h6) (tgt_neg (by omega)).symm rfl T7
theorem ref29_places_ok {A : Option Addr} {n cap cap' kl : Nat} {L : Nat → Bool} (hn : n ≤ 3000) (w : World) (hL : Has w kl (fcells n fun i => .bool (L i))) :
    Calls Try.prog ref29_places.N #[.slice A n cap, .slice (some ⟨kl, 0, none⟩) n cap'] w (fun e w' => Later w w' ∧ ∃ k, e = .returned (.slice (some ⟨k, 0, none⟩) n n) ∧ w.heap.size ≤ k ∧ Has w' k (fcells n fun i => i64v (plc L i))) := by
  refine ref29_places.calls ?_
  unfold ref29_places.vc
  refine RunsV_makeSlice (size := 1) (bytes := 8) (i64v 0) Try.underlying29 (by kernel_rfl) rfl (by decide) (by decide) (by omega) fun b w1 eb l1 hb1 => ⟨_, _, _, rfl, ?_⟩
  have hb1 : Has w1 b (fcells n fun _ => i64v 0) := hb1.of_fcells (fcells_rep n _)
  refine ⟨fun vs w' => ∃ i : Nat, vs = [.int .i64 (plc L i), .int .i64 i] ∧ i ≤ n ∧ Trk w w' [(b, fcells n fun j => if j < i then i64v (plc L j) else i64v 0)], fun vs _ => match vs with | [_, .int _ i] => (n - i.toNat) | _ => 0, ⟨0, rfl, Nat.zero_le _, ?_⟩, ?_⟩
  · have := Trk_add (Trk.start w) l1 (k := b) (by omega) hb1
    simpa using this
  rintro g _ _ w2 ⟨i, hs, hi, T2⟩
  simp only [List.cons.injEq, Value.int.injEq, true_and, and_true] at hs
  obtain ⟨rfl, rfl⟩ := hs
  have hr := plc_range L i
  refine cnd_of (fun hlt => ?_) (fun hlt => ?_)
  · have hin : i < n := by have := of_decide_eq_true hlt; omega
    refine ⟨⟨by omega, by omega⟩, Deref_some rfl ?_⟩
    rw [show ((i : Int)).toNat = i from rfl, addk]
    refine T2.set1 0 rfl (by rw [fcells_length]; exact hin) fun w3 T3 => ?_
    rw [fcells_set] at T3
    have e3 : (fcells n fun j => if j = i then i64v (plc L i) else if j < i then i64v (plc L j) else i64v 0) = fcells n fun j => if j < i + 1 then i64v (plc L j) else i64v 0 := fcells_congr fun j hj => by
      by_cases h : j = i
      · subst h; simp
      · rw [if_neg h]
        by_cases h' : j < i
        · rw [if_pos h', if_pos (by omega)]
        · rw [if_neg h', if_neg (by omega)]
    rw [show (i64v (plc L i)) = .int .i64 (plc L i) from rfl] at e3
    simp only [List.set_cons_zero] at T3
    rw [e3] at T3
    refine ⟨⟨by omega, by omega⟩, Deref_some rfl ⟨_, by rw [addk]; exact (hL.later T3.to).cell (fcells_get _ hin), cnd_of (fun h => ?_) (fun h => ?_)⟩⟩
    · rw [i64_in (x := plc L i + 4) (by omega) (by omega), i64_in (by omega) (by omega), i64_in (by omega) (by omega)]
      refine ⟨⟨i + 1, ?_, by omega, T3⟩, by simp only; omega⟩
      rw [plc, if_pos h]; rfl
    · rw [i64_in (by omega) (by omega), i64_in (by omega) (by omega)]
      refine ⟨⟨i + 1, ?_, by omega, T3⟩, by simp only; omega⟩
      rw [plc, if_neg (by rw [h]; decide)]; simp
  · have := of_decide_eq_false hlt
    obtain rfl : i = n := by omega
    exact ⟨T2.to, b, rfl, by omega, (T2.has 0 rfl).of_fcells (fcells_congr fun j hj => if_pos hj)⟩
end Go.Proofs.Ytglakmkedoklmaa
