/-
The contracts of package fix: which lines it lets in, where it lays them, which it makes long.
Conditions: at most 3000 lines; each number is of its kind.
-/
import Derived.Test.YtglakmkedoklmaaVfix
import Derived.Test.YtglakmkedoklmaaFixM
import Derived.Test.YtglakmkedoklmaaVcLoc
namespace Go.Proofs.Ytglakmkedoklmaa
open Go Go.Vc Go.RowKit
set_option linter.unusedVariables false
set_option linter.unusedSimpArgs false
set_option maxRecDepth 100000

theorem lin_cells {w : World} {A : Option Addr} {n : Nat} {F : Nat → Nat → Int} (h : IntRow w A n linK F) {i : Nat} (hi : i < n) : ∃ ad, A = some ad ∧
    (w.cell? (ad.add (i * 7)) = some (i64v (F i 0)) ∧ w.cell? ((ad.add (i * 7)).add 1) = some (u8v (F i 1)) ∧ w.cell? ((ad.add (i * 7)).add 2) = some (u8v (F i 2)) ∧ w.cell? ((ad.add (i * 7)).add 3) = some (u8v (F i 3)) ∧ w.cell? ((ad.add (i * 7)).add 4) = some (u8v (F i 4)) ∧ w.cell? ((ad.add (i * 7)).add 5) = some (i64v (F i 5)) ∧ w.cell? ((ad.add (i * 7)).add 6) = some (i64v (F i 6)) ∧ True) ∧
    I64 (F i 0) ∧ U8 (F i 1) ∧ U8 (F i 2) ∧ U8 (F i 3) ∧ U8 (F i 4) ∧ I64 (F i 5) ∧ I64 (F i 6) := by
  obtain ⟨ad, h1, h2⟩ := h i hi
  have c0 := h2 0 .i64 rfl
  have c1 := h2 1 .u8 rfl
  have c2 := h2 2 .u8 rfl
  have c3 := h2 3 .u8 rfl
  have c4 := h2 4 .u8 rfl
  have c5 := h2 5 .i64 rfl
  have c6 := h2 6 .i64 rfl
  exact ⟨ad, h1, ⟨c0.1, c1.1, c2.1, c3.1, c4.1, c5.1, c6.1, trivial⟩, wf_i64 c0.2, wf_u8 c1.2, wf_u8 c2.2, wf_u8 c3.2, wf_u8 c4.2, wf_i64 c5.2, wf_i64 c6.2⟩
abbrev lineCells (F : Nat → Nat → Int) (k : Nat) : List Value := [i64v (F k 0), u8v (F k 1), u8v (F k 2), u8v (F k 3), u8v (F k 4), i64v (F k 5), i64v (F k 6)]
/-- What the layout holds. -/
abbrev layCells (A : Option Addr) (n cap : Nat) (r k1 k2 : Nat) : List Value := [.slice A n cap, .map (some r), .slice (some ⟨k1, 0, none⟩) n n, .slice (some ⟨k2, 0, none⟩) n n]
structure LayP (w0 w : World) (A : Option Addr) (n cap : Nat) (F : Nat → Nat → Int) (b r k1 k2 : Nat) (L : Nat → Bool) (p : Nat → Int) (m : Int → Option Value) (X : List Blk) : Prop where
  trk : Trk w0 w ((b, layCells A n cap r k1 k2) :: (k1, fcells n fun i => .bool (L i)) :: (k2, fcells n fun i => i64v (p i)) :: X)
  map : MapI w r .i64 m
  new : w0.heap.size ≤ r
  apart : r ≠ b ∧ r ≠ k1 ∧ r ≠ k2
  row : IntRow w A n linK F
theorem LayP.later {w0 w w' : World} {A : Option Addr} {n cap : Nat} {F : Nat → Nat → Int} {b r k1 k2 : Nat} {L : Nat → Bool} {p : Nat → Int} {m : Int → Option Value} {X : List Blk} (h : LayP w0 w A n cap F b r k1 k2 L p m X) (hl : Later w w') : LayP w0 w' A n cap F b r k1 k2 L p m X :=
  ⟨h.trk.later hl, h.map.later hl, h.new, h.apart, h.row.later hl⟩
section
variable {w0 w : World} {A : Option Addr} {n cap : Nat} {F : Nat → Nat → Int} {b r k1 k2 : Nat} {L : Nat → Bool} {p : Nat → Int} {m : Int → Option Value} {X : List Blk}
theorem LayP.c0 (h : LayP w0 w A n cap F b r k1 k2 L p m X) : w.cell? ⟨b, 0, none⟩ = some (.slice A n cap) := h.trk.cell 0 rfl rfl
theorem LayP.c1 (h : LayP w0 w A n cap F b r k1 k2 L p m X) : w.cell? ⟨b, 1, none⟩ = some (.map (some r)) := h.trk.cell 0 rfl rfl
theorem LayP.c2 (h : LayP w0 w A n cap F b r k1 k2 L p m X) : w.cell? ⟨b, 2, none⟩ = some (.slice (some ⟨k1, 0, none⟩) n n) := h.trk.cell 0 rfl rfl
theorem LayP.c3 (h : LayP w0 w A n cap F b r k1 k2 L p m X) : w.cell? ⟨b, 3, none⟩ = some (.slice (some ⟨k2, 0, none⟩) n n) := h.trk.cell 0 rfl rfl
theorem LayP.long (h : LayP w0 w A n cap F b r k1 k2 L p m X) {i : Nat} (hi : i < n) : w.cell? ⟨k1, i, none⟩ = some (.bool (L i)) := h.trk.cell 1 rfl (fcells_get _ hi)
theorem LayP.place (h : LayP w0 w A n cap F b r k1 k2 L p m X) {i : Nat} (hi : i < n) : w.cell? ⟨k2, i, none⟩ = some (i64v (p i)) := h.trk.cell 2 rfl (fcells_get _ hi)
/-- One line's flag is turned. -/
theorem LayP.setL (h : LayP w0 w A n cap F b r k1 k2 L p m X) {i : Nat} (hi : i < n) (v : Bool) {K : World → Prop} (hK : ∀ w', LayP w0 w' A n cap F b r k1 k2 (fun j => if j = i then v else L j) p m X → K w') (hR : IntRow w0 A n linK F) :
    ((w.cell? ⟨k1, i, none⟩).isSome = true ∧ w.frozen? ⟨k1, i, none⟩ = false) ∧ ∀ w', w' = w.setCell ⟨k1, i, none⟩ (.bool v) → K w' := by
  refine ⟨⟨by rw [h.long hi]; rfl, (h.trk.has 1 rfl).frozen i⟩, fun w' e => hK w' ?_⟩
  have ht := h.trk.setCell 1 (i := i) (.bool v) rfl
  rw [← e] at ht
  refine ⟨?_, e ▸ h.map.setCell _ _ (Ne.symm h.apart.2.1), h.new, h.apart, hR.later ht.1⟩
  simp only [List.set_cons_succ, List.set_cons_zero, fcells_set] at ht
  have e2 : (fcells n fun j => if j = i then Value.bool v else Value.bool (L j)) = fcells n fun j => .bool (if j = i then v else L j) := fcells_congr fun j hj => by split <;> rfl
  rw [e2] at ht
  exact ht
theorem LayP.setP (h : LayP w0 w A n cap F b r k1 k2 L p m X) {i : Nat} (hi : i < n) (v : Int) {K : World → Prop} (hK : ∀ w', LayP w0 w' A n cap F b r k1 k2 L (fun j => if j = i then v else p j) m X → K w') (hR : IntRow w0 A n linK F) :
    ((w.cell? ⟨k2, i, none⟩).isSome = true ∧ w.frozen? ⟨k2, i, none⟩ = false) ∧ ∀ w', w' = w.setCell ⟨k2, i, none⟩ (i64v v) → K w' := by
  refine ⟨⟨by rw [h.place hi]; rfl, (h.trk.has 2 rfl).frozen i⟩, fun w' e => hK w' ?_⟩
  have ht := h.trk.setCell 2 (i := i) (i64v v) rfl
  rw [← e] at ht
  refine ⟨?_, e ▸ h.map.setCell _ _ (Ne.symm h.apart.2.2), h.new, h.apart, hR.later ht.1⟩
  simp only [List.set_cons_succ, List.set_cons_zero, fcells_set] at ht
  have e2 : (fcells n fun j => if j = i then i64v v else i64v (p j)) = fcells n fun j => i64v (if j = i then v else p j) := fcells_congr fun j hj => by split <;> rfl
  rw [e2] at ht
  exact ht
end
theorem addk (b i : Nat) : (Addr.mk b 0 none).add (i * 1) = ⟨b, i, none⟩ := by rw [add_block]; simp
theorem fix_jumps_ok (o d a b v : Int) (w : World) : Calls Try.prog fix_jumps.N #[insv o d a b v] w (Gives (.bool (decide (28 ≤ o) && (decide (o ≤ 32) && (v == 0)))) w) := by
  refine fix_jumps.calls ?_
  unfold fix_jumps.vc
  intro w1 e1
  have L := (Trk.start w).alloc e1
  refine ⟨_, L.cell 0 rfl rfl, cnd_of (fun h => ?_) (fun h => ?_)⟩
  · have h := of_decide_eq_true h
    refine ⟨_, L.cell 0 rfl rfl, cnd_of (fun h2 => ?_) (fun h2 => ?_)⟩
    · have h2 := of_decide_eq_true h2
      refine ⟨_, L.cell 0 rfl rfl, ?_, L.to⟩
      rw [decide_eq_true (show 28 ≤ o from h), decide_eq_true h2]; rfl
    · have h2 := of_decide_eq_false h2
      refine ⟨?_, L.to⟩
      rw [decide_eq_false h2]; simp
  · have h := of_decide_eq_false h
    refine ⟨?_, L.to⟩
    rw [decide_eq_false (show ¬ 28 ≤ o from h)]; simp
theorem fix_lay_ok {w0 : World} {A : Option Addr} {n cap : Nat} {F : Nat → Nat → Int} {b r k1 k2 : Nat} {L : Nat → Bool} {p : Nat → Int} {m : Int → Option Value} {X : List Blk} (hn : n ≤ 3000) (hR : IntRow w0 A n linK F) (w : World) (h : LayP w0 w A n cap F b r k1 k2 L p m X) :
    Calls Try.prog sacristy_fix_layout_lay.N #[.pointer (some ⟨b, 0, none⟩)] w (fun e w' => e = .returned (.tuple #[]) ∧ LayP w0 w' A n cap F b r k1 k2 L (plc L) m X) := by
  refine sacristy_fix_layout_lay.calls ?_
  unfold sacristy_fix_layout_lay.vc
  refine Deref_some rfl ⟨_, _, _, h.c0, ?_⟩
  refine ⟨fun vs w' => ∃ k : Nat, vs = [.int .i64 (plc L k), .int .i64 k] ∧ k ≤ n ∧ LayP w0 w' A n cap F b r k1 k2 L (fun j => if j < k then plc L j else p j) m X, fun vs _ => match vs with | [_, .int _ k] => (n - k.toNat) | _ => 0, ⟨0, rfl, Nat.zero_le _, by simpa using h⟩, ?_⟩
  rintro g _ _ w2 ⟨k, hs, hk, h2⟩
  simp only [List.cons.injEq, Value.int.injEq, true_and, and_true] at hs
  obtain ⟨rfl, rfl⟩ := hs
  have hr := plc_range L k
  refine cnd_of (fun hlt => ?_) (fun hlt => ?_)
  · have hkn : k < n := by have := of_decide_eq_true hlt; omega
    refine Deref_some rfl ⟨_, _, _, h2.c3, ⟨by omega, by omega⟩, Deref_some rfl ?_⟩
    rw [show ((k : Int)).toNat = k from rfl, addk]
    refine h2.setP hkn _ (fun w3 h3 => ?_) hR
    have e3 : (fun j => if j = k then plc L k else if j < k then plc L j else p j) = fun j => if j < k + 1 then plc L j else p j := by
      funext j
      by_cases hj : j = k
      · subst hj; simp
      · rw [if_neg hj]
        by_cases hjk : j < k
        · rw [if_pos hjk, if_pos (by omega)]
        · rw [if_neg hjk, if_neg (by omega)]
    rw [e3] at h3
    refine Deref_some rfl ⟨_, _, _, h3.c2, ⟨by omega, by omega⟩, Deref_some rfl ?_⟩
    refine ⟨_, by rw [addk]; exact h3.long hkn, cnd_of (fun hl => ?_) (fun hl => ?_)⟩
    · rw [i64_in (x := plc L k + 4) (by omega) (by omega), i64_in (by omega) (by omega), i64_in (by omega) (by omega)]
      refine ⟨⟨k + 1, ?_, by omega, h3⟩, by simp only; omega⟩
      rw [plc, if_pos hl]; rfl
    · rw [i64_in (by omega) (by omega), i64_in (by omega) (by omega)]
      refine ⟨⟨k + 1, ?_, by omega, h3⟩, by simp only; omega⟩
      rw [plc, if_neg (by rw [hl]; decide)]
      simp
  · have := of_decide_eq_false hlt
    obtain rfl : k = n := by omega
    refine ⟨rfl, ⟨?_, h2.map, h2.new, h2.apart, h2.row⟩⟩
    have e2 : (fcells k fun j => i64v (if j < k then plc L j else p j)) = fcells k fun j => i64v (plc L j) := fcells_congr fun j hj => by rw [if_pos hj]
    have := h2.trk
    rw [e2] at this
    exact this
theorem run_labels {r : Nat} {m : Int → Option Value} {w : World} (h : MapI w r .i64 m) (a : Int) (ok : Bool) : (Instr.lookup 49 (.map (some r)) (.int .i64 a) ok).run Try.prog w = .ok (if ok then .tuple #[(m a).getD (i64v 0), .bool (m a).isSome] else (m a).getD (i64v 0)) w :=
  MapI.run_lookup (z := i64v 0) Try.underlying49 Try.underlying3 (fun w => by kernel_rfl) h a ok
theorem fix_way_ok {w0 : World} {A : Option Addr} {n cap : Nat} {F : Nat → Nat → Int} {b r k1 k2 : Nat} {L : Nat → Bool} {p : Nat → Int} {X : List Blk} (hn : n ≤ 3000) (hV : valid F n) {i : Nat} (hi : i < n) (ht : 0 ≤ F i 6) (hp : ∀ j, j < n → 0 ≤ p j ∧ p j ≤ 24000) (w : World) (h : LayP w0 w A n cap F b r k1 k2 L p (mapF F n) X) :
    Calls Try.prog sacristy_fix_layout_way.N #[.pointer (some ⟨b, 0, none⟩), i64v i] w (Gives (i64v (p (tgt F n i).toNat - p i)) w) := by
  refine sacristy_fix_layout_way.calls ?_
  unfold sacristy_fix_layout_way.vc
  obtain ⟨ad, rfl, ⟨c0, c1, c2, c3, c4, c5, c6, -⟩, -⟩ := lin_cells h.row hi
  obtain ⟨j, hj1, hj2, hj3⟩ := tgt_pos hV hi ht
  refine Deref_some rfl ⟨_, _, _, fun w' h' => (h.later h').c3, Deref_some rfl ⟨_, fun w' h' => (h.later h').c1, Deref_some rfl ⟨_, _, _, fun w' h' => (h.later h').c0, ⟨by omega, by omega⟩, Deref_some rfl ⟨_, fun w' h' => h'.cell_some c6, j, fun w' h' => ?_, ⟨by omega, by omega⟩, Deref_some rfl ⟨p j, fun w' h' => ?_, Deref_some rfl ⟨_, _, _, fun w' h' => (h.later h').c3, ⟨by omega, by omega⟩, Deref_some rfl ⟨p i, fun w' h' => ?_, fun w' h' => ⟨?_, h'⟩⟩⟩⟩⟩⟩⟩⟩
  · rw [run_labels (h.later h').map, mapF_get ht, hj3]; rfl
  · rw [show ((j : Int)).toNat = j from rfl, addk]; exact (h.later h').place hj2
  · rw [show ((i : Int)).toNat = i from rfl, addk]; exact (h.later h').place hi
  · have h1 := hp j hj2
    have h2 := hp i hi
    rw [i64_in (by omega) (by omega), hj1, show ((j : Int)).toNat = j from rfl]
theorem fix_short_ok {w0 : World} {A : Option Addr} {n cap : Nat} {F : Nat → Nat → Int} {b r k1 k2 c : Nat} {L L' : Nat → Bool} {X : List Blk} (hn : n ≤ 3000) (hV : valid F n) {i : Nat} (hi : i < n) (ht : 0 ≤ F i 6) (w : World) (h : LayP w0 w A n cap F b r k1 k2 L' (plc L) (mapF F n) X) (hc : w.cell? ⟨c, 0, none⟩ = some (.pointer (some ⟨b, 0, none⟩))) :
    Calls Try.prog sacristy_fix_layout_grow_1.N #[i64v i, .pointer (some ⟨c, 0, none⟩)] w (Gives (.bool (!(decide (wayL F n L i < -4096) || decide (wayL F n L i > 4094)))) w) := by
  refine sacristy_fix_layout_grow_1.calls ?_
  unfold sacristy_fix_layout_grow_1.vc
  refine Deref_some rfl ⟨_, hc, (fix_way_ok hn hV hi ht (fun j hj => ?_) w h).mono fun e w1 ⟨he, l1⟩ => ⟨_, he, ?_⟩⟩
  · have := plc_range L j
    omega
  · show cnd (decide (wayL F n L i < -4096)) _ _
    refine cnd_of (fun hh => ⟨?_, l1⟩) (fun hh => ⟨?_, l1⟩)
    · rw [hh]; rfl
    · rw [hh]; rfl
set_option maxHeartbeats 1600000 in
theorem fix_grow_ok {w0 : World} {A : Option Addr} {n cap : Nat} {F : Nat → Nat → Int} {b r k1 k2 : Nat} {L : Nat → Bool} {p : Nat → Int} {X : List Blk} (hn : n ≤ 3000) (hV : valid F n) (hR : IntRow w0 A n linK F) (w : World) (h : LayP w0 w A n cap F b r k1 k2 L p (mapF F n) X) :
    Calls Try.prog sacristy_fix_layout_grow.N #[.pointer (some ⟨b, 0, none⟩)] w (fun e w' => e = .returned (.bool (anyL F n L n)) ∧ LayP w0 w' A n cap F b r k1 k2 (grown F n L) (plc L) (mapF F n) X) := by
  refine sacristy_fix_layout_grow.calls ?_
  unfold sacristy_fix_layout_grow.vc
  intro w1 e1
  have hl1 : Later w w1 := e1 ▸ Later.alloc' w _
  have T1 := h.trk.alloc e1
  have h1 : LayP w0 w1 A n cap F b r k1 k2 L p (mapF F n) (X ++ [(w.heap.size, [.pointer (some ⟨b, 0, none⟩)])]) := ⟨T1, h.map.later hl1, h.new, h.apart, h.row.later hl1⟩
  have hcap : ∀ {w' : World} {L' : Nat → Bool} {p' : Nat → Int}, LayP w0 w' A n cap F b r k1 k2 L' p' (mapF F n) (X ++ [(w.heap.size, [.pointer (some ⟨b, 0, none⟩)])]) → w'.cell? ⟨w.heap.size, 0, none⟩ = some (.pointer (some ⟨b, 0, none⟩)) := fun h => h.trk.cell (cs := [.pointer (some ⟨b, 0, none⟩)]) (X.length + 1 + 1 + 1) (by simp only [List.getElem?_cons_succ]; rw [List.getElem?_append_right (Nat.le_refl _), Nat.sub_self]; rfl) rfl
  refine ⟨_, hcap h1, (fix_lay_ok hn hR w1 h1).mono fun e w2 ⟨he, h2⟩ => ⟨he, _, hcap h2, Deref_some rfl ⟨_, _, _, h2.c0, ?_⟩⟩⟩
  refine ⟨fun vs w' => ∃ k : Nat, vs = [.bool (anyL F n L k), .int .i64 k] ∧ k ≤ n ∧ LayP w0 w' A n cap F b r k1 k2 (mid F n L k) (plc L) (mapF F n) (X ++ [(w.heap.size, [.pointer (some ⟨b, 0, none⟩)])]), fun vs _ => match vs with | [_, .int _ k] => (n - k.toNat) | _ => 0, ⟨0, rfl, Nat.zero_le _, by rw [mid_zero]; exact h2⟩, ?_⟩
  rintro g _ _ w3 ⟨k, hs, hk, h3⟩
  simp only [List.cons.injEq, Value.int.injEq, Value.bool.injEq, true_and, and_true] at hs
  obtain ⟨rfl, rfl⟩ := hs
  refine cnd_of (fun hlt => ?_) (fun hlt => ?_)
  · have hkn : k < n := by have := of_decide_eq_true hlt; omega
    obtain ⟨ad, rfl, hc, u0, u1, u2, u3, u4, u5, u6⟩ := lin_cells h3.row hkn
    refine ⟨⟨by omega, by omega⟩, Deref_some rfl ⟨_, _, _, _, _, _, _, hc, fun w4 e4 => ?_⟩⟩
    refine ((Trk.start w3).alloc e4).setAll 0 rfl (l := lineCells F k) (by rfl) (ones rfl) fun w5 T5 => ?_
    have h5 := h3.later T5.to
    have no : longer F n L k = false → ∀ w', LayP w0 w' (some ad) n cap F b r k1 k2 (mid F n L k) (plc L) (mapF F n) (X ++ [(w.heap.size, [.pointer (some ⟨b, 0, none⟩)])]) →
        ∃ j : Nat, [Value.bool (anyL F n L k), .int .i64 (IntKind.i64.wrap ((k : Int) + 1))] = [.bool (anyL F n L j), .int .i64 j] ∧ j ≤ n ∧ LayP w0 w' (some ad) n cap F b r k1 k2 (mid F n L j) (plc L) (mapF F n) (X ++ [(w.heap.size, [.pointer (some ⟨b, 0, none⟩)])]) := by
      intro hl w' h'
      refine ⟨k + 1, ?_, by omega, mid_no hl ▸ h'⟩
      rw [i64_in (by omega) (by omega), anyL, hl, Bool.or_false]; rfl
    have dec : n - (IntKind.i64.wrap ((k : Int) + 1)).toNat < n - ((k : Int)).toNat := by
      rw [i64_in (by omega) (by omega)]; omega
    refine ⟨_, T5.cell 0 rfl rfl, cnd_of (fun ht => ?_) (fun ht => ?_)⟩
    · have ht := of_decide_eq_true ht
      refine ⟨_, T5.cell 0 rfl rfl, cnd_of (fun hj => ?_) (fun hj => ?_)⟩
      · refine ⟨_, hcap h5, Deref_some rfl ⟨_, _, _, h5.c2, ⟨by omega, by omega⟩, Deref_some rfl ?_⟩⟩
        refine ⟨_, by rw [show ((k : Int)).toNat = k from rfl, addk]; exact h5.long hkn, cnd_of (fun hl => ?_) (fun hl => ?_)⟩
        · refine (fix_short_ok hn hV hkn ht w5 h5 (hcap h5)).mono fun e w6 ⟨he, l6⟩ => ⟨_, he, ?_⟩
          have h6 := h5.later l6
          have hlong : longer F n L k = (decide (wayL F n L k < -4096) || decide (wayL F n L k > 4094)) := by
            unfold longer
            rw [mid_at] at hl
            rw [hl, decide_eq_true ht, hj]; rfl
          refine cnd_of (fun hw => ?_) (fun hw => ?_)
          · rw [Bool.not_not, ← hlong] at hw
            refine ⟨_, hcap h6, Deref_some rfl ⟨_, _, _, h6.c2, ⟨by omega, by omega⟩, Deref_some rfl ?_⟩⟩
            rw [show ((k : Int)).toNat = k from rfl, addk]
            refine h6.setL hkn true (fun w7 h7 => ?_) hR
            rw [mid_yes hkn hw] at h7
            refine ⟨⟨k + 1, ?_, by omega, h7⟩, dec⟩
            rw [i64_in (by omega) (by omega), anyL, hw, Bool.or_true]; rfl
          · rw [Bool.not_not, ← hlong] at hw
            exact ⟨no hw _ h6, dec⟩
        · refine ⟨no ?_ _ h5, dec⟩
          rw [mid_at] at hl
          unfold longer
          rw [hl]; simp
      · refine ⟨no ?_ _ h5, dec⟩
        unfold longer
        rw [hj]; simp
    · refine ⟨no ?_ _ h5, dec⟩
      have ht := of_decide_eq_false ht
      unfold longer
      rw [decide_eq_false (show ¬ 0 ≤ F k 6 from ht)]; simp
  · have := of_decide_eq_false hlt
    obtain rfl : k = n := by omega
    rw [mid_all] at h3
    have T3 := h3.trk
    exact ⟨rfl, ⟨Trk.front (M := [(w.heap.size, [.pointer (some ⟨b, 0, none⟩)])]) T3, h3.map, h3.new, h3.apart, h3.row⟩⟩
end Go.Proofs.Ytglakmkedoklmaa
