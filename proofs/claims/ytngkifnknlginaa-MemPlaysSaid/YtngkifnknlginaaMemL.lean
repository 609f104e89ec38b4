/-
Chapter 04's law package, first part: which regions may be by the reference, what is too large, the chapter's example.
Conditions: each theorem's hypotheses.
-/
import Derived.Test.YtngkifnknlginaaVlaw04
import Derived.Test.YtngkifnknlginaaVref04
import Derived.Test.YtngkifnknlginaaMemF
import Derived.Test.YtngkifnknlginaaMemQ
namespace Go.Proofs.Ytngkifnknlginaa
open Go Go.Vc Go.RowKit
set_option linter.unusedVariables false
set_option linter.unusedSimpArgs false
set_option linter.unnecessarySimpa false
set_option maxRecDepth 100000

theorem any_take {l : List Reg} {x : Reg} {i k : Nat} {y : Reg} (hk : k < i) (hy : l[k]? = some y) (ht : touchR x y = true) : (l.take i).any (touchR x) = true :=
  List.any_eq_true.2 ⟨y, List.mem_of_getElem? (i := k) (by rw [List.getElem?_take, if_pos hk]; exact hy), ht⟩
theorem any_none {l : List Reg} {x : Reg} {i : Nat} (h : ∀ (k : Nat) (y : Reg), k < i → l[k]? = some y → touchR x y = false) : (l.take i).any (touchR x) = false := by
  rw [List.any_eq_false]
  intro y hy
  obtain ⟨k, hk⟩ := List.getElem?_of_mem hy
  rw [List.getElem?_take] at hk
  split at hk
  · rename_i hki
    rw [h k y hki hk]
    simp
  · cases hk
set_option maxHeartbeats 3200000 in
theorem ref04_May_ok {l : List Reg} (hl : RegsIn l) (hlen : l.length < 9223372036854775808) {A : Option Addr} {c : Nat} {w : World} (hr : ERow regT w A l) : Calls Try.prog ref04_May.N #[.slice A l.length c] w (Gives (.bool (mayL l)) w) := by
  refine ref04_May.calls ?_
  unfold ref04_May.vc
  have bad : ∀ {w' : World}, okUpto [] l = false → Later w w' → Gives (.bool (mayL l)) w (.returned (.bool false)) w' := fun h hl => ⟨by rw [mayL, h]; simp, hl⟩
  refine ⟨fun vs w' => ∃ k : Nat, k ≤ l.length ∧ vs = [i64v k] ∧ okUpto [] (l.take k) = true ∧ Later w w', fun vs _ => match vs with | [.int _ n] => l.length - n.toNat | _ => 0, ⟨0, by omega, rfl, rfl, Later.refl _⟩, ?_⟩
  rintro g i w1 ⟨k, hk, hs, hok, g1⟩
  simp only [List.cons.injEq, Value.int.injEq, true_and, and_true] at hs
  subst hs
  refine cnd_of (fun h => ?_) fun h => ?_
  · have hlt : k < l.length := by simp only [decide_eq_true_eq] at h; omega
    have hg := List.getElem?_eq_getElem hlt
    generalize l[k] = x at hg
    have hx := hl k x hg
    have := hx.f0; have := hx.f1; have := hx.s0; have := hx.s1
    obtain ⟨ad, rfl, hcell⟩ := reg_cells (hr.later g1) hg
    refine ⟨by omega, Deref_some rfl ⟨_, _, _, hcell, fun w2 h2 => ?_⟩⟩
    have M := (Trk.start w1).alloc h2
    refine M.setAll (l := regC x) 0 rfl rfl (by simp [Value.oneCell', regC]) fun w3 M => ?_
    have no : mayR x = false → Gives (.bool (mayL l)) w (.returned (.bool false)) w3 := fun hm => bad (okUpto_bad hg (.inl hm)) (g1.trans M.to)
    refine ⟨_, M.cell 0 rfl rfl, cnd_of (fun h1 => no ?_) fun h1 => ⟨_, M.cell 0 rfl rfl, cnd_of (fun h2 => no ?_) fun h2 => ⟨_, M.cell 0 rfl rfl, cnd_of (fun h3 => no ?_) fun h3 => ⟨_, M.cell 0 rfl rfl, cnd_of (fun h4 => no ?_) fun h4 => ⟨_, M.cell 0 rfl rfl, _, M.cell 0 rfl rfl, ?_⟩⟩⟩⟩⟩
    all_goals simp only [decide_eq_true_eq, decide_eq_false_iff_not] at *
    · rw [mayR, decide_eq_false (show ¬ (1 ≤ x.k ∧ x.k ≤ 4) by omega)]; rfl
    · rw [mayR, decide_eq_false (show ¬ (1 ≤ x.k ∧ x.k ≤ 4) by omega)]; rfl
    · rw [mayR, decide_eq_false (show ¬ (1 ≤ x.s ∧ x.s ≤ 1048576) by omega)]; simp
    · rw [mayR, decide_eq_false (show ¬ (1 ≤ x.s ∧ x.s ≤ 1048576) by omega)]; simp
    rw [u64_in (by omega) (by omega)]
    refine cnd_of (fun h5 => no ?_) fun h5 => ?_
    · rw [mayR, decide_eq_false (show ¬ (x.f ≤ 1099511627776 - x.s) by simpa using h5)]; simp
    have hm : mayR x = true := by
      rw [mayR, decide_eq_true (show 1 ≤ x.k ∧ x.k ≤ 4 by omega), decide_eq_true (show 1 ≤ x.s ∧ x.s ≤ 1048576 by omega), decide_eq_true (show x.f ≤ 1099511627776 - x.s by simpa using h5)]
      rfl
    have mx := mayR_facts hm
    refine ⟨fun vs w' => ∃ j : Nat, j ≤ k ∧ vs = [i64v j] ∧ (∀ (m : Nat) (y : Reg), m < j → l[m]? = some y → touchR x y = false) ∧ Later w3 w', fun vs _ => match vs with | [.int _ n] => k - n.toNat | _ => 0, ⟨0, by omega, rfl, fun m y hm => by omega, Later.refl _⟩, ?_⟩
    rintro g' s5 w4 ⟨j, hj, hs', hno, g4⟩
    simp only [List.cons.injEq, Value.int.injEq, true_and, and_true] at hs'
    subst hs'
    have M := M.later g4
    refine cnd_of (fun hjk => ?_) fun hjk => ?_
    · have hjk : j < k := by simp only [decide_eq_true_eq] at hjk; omega
      have hjl : j < l.length := by omega
      have hy := List.getElem?_eq_getElem hjl
      generalize l[j] = y at hy
      have my := mayR_facts (okUpto_all hok (i := j) (x := y) (by rw [List.getElem?_take, if_pos hjk]; exact hy)).1
      have iy := hl j y hy
      have := iy.f0
      obtain ⟨ad', ha', c1, c2, c3, -⟩ := reg_cells (hr.later (g1.trans M.to)) hy
      obtain rfl := Option.some.inj ha'
      refine ⟨x.f, fun w' hl' => (M.later hl').cell 0 rfl rfl, by omega, Deref_some rfl ⟨y.f, fun w' hl' => hl'.cell_some c1, by omega, Deref_some rfl ⟨y.s, fun w' hl' => hl'.cell_some c2, ?_⟩⟩⟩
      rw [u64_in (x := y.f + y.s) (by omega) (by omega)]
      have next : touchR x y = false → ∀ w', Later w4 w' → Goes (fun vs w' => ∃ j : Nat, j ≤ k ∧ vs = [i64v j] ∧ (∀ (m : Nat) (y : Reg), m < j → l[m]? = some y → touchR x y = false) ∧ Later w3 w') (fun vs _ => match vs with | [.int _ n] => k - n.toNat | _ => 0) [i64v j] w4 [i64v (IntKind.i64.wrap ((j : Int) + 1))] w' := by
        intro ht w' hl'
        have hw : IntKind.i64.wrap ((j : Int) + 1) = ((j + 1 : Nat) : Int) := by rw [i64_in (by omega) (by omega)]; omega
        rw [hw]
        refine ⟨⟨j + 1, by omega, rfl, fun m z hm hz => ?_, g4.trans hl'⟩, by show k - ((j + 1 : Nat) : Int).toNat < k - ((j : Nat) : Int).toNat; omega⟩
        by_cases hmj : m = j
        · subst hmj
          rw [hy] at hz
          rw [← Option.some.inj hz]
          exact ht
        · exact hno m z (by omega) hz
      refine cnd_of (fun t1 => ⟨by omega, Deref_some rfl ⟨y.f, fun w' hl' => hl'.cell_some c1, x.f, fun w' hl' => (M.later hl').cell 0 rfl rfl, x.s, fun w' hl' => (M.later hl').cell 0 rfl rfl, fun w' hl' => ?_⟩⟩) fun t1 w' hl' => next ?_ w' hl'
      · rw [u64_in (x := x.f + x.s) (by omega) (by omega)]
        refine cnd_of (fun t2 => bad (okUpto_bad hg (.inr (any_take hjk hy ?_))) (g1.trans (M.later hl').to)) fun t2 => next ?_ w' hl'
        · rw [touchR, t1, t2]; rfl
        · rw [touchR, t1, t2]; rfl
      · rw [touchR, t1]; rfl
    · have : j = k := by simp only [decide_eq_false_iff_not] at hjk; omega
      subst this
      have hw : IntKind.i64.wrap ((j : Int) + 1) = ((j + 1 : Nat) : Int) := by rw [i64_in (by omega) (by omega)]; omega
      rw [hw]
      refine ⟨⟨j + 1, by omega, rfl, ?_, g1.trans M.to⟩, by show l.length - ((j + 1 : Nat) : Int).toNat < l.length - ((j : Nat) : Int).toNat; omega⟩
      rw [okUpto_step hg, hok, hm, any_none hno]
      rfl
  · have : k = l.length := by simp only [decide_eq_false_iff_not] at h; omega
    subst this
    rw [List.take_length] at hok
    refine cnd_of (fun h1 => ⟨?_, g1⟩) fun h1 => ⟨?_, g1⟩
    · rw [mayL, hok, Bool.and_true]
      congr 2
      simp only [decide_eq_true_eq] at h1
      exact decide_eq_decide.2 (by omega)
    · simp only [decide_eq_false_iff_not] at h1
      rw [mayL, decide_eq_false (by omega)]
      rfl
/-- A call that comes to a bool. -/
theorem law04_Large_ok {l : List Reg} (hl : RegsIn l) (hlen : l.length < 9223372036854775808) {A : Option Addr} {c : Nat} {w : World} (hr : ERow regT w A l) : Calls Try.prog law04_Large.N #[.slice A l.length c] w fun e w' => ∃ b : Bool, e = .returned (.bool b) ∧ (b = false → l.length ≤ 40) ∧ Later w w' := by
  refine law04_Large.calls ?_
  unfold law04_Large.vc
  have fin : ∀ (n : Int) (w1 : World), Later w w1 → Calls Try.prog ref04_May.N #[.slice A l.length c] w1 fun e w' => ∃ b : Bool, e = .returned (.bool b) ∧ cnd b (cnd (decide (n > 131072)) (∃ b : Bool, Ending.returned (.bool true) = .returned (.bool b) ∧ (b = false → l.length ≤ 40) ∧ Later w w') (∃ b : Bool, Ending.returned (.bool (decide ((l.length : Int) > 40))) = .returned (.bool b) ∧ (b = false → l.length ≤ 40) ∧ Later w w')) (∃ b : Bool, Ending.returned (.bool (decide ((l.length : Int) > 40))) = .returned (.bool b) ∧ (b = false → l.length ≤ 40) ∧ Later w w') := by
    intro n w1 g1
    refine (ref04_May_ok hl hlen (hr.later g1)).mono fun e w2 ⟨he, g2⟩ => ⟨_, he, ?_⟩
    have r : ∃ b : Bool, Ending.returned (.bool (decide ((l.length : Int) > 40))) = .returned (.bool b) ∧ (b = false → l.length ≤ 40) ∧ Later w w2 := ⟨_, rfl, fun h => by simp only [decide_eq_false_iff_not] at h; omega, g1.trans g2⟩
    exact cnd_of (fun _ => cnd_of (fun _ => ⟨_, rfl, fun h => (by cases h), g1.trans g2⟩) fun _ => r) fun _ => r
  refine ⟨fun vs w' => ∃ (n : Int) (k : Nat), k ≤ l.length ∧ vs = [u64v n, i64v k] ∧ Later w w', fun vs _ => match vs with | [_, .int _ n] => l.length - n.toNat | _ => 0, ⟨0, 0, by omega, rfl, Later.refl _⟩, ?_⟩
  rintro g n i w1 ⟨n', k, hk, hs, g1⟩
  simp only [List.cons.injEq, Value.int.injEq, true_and, and_true] at hs
  obtain ⟨rfl, rfl⟩ := hs
  refine cnd_of (fun h => cnd_of (fun h20 => ?_) fun h20 => fin _ _ g1) fun h => fin _ _ g1
  have hlt : k < l.length := by simp only [decide_eq_true_eq] at h; omega
  have hg := List.getElem?_eq_getElem hlt
  generalize l[k] = x at hg
  obtain ⟨ad, rfl, c1, c2, c3, -⟩ := reg_cells (hr.later g1) hg
  have hw : IntKind.i64.wrap ((k : Int) + 1) = ((k + 1 : Nat) : Int) := by rw [i64_in (by omega) (by omega)]; omega
  rw [hw]
  exact ⟨by omega, Deref_some rfl ⟨_, c2, ⟨_, k + 1, by omega, rfl, g1⟩, by show l.length - ((k + 1 : Nat) : Int).toNat < l.length - ((k : Nat) : Int).toNat; omega⟩⟩
/-! ### steps -/
structure Stp where
  d : Int
  a : Int
  n : Int
  v : Int
  s : ByteArray
  t : Bool
def stpC (x : Stp) : List Value := [i64v x.d, u64v x.a, i64v x.n, u64v x.v, .string x.s, .bool x.t]
abbrev stpV (x : Stp) : Value := .agg #[i64v x.d, u64v x.a, i64v x.n, u64v x.v, .string x.s, .bool x.t]
structure StpIn (x : Stp) : Prop where
  a : 0 ≤ x.a ∧ x.a < 18446744073709551616
  v : 0 ≤ x.v ∧ x.v < 18446744073709551616
  s : x.s.size < 9223372036854775808
def stpT : ElT Stp := ⟨6, by decide, stpC, fun _ => rfl, fun a u hu => by
  simp only [stpC, List.mem_cons, List.not_mem_nil, or_false] at hu
  rcases hu with rfl | rfl | rfl | rfl | rfl | rfl <;> rfl⟩
theorem stp_cells {A : Option Addr} {l : List Stp} {w : World} (hr : ERow stpT w A l) {k : Nat} {y : Stp} (hg : l[k]? = some y) : ∃ ad, A = some ad ∧ (w.cell? (ad.add (k * 6)) = some (i64v y.d) ∧ w.cell? ((ad.add (k * 6)).add 1) = some (u64v y.a) ∧ w.cell? ((ad.add (k * 6)).add 2) = some (i64v y.n) ∧ w.cell? ((ad.add (k * 6)).add 3) = some (u64v y.v) ∧ w.cell? ((ad.add (k * 6)).add 4) = some (.string y.s) ∧ w.cell? ((ad.add (k * 6)).add 5) = some (.bool y.t) ∧ True) := by
  obtain ⟨ad, rfl, hc⟩ := hr k y hg
  refine ⟨ad, rfl, ?_, hc 1 (u64v y.a) rfl, hc 2 (i64v y.n) rfl, hc 3 (u64v y.v) rfl, hc 4 (.string y.s) rfl, hc 5 (.bool y.t) rfl, trivial⟩
  have := hc 0 (i64v y.d) rfl
  rwa [addr_add_zero] at this
theorem law04_heavy_ok {l : List Stp} {A : Option Addr} {c : Nat} (hlen : l.length < 9223372036854775808) {w : World} (hr : ERow stpT w A l) : Calls Try.prog law04_heavy.N #[.slice A l.length c] w fun e w' => ∃ b : Bool, e = .returned (.bool b) ∧ (b = false → l.length ≤ 200) ∧ Later w w' := by
  refine law04_heavy.calls ?_
  unfold law04_heavy.vc
  have fin : ∀ (w1 : World), Later w w1 → ∃ b : Bool, Ending.returned (.bool (decide ((l.length : Int) > 200))) = .returned (.bool b) ∧ (b = false → l.length ≤ 200) ∧ Later w w1 := fun w1 g1 => ⟨_, rfl, fun h => by simp only [decide_eq_false_iff_not] at h; omega, g1⟩
  refine ⟨fun vs w' => ∃ (n : Int) (k : Nat), k ≤ l.length ∧ vs = [i64v n, i64v k] ∧ w' = w, fun vs _ => match vs with | [_, .int _ n] => l.length - n.toNat | _ => 0, ⟨0, 0, by omega, rfl, rfl⟩, ?_⟩
  rintro g n i w1 ⟨n', k, hk, hs, rfl⟩
  simp only [List.cons.injEq, Value.int.injEq, true_and, and_true] at hs
  obtain ⟨rfl, rfl⟩ := hs
  refine cnd_of (fun h => cnd_of (fun h20 => ?_) fun h20 => fin _ (Later.refl _)) fun h => fin _ (Later.refl _)
  have hlt : k < l.length := by simp only [decide_eq_true_eq] at h; omega
  have hg := List.getElem?_eq_getElem hlt
  generalize l[k] = x at hg
  obtain ⟨ad, rfl, c0, c1, c2, c3, c4, c5, -⟩ := stp_cells hr hg
  have hw : IntKind.i64.wrap ((k : Int) + 1) = ((k + 1 : Nat) : Int) := by rw [i64_in (by omega) (by omega)]; omega
  rw [hw]
  have out : ∀ b : Bool, ∃ b' : Bool, Ending.returned (.bool true) = .returned (.bool b') ∧ (b' = false → l.length ≤ 200) ∧ Later w1 w1 := fun b => ⟨true, rfl, (fun h => by cases h), Later.refl _⟩
  have dec : l.length - ((k + 1 : Nat) : Int).toNat < l.length - ((k : Nat) : Int).toNat := by omega
  have bd : 0 ≤ (k : Int) ∧ (k : Int) < (l.length : Int) := by omega
  refine ⟨bd, Deref_some rfl ⟨_, c4, bd, Deref_some rfl ⟨_, c0, cnd_of (fun _ => ⟨bd, Deref_some rfl ⟨_, c2, cnd_of (fun _ => ⟨bd, Deref_some rfl ⟨_, c2, cnd_of (fun _ => ⟨bd, Deref_some rfl ⟨_, c2, ?_⟩⟩) fun _ => ?_⟩⟩) fun _ => ?_⟩⟩) fun _ => ?_⟩⟩⟩
  all_goals exact cnd_of (fun _ => out true) fun _ => ⟨⟨_, k + 1, by omega, rfl, rfl⟩, dec⟩
/-! ### the chapter's example -/
def l0 : List Reg := [⟨100, 16, 3⟩, ⟨200, 8, 1⟩]
theorem l0_in : RegsIn l0 := by
  intro i x hi
  have hx : x ∈ l0 := List.mem_of_getElem? hi
  simp only [l0, List.mem_cons, List.not_mem_nil, or_false] at hx
  rcases hx with rfl | rfl <;> exact ⟨by decide, by decide, by decide, by decide, by decide, by decide⟩
theorem l0_may : mayL l0 = true := by decide +kernel
def s0 : List Pt := newM l0
def s1 : List Pt := (storeM s0 100 2 4660 true).1
theorem s0_store : (storeM s0 100 2 4660 true).2 = 0 := by decide +kernel
theorem s1_a : loadM s1 101 1 = (18, true, 0) := by decide +kernel
theorem s1_b : loadM s1 102 1 = (0, false, 0) := by decide +kernel
theorem s1_c : (loadM s1 109 8).2.2 = 40 := by decide +kernel
theorem s1_d : (loadM s1 108 8).2.2 = 0 := by decide +kernel
theorem s1_e : (fetchM s1 200).2 = 0 := by decide +kernel
theorem s1_f : (fetchM s1 202).2 = 40 := by decide +kernel
theorem s1_g : (storeM s1 200 1 1 false).2 = 40 := by decide +kernel
theorem len_store (st : List Pt) (a n v : Int) (t : Bool) : (storeM st a n v t).1.length = st.length := by
  unfold storeM
  split
  · rfl
  · split
    · rfl
    · split
      · simp [layM]
      · rfl
set_option maxHeartbeats 3200000 in
theorem law04_alive_ok (w : World) : Calls Try.prog law04_alive.N #[] w (Gives (.bool true) w) := by
  refine law04_alive.calls ?_
  unfold law04_alive.vc
  intro w1 h1
  have L := (Trk.start w).alloc h1
  have hr : ERow regT w1 (some ⟨w.heap.size, 0, none⟩) l0 := Has.erow (T := regT) (l := l0) (L.has 0 rfl)
  refine (mem_New_ok l0_in (c := 2) (Nat.le_refl _) (by decide) hr).mono fun e w2 ⟨g2, hN⟩ => ?_
  rcases hN with ⟨_, mb, he, hM⟩ | ⟨hf, _⟩
  · refine ⟨_, _, he, cnd_false rfl ⟨_, ptr_nil (by kernel_rfl) _ _ _, cnd_false rfl ?_⟩⟩
    have s1' : w.heap.size ≤ w1.heap.size := Later.size L.to
    have ne0 : 0 < s0.length := by decide
    have ne1 : 0 < s1.length := by rw [s1, len_store]; decide
    refine (mem_Store_ok (x := 100) (n := 2) (v := 4660) (t := true) ne0 (by decide) (by decide) hM).mono fun e w3 ⟨he, k3, hM⟩ => ⟨_, he, ?_⟩
    have G3 : Later w w3 := k3.later (L.to.trans g2) s1'
    have hM : MemAt w3 w1.heap.size w2.heap.size mb s1 := hM
    have aft : ∀ {w' w'' : World}, Later w3 w' → Later w' w'' → Later w3 w'' := fun h k => h.trans k
    refine (mem_Load_ok (x := 101) (n := 1) ne1 (by decide) hM).mono fun e w4 ⟨he, g4⟩ => ⟨_, _, _, he, ?_⟩
    have hM := hM.later g4
    refine (mem_Load_ok (x := 102) (n := 1) ne1 (by decide) hM).mono fun e w5 ⟨he, g5⟩ => ⟨_, _, _, he, ?_⟩
    have hM := hM.later g5
    refine (mem_Load_ok (x := 109) (n := 8) ne1 (by decide) hM).mono fun e w6 ⟨he, g6⟩ => ⟨_, _, _, he, ?_⟩
    have hM := hM.later g6
    refine (mem_Load_ok (x := 108) (n := 8) ne1 (by decide) hM).mono fun e w7 ⟨he, g7⟩ => ⟨_, _, _, he, ?_⟩
    have hM := hM.later g7
    refine (mem_Fetch_ok (x := 200) ne1 (by decide) hM).mono fun e w8 ⟨he, g8⟩ => ⟨_, _, he, ?_⟩
    have hM := hM.later g8
    refine (mem_Fetch_ok (x := 202) ne1 (by decide) hM).mono fun e w9 ⟨he, g9⟩ => ⟨_, _, he, ?_⟩
    have hM := hM.later g9
    refine (mem_New_ok (l := []) (fun i x h => by simp at h) (c := 0) (Nat.le_refl _) (by decide) (ERow.nil w9 none)).mono fun e w10 ⟨g10, hN⟩ => ?_
    have he : e = .returned (.tuple #[.pointer none, i64v 2]) := by
      rcases hN with ⟨h, _⟩ | ⟨_, h⟩
      · cases h
      · exact h
    have hM := hM.later g10
    refine ⟨_, _, he, ?_⟩
    show cnd ((storeM s0 100 2 4660 true).2 == 0) _ _
    rw [s0_store, s1_a, s1_b, s1_c, s1_d, s1_e, s1_f]
    refine cnd_true rfl (cnd_true rfl (cnd_true rfl (cnd_true rfl (cnd_true rfl (cnd_true rfl (cnd_true rfl (cnd_true rfl (cnd_true rfl (cnd_true rfl (cnd_true rfl (cnd_true rfl ?_)))))))))))
    refine (mem_Store_ok (x := 200) (n := 1) (v := 1) (t := false) ne1 (by decide) (by decide) hM).mono fun e w11 ⟨he, k11, _⟩ => ⟨_, he, ?_⟩
    rw [s1_g]
    exact ⟨rfl, k11.later (G3.trans (g4.trans (g5.trans (g6.trans (g7.trans (g8.trans (g9.trans g10))))))) s1'⟩
  · rw [l0_may] at hf
    cases hf
end Go.Proofs.Ytngkifnknlginaa
