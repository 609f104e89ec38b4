/-
Images, fourth part: the reference's Words, May, Copy, Same, Put.
Conditions: an image's numbers are of their kinds, its rows of at most so many elements.
-/
import Derived.Test.YtjoikaklincfoaaImgC
import Derived.Test.YtjoikaklincfoaaVcEq
namespace Go.Proofs.Ytjoikaklincfoaa
open Go Go.Vc Go.RowKit
set_option linter.unusedVariables false
set_option linter.unusedSimpArgs false
set_option linter.unnecessarySimpa false
set_option maxRecDepth 100000

theorem ref30_Words_ok {l : List Hd} (hn : l.length ≤ 1000) {A : Option Addr} {c : Nat} {w : World} (hr : ERow hdT w A l) : Calls Try.prog ref30_Words.N #[.slice A l.length c] w (Gives (i64v (wordsL l)) w) := by
  refine ref30_Words.calls ?_
  unfold ref30_Words.vc
  refine ⟨fun vs w' => ∃ k : Nat, k ≤ l.length ∧ vs = [i64v (wordsL (l.take k)), i64v k] ∧ w' = w, fun vs _ => match vs with | [_, .int _ n] => l.length - n.toNat | _ => 0, ⟨0, by omega, rfl, rfl⟩, ?_⟩
  rintro g n i w' ⟨k, hk, hs, rfl⟩
  simp only [List.cons.injEq, Value.int.injEq, true_and, and_true] at hs
  obtain ⟨rfl, rfl⟩ := hs
  refine cnd_of (fun h => ?_) fun h => ?_
  · have hlt : k < l.length := by simp only [decide_eq_true_eq] at h; omega
    have hg := List.getElem?_eq_getElem hlt
    generalize l[k] = m at hg
    have st := wordsL_take l k m hg
    have wr := wordsL_range (l.take k)
    have hle := List.length_take_le k l
    obtain ⟨ad, hA, hc⟩ := hr k _ hg
    have hw : IntKind.i64.wrap ((k : Int) + 1) = ((k + 1 : Nat) : Int) := by rw [i64_in (by omega) (by omega)]; omega
    rw [hw]
    have fin : Goes (fun vs w'' => ∃ k : Nat, k ≤ l.length ∧ vs = [i64v (wordsL (l.take k)), i64v k] ∧ w'' = w') (fun vs _ => match vs with | [_, .int _ n] => l.length - n.toNat | _ => 0) [i64v (wordsL (l.take k)), i64v k] w' [i64v (wordsL (l.take (k + 1))), i64v ((k + 1 : Nat) : Int)] w' :=
      ⟨⟨k + 1, by omega, rfl, rfl⟩, by show l.length - ((k + 1 : Nat) : Int).toNat < l.length - ((k : Nat) : Int).toNat; omega⟩
    refine ⟨⟨by omega, by omega⟩, Deref_some hA ⟨m.buf, ?_, cnd_of (fun hb => ?_) fun hb => ?_⟩⟩
    · have := hc 0 _ rfl
      rw [addr_add_zero] at this
      exact this
    · rw [i64_in (x := wordsL (l.take k) + 1) (by omega) (by omega), i64_in (by omega) (by omega)]
      rw [if_pos hb] at st
      rw [show wordsL (l.take k) + 1 + 1 = wordsL (l.take (k + 1)) by omega]
      exact fin
    · rw [i64_in (x := wordsL (l.take k) + 1) (by omega) (by omega)]
      rw [if_neg (by simp [hb])] at st
      rw [← st]
      exact fin
  · have hkn : k = l.length := by simp only [decide_eq_false_iff_not] at h; omega
    subst hkn
    exact ⟨by rw [List.take_length], Later.refl _⟩
def frontI (x : Img) : Bool := decide (0 ≤ x.slots ∧ x.slots ≤ 255) && (decide (wordsL x.params ≤ 8) && (!(x.sec && !x.ret) && decide (1 ≤ x.code.length ∧ x.code.length ≤ 131072)))
theorem words_ge : ∀ l : List Hd, (l.length : Int) ≤ wordsL l
  | [] => by simp [wordsL]
  | h :: l => by
    have := words_ge l
    simp only [wordsL, List.length_cons]
    split <;> omega
theorem mayI_eq (x : Img) : mayI x = (x.params.all okH && (frontI x && x.code.all fun c => decide (decE c = 0))) := by
  unfold mayI frontI
  cases x.params.all okH <;> cases decide (0 ≤ x.slots ∧ x.slots ≤ 255) <;> cases decide (wordsL x.params ≤ 8) <;> cases (!(x.sec && !x.ret)) <;> cases decide (1 ≤ x.code.length ∧ x.code.length ≤ 131072) <;> rfl
set_option maxHeartbeats 6400000 in
theorem ref30_May_ok {x : Img} (hx : ImOk x) {A1 A2 : Option Addr} {c1 c2 : Nat} {w : World} (hr : ImAt w A1 A2 x) : Calls Try.prog ref30_May.N #[imgV A1 c1 A2 c2 x] w (Gives (.bool (mayI x)) w) := by
  refine ref30_May.calls ?_
  unfold ref30_May.vc
  intro w1 h1
  have L := (Trk.start w).alloc h1
  have np := hx.np
  have nc := hx.nc
  refine ⟨fun vs w' => vs = [.bool (!(frontI x))] ∧ Later w1 w', ?_, ?_⟩
  · have bad : frontI x = false → ∀ w', Later w1 w' → ([Value.bool true] : List Value) = [.bool (!(frontI x))] ∧ Later w1 w' := fun h w' hl => ⟨by rw [h]; rfl, hl⟩
    refine ⟨_, L.cell 0 rfl rfl, cnd_of (fun h => bad ?_ _ (Later.refl _)) fun h1 => ⟨_, L.cell 0 rfl rfl, cnd_of (fun h => bad ?_ _ (Later.refl _)) fun h2 => ⟨_, _, _, L.cell 0 rfl rfl, cnd_of (fun h => bad ?_ _ (Later.refl _)) fun h3 => ⟨_, _, _, L.cell 0 rfl rfl, ?_⟩⟩⟩⟩
    · have h : x.slots < 0 := by simpa using h
      have : ¬ (0 ≤ x.slots ∧ x.slots ≤ 255) := by omega
      simp [frontI, this]
    · have h : x.slots > 255 := by simpa using h
      have : ¬ (0 ≤ x.slots ∧ x.slots ≤ 255) := by omega
      simp [frontI, this]
    · have h : (x.params.length : Int) > 8 := by simpa using h
      have := words_ge x.params
      have : ¬ wordsL x.params ≤ 8 := by omega
      simp [frontI, this]
    refine (ref30_Words_ok hx.np (hr.1.later L.to)).mono fun e w2 ⟨he, g2⟩ => ⟨_, he, cnd_of (fun h => bad ?_ _ g2) fun h4 => ?_⟩
    · have h : wordsL x.params > 8 := by simpa using h
      have : ¬ wordsL x.params ≤ 8 := by omega
      simp [frontI, this]
    have L2 := L.later g2
    have e1 : 0 ≤ x.slots ∧ x.slots ≤ 255 := by
      have a : ¬ x.slots < 0 := by simpa using h1
      have b : ¬ x.slots > 255 := by simpa using h2
      omega
    have e2 : wordsL x.params ≤ 8 := by
      have a : ¬ wordsL x.params > 8 := by simpa using h4
      omega
    have tl : (!(x.sec && !x.ret)) = true → ∃ (p : Option Addr) (n : Nat) (c : Nat), w2.cell? ⟨w.heap.size, 4, none⟩ = some (.slice p n c) ∧ cnd (decide ((n : Int) < 1)) (([Value.bool true] : List Value) = [.bool (!(frontI x))] ∧ Later w1 w2)
        (∃ (p : Option Addr) (n : Nat) (c : Nat), w2.cell? ⟨w.heap.size, 4, none⟩ = some (.slice p n c) ∧ (([Value.bool (decide ((n : Int) > 131072))] : List Value) = [.bool (!(frontI x))] ∧ Later w1 w2)) := by
      intro hsr
      refine ⟨_, _, _, L2.cell 0 rfl rfl, cnd_of (fun h => bad ?_ _ g2) fun h => ⟨_, _, _, L2.cell 0 rfl rfl, bl ?_, g2⟩⟩
      · have h : (x.code.length : Int) < 1 := by simpa using h
        have : ¬ (1 ≤ x.code.length ∧ x.code.length ≤ 131072) := by omega
        simp [frontI, this]
      · have h : ¬ (x.code.length : Int) < 1 := by simpa using h
        rw [frontI, hsr, decide_eq_true e1, decide_eq_true e2]
        simp only [Bool.true_and, Bool.not_eq_true', decide_eq_false_iff_not, decide_eq_true_eq]
        omega
    refine ⟨_, L2.cell 0 rfl rfl, cnd_of (fun h => ⟨_, L2.cell 0 rfl rfl, cnd_of (fun h2 => bad ?_ _ g2) fun h2 => tl ?_⟩) fun h => tl ?_⟩
    · have : x.ret = false := by simpa using h2
      simp [frontI, h, this]
    · have : x.ret = true := by simpa using h2
      simp [this]
    · simp [h]
  rintro g s w2 ⟨hs, g2⟩
  simp only [List.cons.injEq, Value.bool.injEq, and_true] at hs
  subst hs
  have L2 := L.later g2
  refine cnd_of (fun h => ⟨?_, L2.to⟩) fun hf => ?_
  · have : frontI x = false := by simpa using h
    rw [mayI_eq, this]
    simp
  have hf : frontI x = true := by simpa using hf
  refine ⟨fun vs w' => ∃ k : Nat, k ≤ x.params.length ∧ vs = [i64v k] ∧ (∀ i h, i < k → x.params[i]? = some h → okH h = true) ∧ Later w1 w', fun vs _ => match vs with | [.int _ n] => x.params.length - n.toNat | _ => 0, ⟨0, by omega, rfl, fun i h hi => by omega, g2⟩, ?_⟩
  rintro g s w3 ⟨k, hk, hs, hok, g3⟩
  simp only [List.cons.injEq, Value.int.injEq, true_and, and_true] at hs
  subst hs
  have L3 := L.later g3
  refine ⟨_, _, _, L3.cell 0 rfl rfl, cnd_of (fun h => ?_) fun h => ?_⟩
  · have hlt : k < x.params.length := by simp only [decide_eq_true_eq] at h; omega
    have hg := List.getElem?_eq_getElem hlt
    generalize x.params[k] = m at hg
    obtain ⟨ad, hA, hc⟩ := (hr.1.later (L3.to)) k _ hg
    refine ⟨_, _, _, L3.cell 0 rfl rfl, ⟨by omega, by omega⟩, Deref_some hA ⟨m.buf, m.sec, m.mut_, m.d, m.len, ⟨?_, hc 1 _ rfl, hc 2 _ rfl, hc 3 _ rfl, hc 4 _ rfl, trivial⟩, fun w4 h4 => ?_⟩⟩
    · have := hc 0 _ rfl
      rw [addr_add_zero] at this
      exact this
    have M := (Trk.here g3).alloc h4
    refine M.setAll (l := hdC m) 0 rfl rfl (ones rfl) fun w5 M => ?_
    have g5 : Later w1 w5 := M.to
    have no : okH m = false → Gives (.bool (mayI x)) w (.returned (.bool false)) w5 := fun h => ⟨by rw [bad_param hg h], L.to.trans g5⟩
    have hw : IntKind.i64.wrap ((k : Int) + 1) = ((k + 1 : Nat) : Int) := by rw [i64_in (by omega) (by omega)]; omega
    have go : okH m = true → Goes (fun vs w' => ∃ k : Nat, k ≤ x.params.length ∧ vs = [i64v k] ∧ (∀ i h, i < k → x.params[i]? = some h → okH h = true) ∧ Later w1 w') (fun vs _ => match vs with | [.int _ n] => x.params.length - n.toNat | _ => 0)
        [i64v k] w3 [i64v (IntKind.i64.wrap ((k : Int) + 1))] w5 := by
      intro hokm
      rw [hw]
      refine ⟨⟨k + 1, by omega, rfl, fun i h hi hh => ?_, g5⟩, by show x.params.length - ((k + 1 : Nat) : Int).toNat < x.params.length - ((k : Nat) : Int).toNat; omega⟩
      by_cases hik : i = k
      · subst hik
        rw [hg] at hh
        obtain rfl := Option.some.inj hh
        exact hokm
      · exact hok i h (by omega) hh
    refine ⟨_, M.cell 0 rfl rfl, cnd_of (fun h => no ?_) fun h => ⟨_, M.cell 0 rfl rfl, cnd_of (fun h2 => no ?_) fun h2 => ⟨_, M.cell 0 rfl rfl, cnd_of (fun h3 => ⟨_, M.cell 0 rfl rfl, cnd_of (fun h4 => no ?_) fun h4 => go ?_⟩) fun h3 => go ?_⟩⟩⟩
    · have : ¬ m.d = 0 := by simpa using h
      simp [okH, this]
    · have : ¬ m.len = 0 := by simpa using h2
      simp [okH, this]
    · have : m.buf = false := by simpa using h4
      simp [okH, h3, this]
    · have e1 : m.d = 0 := by simpa using h
      have e2 : m.len = 0 := by simpa using h2
      have e3 : m.buf = true := by simpa using h4
      simp [okH, e1, e2, e3]
    · have e1 : m.d = 0 := by simpa using h
      have e2 : m.len = 0 := by simpa using h2
      simp [okH, e1, e2, h3]
  have hkn : k = x.params.length := by simp only [decide_eq_false_iff_not] at h; omega
  subst hkn
  have hokP : x.params.all okH = true := all_of fun i h hi => hok i h (List.getElem?_eq_some_iff.1 hi).1 hi
  refine ⟨fun vs w' => ∃ k : Nat, k ≤ x.code.length ∧ vs = [i64v k] ∧ (∀ i c, i < k → x.code[i]? = some c → decE c = 0) ∧ Later w1 w', fun vs _ => match vs with | [.int _ n] => x.code.length - n.toNat | _ => 0, ⟨0, by omega, rfl, fun i h hi => by omega, g3⟩, ?_⟩
  rintro g s w4 ⟨k, hk, hs, hdk, g4⟩
  simp only [List.cons.injEq, Value.int.injEq, true_and, and_true] at hs
  subst hs
  have L4 := L.later g4
  refine ⟨_, _, _, L4.cell 0 rfl rfl, cnd_of (fun h => ?_) fun h => ?_⟩
  · have hlt : k < x.code.length := by simp only [decide_eq_true_eq] at h; omega
    have hg := List.getElem?_eq_getElem hlt
    generalize x.code[k] = m at hg
    obtain ⟨ad, hA, hc⟩ := (hr.2.later L4.to) k _ hg
    refine ⟨_, _, _, L4.cell 0 rfl rfl, ⟨by omega, by omega⟩, Deref_some hA ⟨m, ?_, ?_⟩⟩
    · have := hc 0 _ rfl
      rw [addr_add_zero] at this
      exact this
    refine (ref03_Decode_ok (hx.code m (List.mem_of_getElem? hg)) w4).mono fun e w5 ⟨he, g5⟩ => ?_
    rw [decI_is] at he
    refine ⟨_, _, _, _, _, _, he, fun w6 h6 => ?_⟩
    have M := (Trk.here (g4.trans g5)).alloc h6
    refine M.setAll (l := insC (decN m)) 0 rfl rfl (ones rfl) fun w7 M => cnd_of (fun h => ⟨?_, L.to.trans M.to⟩) fun h => ?_
    · have h : ¬ decE m = 0 := by simpa using h
      have : x.code.all (fun c => decide (decE c = 0)) = false := all_not hg (decide_eq_false h)
      rw [mayI_eq, this]
      simp
    · have hd : decE m = 0 := by simpa using h
      have hw : IntKind.i64.wrap ((k : Int) + 1) = ((k + 1 : Nat) : Int) := by rw [i64_in (by omega) (by omega)]; omega
      rw [hw]
      refine ⟨⟨k + 1, by omega, rfl, fun i c hi hh => ?_, M.to⟩, by show x.code.length - ((k + 1 : Nat) : Int).toNat < x.code.length - ((k : Nat) : Int).toNat; omega⟩
      by_cases hik : i = k
      · subst hik
        rw [hg] at hh
        obtain rfl := Option.some.inj hh
        exact hd
      · exact hdk i c (by omega) hh
  · have hkn : k = x.code.length := by simp only [decide_eq_false_iff_not] at h; omega
    subst hkn
    have hall : x.code.all (fun c => decide (decE c = 0)) = true := all_of fun i c hi => by
      rw [hdk i c (List.getElem?_eq_some_iff.1 hi).1 hi]; rfl
    exact ⟨by rw [mayI_eq, hokP, hf, hall]; rfl, L4.to⟩
/-! ### Copy -/
/-- An image of the call's own. -/
def CopyR (x : Img) (w : World) (e : Ending) (w' : World) : Prop := Later w w' ∧ ∃ A1 c1 A2 c2, e = .returned (imgV A1 c1 A2 c2 x) ∧ ImAt w' A1 A2 x ∧ OwnE hdT w w' 50 A1 c1 x.params ∧ OwnE u32T w w' 42 A2 c2 x.code
theorem ref30_Copy_ok {x : Img} (hx : ImOk x) {A1 A2 : Option Addr} {c1 c2 : Nat} {w : World} (hr : ImAt w A1 A2 x) : Calls Try.prog ref30_Copy.N #[imgV A1 c1 A2 c2 x] w (CopyR x w) := by
  have np := hx.np
  have nc := hx.nc
  refine ref30_Copy.calls ?_
  unfold ref30_Copy.vc
  intro w1 h1 w2 h2
  have L := ((Trk.start w).alloc h1).alloc h2
  refine ⟨_, _, _, L.cell 0 rfl rfl, ?_⟩
  refine ERow.copy 22 rtHd (by simp [maxLen]; omega) (by omega) (hr.1.later L.to) fun b1 cc1 w3 o1 g3 => ⟨_, _, _, rfl, ?_⟩
  have L := L.later g3
  refine L.set1E 0 rfl (by simp) fun w4 e4 L => ?_
  have hb1 : ∀ j, j < w2.heap.size → rowB b1 ≠ some j := fun j hj h => by have := (o1.lt h).1; omega
  have n0 : rowB b1 ≠ some w.heap.size := hb1 _ (by have := (((Trk.start w).alloc h1).alloc h2).has 0 rfl; exact this.lt)
  have n1 : rowB b1 ≠ some w1.heap.size := hb1 _ (by have := (((Trk.start w).alloc h1).alloc h2).has 1 rfl; exact this.lt)
  have o1 : OwnE hdT w2 w4 50 b1 cc1 x.params := e4 ▸ OwnS.set_other o1 n0 _ _
  refine ⟨_, _, _, L.cell 0 rfl rfl, ?_⟩
  refine ERow.copy 23 rtU32 (by simp [maxLen]; omega) (by omega) (hr.2.later L.to) fun b2 cc2 w5 o2 g5 => ⟨_, _, _, rfl, ?_⟩
  have o1 := OwnS.later o1 g5
  have L := L.later g5
  have hb2 : ∀ j, j < w4.heap.size → rowB b2 ≠ some j := fun j hj h => by have := (o2.lt h).1; omega
  have hlt0 : w.heap.size < w4.heap.size := by rw [e4]; exact Nat.lt_of_lt_of_le ((((Trk.start w).alloc h1).alloc h2).has 0 rfl).lt (by simpa using Later.size g3)
  have hlt1 : w1.heap.size < w4.heap.size := by rw [e4]; exact Nat.lt_of_lt_of_le ((((Trk.start w).alloc h1).alloc h2).has 1 rfl).lt (by simpa using Later.size g3)
  refine L.set1E 0 rfl (by simp) fun w6 e6 L => ?_
  have o1 : OwnE hdT w2 w6 50 b1 cc1 x.params := e6 ▸ OwnS.set_other o1 n0 _ _
  have o2 : OwnE u32T w4 w6 42 b2 cc2 x.code := e6 ▸ OwnS.set_other o2 (hb2 _ hlt0) _ _
  refine ⟨_, _, _, _, _, _, _, _, _, ⟨L.cell 0 rfl rfl, L.cell 0 rfl rfl, L.cell 0 rfl rfl, L.cell 0 rfl rfl, L.cell 0 rfl rfl, trivial⟩, ?_⟩
  refine L.setAllE (l := imgC b1 cc1 b2 cc2 x) 1 rfl rfl (ones rfl) fun w7 e7 L => ?_
  have o1 : OwnE hdT w2 w7 50 b1 cc1 x.params := e7 ▸ OwnS.sets_other n1 _ _ o1
  have o2 : OwnE u32T w4 w7 42 b2 cc2 x.code := e7 ▸ OwnS.sets_other (hb2 _ hlt1) _ _ o2
  have s2 : w.heap.size ≤ w2.heap.size := Later.size (((Trk.start w).alloc h1).alloc h2).to
  have s4 : w.heap.size ≤ w4.heap.size := by omega
  exact ⟨_, _, _, _, _, _, _, _, _, ⟨L.cell 1 rfl rfl, L.cell 1 rfl rfl, L.cell 1 rfl rfl, L.cell 1 rfl rfl, L.cell 1 rfl rfl, trivial⟩, L.to, b1, cc1, b2, cc2, rfl, ⟨o1.row, o2.row⟩, o1.weak s2, o2.weak s4⟩
end Go.Proofs.Ytjoikaklincfoaa
