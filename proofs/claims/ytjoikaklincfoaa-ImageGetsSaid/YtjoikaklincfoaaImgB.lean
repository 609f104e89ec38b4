/-
Images, second part: what an image is; which instructions it has (package image).
Conditions: an image's numbers are of their kinds, its rows of at most so many elements.
-/
import Derived.Test.YtjoikaklincfoaaImgA
namespace Go.Proofs.Ytjoikaklincfoaa
open Go Go.Vc Go.RowKit
set_option linter.unusedVariables false
set_option linter.unusedSimpArgs false
set_option linter.unnecessarySimpa false
set_option maxRecDepth 100000

structure Img where
  slots : Int
  params : List Hd
  ret : Bool
  sec : Bool
  code : List Int
  deriving DecidableEq
def imgC (A1 : Option Addr) (c1 : Nat) (A2 : Option Addr) (c2 : Nat) (x : Img) : List Value := [i64v x.slots, .slice A1 x.params.length c1, .bool x.ret, .bool x.sec, .slice A2 x.code.length c2]
abbrev imgV (A1 : Option Addr) (c1 : Nat) (A2 : Option Addr) (c2 : Nat) (x : Img) : Value := .agg #[i64v x.slots, .slice A1 x.params.length c1, .bool x.ret, .bool x.sec, .slice A2 x.code.length c2]
def ImAt (w : World) (A1 A2 : Option Addr) (x : Img) : Prop := ERow hdT w A1 x.params ∧ ERow u32T w A2 x.code
theorem ImAt.later {w w' : World} {A1 A2 : Option Addr} {x : Img} (h : ImAt w A1 A2 x) (hl : Later w w') : ImAt w' A1 A2 x := ⟨h.1.later hl, h.2.later hl⟩
structure ImOk (x : Img) : Prop where
  slots : I64 x.slots
  params : ∀ h ∈ x.params, I64 h.d ∧ I64 h.len
  code : ∀ c ∈ x.code, W32 c
  np : x.params.length ≤ 1000
  nc : x.code.length ≤ 100000

def okH (h : Hd) : Bool := decide (h.d = 0) && (decide (h.len = 0) && !(h.mut_ && !h.buf))
def wordsL : List Hd → Int
  | [] => 0
  | h :: l => (if h.buf = true then 2 else 1) + wordsL l
theorem wordsL_append : ∀ (l m : List Hd), wordsL (l ++ m) = wordsL l + wordsL m
  | [], m => by simp [wordsL]
  | h :: l, m => by simp only [List.cons_append, wordsL, wordsL_append l m]; omega
theorem wordsL_range : ∀ l : List Hd, 0 ≤ wordsL l ∧ wordsL l ≤ 2 * l.length
  | [] => by simp [wordsL]
  | h :: l => by
    have := wordsL_range l
    simp only [wordsL, List.length_cons]
    split <;> omega
theorem wordsL_take (l : List Hd) (k : Nat) (h : Hd) (hk : l[k]? = some h) : wordsL (l.take (k + 1)) = wordsL (l.take k) + (if h.buf = true then 2 else 1) := by
  rw [List.take_add_one, hk, wordsL_append]
  simp [wordsL]
def mayI (x : Img) : Bool := x.params.all okH && (decide (0 ≤ x.slots ∧ x.slots ≤ 255) && (decide (wordsL x.params ≤ 8) && (!(x.sec && !x.ret) && (decide (1 ≤ x.code.length ∧ x.code.length ≤ 131072) && x.code.all fun c => decide (decE c = 0)))))
def textE (x : Img) : Int := if mayI x = true then 0 else 2
def textL (x : Img) : List Ins := if mayI x = true then x.code.map decN else []
def TextR (x : Img) (w : World) (e : Ending) (w' : World) : Prop := Later w w' ∧ ∃ b c, e = .returned (.tuple #[.slice b (textL x).length c, i64v (textE x)]) ∧ OwnE insT w w' 39 b c (textL x)
theorem may_not {x : Img} {w w' : World} (h : mayI x = false) (hl : Later w w') : TextR x w (.returned (.tuple #[.slice none 0 0, i64v 2])) w' := by
  refine ⟨hl, none, 0, ?_, ?_⟩
  · simp [textE, textL, h]
  · simp only [textL, h]
    exact OwnE.nil _ _ _
theorem all_not {α : Type} {l : List α} {p : α → Bool} {k : Nat} {a : α} (h : l[k]? = some a) (hp : p a = false) : l.all p = false := by
  rw [List.all_eq_false]
  exact ⟨a, List.mem_of_getElem? h, by rw [hp]; simp⟩
theorem all_of {α : Type} {l : List α} {p : α → Bool} (h : ∀ (k : Nat) (a : α), l[k]? = some a → p a = true) : l.all p = true := by
  rw [List.all_eq_true]
  intro a ha
  obtain ⟨k, hk⟩ := List.getElem?_of_mem ha
  exact h k a hk
theorem bad_param {x : Img} {k : Nat} {h : Hd} (hk : x.params[k]? = some h) (hb : okH h = false) : mayI x = false := by
  simp [mayI, all_not hk hb]
set_option maxHeartbeats 6400000 in
theorem image_Text_ok {x : Img} (hx : ImOk x) {A1 A2 : Option Addr} {c1 c2 : Nat} {w : World} (hr : ImAt w A1 A2 x) : Calls Try.prog image_Text.N #[imgV A1 c1 A2 c2 x] w (TextR x w) := by
  refine image_Text.calls ?_
  unfold image_Text.vc
  intro w1 h1
  have L := (Trk.start w).alloc h1
  refine ⟨_, _, _, L.cell 0 rfl rfl, ?_⟩
  refine ⟨fun vs w' => ∃ k : Nat, k ≤ x.params.length ∧ vs = [i64v (wordsL (x.params.take k)), i64v k] ∧ (∀ i h, i < k → x.params[i]? = some h → okH h = true) ∧ Later w1 w', fun vs _ => match vs with | [_, .int _ n] => x.params.length - n.toNat | _ => 0, ⟨0, by omega, rfl, fun i h hi => by omega, Later.refl _⟩, ?_⟩
  rintro g words s w2 ⟨k, hk, hs, hok, g2⟩
  simp only [List.cons.injEq, Value.int.injEq, true_and, and_true] at hs
  obtain ⟨rfl, rfl⟩ := hs
  have L2 := L.later g2
  refine cnd_of (fun h => ?_) fun h => ?_
  · have hlt : k < x.params.length := by simp only [decide_eq_true_eq] at h; omega
    have hg := List.getElem?_eq_getElem hlt
    generalize x.params[k] = m at hg
    have st := wordsL_take x.params k m hg
    have wr := wordsL_range (x.params.take k)
    have hle := List.length_take_le k x.params
    have np := hx.np
    obtain ⟨ad, rfl, hc⟩ := (hr.1.later (L2.to)) k _ hg
    refine ⟨⟨by omega, by omega⟩, Deref_some rfl ⟨m.buf, m.sec, m.mut_, m.d, m.len, ⟨?_, hc 1 _ rfl, hc 2 _ rfl, hc 3 _ rfl, hc 4 _ rfl, trivial⟩, fun w3 h3 => ?_⟩⟩
    · have := hc 0 _ rfl
      rw [addr_add_zero] at this
      exact this
    have M := (Trk.here g2).alloc h3
    refine M.setAll (l := hdC m) 0 rfl rfl (ones rfl) fun w4 M => ?_
    have g4 : Later w1 w4 := M.to
    have no : okH m = false → TextR x w (.returned (.tuple #[.slice none 0 0, i64v 2])) w4 := fun h => may_not (bad_param hg h) (L.to.trans g4)
    have go : okH m = true → Goes (fun vs w' => ∃ k : Nat, k ≤ x.params.length ∧ vs = [i64v (wordsL (x.params.take k)), i64v k] ∧ (∀ i h, i < k → x.params[i]? = some h → okH h = true) ∧ Later w1 w') (fun vs _ => match vs with | [_, .int _ n] => x.params.length - n.toNat | _ => 0)
        [i64v (wordsL (x.params.take k)), i64v k] w2 [i64v (wordsL (x.params.take (k + 1))), i64v (IntKind.i64.wrap ((k : Int) + 1))] w4 := by
      intro hokm
      have hw : IntKind.i64.wrap ((k : Int) + 1) = ((k + 1 : Nat) : Int) := by rw [i64_in (by omega) (by omega)]; omega
      rw [hw]
      refine ⟨⟨k + 1, by omega, rfl, fun i h hi hh => ?_, g4⟩, by show x.params.length - ((k + 1 : Nat) : Int).toNat < x.params.length - ((k : Nat) : Int).toNat; omega⟩
      by_cases hik : i = k
      · subst hik
        rw [hg] at hh
        obtain rfl := Option.some.inj hh
        exact hokm
      · exact hok i h (by omega) hh
    refine ⟨_, M.cell 0 rfl rfl, ?_⟩
    cases hb : m.buf with
    | true =>
      have hw : IntKind.i64.wrap (IntKind.i64.wrap (wordsL (x.params.take k) + 1) + 1) = wordsL (x.params.take (k + 1)) := by
        rw [st, if_pos hb, i64_in (x := wordsL (x.params.take k) + 1) (by omega) (by omega), i64_in (by omega) (by omega)]; omega
      rw [hw]
      refine cnd_true rfl ⟨_, M.cell 0 rfl rfl, cnd_of (fun h => no ?_) fun h => ⟨_, M.cell 0 rfl rfl, cnd_of (fun h2 => no ?_) fun h2 => ⟨_, M.cell 0 rfl rfl, cnd_of (fun h3 => ⟨_, M.cell 0 rfl rfl, cnd_false (by rw [hb]; rfl) (go ?_)⟩) fun h3 => go ?_⟩⟩⟩
      · have : ¬ m.d = 0 := by simpa using h
        simp [okH, this]
      · have : ¬ m.len = 0 := by simpa using h2
        simp [okH, this]
      · have e1 : m.d = 0 := by simpa using h
        have e2 : m.len = 0 := by simpa using h2
        simp [okH, e1, e2, hb]
      · have e1 : m.d = 0 := by simpa using h
        have e2 : m.len = 0 := by simpa using h2
        simp [okH, e1, e2, h3]
    | false =>
      have hw : IntKind.i64.wrap (wordsL (x.params.take k) + 1) = wordsL (x.params.take (k + 1)) := by
        rw [st, if_neg (by simp [hb]), i64_in (x := wordsL (x.params.take k) + 1) (by omega) (by omega)]
      rw [hw]
      refine cnd_false rfl ⟨_, M.cell 0 rfl rfl, cnd_of (fun h => no ?_) fun h => ⟨_, M.cell 0 rfl rfl, cnd_of (fun h2 => no ?_) fun h2 => ⟨_, M.cell 0 rfl rfl, cnd_of (fun h3 => ⟨_, M.cell 0 rfl rfl, cnd_true (by rw [hb]; rfl) (no ?_)⟩) fun h3 => go ?_⟩⟩⟩
      · have : ¬ m.d = 0 := by simpa using h
        simp [okH, this]
      · have : ¬ m.len = 0 := by simpa using h2
        simp [okH, this]
      · simp [okH, h3, hb]
      · have e1 : m.d = 0 := by simpa using h
        have e2 : m.len = 0 := by simpa using h2
        simp [okH, e1, e2, h3]
  have hkn : k = x.params.length := by simp only [decide_eq_false_iff_not] at h; omega
  subst hkn
  have hokP : x.params.all okH = true := all_of fun i h hi => hok i h (List.getElem?_eq_some_iff.1 hi).1 hi
  rw [List.take_length]
  have no : mayI x = false → TextR x w (.returned (.tuple #[.slice none 0 0, i64v 2])) w2 := fun h => may_not h L2.to
  refine ⟨_, L2.cell 0 rfl rfl, cnd_of (fun h => no ?_) fun h1 => ⟨_, L2.cell 0 rfl rfl, cnd_of (fun h => no ?_) fun h2 => cnd_of (fun h => no ?_) fun h3 => ?_⟩⟩
  · have h : x.slots < 0 := by simpa using h
    have : ¬ (0 ≤ x.slots ∧ x.slots ≤ 255) := by omega
    simp [mayI, this]
  · have h : x.slots > 255 := by simpa using h
    have : ¬ (0 ≤ x.slots ∧ x.slots ≤ 255) := by omega
    simp [mayI, this]
  · have h : wordsL x.params > 8 := by simpa using h
    have : ¬ wordsL x.params ≤ 8 := by omega
    simp [mayI, this]
  have hsl : 0 ≤ x.slots ∧ x.slots ≤ 255 := by
    have a : ¬ x.slots < 0 := by simpa using h1
    have b : ¬ x.slots > 255 := by simpa using h2
    omega
  have hwd : wordsL x.params ≤ 8 := by
    have a : ¬ wordsL x.params > 8 := by simpa using h3
    omega
  have np := hx.np
  have nc := hx.nc
  have tail : (!(x.sec && !x.ret)) = true → ∃ (p : Option Addr) (n : Nat) (c : Nat), w2.cell? ⟨w.heap.size, 4, none⟩ = some (.slice p n c) ∧
      cnd (decide ((n : Int) < 1)) (TextR x w (.returned (.tuple #[.slice none 0 0, i64v 2])) w2) (∃ (p : Option Addr) (n : Nat) (c : Nat), w2.cell? ⟨w.heap.size, 4, none⟩ = some (.slice p n c) ∧
        cnd (decide ((n : Int) > 131072)) (TextR x w (.returned (.tuple #[.slice none 0 0, i64v 2])) w2) (∀ w3, w3 = w2.alloc (Obj.cells #[Value.slice none 0 0] 54) →
          ∃ (p : Option Addr) (n : Nat) (c : Nat), w3.cell? ⟨w.heap.size, 4, none⟩ = some (.slice p n c) ∧ ∃ (I : List Value → World → Prop) (μ : List Value → World → Nat), I [i64v 0] w3 ∧ ∀ (g : Nat → Value) (s : Int) (w4 : World), I [i64v s] w4 →
            cnd (decide (s < (n : Int))) ((0 ≤ s ∧ s < (n : Int)) ∧ Deref p fun a => ∃ n : Int, w4.cell? (a.add (s.toNat * 1)) = some (u32v n) ∧ Calls Try.prog sacristy_image_text_put.N #[.pointer (some ⟨w2.heap.size, 0, none⟩), u32v n] w4 fun e w5 => ∃ b : Bool, e = .returned (.bool b) ∧
              cnd (!b) (TextR x w (.returned (.tuple #[.slice none 0 0, i64v 2])) w5) (Goes I μ [i64v s] w4 [i64v (IntKind.i64.wrap (s + 1))] w5))
              (∃ (p : Option Addr) (n : Nat) (c : Nat), w4.cell? ⟨w2.heap.size, 0, none⟩ = some (.slice p n c) ∧ TextR x w (.returned (.tuple #[.slice p n c, i64v 0])) w4))) := by
    intro hsr
    refine ⟨_, _, _, L2.cell 0 rfl rfl, cnd_of (fun h => no ?_) fun h4 => ⟨_, _, _, L2.cell 0 rfl rfl, cnd_of (fun h => no ?_) fun h5 => ?_⟩⟩
    · have h : (x.code.length : Int) < 1 := by simpa using h
      have : ¬ (1 ≤ x.code.length ∧ x.code.length ≤ 131072) := by omega
      simp [mayI, this]
    · have h : (x.code.length : Int) > 131072 := by simpa using h
      have : ¬ (1 ≤ x.code.length ∧ x.code.length ≤ 131072) := by omega
      simp [mayI, this]
    have hcl : 1 ≤ x.code.length ∧ x.code.length ≤ 131072 := by
      have a : ¬ (x.code.length : Int) < 1 := by simpa using h4
      have b : ¬ (x.code.length : Int) > 131072 := by simpa using h5
      omega
    intro w3 h3
    have g3 : Later w2 w3 := h3 ▸ Later.alloc' _ _
    have T := (Trk.here (Later.refl w2)).alloc h3
    refine ⟨_, _, _, (L2.later g3).cell 0 rfl rfl, fun vs w' => ∃ k : Nat, k ≤ x.code.length ∧ vs = [i64v k] ∧ (∀ i c, i < k → x.code[i]? = some c → decE c = 0) ∧ Later w w' ∧ ∃ b c, Has w' w2.heap.size [.slice b ((x.code.take k).map decN).length c] ∧ rowB b ≠ some w2.heap.size ∧ OwnE insT w w' 39 b c ((x.code.take k).map decN),
      fun vs _ => match vs with | [.int _ n] => x.code.length - n.toNat | _ => 0, ⟨0, by omega, rfl, fun i c hi => by omega, L2.to.trans g3, none, 0, T.has 0 rfl, by simp, OwnE.nil _ _ _⟩, ?_⟩
    rintro g s w4 ⟨k, hk, hs, hdk, hl4, b, c, ht, hbt, ho⟩
    simp only [List.cons.injEq, Value.int.injEq, true_and, and_true] at hs
    subst hs
    refine cnd_of (fun h => ?_) fun h => ?_
    · have hlt : k < x.code.length := by simp only [decide_eq_true_eq] at h; omega
      have hg := List.getElem?_eq_getElem hlt
      generalize x.code[k] = m at hg
      obtain ⟨ad, rfl, hc⟩ := (hr.2.later hl4) k _ hg
      have hm := hx.code m (List.mem_of_getElem? hg)
      refine ⟨⟨by omega, by omega⟩, Deref_some rfl ⟨m, ?_, ?_⟩⟩
      · have := hc 0 _ rfl
        rw [addr_add_zero] at this
        exact this
      refine (text_put_ok hm ht hbt ho hl4 (by rw [List.length_map, List.length_take]; omega) (Later.size L2.to)).mono fun e w5 ⟨he, hl5, b', c', ht', hbt', ho', _⟩ => ⟨_, he, cnd_of (fun h => may_not ?_ hl5) fun h => ?_⟩
      · have : decide (decE m = 0) = false := by simpa using h
        have : x.code.all (fun c => decide (decE c = 0)) = false := all_not hg this
        simp [mayI, this]
      · have hd : decE m = 0 := by simpa using h
        have hw : IntKind.i64.wrap ((k : Int) + 1) = ((k + 1 : Nat) : Int) := by rw [i64_in (by omega) (by omega)]; omega
        have htk : (x.code.take k).map decN ++ [decN m] = (x.code.take (k + 1)).map decN := by rw [List.take_add_one, hg]; simp
        rw [htk] at ht' ho'
        rw [hw]
        refine ⟨⟨k + 1, by omega, rfl, fun i c hi hh => ?_, hl5, b', c', ht', hbt', ho'⟩, by show x.code.length - ((k + 1 : Nat) : Int).toNat < x.code.length - ((k : Nat) : Int).toNat; omega⟩
        by_cases hik : i = k
        · subst hik
          rw [hg] at hh
          obtain rfl := Option.some.inj hh
          exact hd
        · exact hdk i c (by omega) hh
    · have hkn : k = x.code.length := by simp only [decide_eq_false_iff_not] at h; omega
      subst hkn
      have hall : x.code.all (fun c => decide (decE c = 0)) = true := all_of fun i c hi => by
        rw [hdk i c (List.getElem?_eq_some_iff.1 hi).1 hi]; rfl
      have hm : mayI x = true := by
        simp only [mayI, hokP, hall, Bool.true_and, Bool.and_true, Bool.and_eq_true, decide_eq_true_eq]
        exact ⟨hsl, hwd, hsr, hcl⟩
      rw [List.take_length] at ht ho
      refine ⟨_, _, _, ht.cell rfl, hl4, b, c, ?_, ?_⟩
      · simp [textE, textL, hm]
      · simp only [textL, hm]
        exact ho
  refine ⟨_, L2.cell 0 rfl rfl, cnd_of (fun h => ⟨_, L2.cell 0 rfl rfl, cnd_of (fun h2 => no ?_) fun h2 => tail ?_⟩) fun h => tail ?_⟩
  · have : x.ret = false := by simpa using h2
    simp [mayI, h, this]
  · have : x.ret = true := by simpa using h2
    simp [this]
  · simp [h]
theorem image_Check_ok {x : Img} (hx : ImOk x) {A1 A2 : Option Addr} {c1 c2 : Nat} {w : World} (hr : ImAt w A1 A2 x) : Calls Try.prog image_Check.N #[imgV A1 c1 A2 c2 x] w (Gives (i64v (textE x)) w) := by
  refine image_Check.calls ?_
  unfold image_Check.vc
  intro w1 h1
  have L := (Trk.start w).alloc h1
  refine ⟨_, _, _, _, _, _, _, _, _, ⟨L.cell 0 rfl rfl, L.cell 0 rfl rfl, L.cell 0 rfl rfl, L.cell 0 rfl rfl, L.cell 0 rfl rfl, trivial⟩, ?_⟩
  exact (image_Text_ok hx (hr.later L.to)).mono fun e w2 ⟨g2, b, c, he, ho⟩ => ⟨_, _, _, _, he, rfl, L.to.trans g2⟩
end Go.Proofs.Ytjoikaklincfoaa
