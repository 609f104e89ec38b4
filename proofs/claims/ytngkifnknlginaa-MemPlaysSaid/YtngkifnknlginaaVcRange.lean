/-
A function that ranges over a function: its condition, and that the condition gives the model's call. What an iterator gives, from its own call.
Conditions: none; all is proved over any program.
-/
import Derived.Test.YtngkifnknlginaaVcTop
import Derived.Test.YtngkifnknlginaaVcLoc
import Derived.RangeFuncNested
import Derived.RangeFuncLeaves
import Derived.RangeFuncFrom
namespace Go.Vc
open Go.RowKit
set_option linter.unusedSimpArgs false
set_option linter.unnecessarySimpa false
set_option linter.unusedVariables false

/-! ### what a loop's own books may do to a world -/
structure Turn (B : Nat) (w w' : World) : Prop where
  os : w'.os = w.os
  tape : w'.tape = w.tape
  output : w'.output = w.output
  size : w.heap.size ≤ w'.heap.size
  keep : ∀ (k : Nat) (o : Obj), w.heap[k]? = some o → (k < B ∨ o.isCells = true) → w'.heap[k]? = some o
def Steady {β : Type} (B : Nat) (I : β → World → Prop) : Prop := ∀ s w w', I s w → Turn B w w' → I s w'
theorem Steady.own {β : Type} {B : Nat} {I : β → World → Prop} (h : Steady B I) : OwnFrom B I := by
  intro s w w' row hs hg hr
  refine h s w w' hs ⟨hg.os, hg.tape, hg.output, hg.size, fun k o ho hk => ?_⟩
  rw [hg.block k (Array.getElem?_eq_some_iff.1 ho).1 (fun e => ?_)]
  · exact ho
  · obtain ⟨h1, o', ho', hc⟩ := hr k e.symm
    rw [ho] at ho'
    cases ho'
    rcases hk with hk | hk
    · omega
    · rw [hc] at hk; cases hk
theorem Turn.later {B : Nat} {w0 w w' : World} (h : Turn B w w') (hB : w0.heap.size ≤ B) (hw : Later w0 w) : Later w0 w' :=
  ⟨h.os.trans (show Below _ _ _ from hw).os, h.tape.trans (show Below _ _ _ from hw).tape, h.output.trans (show Below _ _ _ from hw).output, Nat.le_trans (show Below _ _ _ from hw).size h.size, fun k hk => by
    have h1 := (show Below _ _ _ from hw).block k hk
    have : k < w.heap.size := Nat.lt_of_lt_of_le hk (show Below _ _ _ from hw).size
    have h2 : w.heap[k]? = some w.heap[k] := by simp [this]
    rw [h.keep k _ h2 (.inl (by omega)), ← h1, h2]⟩
theorem Turn.has {B : Nat} {w w' : World} (h : Turn B w w') {b : Nat} {cs : List Value} (hb : Has w b cs) : Has w' b cs := by
  obtain ⟨t, hb⟩ := hb
  exact ⟨t, h.keep b _ hb (.inr rfl)⟩
theorem Turn.trk {B : Nat} {w0 w w' : World} {L : List Blk} (h : Turn B w w') (hB : w0.heap.size ≤ B) (hL : Trk w0 w L) : Trk w0 w' L :=
  ⟨h.later hB hL.1, fun x hx => ⟨(hL.2.1 x hx).1, h.has (hL.2.1 x hx).2⟩, hL.2.2⟩
theorem keepsFrom_later {B : Nat} {w w' : World} (h : Later w w') : KeepsFrom B w w' := ⟨(show Below _ _ _ from h).size, fun k o _ ho _ => by rw [(show Below _ _ _ from h).block k (Array.getElem?_eq_some_iff.1 ho).1]; exact ho⟩
theorem keepsFrom_setCell (B : Nat) (w : World) (a : Addr) (v : Value) : KeepsFrom B w (w.setCell a v) := (KeepsOthers.setCell w a v).from B
theorem keepsFrom_setCellsAt (B : Nat) (a : Addr) : ∀ (l : List Value) (i : Nat) (w : World), KeepsFrom B w (setCellsAt w a i l) := by
  intro l
  induction l with
  | nil => intro i w; exact KeepsFrom.refl _ _
  | cons v l ih => intro i w; exact (keepsFrom_setCell B w _ _).trans (ih (i + 1) _)
theorem turn_putObj {B D : Nat} {w : World} {o o' : Obj} (h : w.heap[D]? = some o) (ho : o.isCells = false) (hD : B ≤ D) : Turn B w (w.putObj D o') :=
  ⟨rfl, rfl, rfl, by simp, fun k u hu hk => by
    rw [World.putObj_heap_other (fun e => ?_)]
    · exact hu
    · subst e
      rw [h] at hu
      cases hu
      rcases hk with hk | hk
      · omega
      · rw [ho] at hk; cases hk⟩
theorem Trk.setAllE {w0 w : World} {L : List Blk} (h : Trk w0 w L) (k : Nat) {b : Nat} {cs l : List Value} (hk : L[k]? = some (b, cs)) (hl : l.length = cs.length) (ho : ∀ v ∈ l, v.oneCell' = true) {K : World → Prop} (hK : ∀ w', w' = setCellsAt w ⟨b, 0, none⟩ 0 l → Trk w0 w' (L.set k (b, l)) → K w') :
    SetsAt w ⟨b, 0, none⟩ 0 l ∧ ∀ w', w' = setCellsAt w ⟨b, 0, none⟩ 0 l → K w' := by
  refine ⟨(h.has k hk).sets l 0 (by omega) ho, fun w' e => hK _ e ?_⟩
  have := Trk.setMany (k := k) l 0 w L cs h hk (by omega)
  rw [e]
  simpa [hl] using this
theorem Trk.set1E {w0 w : World} {L : List Blk} (h : Trk w0 w L) (k : Nat) {b i : Nat} {cs : List Value} {v : Value} (hk : L[k]? = some (b, cs)) (hi : i < cs.length) {K : World → Prop} (hK : ∀ w', w' = w.setCell ⟨b, i, none⟩ v → Trk w0 w' (L.set k (b, cs.set i v)) → K w') :
    ((w.cell? ⟨b, i, none⟩).isSome = true ∧ w.frozen? ⟨b, i, none⟩ = false) ∧ ∀ w', w' = w.setCell ⟨b, i, none⟩ v → K w' := by
  refine ⟨⟨?_, (h.has k hk).frozen i⟩, fun w' e => hK _ e (e ▸ h.setCell k v hk)⟩
  obtain ⟨u, hu⟩ : ∃ u, cs[i]? = some u := ⟨_, List.getElem?_eq_getElem hi⟩
  rw [h.cell k hk hu]
  rfl

/-! ### iterators -/
/-- What a round that goes on keeps: the iterator's own blocks. -/
def KpS (Ks : Nat → Prop) (w w' : World) : Prop := ∀ k, Ks k → w'.heap[k]? = w.heap[k]?
/-- What is ranged over: N rounds, with what each is handed. -/
def IterV (P : Program) (gf : Nat) (lb : Array Value) (Ks : Nat → Prop) (N : Nat) (enc : Fin N → List Value) (w : World) : Prop :=
  ∀ n, SeqStopsK Fence.wide n P gf lb (fun k => (enc k).toArray) (KpS Ks) (fun xs => xs = List.finRange N) (fun pre => pre <+: List.finRange N) N w
theorem grown_of_later {w w' : World} (h : Below w.heap.size w w') : w.grownBy w' none := ⟨h.os, h.tape, h.output, h.size, fun k hk _ => h.block k hk⟩
theorem yieldAt_wide {n m : Nat} {P : Program} {l : Nat} {args : Array Value} {w : World} {R : Ending → World → Prop} (h : YieldAt Fence.wide n P l args w R) : YieldAt Fence.wide m P l args w R := by
  obtain ⟨fn, tmps, assign, body, h1, h2⟩ := h
  exact ⟨fn, tmps, assign, body, h1, roundIn_wide h2⟩
/-- An iterator's word, from its call: the rounds are numbered. -/
theorem iterV_of {P : Program} {gf : Nat} {lb : Array Value} {Ks : Nat → Prop} {N : Nat} {enc : Fin N → List Value} {w : World}
    (h : ∀ (l : Nat) (J : Nat → World → Prop) (Jx : World → Prop) (W : World), Below w.heap.size w W → (∀ k w1 w2, J k w1 → Later w1 w2 → J k w2) → (∀ w1 w2, Jx w1 → Later w1 w2 → Jx w2) →
      (∀ (k : Fin N) (w1 : World), J k.1 w1 → YieldC P l (enc k).toArray w1 fun b w' => (b = true ∧ J (k.1 + 1) w' ∧ KpS Ks w1 w') ∨ (b = false ∧ Jx w')) → J 0 W →
      Calls P gf (#[.func (.yield l) #[] #[]] ++ lb) W fun e w' => (∃ v, e = .returned v) ∧ (J N w' ∨ Jx w')) : IterV P gf lb Ks N enc w := by
  intro n l J Jx W hW hJ hJx hY h0
  have hlen : ∀ k, k ≤ N → ((List.finRange N).take k).length = k := fun k hk => by rw [List.length_take, List.length_finRange]; omega
  refine callsIn_wide.2 ((h l (fun k w' => J ((List.finRange N).take k) w') (fun w' => ∃ pre, pre <+: List.finRange N ∧ Jx pre w') W hW
    (fun k w1 w2 h1 h2 => hJ _ _ _ none h1 (grown_of_later h2) (fun r e => by cases e)) (fun w1 w2 ⟨pre, hp, h1⟩ h2 => ⟨pre, hp, hJx _ _ _ none h1 (grown_of_later h2) (fun r e => by cases e)⟩) ?_ ?_).mono ?_)
  · intro k w1 h1
    have hs : (List.finRange N).take k.1 ++ [k] = (List.finRange N).take (k.1 + 1) := by
      rw [List.take_add_one, List.getElem?_eq_getElem (by rw [List.length_finRange]; exact k.2)]
      simp
    refine YieldAt.mono (yieldAt_wide (hY _ k w1 h1 (by rw [hlen _ (Nat.le_of_lt k.2)]; exact k.2))) ?_
    rintro e w' (⟨rfl, h2, h3⟩ | ⟨rfl, h2⟩)
    · exact ⟨true, rfl, .inl ⟨rfl, hs ▸ h2, h3⟩⟩
    · exact ⟨false, rfl, .inr ⟨rfl, _, List.take_prefix _ _, hs ▸ h2⟩⟩
  · simpa using h0
  · rintro e w' ⟨hv, h1 | ⟨pre, hp, h1⟩⟩
    · exact ⟨hv, .inl ⟨_, rfl, by simpa [List.take_of_length_le] using h1⟩⟩
    · exact ⟨hv, .inr ⟨pre, hp, h1⟩⟩

/-! ### the condition -/
def lookR (l : List (Nat × Slots × Slots)) (ps : List Tmp) : Option (Slots × Slots) :=
  match ps, l with
  | p :: _, x :: r => (match Nat.beq x.1 p with | true => some x.2 | false => lookR r ps)
  | _, _ => none
def okV : Slots → List Value → Bool
  | [], [] => true
  | x :: l, v :: vs => x.2.ok v && okV l vs
  | _, _ => false
theorem allSel_vals {l : Slots} : ∀ {L : List Value → Prop}, allSel l L → ∀ {vs : List Value}, okV l vs = true → L vs := by
  induction l with
  | nil => intro L h vs hv; cases vs with | nil => exact h | cons _ _ => cases hv
  | cons x l ih =>
    intro L h vs hv
    cases vs with
    | nil => cases hv
    | cons v vs =>
      simp only [okV, Bool.and_eq_true] at hv
      exact ih (Shape.all_elim h hv.1) hv.2
theorem okV_length : ∀ {l : Slots} {vs : List Value}, okV l vs = true → vs.length = l.length := by
  intro l
  induction l with
  | nil => intro vs hv; cases vs with | nil => rfl | cons _ _ => cases hv
  | cons x l ih =>
    intro vs hv
    cases vs with
    | nil => cases hv
    | cons v vs => simp only [okV, Bool.and_eq_true] at hv; simp [ih hv.2]
def samePs : Slots → List Tmp → Bool
  | [], [] => true
  | x :: l, p :: ps => Nat.beq x.1 p && samePs l ps
  | _, _ => false
theorem samePs_fold : ∀ {l : Slots} {ps : List Tmp}, samePs l ps = true → ∀ {vs : List Value} {tm : List Value}, vs.length = l.length →
    (ps.zip vs).foldl (fun (t : Array Value) (p, v) => t.setIfInBounds p v) tm.toArray = (setSel l vs tm).toArray ∧ ps.length = l.length := by
  intro l
  induction l with
  | nil => intro ps h vs tm hl; cases ps with | nil => simp [setSel] | cons _ _ => cases h
  | cons x l ih =>
    intro ps h vs tm hl
    cases ps with
    | nil => cases h
    | cons p ps =>
      cases vs with
      | nil => simp at hl
      | cons v vs =>
        simp only [samePs, Bool.and_eq_true] at h
        have he : x.1 = p := Nat.eq_of_beq_eq_true h.1
        simp only [List.length_cons] at hl
        obtain ⟨h1, h2⟩ := ih h.2 (vs := vs) (tm := tm.set p v) (by omega)
        refine ⟨?_, by simp [h2]⟩
        simp only [List.zip_cons_cons, List.foldl_cons, setSel, he]
        rw [← h1]
        simp
def roundQ {N : Nat} (B : Nat) (Ks : Nat → Prop) (I Ix : List (Fin N) → World → Prop) (xs : List (Fin N)) (w : World) : Exit → List Value → World → Prop
  | .normal, _, w' => KeepsFrom B w w' ∧ KpS Ks w w' ∧ I xs w'
  | .ret, _, w' => KeepsFrom B w w' ∧ Ix xs w'
  | _, _, _ => False
def takenQ {N : Nat} (B : Nat) (Ks : Nat → Prop) (I : List (Fin N) → World → Prop) (Mid : Fin N → List Value → World → Prop) (S : Slots) (pre : List (Fin N)) (x : Fin N) (w : World) : Exit → List Value → World → Prop
  | .normal, tm, w' => KeepsFrom B w w' ∧ KpS Ks w w' ∧ I pre w' ∧ meetQ S (Mid x) tm w'
  | _, _, _ => False
/-- What the caller says of its rounds. -/
structure Rounds (P : Program) (gf : Nat) (lb : Array Value) (w : World) where
  N : Nat
  enc : Fin N → List Value
  Ks : Nat → Prop
  I : List (Fin N) → World → Prop
  Ix : List (Fin N) → World → Prop
  Mid : Fin N → List Value → World → Prop
  iter : IterV P gf lb Ks N enc w
  own : ∀ k, Ks k → k < w.heap.size
  steady : Steady w.heap.size I
  steadyX : Steady w.heap.size Ix
  steadyM : ∀ vs, Steady w.heap.size (fun x => Mid x vs)
  start : I [] w
def rangeV (P : Program) (H : Hints) (S1 S2 : Slots) (g : Operand) (ps : Array Tmp) (assign body : Code) (QD : Nat → Exit → List Value → World → Prop) (tm : List Value) (w : World) : Prop :=
  cnd (samePs S1 ps.toList && (subS S2 (assigned assign) && (roundB H assign && roundB H body))) (AsFn (ev tm g) fun gf fi lb => cnd (entersB P gf)
    (fi = #[] ∧ ∃ r : Rounds P gf lb w, (∀ x, okV S1 (r.enc x) = true) ∧
      (allSel S1 fun vs => ∀ (pre : List (Fin r.N)) (x : Fin r.N) (w1 : World), r.enc x = vs → r.I pre w1 → codeV P H assign (takenQ w.heap.size r.Ks r.I r.Mid S2 pre x w1) (setSel S1 vs tm) w1) ∧
      (allSel S1 fun vs => ∀ (pre : List (Fin r.N)) (x : Fin r.N), r.enc x = vs → pre.length < r.N → joinV S2 (assigned assign) (setSel S1 vs tm) (fun us w1 => r.I pre w1 ∧ r.Mid x us w1) fun tm1 w1 => codeV P H body (roundQ w.heap.size r.Ks r.I r.Ix (pre ++ [x]) w1) tm1 w1) ∧
      (∀ (D : Nat) (w1 : World), w.heap.size ≤ D → r.I (List.finRange r.N) w1 → w1.heap[D]? = some (.deferred (some [])) → QD D .normal tm w1) ∧
      (∀ (D : Nat) (pre : List (Fin r.N)) (w1 : World), w.heap.size ≤ D → pre <+: List.finRange r.N → r.Ix pre w1 → w1.heap[D]? = some (.deferred (some [])) → QD D .ret tm w1)) False) False
def hasRange : Code → Bool
  | .rangeFunc .. => true
  | .seq a b => hasRange a || hasRange b
  | .block _ c => hasRange c
  | _ => false
def thenD (P : Program) (H : Hints) (b : Code) (QD : Nat → Exit → List Value → World → Prop) (D : Nat) : Exit → List Value → World → Prop
  | .normal, tm, w => codeV P H b (QD D) tm w
  | e, tm, w => QD D e tm w
def rngV (P : Program) (H : Hints) : Code → (Nat → Exit → List Value → World → Prop) → (Exit → List Value → World → Prop) → List Value → World → Prop
  | .seq a b, QD, Q, tm, w => (match hasRange a with
    | true => rngV P H a (thenD P H b QD) (seqQ (fun tm w => codeV P H b Q tm w) Q) tm w
    | false => codeV P H a (seqQ (fun tm w => rngV P H b QD Q tm w) Q) tm w)
  | .block id c, QD, Q, tm, w => rngV P H c (fun D => blockQ id (QD D)) (blockQ id Q) tm w
  | .rangeFunc g ps a b, QD, Q, tm, w => IsSome (lookR H.rngs ps.toList) fun S => rangeV P H S.1 S.2 g ps a b QD tm w
  | _, _, _, _, _ => False

def coll (D : Nat) : List Deferred := [{ target := .collected D, args := #[] }]
def upM (QD : Nat → Exit → List Value → World → Prop) (Q : Exit → List Value → World → Prop) (e : Exit) (a : Act) (w : World) : Prop := upD [] Q e a w ∨ ∃ D, upD (coll D) (QD D) e a w

theorem rangeV_wp {P : Program} {H : Hints} {n : Nat} {S1 S2 : Slots} {g : Operand} {ps : Array Tmp} {assign body : Code} {QD : Nat → Exit → List Value → World → Prop} {Q : Exit → List Value → World → Prop} {tm : List Value} {w : World}
    (h : rangeV P H S1 S2 g ps assign body QD tm w) : (Code.rangeFunc g ps assign body).wpIn Fence.wide (n + 1) P (upM QD Q) (actD [] tm) w := by
  obtain ⟨hB, h⟩ := (cnd_cases h).resolve_right fun h => h.2
  simp only [Bool.and_eq_true] at hB
  obtain ⟨hps, hS2, hRa, hRb⟩ := hB
  obtain ⟨gf, fi, lb, hv, h⟩ := AsFn_elim h
  obtain ⟨hent, h⟩ := (cnd_cases h).resolve_right fun h => h.2
  obtain ⟨rfl, r, hok, hassign, hbody, hdone, hstop⟩ := h
  have hlen : ∀ x, (r.enc x).length = S1.length := fun x => okV_length (hok x)
  have hfold : ∀ x, (ps.zip (r.enc x).toArray).foldl (fun (t : Array Value) (p, v) => t.setIfInBounds p v) (actD [] tm).tmps = (setSel S1 (r.enc x) tm).toArray := by
    intro x
    have := (samePs_fold hps (tm := tm) (hlen x)).1
    rw [← Array.foldl_toList]
    simpa [actD, Array.toList_zip] using this
  refine wpIn_rangeFunc_ownH (w0 := w) rfl (by omega) (by rw [eval_act]; exact hv) trivial (fun args w => run_callFunc hent w) (r.iter _)
    (fun h1 h2 k hk => (h2 k hk).trans (h1 k hk)) ?_ (Below.refl _ _) ?_ r.I (fun c xs w1 => c = .ret ∧ r.Ix xs w1) r.steady.own (fun c => ?_) r.start
    (fun x a' w1 => a'.defers = [] ∧ Agree (assigned assign) (setSel S1 (r.enc x) tm) a'.tmps.toList ∧ okSel S2 a'.tmps.toList = true ∧ r.Mid x (selL S2 a'.tmps.toList) w1) ?_ ?_ ?_ ?_ ?_
  · intro W l o o' hl ho _ _ k hk
    exact World.putObj_heap_other (by have := r.own k hk; omega)
  · intro x
    have := (samePs_fold hps (vs := r.enc x) (tm := tm) (hlen x)).2
    simpa [hlen x] using this.symm
  · intro s W W' row ⟨h1, h2⟩ hg hr
    exact ⟨h1, r.steadyX.own s W W' row h2 hg hr⟩
  · intro x a' s W W' row ⟨h1, h2, h3, h4⟩ hg hr
    exact ⟨h1, h2, h3, (r.steadyM _).own x W W' row h4 hg hr⟩
  · intro l pre x W K hI hK
    have h1 := allSel_vals hassign (hok x) pre x W rfl hI
    have h2 := codeV_round (ds := []) (l := l) (n := n + 1 - 1 - 1) assign (Q := fun e tm' w' => Agree (assigned assign) (setSel S1 (r.enc x) tm) tm' ∧ takenQ w.heap.size r.Ks r.I r.Mid S2 pre x W e tm' w') hRa (fun _ _ h => h.2) (codeV_agree h1)
    have he : (actD [] (setSel S1 (r.enc x) tm)) = { tmps := (ps.zip (r.enc x).toArray).foldl (fun t (p, v) => t.setIfInBounds p v) (actD [] tm).tmps, defers := [] } := by
      rw [hfold x]; rfl
    rw [he] at h2
    refine wpIn_mono h2 ?_
    rintro e a' w' ⟨hd, ha, hq⟩
    cases e with
    | normal =>
      obtain ⟨q1, q2, q3, q4⟩ := hq
      rcases cnd_cases q4 with ⟨q5, q6⟩ | ⟨_, q6⟩
      · exact hK a' w' q1 q2 q3 ⟨hd, ha, q5, q6⟩
      · exact q6.elim
    | _ => exact hq.elim
  · intro l pre x a' W _ _ hI ⟨hd, ha, hk, hm⟩ hpl
    have h1 := joinV_elim (allSel_vals hbody (hok x) pre x rfl hpl) ha (show meetQ S2 (fun us w1 => r.I pre w1 ∧ r.Mid x us w1) a'.tmps.toList W from cnd_true hk ⟨hI, hm⟩)
    have h2 := codeV_round (ds := []) (l := l) (n := n + 1 - 1 - 1) body hRb (fun _ _ h => h) h1
    rw [← act_of hd] at h2
    refine wpIn_mono h2 ?_
    rintro e a2 w' ⟨hd2, hq⟩
    cases e with
    | normal => exact hq
    | ret => exact ⟨hq.1, rfl, hq.2⟩
    | _ => exact hq.elim
  · rintro D xs W hD rfl hI hW
    exact .inr ⟨D, rfl, by simpa [actD] using hdone D W hD hI hW⟩
  · rintro D c pre W hD hp ⟨rfl, hx⟩ hW
    exact wpIn_ret (.inr ⟨D, rfl, by simpa [actD] using hstop D pre W hD hp hx hW⟩)
theorem rngV_wp {P : Program} {H : Hints} {n : Nat} (c : Code) : ∀ {QD : Nat → Exit → List Value → World → Prop} {Q : Exit → List Value → World → Prop} {tm : List Value} {w : World}, rngV P H c QD Q tm w → c.wpIn Fence.wide (n + 1) P (upM QD Q) (actD [] tm) w := by
  induction c with
  | seq a b iha ihb =>
    intro QD Q tm w h
    unfold rngV at h
    split at h
    · refine wpIn_seq (wpIn_mono (iha h) ?_)
      rintro e a' w' (⟨hd, h'⟩ | ⟨D, hd, h'⟩)
      · cases e with
        | normal => rw [act_of hd]; exact wpIn_mono (wpIn_wide.2 (codeV_wp (ds := []) b h')) fun e a w h => .inl h
        | _ => exact .inl ⟨hd, h'⟩
      · cases e with
        | normal => rw [act_of hd]; exact wpIn_mono (wpIn_wide.2 (codeV_wp (ds := coll D) b h')) fun e a w h => .inr ⟨D, h⟩
        | _ => exact .inr ⟨D, hd, h'⟩
    · refine wpIn_seq (wpIn_mono (wpIn_wide.2 (codeV_wp (ds := []) a h)) ?_)
      rintro e a' w' ⟨hd, h'⟩
      cases e with
      | normal => rw [act_of hd]; exact ihb h'
      | _ => exact .inl ⟨hd, h'⟩
  | block id c ih =>
    intro QD Q tm w h
    unfold rngV at h
    refine wpIn_block (wpIn_mono (ih h) ?_)
    have hb : ∀ {ds : List Deferred} {Q : Exit → List Value → World → Prop} {e : Exit} {a' : Act} {w' : World}, upD ds (blockQ id Q) e a' w' → ∀ {K : Exit → Act → World → Prop}, (∀ e a w, upD ds Q e a w → K e a w) → Exit.inBlock id K e a' w' := by
      intro ds Q e a' w' ⟨hd, h'⟩ K hK
      cases e with
      | exit id' =>
        unfold blockQ at h'
        unfold Exit.inBlock
        by_cases hi : id' = id
        · subst hi
          simp only [show Nat.beq id' id' = true from Nat.beq_refl id'] at h'
          simp only [if_true]
          exact hK _ _ _ ⟨hd, h'⟩
        · have : Nat.beq id' id = false := by
            cases hn : Nat.beq id' id with
            | false => rfl
            | true => exact absurd (Nat.eq_of_beq_eq_true hn) hi
          simp only [this] at h'
          simp only [hi, if_false]
          exact hK _ _ _ ⟨hd, h'⟩
      | _ => exact hK _ _ _ ⟨hd, h'⟩
    rintro e a' w' (h' | ⟨D, h'⟩)
    · exact hb h' fun e a w h => .inl h
    · exact hb h' fun e a w h => .inr ⟨D, h⟩
  | rangeFunc g ps a b _ _ =>
    intro QD Q tm w h
    unfold rngV at h
    obtain ⟨S, _, h⟩ := IsSome_elim h
    exact rangeV_wp h
  | _ => intro QD Q tm w h; exact h.elim

/-! ### a function -/
def endD (P : Program) (fn : Func) (R : Ending → World → Prop) (D : Nat) : Exit → List Value → World → Prop
  | .normal, tm, w | .ret, tm, w => w.heap[D]? = some (.deferred (some [])) ∧ ∀ w', w' = w.putObj D (.deferred none) → resV P w' tm fn.results.toList fun vs => R (.returned (oneOr vs)) w'
  | _, _, _ => False
def fnM (P : Program) (H : Hints) (f : FuncId) (args : List Value) (w : World) (R : Ending → World → Prop) : Prop :=
  IsSome P.funcs[f]? fun fn => IsSome fn.body fun c => rngV P H c (endD P fn R) (endQ P fn R) (args ++ List.replicate (fn.ntmps - args.length) undef) w
theorem calls_of_fnM (H : Hints) {P : Program} {f : FuncId} {args : List Value} {w : World} {R : Ending → World → Prop} (h : fnM P H f args w R) : Calls P f args.toArray w R := by
  obtain ⟨fn, hf, h⟩ := IsSome_elim h
  obtain ⟨c, hb, h⟩ := IsSome_elim h
  refine (callsIn_wide (n := 2)).1 (callsIn_of_wp_marks hf hb trivial ?_)
  have he : actD [] (args ++ List.replicate (fn.ntmps - args.length) undef) = { tmps := args.toArray ++ Array.replicate (fn.ntmps - args.toArray.size) undef, defers := [] } := by
    simp [actD]
  have h1 := rngV_wp (n := 1) c h
  rw [he] at h1
  refine wpIn_mono h1 ?_
  rintro e a w' (h' | ⟨D, hd, h'⟩)
  · have h2 := endQ_post h'
    obtain ⟨hd, hq⟩ := h'
    cases e with
    | normal => simp only [bodyPostM, hd, LeavesInM, LeavesIn]; exact h2.2
    | ret => simp only [bodyPostM, hd, LeavesInM, LeavesIn]; exact h2.2
    | panic ch => simp only [bodyPostM, hd, LeavesInM, LeavesIn]; exact h2.2
    | exit id => exact h2.elim
    | goto l => exact h2.elim
    | outgrown => exact hq.elim
  · have fin : w'.heap[D]? = some (.deferred (some [])) ∧ (∀ w1, w1 = w'.putObj D (.deferred none) → resV P w1 a.tmps.toList fn.results.toList fun vs => R (.returned (oneOr vs)) w1) → LeavesInM Fence.wide 2 P fn a.tmps R a.defers .returning w' := by
      rintro ⟨hD, hr⟩
      rw [hd]
      refine ⟨by simp, .inl ⟨D, _, rfl, run_takeDeferred hD, ?_⟩⟩
      have h2 : upD [] (endQ P fn R) .ret { a with defers := [] } (w'.putObj D (.deferred none)) := ⟨rfl, hr _ rfl⟩
      exact (endQ_post h2).2
    cases e with
    | normal => exact fin h'
    | ret => exact fin h'
    | _ => exact h'.elim
theorem calls_of_eqM {P : Program} {H : Hints} {f : FuncId} {args : List Value} {w : World} {R : Ending → World → Prop} {X : Prop} (he : fnM P H f args w R = X) (h : X) : Calls P f args.toArray w R := calls_of_fnM H (by rw [he]; exact h)
end Go.Vc
