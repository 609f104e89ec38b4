/-
Drawn regions in an order of their own: what only looks at what was there is taken first, the others as they come up alone.
Conditions: each theorem's hypotheses.
-/
import Derived.Test.YtngkifnknlginaaVcWp
import Derived.Test.YtngkifnknlginaaVcTail
import Derived.OrdersHeld
namespace Go.Vc
open Go.RowKit
set_option linter.unusedVariables false
variable {ds : List Deferred}
set_option linter.unusedSimpArgs false
set_option linter.unnecessarySimpa false

/-- Operations that look, and turn nothing. -/
def plainB (o : Oper) : Bool :=
  match o.op with
  | .convert _ _ _ | .nilCheck _ | .move _ | .assign _ | .pick _ _ _ | .build _ _ | .binOp _ _ _ _ _ | .unOp _ _ _ | .fieldAddr _ _ _ | .field _ _ _ | .indexAddr _ _ _ | .index _ _ _ | .extract _ _ | .load _ _ | .slice _ _ _ _ _ | .makeFunc _ _ _ => true
  | .call c => (match c.callee with | .builtin .len => true | _ => false)
  | _ => false
def plainAtN (ops : Array Oper) (i : Nat) : Bool := match ops[i]? with | some o => plainB o | none => false
/-- Operations whose value hangs on no world. -/
def pureB (o : Oper) : Bool :=
  match o.op with
  | .convert _ _ _ | .nilCheck _ | .move _ | .assign _ | .pick _ _ _ | .build _ _ | .binOp _ _ _ _ _ | .unOp _ _ _ | .fieldAddr _ _ _ | .field _ _ _ | .indexAddr _ _ _ | .index _ _ _ | .extract _ _ | .makeFunc _ _ _ => true
  | _ => false
def pureAtN (ops : Array Oper) (i : Nat) : Bool := match ops[i]? with | some o => pureB o | none => false
def afterB (ops : Array Oper) (j i : Nat) : Bool := match ops[j]? with | some o => o.after.any fun e => Nat.beq e.on i && Region.binds .any e | none => false
/-- The order: the first that looks, or the one that comes up alone. -/
def ordOf (ops : Array Oper) : Nat → Array Bool → List (Nat × Bool)
  | 0, _ => []
  | f + 1, listed => (match (Region.ready .any ops listed).find? (plainAtN ops) with
    | some i => (i, true) :: ordOf ops f (listed.setIfInBounds i true)
    | none => (match Region.ready .any ops listed with
      | [] => []
      | i :: _ => (i, false) :: ordOf ops f (listed.setIfInBounds i true)))
/-- What comes behind all that look, and waits for each of them. -/
def wtOf (ops : Array Oper) (l : List (Nat × Bool)) : List Nat :=
  let e := l.takeWhile fun x => x.2
  let r := l.dropWhile fun x => x.2
  let w := r.filter fun x => e.all fun y => afterB ops x.1 y.1
  match r.all fun x => !x.2 || (w.any (fun y => Nat.beq y.1 x.1) && pureAtN ops x.1) with
  | true => w.map fun x => x.1
  | false => []
def ordB (ops : Array Oper) (wt : List Nat) : List (Nat × Bool) → Array Bool → Bool
  | [], listed => (Region.ready .any ops listed).isEmpty
  | (i, true) :: r, listed => (Region.ready .any ops listed).contains i && Region.free .any ops listed i && (match wt.elem i with | true => pureAtN ops i | false => wt.all fun j => afterB ops j i) && ordB ops wt r (listed.setIfInBounds i true)
  | (i, false) :: r, listed => (match Region.ready .any ops listed with | [j] => Nat.beq j i | _ => false) && (!(wt.elem i) || r.all fun x => wt.elem x.1) && ordB ops wt r (listed.setIfInBounds i true)
def ordOk (ops : Array Oper) (l : List (Nat × Bool)) : Bool := Region.noSelect ops && Nat.beq l.length ops.size && ordB ops (wtOf ops l) l (Array.replicate ops.size false)
/-- What looks, and comes to the same in each world of a class. -/
def LooksV (P : Program) (C : World → Prop) (s : Sem Value) (K : Value → Prop) : Prop := ∃ v, (∀ w, C w → s.run P w = .ok v w) ∧ K v
theorem LooksV_mono {P : Program} {C : World → Prop} {s : Sem Value} {K K' : Value → Prop} (h : ∀ v, K v → K' v) (hh : LooksV P C s K) : LooksV P C s K' := by
  obtain ⟨v, h1, h2⟩ := hh
  exact ⟨v, h1, h _ h2⟩
def plainV (P : Program) (C : World → Prop) (o : Oper) (tm : List Value) (K : Value → Prop) : Prop :=
  match pureT P tm o with
  | some t => t.run K
  | none => (match o.op with
    | .load t a => (match ev tm a with
        | .pointer p => Deref p fun ad => loadV P t (fun a i l => ∀ w', C w' → CellsAt w' a i l) (fun a v => ∀ w', C w' → w'.cell? a = some v) ad K
        | _ => False)
    | .nilCheck x => (match ev tm x with
        | .pointer p => Deref p fun a => K (.pointer (some a))
        | _ => False)
    | .convert src dst x => LooksV P C (convert src dst (ev tm x)) fun v => retEx P o.type fun u => v = u ∧ K u
    | _ => False)
theorem plainV_run {P : Program} {C : World → Prop} {o : Oper} {tm : List Value} {K : Value → Prop} (h : plainV P C o tm K) : ∃ v, (∀ w, C w → (execOp (ev tm) o).run P w = .ok (.value v) w) ∧ K v := by
  unfold plainV at h
  split at h
  · rename_i t ht
    obtain ⟨v, h1, h2⟩ := pureT_sound ht h
    exact ⟨v, fun w _ => h2 w, h1⟩
  · split at h
    · rename_i t a ho
      split at h
      · rename_i p he
        obtain ⟨ad, rfl, hL⟩ := Deref_elim h
        obtain ⟨v, h1, h2⟩ := loadV_run hL
        refine ⟨v, fun w' hw' => ?_, h1⟩
        simp only [execOp, ho, he, Instr.loadAt, Instr.sureAddr, Sem.run_bind, Sem.run_pure, Result.andThen_ok, h2 w' (fun _ h => h w' hw') (fun _ h => h w' hw')]
      · exact h.elim
    · rename_i x ho
      split at h
      · rename_i p he
        obtain ⟨ad, rfl, hL⟩ := Deref_elim h
        refine ⟨_, fun w' hw' => ?_, hL⟩
        simp [execOp, ho, he]
      · exact h.elim
    · rename_i src dst x ho
      obtain ⟨v, h1, h2⟩ := h
      obtain ⟨u, rfl, hk⟩ := retEx_elim h2
      refine ⟨v, fun w' hw' => ?_, hk⟩
      have h3 := (semOf_run (o := o) (tm := tm) (s := convert src dst (ev tm x)) (by simp only [semOf, ho]) (h1 w' hw')).1
      have hu : isUnit o.op = false := by rw [ho]; rfl
      rw [hu] at h3
      exact h3
    · exact h.elim
def ordStep (P : Program) (pan : Bool) (lets : List Nat) (C : World → Prop) (Q : Exit → List Value → World → Prop) (next : List Value → World → Prop) (o : Oper) (tl pl : Bool) (tm : List Value) (w : World) : Prop :=
  match pl with
  | true => (match tl with
    | true => plainV P (fun _ => True) o tm fun v => next (putl o.dst tm v) w
    | false => plainV P C o tm fun v => next (putl o.dst tm v) w)
  | false => (match tl with
    | true => opV P pan lets o tm w (fun v w' => next (putl o.dst tm v) w') (fun c w' => Q (.panic c) tm w')
    | false => opV P pan lets o tm w (fun v w' => C w' ∧ next (putl o.dst tm v) w') (fun c w' => Q (.panic c) tm w'))
def ordV (P : Program) (pan : Bool) (lets : List Nat) (ops : Array Oper) (wt : List Nat) (C : World → Prop) (Q : Exit → List Value → World → Prop) : List (Nat × Bool) → List Value → World → Prop
  | [], tm, w => Q .normal tm w
  | (i, pl) :: r, tm, w => IsSome ops[i]? fun o => (match o.guard with
    | none => ordStep P pan lets C Q (fun tm' w' => ordV P pan lets ops wt C Q r tm' w') o (wt.elem i) pl tm w
    | some (j, want) => IsSome (guardSlot ops j) fun d => (match tm.getD d undef with
        | .bool b => (match want with
            | true => cnd b (ordStep P pan lets C Q (fun tm' w' => ordV P pan lets ops wt C Q r tm' w') o (wt.elem i) pl (tm.set d (.bool true)) w) (ordV P pan lets ops wt C Q r (putl o.dst (tm.set d (.bool false)) undef) w)
            | false => cnd b (ordV P pan lets ops wt C Q r (putl o.dst (tm.set d (.bool true)) undef) w) (ordStep P pan lets C Q (fun tm' w' => ordV P pan lets ops wt C Q r tm' w') o (wt.elem i) pl (tm.set d (.bool false)) w))
        | _ => cnd (decide (d < tm.length)) (ordV P pan lets ops wt C Q r (putl o.dst tm undef) w) False))
section walk
variable {P : Program} {ops : Array Oper} {Q : Exit → Act → World → Prop} {C : World → Prop} {wt : List Nat}
/-- Whatever order is picked from here on; behind each operation that does not wait for all that look, the class holds. -/
def wpAnyA (P : Program) (ops : Array Oper) (wt : List Nat) (Q : Exit → Act → World → Prop) (C : World → Prop) : Nat → Array Bool → Act → World → Prop
  | 0, listed, a, w => Region.ready .any ops listed = [] ∧ Q .normal a w
  | fuel + 1, listed, a, w =>
    (Region.ready .any ops listed = [] → Q .normal a w) ∧
    ∀ i ∈ Region.ready .any ops listed, wpOp P ops Q i (fun a' w' => (wt.elem i = false → C w') ∧ wpAnyA P ops wt Q C fuel (listed.setIfInBounds i true) a' w') a w
theorem wpAny_of_A : ∀ (fuel : Nat) (listed : Array Bool) (a : Act) (w : World), wpAnyA P ops wt Q C fuel listed a w → wpAny P .any ops Q fuel listed a w
  | 0, _, _, _, h => h
  | fuel + 1, _, _, _, h => ⟨h.1, fun i hi => wpOp_mono (fun a' w' h' => wpAny_of_A fuel _ a' w' h'.2) (h.2 i hi)⟩
theorem waits_listed {i j : Nat} {listed : Array Bool} (hw : afterB ops j i = true) (hj : j ∈ Region.ready .any ops listed) : listed.getD i false = true := by
  obtain ⟨hjun, oj, hoj, hall⟩ := mem_ready.1 hj
  unfold afterB at hw
  rw [hoj] at hw
  simp only [Array.any_eq_true] at hw
  obtain ⟨k, hk, h⟩ := hw
  simp only [Bool.and_eq_true] at h
  have := hall _ (Array.getElem_mem hk) h.2
  rw [Nat.eq_of_beq_eq_true h.1] at this
  exact this
theorem wpAnyA_first {i : Nat} {oi : Oper} {v : Value} {S : World → Prop} (hi : ops[i]? = some oi) (hp : (wt.elem i = true ∧ ∀ w, S w) ∨ (S = C ∧ wt.elem i = false ∧ ∀ j, wt.elem j = true → afterB ops j i = true)) (hsel : ∀ (j : Nat) (o : Oper) cs b, ops[j]? = some o → o.op ≠ .select cs b)
    (hQ : ∀ c a w, Q (.panic c) (a.put oi.dst v) w → Q (.panic c) a w) :
    ∀ (fuel : Nat) (listed : Array Bool) (a : Act) (w : World),
      (∀ j oj, ops[j]? = some oj → j ≠ i → listed.getD j true = false → (∀ e ∈ oj.after, Region.binds .any e = true → e.on ≠ i) → oi.apart ops oj = true) →
      i ∈ Region.ready .any ops listed → YieldsIf P ops S oi v a → S w →
      wpAnyA P ops wt Q C fuel (listed.setIfInBounds i true) (a.put oi.dst v) w → wpAnyA P ops wt Q C (fuel + 1) listed a w := by
  have hCi : ∀ {w : World}, S w → wt.elem i = false → C w := by
    intro w hS hw
    rcases hp with ⟨h, _⟩ | ⟨rfl, _, _⟩
    · rw [h] at hw; cases hw
    · exact hS
  intro fuel
  induction fuel with
  | zero =>
    intro listed a w _ hr hy hS H
    refine ⟨fun h => (by rw [h] at hr; cases hr), fun j hj => ?_⟩
    by_cases hji : j = i
    · subst hji; exact hy.wpOp hi hS ⟨hCi hS, H⟩
    · have := ready_mono hj hji
      rw [H.1] at this
      cases this
  | succ fuel ih =>
    intro listed a w hfree hr hy hS H
    refine ⟨fun h => (by rw [h] at hr; cases hr), fun j hj => ?_⟩
    by_cases hji : j = i
    · subst hji; exact hy.wpOp hi hS ⟨hCi hS, H⟩
    · have h1 := H.2 j (ready_mono hj hji)
      have hni : listed.getD i true = false := (mem_ready.1 hr).1
      have hSj : ∀ {w' : World}, (wt.elem j = false → C w') → S w' := by
        intro w' hc
        rcases hp with ⟨_, h⟩ | ⟨rfl, hwi, hall⟩
        · exact h w'
        · refine hc ?_
          cases h : wt.elem j with
          | false => rfl
          | true =>
            have := waits_listed (hall j h) hj
            rcases Nat.lt_or_ge i listed.size with h' | h'
            · simp [h'] at hni this; rw [hni] at this; cases this
            · simp [Array.getElem?_eq_none h'] at this
      obtain ⟨hjun, oj, hoj, hall⟩ := mem_ready.1 hj
      have hnot : ∀ e ∈ oj.after, Region.binds .any e = true → e.on ≠ i := fun e he hb heq => by
        have h1 := hall e he hb
        have h0 := (mem_ready.1 hr).1
        rw [heq] at h1
        rcases Nat.lt_or_ge i listed.size with h' | h'
        · simp [h'] at h0 h1; rw [h0] at h1; cases h1
        · simp [Array.getElem?_eq_none h'] at h1
      have h2 := wpOp_putIf hoj (hfree j oj hoj hji hjun hnot) (fun cs b => hsel i oi cs b hi) (fun cs b => hsel j oj cs b hoj) hQ hy h1
      have hfree' : ∀ k ok, ops[k]? = some ok → k ≠ i → (listed.setIfInBounds j true).getD k true = false →
          (∀ e ∈ ok.after, Region.binds .any e = true → e.on ≠ i) → oi.apart ops ok = true := fun k ok hk hki hun hno => by
        refine hfree k ok hk hki ?_ hno
        by_cases hjk : j = k
        · subst hjk; exact hjun
        · rw [getD_set_ne true hjk] at hun; exact hun
      refine wpOp_mono (fun a' w' h3 => ⟨h3.2.1, ih (listed.setIfInBounds j true) a' w' hfree' (ready_mono hr (Ne.symm hji)) h3.1 (hSj h3.2.1) ?_⟩) h2
      rw [Array.setIfInBounds_comm _ _ hji]
      exact h3.2.2
theorem wpAnyA_take {i : Nat} {oi : Oper} {v : Value} {S : World → Prop} {fuel : Nat} {listed : Array Bool} {a : Act} {w : World} (hi : ops[i]? = some oi) (hp : (wt.elem i = true ∧ ∀ w, S w) ∨ (S = C ∧ wt.elem i = false ∧ ∀ j, wt.elem j = true → afterB ops j i = true))
    (hs : Region.noSelect ops = true) (hf : Region.free .any ops listed i = true) (hr : (Region.ready .any ops listed).contains i = true)
    (hQ : ∀ c a w, Q (.panic c) (a.put oi.dst v) w → Q (.panic c) a w) (hy : YieldsIf P ops S oi v a) (hS : S w)
    (h : wpAnyA P ops wt Q C fuel (listed.setIfInBounds i true) (a.put oi.dst v) w) : wpAnyA P ops wt Q C (fuel + 1) listed a w :=
  wpAnyA_first hi hp (Region.noSelect_spec hs) hQ fuel listed a w (Region.free_spec hi hf) (by simpa using hr) hy hS h
theorem wpAnyA_all {rs : List Nat} {fuel : Nat} {listed : Array Bool} {a : Act} {w : World} (hr : Region.ready .any ops listed = rs) (hne : rs ≠ [])
    (h : ∀ i ∈ rs, wpOp P ops Q i (fun a' w' => (wt.elem i = false → C w') ∧ wpAnyA P ops wt Q C fuel (listed.setIfInBounds i true) a' w') a w) : wpAnyA P ops wt Q C (fuel + 1) listed a w :=
  ⟨fun h0 => absurd (hr ▸ h0) hne, hr ▸ h⟩
end walk
theorem ordV_wp {P : Program} {pan : Bool} {lets : List Nat} {ops : Array Oper} {wt : List Nat} {C : World → Prop} {Q : Exit → List Value → World → Prop} (hsel : Region.noSelect ops = true) (hQp : ∀ c tm w, ¬ Q (.panic c) tm w) :
    ∀ (l : List (Nat × Bool)) (listed : Array Bool) (tm : List Value) (w : World), ordB ops wt l listed = true → ((l.any fun x => !(wt.elem x.1)) = true → C w) → ordV P pan lets ops wt C Q l tm w → wpAnyA P ops wt (upD ds Q) C l.length listed (actD ds tm) w := by
  intro l
  induction l with
  | nil =>
    intro listed tm w hB hl h
    unfold ordV at h
    exact ⟨by simpa [ordB] using hB, up_act h⟩
  | cons x r ih =>
    intro listed tm w hB hl h
    obtain ⟨i, pl⟩ := x
    unfold ordV at h
    obtain ⟨o, ho, h⟩ := IsSome_elim h
    have hBr : ordB ops wt r (listed.setIfInBounds i true) = true := by
      cases pl <;> simp only [ordB, Bool.and_eq_true] at hB <;> exact hB.2
    have hlr : (r.any fun x => !(wt.elem x.1)) = true → C w := fun hr => hl (by rw [List.any_cons, hr, Bool.or_true])
    have hlw : wt.elem i = false → C w := fun hp => hl (by rw [List.any_cons, hp]; simp)
    have hA : wt.elem i = false → pl = true → ∀ j, wt.elem j = true → afterB ops j i = true := by
      intro hw hp j hj
      subst hp
      simp only [ordB, Bool.and_eq_true, hw] at hB
      exact List.all_eq_true.1 hB.1.2 j (by simpa using hj)
    have exec : ∀ tm', tm' = tm → Region.wanted o (yielded ops (actD ds tm).tmps) = true → ordStep P pan lets C Q (fun tm' w' => ordV P pan lets ops wt C Q r tm' w') o (wt.elem i) pl tm' w → wpAnyA P ops wt (upD ds Q) C (r.length + 1) listed (actD ds tm) w := by
      intro tm' e hw hs
      subst e
      cases pl with
      | true =>
        simp only [ordB, Bool.and_eq_true] at hB
        unfold ordStep at hs
        cases hwt : wt.elem i with
        | true =>
          simp only [hwt] at hs
          obtain ⟨v, h1, h2⟩ := plainV_run hs
          refine wpAnyA_take (S := fun _ => True) ho (.inl ⟨hwt, fun _ => trivial⟩) hsel hB.1.1.2 hB.1.1.1 (fun c a w h => absurd h.2 (hQp _ _ _)) (v := v) (.inl ⟨hw, fun w' hw' => by rw [eval_act]; exact h1 w' hw'⟩) trivial ?_
          rw [put_act]
          exact ih _ _ _ hBr hlr h2
        | false =>
          simp only [hwt] at hs
          obtain ⟨v, h1, h2⟩ := plainV_run hs
          refine wpAnyA_take (S := C) ho (.inr ⟨rfl, hwt, hA hwt rfl⟩) hsel hB.1.1.2 hB.1.1.1 (fun c a w h => absurd h.2 (hQp _ _ _)) (v := v) (.inl ⟨hw, fun w' hw' => by rw [eval_act]; exact h1 w' hw'⟩) (hlw hwt) ?_
          rw [put_act]
          exact ih _ _ _ hBr hlr h2
      | false =>
        simp only [ordB, Bool.and_eq_true] at hB
        have hr : Region.ready .any ops listed = [i] := by
          revert hB
          split
          · rename_i j hj
            intro hB
            rw [hj, Nat.eq_of_beq_eq_true hB.1.1]
          · intro hB; cases hB.1.1
        refine wpAnyA_all hr (by simp) fun j hj => ?_
        obtain rfl := List.mem_singleton.1 hj
        unfold wpOp
        simp only [ho, hw, if_true]
        unfold ordStep at hs
        cases hw1 : wt.elem j with
        | false =>
          simp only [hw1] at hs
          exact .inl (opV_wp hs (fun v w' hv => ⟨fun _ => hv.1, ih _ _ _ hBr (fun _ => hv.1) hv.2⟩) (fun c w' hc => absurd hc (hQp _ _ _)))
        | true =>
          have hnr : (r.any fun x => !(wt.elem x.1)) = false := by
            have := hB.1.2
            rw [hw1, Bool.not_true, Bool.false_or] at this
            rw [List.any_eq_false]
            intro x hx
            rw [List.all_eq_true.1 this x hx]
            simp
          simp only [hw1] at hs
          exact .inl (opV_wp hs (fun v w' hv => ⟨fun h => (by cases h), ih _ _ _ hBr (fun h => by rw [hnr] at h; cases h) hv⟩) (fun c w' hc => absurd hc (hQp _ _ _)))
    have skip : ∀ tm', tm' = tm → Region.wanted o (yielded ops (actD ds tm).tmps) = false → ordV P pan lets ops wt C Q r (putl o.dst tm' undef) w → wpAnyA P ops wt (upD ds Q) C (r.length + 1) listed (actD ds tm) w := by
      intro tm' e hw hs
      subst e
      cases pl with
      | true =>
        simp only [ordB, Bool.and_eq_true] at hB
        cases hwt : wt.elem i with
        | true =>
          refine wpAnyA_take (S := fun _ => True) ho (.inl ⟨hwt, fun _ => trivial⟩) hsel hB.1.1.2 hB.1.1.1 (fun c a w h => absurd h.2 (hQp _ _ _)) (v := undef) (.inr ⟨hw, rfl⟩) trivial ?_
          rw [put_act]
          exact ih _ _ _ hBr hlr hs
        | false =>
          refine wpAnyA_take (S := C) ho (.inr ⟨rfl, hwt, hA hwt rfl⟩) hsel hB.1.1.2 hB.1.1.1 (fun c a w h => absurd h.2 (hQp _ _ _)) (v := undef) (.inr ⟨hw, rfl⟩) (hlw hwt) ?_
          rw [put_act]
          exact ih _ _ _ hBr hlr hs
      | false =>
        simp only [ordB, Bool.and_eq_true] at hB
        have hr : Region.ready .any ops listed = [i] := by
          revert hB
          split
          · rename_i j hj
            intro hB
            rw [hj, Nat.eq_of_beq_eq_true hB.1.1]
          · intro hB; cases hB.1.1
        refine wpAnyA_all hr (by simp) fun j hj => ?_
        obtain rfl := List.mem_singleton.1 hj
        unfold wpOp
        simp only [ho, hw, Bool.false_eq_true, if_false]
        refine ⟨hlw, ?_⟩
        rw [put_act]
        exact ih _ _ _ hBr hlr hs
    split at h
    · rename_i hg
      exact exec tm rfl (by simp [Region.wanted, hg]) h
    · rename_i j want hg
      obtain ⟨d, hd, h⟩ := IsSome_elim h
      have hw := wanted_guard (ds := ds) (ops := ops) hg hd (tm := tm)
      split at h
      · rename_i b hb
        have hsome : tm[d]? = some (.bool b) := by
          cases hh : tm[d]? with
          | none => simp [List.getD, hh, undef] at hb
          | some v => simp [List.getD, hh] at hb; rw [hb]
        rw [hsome] at hw
        cases b <;> cases want <;> simp only [cnd] at h
        · exact exec _ (set_same hb) (by simpa using hw) h
        · exact skip _ (set_same hb) (by simpa using hw) h
        · exact skip _ (set_same hb) (by simpa using hw) h
        · exact exec _ (set_same hb) (by simpa using hw) h
      · rename_i hne
        rcases cnd_cases h with ⟨_, h⟩ | ⟨_, h⟩
        · refine skip tm rfl ?_ h
          rw [hw]
          split
          · rename_i b hb
            exact absurd (by simp [List.getD, hb]) (hne b)
          · rfl
        · exact h.elim
theorem wp_region_ord {P : Program} {pan : Bool} {lets : List Nat} {ops : Array Oper} {Q : Exit → List Value → World → Prop} {tm : List Value} {w : World} {l : List (Nat × Bool)} (hm : P.follows .mixedOrders = true) (hB : ordOk ops l = true) (hQp : ∀ c tm w, ¬ Q (.panic c) tm w)
    {C : World → Prop} (hC : ∀ w', Later w w' → C w') (h : ∀ w', Later w w' → ordV P pan lets ops (wtOf ops l) C Q l tm w') : wpR P ops true (upD ds Q) (actD ds tm) w := by
  simp only [ordOk, Bool.and_eq_true] at hB
  have hlen := Nat.eq_of_beq_eq_true hB.1.2
  refine wpR_any hm (wpAny_of_A (C := C) (wt := wtOf ops l) _ _ _ _ ?_)
  rw [← hlen]
  have hl : Later w { w with drawn := w.drawn + 1 } := (Below.refl _ _).drew
  exact ordV_wp hB.1.1 hQp l _ tm _ (by rw [hlen]; exact hB.2) (fun _ => hC _ hl) (h _ hl)
end Go.Vc
