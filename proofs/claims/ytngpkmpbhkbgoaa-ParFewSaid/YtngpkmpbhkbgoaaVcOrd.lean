/-
Drawn regions in an order of their own: what only looks at what was there is taken first, the others as they come up alone.
Conditions: each theorem's hypotheses.
-/
import Derived.Test.YtngpkmpbhkbgoaaVcWp
import Derived.Test.YtngpkmpbhkbgoaaVcTail
import Derived.OrdersHeld
namespace Go.Vc
open Go.RowKit
set_option linter.unusedVariables false
set_option linter.unusedSimpArgs false

/-- Operations that look, and turn nothing. -/
def plainB (o : Oper) : Bool :=
  match o.op with
  | .move _ | .assign _ | .pick _ _ _ | .build _ _ | .binOp _ _ _ _ _ | .unOp _ _ _ | .fieldAddr _ _ _ | .field _ _ _ | .indexAddr _ _ _ | .index _ _ _ | .extract _ _ | .load _ _ | .slice _ _ _ _ _ | .makeFunc _ _ _ => true
  | .call c => (match c.callee with | .builtin .len => true | _ => false)
  | _ => false
def plainAtN (ops : Array Oper) (i : Nat) : Bool := match ops[i]? with | some o => plainB o | none => false
/-- The order: the first that looks, or the one that comes up alone. -/
def ordOf (ops : Array Oper) : Nat → Array Bool → List (Nat × Bool)
  | 0, _ => []
  | f + 1, listed => (match (Region.ready .any ops listed).find? (plainAtN ops) with
    | some i => (i, true) :: ordOf ops f (listed.setIfInBounds i true)
    | none => (match Region.ready .any ops listed with
      | [] => []
      | i :: _ => (i, false) :: ordOf ops f (listed.setIfInBounds i true)))
def ordB (ops : Array Oper) : List (Nat × Bool) → Array Bool → Bool
  | [], listed => (Region.ready .any ops listed).isEmpty
  | (i, true) :: r, listed => (Region.ready .any ops listed).contains i && Region.free .any ops listed i && ordB ops r (listed.setIfInBounds i true)
  | (i, false) :: r, listed => (match Region.ready .any ops listed with | [j] => Nat.beq j i | _ => false) && ordB ops r (listed.setIfInBounds i true)
def ordOk (ops : Array Oper) (l : List (Nat × Bool)) : Bool := Region.noSelect ops && Nat.beq l.length ops.size && ordB ops l (Array.replicate ops.size false)
def plainV (P : Program) (C : World → Prop) (o : Oper) (tm : List Value) (K : Value → Prop) : Prop :=
  match pureT P tm o with
  | some t => t.run K
  | none => (match o.op with
    | .load t a => (match ev tm a with
        | .pointer p => Deref p fun ad => loadV P t (fun a i l => ∀ w', C w' → CellsAt w' a i l) (fun a v => ∀ w', C w' → w'.cell? a = some v) ad K
        | _ => False)
    | _ => False)
theorem plainV_run {P : Program} {C : World → Prop} {o : Oper} {tm : List Value} {K : Value → Prop} (h : plainV P C o tm K) : ∃ v, (∀ w, C w → (execOp (ev tm) o).run P w = .ok (.value v) w) ∧ K v := by
  unfold plainV at h
  split at h
  · rename_i t ht
    obtain ⟨v, h1, h2⟩ := pureT_sound ht h
    exact ⟨v, fun w _ => h2 w, h1⟩
  · split at h
    · rename_i t a ho
      split at h
      · rename_i p he
        obtain ⟨ad, rfl, hL⟩ := Deref_elim h
        obtain ⟨v, h1, h2⟩ := loadV_run hL
        refine ⟨v, fun w' hw' => ?_, h1⟩
        simp only [execOp, ho, he, Instr.loadAt, Instr.sureAddr, Sem.run_bind, Sem.run_pure, Result.andThen_ok, h2 w' (fun _ h => h w' hw') (fun _ h => h w' hw')]
      · exact h.elim
    · exact h.elim
def ordStep (P : Program) (pan : Bool) (lets : List Nat) (w0 : World) (Q : Exit → List Value → World → Prop) (next : List Value → World → Prop) (o : Oper) (pl : Bool) (tm : List Value) (w : World) : Prop :=
  match pl with
  | true => plainV P (Later w0) o tm fun v => next (putl o.dst tm v) w
  | false => opV P pan lets o tm w (fun v w' => Later w0 w' ∧ next (putl o.dst tm v) w') (fun c w' => Q (.panic c) tm w')
def ordV (P : Program) (pan : Bool) (lets : List Nat) (ops : Array Oper) (w0 : World) (Q : Exit → List Value → World → Prop) : List (Nat × Bool) → List Value → World → Prop
  | [], tm, w => Q .normal tm w
  | (i, pl) :: r, tm, w => IsSome ops[i]? fun o => (match o.guard with
    | none => ordStep P pan lets w0 Q (fun tm' w' => ordV P pan lets ops w0 Q r tm' w') o pl tm w
    | some (j, want) => IsSome (guardSlot ops j) fun d => (match tm.getD d undef with
        | .bool b => (match want with
            | true => cnd b (ordStep P pan lets w0 Q (fun tm' w' => ordV P pan lets ops w0 Q r tm' w') o pl (tm.set d (.bool true)) w) (ordV P pan lets ops w0 Q r (putl o.dst (tm.set d (.bool false)) undef) w)
            | false => cnd b (ordV P pan lets ops w0 Q r (putl o.dst (tm.set d (.bool true)) undef) w) (ordStep P pan lets w0 Q (fun tm' w' => ordV P pan lets ops w0 Q r tm' w') o pl (tm.set d (.bool false)) w))
        | _ => cnd (decide (d < tm.length)) (ordV P pan lets ops w0 Q r (putl o.dst tm undef) w) False))
theorem ordV_wp {P : Program} {pan : Bool} {lets : List Nat} {ops : Array Oper} {w0 : World} {Q : Exit → List Value → World → Prop} (hsel : Region.noSelect ops = true) (hQp : ∀ c tm w, ¬ Q (.panic c) tm w) :
    ∀ (l : List (Nat × Bool)) (listed : Array Bool) (tm : List Value) (w : World), ordB ops l listed = true → Later w0 w → ordV P pan lets ops w0 Q l tm w → wpAnyH P .any ops (up Q) (Later w0) l.length listed (act tm) w := by
  intro l
  induction l with
  | nil =>
    intro listed tm w hB hl h
    refine wpAnyH_done (by simpa [ordB] using hB) ?_ 0
    unfold ordV at h
    exact up_act h
  | cons x r ih =>
    intro listed tm w hB hl h
    obtain ⟨i, pl⟩ := x
    unfold ordV at h
    obtain ⟨o, ho, h⟩ := IsSome_elim h
    have hBr : ordB ops r (listed.setIfInBounds i true) = true := by
      cases pl <;> simp only [ordB, Bool.and_eq_true] at hB <;> exact hB.2
    have exec : ∀ tm', tm' = tm → Region.wanted o (yielded ops (act tm).tmps) = true → ordStep P pan lets w0 Q (fun tm' w' => ordV P pan lets ops w0 Q r tm' w') o pl tm' w → wpAnyH P .any ops (up Q) (Later w0) (r.length + 1) listed (act tm) w := by
      intro tm' e hw hs
      subst e
      cases pl with
      | true =>
        simp only [ordB, Bool.and_eq_true] at hB
        obtain ⟨v, h1, h2⟩ := plainV_run hs
        refine wpAnyH_take ho hsel hB.1.2 hB.1.1 (fun c a w h => absurd h.2 (hQp _ _ _)) (v := v) (.inl ⟨hw, fun w' hw' => by rw [eval_act]; exact h1 w' hw'⟩) hl ?_
        rw [put_act]
        exact ih _ _ _ hBr hl h2
      | false =>
        simp only [ordB, Bool.and_eq_true] at hB
        have hr : Region.ready .any ops listed = [i] := by
          revert hB
          split
          · rename_i j hj
            intro hB
            rw [hj, Nat.eq_of_beq_eq_true hB.1]
          · intro hB; cases hB.1
        refine wpAnyH_all hr (by simp) fun j hj => ?_
        obtain rfl := List.mem_singleton.1 hj
        unfold wpOp
        simp only [ho, hw, if_true]
        exact .inl (opV_wp (show opV P pan lets o tm' w (fun v w' => Later w0 w' ∧ ordV P pan lets ops w0 Q r (putl o.dst tm' v) w') (fun c w' => Q (.panic c) tm' w') from hs) (fun v w' hv => ⟨hv.1, ih _ _ _ hBr hv.1 hv.2⟩) (fun c w' hc => absurd hc (hQp _ _ _)))
    have skip : ∀ tm', tm' = tm → Region.wanted o (yielded ops (act tm).tmps) = false → ordV P pan lets ops w0 Q r (putl o.dst tm' undef) w → wpAnyH P .any ops (up Q) (Later w0) (r.length + 1) listed (act tm) w := by
      intro tm' e hw hs
      subst e
      cases pl with
      | true =>
        simp only [ordB, Bool.and_eq_true] at hB
        refine wpAnyH_take ho hsel hB.1.2 hB.1.1 (fun c a w h => absurd h.2 (hQp _ _ _)) (v := undef) (.inr ⟨hw, rfl⟩) hl ?_
        rw [put_act]
        exact ih _ _ _ hBr hl hs
      | false =>
        simp only [ordB, Bool.and_eq_true] at hB
        have hr : Region.ready .any ops listed = [i] := by
          revert hB
          split
          · rename_i j hj
            intro hB
            rw [hj, Nat.eq_of_beq_eq_true hB.1]
          · intro hB; cases hB.1
        refine wpAnyH_all hr (by simp) fun j hj => ?_
        obtain rfl := List.mem_singleton.1 hj
        unfold wpOp
        simp only [ho, hw, Bool.false_eq_true, if_false]
        refine ⟨hl, ?_⟩
        rw [put_act]
        exact ih _ _ _ hBr hl hs
    split at h
    · rename_i hg
      exact exec tm rfl (by simp [Region.wanted, hg]) h
    · rename_i j want hg
      obtain ⟨d, hd, h⟩ := IsSome_elim h
      have hw := wanted_guard (ops := ops) hg hd (tm := tm)
      split at h
      · rename_i b hb
        have hsome : tm[d]? = some (.bool b) := by
          cases hh : tm[d]? with
          | none => simp [List.getD, hh, undef] at hb
          | some v => simp [List.getD, hh] at hb; rw [hb]
        rw [hsome] at hw
        cases b <;> cases want <;> simp only [cnd] at h
        · exact exec _ (set_same hb) (by simpa using hw) h
        · exact skip _ (set_same hb) (by simpa using hw) h
        · exact skip _ (set_same hb) (by simpa using hw) h
        · exact exec _ (set_same hb) (by simpa using hw) h
      · rename_i hne
        rcases cnd_cases h with ⟨_, h⟩ | ⟨_, h⟩
        · refine skip tm rfl ?_ h
          rw [hw]
          split
          · rename_i b hb
            exact absurd (by simp [List.getD, hb]) (hne b)
          · rfl
        · exact h.elim
theorem wp_region_ord {P : Program} {pan : Bool} {lets : List Nat} {ops : Array Oper} {Q : Exit → List Value → World → Prop} {id : Nat} {tm : List Value} {w : World} {l : List (Nat × Bool)} (hm : P.follows .mixedOrders = true) (hB : ordOk ops l = true) (hQp : ∀ c tm w, ¬ Q (.panic c) tm w)
    (h : ∀ w', Later w w' → ordV P pan lets ops w Q l tm w') : (Code.region id ops true).wp P (up Q) (act tm) w := by
  simp only [ordOk, Bool.and_eq_true] at hB
  have hlen := Nat.eq_of_beq_eq_true hB.1.2
  refine wp_region_held (S := Later w) hm ?_
  rw [← hlen]
  have hl : Later w { w with drawn := w.drawn + 1 } := (Below.refl _ _).drew
  exact ordV_wp hB.1.1 hQp l _ tm _ (by rw [hlen]; exact hB.2) hl (h _ hl)
end Go.Vc
