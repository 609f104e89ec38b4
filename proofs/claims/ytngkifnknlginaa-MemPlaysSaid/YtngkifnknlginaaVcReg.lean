/-
What a region gives, whether it draws its order or not, in a form that serves both in a function's frame and in a round of a range over a function.
Conditions: in a round, no operation defers, and what is asked lets nothing out.
-/
import Derived.StillTail
import Derived.Deep.Quiet
import Derived.Below
import Derived.OrdersHeld
import Derived.OrdersIn
import Derived.ControlIn
import Derived.RangeFuncCalls
namespace Go.Vc
open Go.RowKit
set_option linter.unusedVariables false
set_option linter.unusedSimpArgs false
set_option linter.unnecessarySimpa false
section
variable {P : Program} {ops : Array Oper} {a : Act} {w : World} {Q Q' : Exit → Act → World → Prop}

def wpR (P : Program) (ops : Array Oper) (draw : Bool) (Q : Exit → Act → World → Prop) (a : Act) (w : World) : Prop :=
  match draw with
  | true => P.follows .mixedOrders = true ∧ wpAny P .any ops Q ops.size (Array.replicate ops.size false) a { w with drawn := w.drawn + 1 }
  | false => wpOps P ops Q (List.range ops.size) a w
theorem wpR_wp {id : Nat} {draw : Bool} (h : wpR P ops draw Q a w) : (Code.region id ops draw).wp P Q a w := by
  cases draw with
  | false => exact wp_region h
  | true => exact wp_region_any h.1 h.2
theorem wpR_any (hm : P.follows .mixedOrders = true) (h : wpAny P .any ops Q ops.size (Array.replicate ops.size false) a { w with drawn := w.drawn + 1 }) : wpR P ops true Q a w := ⟨hm, h⟩
theorem wpR_list (h : wpList P ops Q ops.toList a w) : wpR P ops false Q a w := by
  unfold wpR
  rw [List.range_eq_range', ← Array.length_toList, wpOps_eq_wpList ops.toList 0 (by simp)]
  exact h
theorem wpR_quiet {C : World → Prop} (hm : P.follows .mixedOrders = true) (hB : Region.lexB .any ops = true) (hC : C { w with drawn := w.drawn + 1 })
    (h : wpQuiet P ops C (fun a' => ∀ w', C w' → Q .normal a' w') ops.toList a) : wpR P ops true Q a w := by
  simp only [Region.lexB, Bool.and_eq_true] at hB
  refine wpR_any hm (wpAny_of_quiet (Q := fun a' => ∀ w', C w' → Q .normal a' w') (fun _ w' hw' h => h w' hw') _ _ _ _ hC ?_)
  have := wpAnyQ_lex (C := C) (md := .any) hB.1 ops.toList 0 (Array.replicate ops.size false) a (by simp) (by simpa using hB.2) h
  simpa using this
theorem wpR_held {S : World → Prop} (hm : P.follows .mixedOrders = true)
    (h : wpAnyH P .any ops Q S ops.size (Array.replicate ops.size false) a { w with drawn := w.drawn + 1 }) : wpR P ops true Q a w :=
  wpR_any hm (wpAny_of_held _ _ _ _ h)

theorem Oper_wp_to {o : Oper} {K K' : Act → World → Prop} (hK : ∀ a w, K a w → K' a w) (hq : ∀ e a w, Q e a w → Q' e a w) (h : o.wp P a w K Q) : o.wp P a w K' Q' := by
  unfold Oper.wp at *
  generalize (execOp a.eval o).run P w = r at *
  cases r with
  | ok x w' =>
    cases x <;> simp only [Oper.upon] at h ⊢ <;>
      first
        | exact hK _ _ h
        | exact Calls.mono h (fun e w'' he => by
            cases e with
            | returned v => exact hK _ _ he
            | panicked c => exact hq _ _ _ he
            | outgrown => obtain ⟨a1, w1, h1⟩ := he; exact ⟨a1, w1, hq _ _ _ h1⟩)
        | exact Rows.mono h (fun _ _ he => hK _ _ he)
  | halt x w' => cases x <;> simp only [Oper.upon] at h ⊢ <;> exact hq _ _ _ h
theorem LetsOut_to (hq : ∀ e a w, Q e a w → Q' e a w) (h : LetsOut Q) : LetsOut Q' := by obtain ⟨a1, w1, h1⟩ := h; exact ⟨a1, w1, hq _ _ _ h1⟩
theorem wpOps_to (hq : ∀ e a w, Q e a w → Q' e a w) : ∀ (l : List Nat) (a : Act) (w : World), wpOps P ops Q l a w → wpOps P ops Q' l a w := by
  intro l
  induction l with
  | nil => intro a w h; exact hq _ _ _ h
  | cons i rest ih =>
    intro a w h
    simp only [wpOps] at h ⊢
    cases ho : ops[i]? with
    | none => simp only [ho] at h ⊢; exact ih _ _ h
    | some o =>
      simp only [ho] at h ⊢
      split
      · rename_i hw
        simp only [hw, if_true] at h
        exact h.imp (Oper_wp_to ih hq) (fun h => ⟨h.1, LetsOut_to hq h.2⟩)
      · rename_i hw
        simp only [hw, if_false] at h
        exact ih _ _ h
theorem wpAny_to {md : Region.Mode} (hq : ∀ e a w, Q e a w → Q' e a w) : ∀ (f : Nat) (listed : Array Bool) (a : Act) (w : World), wpAny P md ops Q f listed a w → wpAny P md ops Q' f listed a w := by
  intro f
  induction f with
  | zero => intro listed a w h; exact ⟨h.1, hq _ _ _ h.2⟩
  | succ f ih =>
    intro listed a w h
    refine ⟨fun hr => hq _ _ _ (h.1 hr), fun i hi => ?_⟩
    have h1 := h.2 i hi
    unfold wpOp at h1 ⊢
    cases ho : ops[i]? with
    | none => simp only [ho] at h1 ⊢; exact ih _ _ _ h1
    | some o =>
      simp only [ho] at h1 ⊢
      split
      · rename_i hw
        simp only [hw, if_true] at h1
        exact h1.imp (Oper_wp_to (ih _) hq) (fun h => ⟨h.1, LetsOut_to hq h.2⟩)
      · rename_i hw
        simp only [hw, if_false] at h1
        exact ih _ _ _ h1
theorem wpR_to {draw : Bool} (hq : ∀ e a w, Q e a w → Q' e a w) (h : wpR P ops draw Q a w) : wpR P ops draw Q' a w := by
  cases draw with
  | false => exact wpOps_to hq _ _ _ h
  | true => exact ⟨h.1, wpAny_to hq _ _ _ _ h.2⟩

/-! ### in a round -/
def noDefer (l : List Oper) : Bool := l.all fun o => match o.op with | .defer _ => false | _ => true
theorem noDefer_get {l : List Oper} (h : noDefer l = true) {i : Nat} {o : Oper} (ho : l[i]? = some o) : ∀ c, o.op ≠ .defer c := by
  intro c hc
  have := List.all_eq_true.1 h o (List.mem_of_getElem? ho)
  simp [hc] at this
variable {l n : Nat}
theorem Oper_wpIn {o : Oper} {K K' : Act → World → Prop} (hd : ∀ c, o.op ≠ .defer c) (hO : ¬ LetsOut Q) (hK : ∀ a w, K a w → K' a w) (h : o.wp P a w K Q) : o.wpIn (Fence.wide.inRound l) n P a w K' Q := by
  refine ⟨fun _ _ => trivial, ?_⟩
  unfold Oper.wp at h
  rw [Oper.semAt_eq _ _ _ hd]
  have hn : ((Fence.wide.inRound l).depth.isSome = true → 1 ≤ n) := fun h => by cases h
  generalize (execOp a.eval o).run P w = r at *
  cases r with
  | ok x w' =>
    cases x <;> simp only [Oper.upon, Oper.uponIn] at h ⊢ <;>
      first
        | exact hK _ _ h
        | exact ⟨hn, CallsIn.inRound l (callsIn_wide.2 (h.mono (fun e w'' he => by
            cases e with
            | returned v => exact hK _ _ he
            | panicked c => exact he
            | outgrown => exact absurd he hO)))⟩
        | exact ⟨hn, fun c cs _ => let ⟨v, w1, r, s⟩ := h c cs; ⟨v, w1, hK _ _ r, (StepsIn.of_steps s).mono fun m _ => fenced_wide P m⟩⟩
  | halt x w' => cases x <;> simp only [Oper.upon, Oper.uponIn] at h ⊢ <;> exact h
theorem wpOps_round (hd : noDefer ops.toList = true) (hO : ¬ LetsOut Q) : ∀ (is : List Nat) (a : Act) (w : World), wpOps P ops Q is a w → wpOpsIn (Fence.wide.inRound l) n P ops Q is a w := by
  intro is
  induction is with
  | nil => intro a w h; exact h
  | cons i rest ih =>
    intro a w h
    simp only [wpOps, wpOpsIn] at h ⊢
    cases ho : ops[i]? with
    | none => simp only [ho] at h ⊢; exact ih _ _ h
    | some o =>
      simp only [ho] at h ⊢
      split
      · rename_i hw
        simp only [hw, if_true] at h
        exact Oper_wpIn (noDefer_get hd (i := i) (by simpa using ho)) hO ih (h.resolve_right fun h => hO h.2)
      · rename_i hw
        simp only [hw, if_false] at h
        exact ⟨fun _ _ => trivial, ih _ _ h⟩
theorem wpAny_round {md : Region.Mode} (hd : noDefer ops.toList = true) (hO : ¬ LetsOut Q) : ∀ (f : Nat) (listed : Array Bool) (a : Act) (w : World), wpAny P md ops Q f listed a w → wpAnyIn (Fence.wide.inRound l) n P md ops Q f listed a w := by
  intro f
  induction f with
  | zero => intro listed a w h; exact h
  | succ f ih =>
    intro listed a w h
    refine ⟨h.1, fun i hi => ?_⟩
    have h1 := h.2 i hi
    unfold wpOp at h1
    unfold wpOpIn
    cases ho : ops[i]? with
    | none => simp only [ho] at h1 ⊢; exact ih _ _ _ h1
    | some o =>
      simp only [ho] at h1 ⊢
      split
      · rename_i hw
        simp only [hw, if_true] at h1
        exact Oper_wpIn (noDefer_get hd (i := i) (by simpa using ho)) hO (ih _) (h1.resolve_right fun h => hO h.2)
      · rename_i hw
        simp only [hw, if_false] at h1
        exact ⟨fun _ _ => trivial, ih _ _ _ h1⟩
theorem wpR_round {id : Nat} {draw : Bool} (hd : noDefer ops.toList = true) (hO : ¬ LetsOut Q) (h : wpR P ops draw Q a w) : (Code.region id ops draw).wpIn (Fence.wide.inRound l) n P Q a w := by
  cases draw with
  | false => exact wpIn_region (wpOps_round hd hO _ _ _ h)
  | true => exact wpIn_region_any h.1 (wpAny_round hd hO _ _ _ _ h.2)
end
end Go.Vc
