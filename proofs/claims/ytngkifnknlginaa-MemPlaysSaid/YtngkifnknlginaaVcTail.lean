/-
A region that draws its order, whose last operations can come up only one behind the other: one walk serves every order, the first ones quiet in a class of worlds.
Conditions: each theorem's hypotheses. It joins two of the kit's laws: one for a class of worlds, one for a tail.
-/
import Derived.Test.YtngkifnknlginaaVcReg
import Derived.StillTail
import Derived.Deep.Quiet
import Derived.Below
namespace Go.Vc
open Go.RowKit
set_option linter.unusedVariables false
set_option linter.unusedSimpArgs false
set_option linter.unnecessarySimpa false
/-- What was there stands; there may be more. -/
def Later (w w' : World) : Prop := Below w.heap.size w w'
section
variable {P : Program} {ops : Array Oper} {md : Region.Mode} {C : World → Prop}

/-- Whatever is picked of the first n operations, until none of them is left. -/
def headAny (P : Program) (md : Region.Mode) (ops : Array Oper) (C : World → Prop) (n : Nat) (L : Array Bool → Act → Prop) : Nat → Array Bool → Act → Prop
  | 0, listed, a => L listed a
  | f + 1, listed, a => Region.ready md ops listed ≠ [] ∧ ∀ i ∈ Region.ready md ops listed, i < n ∧ qOp P ops C i (headAny P md ops C n L f (listed.setIfInBounds i true)) a
theorem headAny_any {n g : Nat} {L : Array Bool → Act → Prop} {Q : Exit → Act → World → Prop} (hL : ∀ listed a w, C w → L listed a → wpAny P md ops Q g listed a w) :
    ∀ (f : Nat) (listed : Array Bool) (a : Act) (w : World), C w → headAny P md ops C n L f listed a → wpAny P md ops Q (f + g) listed a w := by
  intro f
  induction f with
  | zero => intro listed a w hw h; rw [Nat.zero_add]; exact hL _ _ _ hw h
  | succ f ih =>
    intro listed a w hw h
    rw [Nat.add_right_comm]
    refine ⟨fun h0 => absurd h0 h.1, fun i hi => ?_⟩
    exact wpOp_of_qOp hw (fun a' w' hw' h' => ih _ a' w' hw' h') (h.2 i hi).2
/-- What may come up now may be taken first. -/
theorem headAny_first {n i : Nat} {oi : Oper} {v : Value} {L : Array Bool → Act → Prop} (hi : ops[i]? = some oi) (hsel : ∀ (j : Nat) (o : Oper) cs b, ops[j]? = some o → o.op ≠ .select cs b)
    (hs : Region.sinkB md ops n = true) (hc : Region.chainB md ops n = true) (hn : n < ops.size) (hin : i < n) (hdone : ∀ listed a, L listed a → ∀ j ∈ Region.ready md ops listed, n ≤ j) :
    ∀ (f : Nat) (listed : Array Bool) (a : Act), HeadInv md ops n listed →
      (∀ j oj, ops[j]? = some oj → j ≠ i → listed.getD j true = false → (∀ e ∈ oj.after, Region.binds md e = true → e.on ≠ i) → oi.apart ops oj = true) →
      i ∈ Region.ready md ops listed → YieldsIn P ops C oi v a → headAny P md ops C n L f (listed.setIfInBounds i true) (a.put oi.dst v) → headAny P md ops C n L (f + 1) listed a := by
  intro f
  induction f with
  | zero =>
    intro listed a inv _ hr hy H
    refine ⟨fun h => (by rw [h] at hr; cases hr), fun j hj => ?_⟩
    have hjn : j < n := Nat.lt_of_not_le fun h => tail_waits hs hc hn inv _ i rfl hin (mem_ready.1 hr).1 j h hj
    refine ⟨hjn, ?_⟩
    by_cases hji : j = i
    · subst hji; exact hy.qOp hi H
    · exact absurd (hdone _ _ H j (ready_mono hj hji)) (Nat.not_le_of_lt hjn)
  | succ f ih =>
    intro listed a inv hfree hr hy H
    refine ⟨fun h => (by rw [h] at hr; cases hr), fun j hj => ?_⟩
    have hun := (mem_ready.1 hr).1
    have hjn : j < n := Nat.lt_of_not_le fun h => tail_waits hs hc hn inv _ i rfl hin hun j h hj
    refine ⟨hjn, ?_⟩
    by_cases hji : j = i
    · subst hji; exact hy.qOp hi H
    obtain ⟨hjun, oj, hoj, hall⟩ := mem_ready.1 hj
    have hnot : ∀ e ∈ oj.after, Region.binds md e = true → e.on ≠ i := by
      intro e he hb heq
      have h1 := hall e he hb
      rw [heq, getD_both hun] at h1
      cases h1
    have h2 := qOp_put hoj (hfree j oj hoj hji hjun hnot) (fun cs b => hsel i oi cs b hi) (fun cs b => hsel j oj cs b hoj) hy (H.2 j (ready_mono hj hji)).2
    refine qOp_mono (fun a' h3 => ih (listed.setIfInBounds j true) a' (inv.set hj hjn) ?_ (ready_mono hr (Ne.symm hji)) h3.1 ?_) h2
    · intro k ok hk hki hkun hno
      refine hfree k ok hk hki ?_ hno
      by_cases hjk : j = k
      · subst hjk; exact hjun
      · rw [getD_set_ne true hjk] at hkun; exact hkun
    · rw [Array.setIfInBounds_comm _ _ hji]
      exact h3.2
theorem headAny_lex {n g : Nat} {Lq : Act → Prop} (hsel : Region.noSelect ops = true) (hs : Region.sinkB md ops n = true) (hc : Region.chainB md ops n = true) (hn : n < ops.size) :
    ∀ (l : List Oper) (k : Nat) (listed : Array Bool) (a : Act), (∀ j, j < l.length → l[j]? = ops[k + j]?) → k + l.length = n → HeadInv md ops n listed → Region.lexHead md ops g l.length k listed = true →
      wpQuiet P ops C Lq l a → headAny P md ops C n (fun listed' a' => Region.seqB md ops g n listed' = true ∧ Lq a') l.length listed a := by
  intro l
  induction l with
  | nil =>
    intro k listed a _ hk _ hB h
    obtain rfl : k = n := by simpa using hk
    exact ⟨by simpa [Region.lexHead] using hB, h⟩
  | cons o l ih =>
    intro k listed a hl hk inv hB h
    have h0 : ops[k]? = some o := by simpa using (hl 0 (by simp)).symm
    simp only [List.length_cons, Region.lexHead, Bool.and_eq_true] at hB
    obtain ⟨⟨hr, hf⟩, hB'⟩ := hB
    have hkn : k < n := by simp only [List.length_cons] at hk; omega
    have hr' : k ∈ Region.ready md ops listed := by simpa using hr
    have hst : qOp P ops C k (wpQuiet P ops C Lq l) a := by unfold qOp; simp only [h0]; exact h
    obtain ⟨v, hy, hK⟩ := yieldsIn_of_qOp h0 hst
    refine headAny_first h0 (Region.noSelect_spec hsel) hs hc hn hkn (fun listed' a' hL => seqB_ready hL.1) l.length listed a inv (Region.free_spec h0 hf) hr' hy ?_
    refine ih (k + 1) _ _ (fun j hj => ?_) (by simp only [List.length_cons] at hk; omega) (inv.set hr' hkn) hB' hK
    have := hl (j + 1) (by simp; omega)
    simpa [Nat.add_assoc, Nat.add_comm 1 j] using this
/-- The first n quiet, the others one behind the other. -/
theorem wpAny_quiet_tail {Q : Exit → Act → World → Prop} {a : Act} {w : World} (n : Nat) (hB : Region.lexTailB .any ops n = true) (hC : C w)
    (h : wpQuiet P ops C (fun a' => ∀ w', C w' → wpList P ops Q (ops.toList.drop n) a' w') (ops.toList.take n) a) : wpAny P .any ops Q ops.size (Array.replicate ops.size false) a w := by
  simp only [Region.lexTailB, Bool.and_eq_true, decide_eq_true_eq] at hB
  obtain ⟨⟨⟨⟨hsel, hn⟩, hs⟩, hc⟩, hlex⟩ := hB
  have htl : (ops.toList.take n).length = n := by simp; omega
  have hdl : (ops.toList.drop n).length = ops.size - n := by simp
  have inv0 : HeadInv .any ops n (Array.replicate ops.size false) :=
    ⟨by simp, fun j oj _ hl => (by rw [getD_replicate_false] at hl; cases hl), fun t _ ht => getD_in (by simpa using ht) (getD_replicate_false _ _)⟩
  have H := headAny_lex (C := C) (md := .any) (g := ops.size - n) hsel hs hc hn (ops.toList.take n) 0 (Array.replicate ops.size false) a
    (fun j hj => by
      rw [htl] at hj
      simp [hj]) (by simpa using htl) inv0 (by rw [htl]; exact hlex) h
  have := headAny_any (Q := Q) (g := ops.size - n) (fun listed a' w' hw' hL => by
    have := wpAny_of_seq (md := .any) (Q' := Q) (ops.toList.drop n) n listed a' w' (fun j => by simp [List.getElem?_drop]) (by rw [hdl]; exact hL.1) (hL.2 w' hw')
    rwa [hdl] at this) _ _ _ _ hC H
  rw [htl, show n + (ops.size - n) = ops.size by omega] at this
  exact this
theorem wp_region_quiet_tail {Q : Exit → Act → World → Prop} {a : Act} {w : World} (n : Nat) (hm : P.follows .mixedOrders = true) (hB : Region.lexTailB .any ops n = true) (hC : C { w with drawn := w.drawn + 1 })
    (h : wpQuiet P ops C (fun a' => ∀ w', C w' → wpList P ops Q (ops.toList.drop n) a' w') (ops.toList.take n) a) : wpR P ops true Q a w :=
  wpR_any hm (wpAny_quiet_tail n hB hC h)
end
/-! ### one new block among the first ones -/
section
variable {P : Program} {ops : Array Oper} {md : Region.Mode} {C : World → Prop}
/-- As quietUpon; a call leaves all that was there when it began. -/
def soberUpon (P : Program) (w : World) (v : Value) : Result Next → Prop
  | .ok (.value u) w' => w' = w ∧ u = v
  | .ok .skip w' => w' = w ∧ v = undef
  | .ok (.enter f args) w' => w' = w ∧ Calls P f args w (fun e w'' => e = .returned v ∧ Later w w'')
  | _ => False
def soberAt (P : Program) (o : Oper) (a : Act) (w : World) (v : Value) : Prop := soberUpon P w v ((execOp a.eval o).run P w)
def sober (P : Program) (o : Oper) (a : Act) (C : World → Prop) (next : Act → Prop) : Prop := ∃ v, (∀ w, C w → soberAt P o a w v) ∧ next (a.put o.dst v)
def wpSober (P : Program) (ops : Array Oper) (C : World → Prop) (Q : Act → Prop) : List Oper → Act → Prop
  | [], a => Q a
  | o :: rest, a => if Region.wanted o (yielded ops a.tmps) then sober P o a C (wpSober P ops C Q rest) else wpSober P ops C Q rest (a.put o.dst undef)
def Closed (C : World → Prop) : Prop := ∀ w w', C w → Later w w' → C w'
theorem soberAt_quiet {D : World → Prop} (hD : Closed D) {o : Oper} {a : Act} {v : Value} {w : World} (hw : D w) (h : soberAt P o a w v) : o.quietAt P a D w v := by
  unfold soberAt at h
  unfold Oper.quietAt
  generalize (execOp a.eval o).run P w = r at *
  cases r with
  | ok n w' =>
    cases n <;> simp only [soberUpon] at h <;> simp only [Oper.quietUpon]
    case value u => exact h
    case skip => exact h
    case enter f args => exact ⟨h.1, h.2.mono fun e w'' ⟨he, hl⟩ => ⟨he, hD _ _ hw hl⟩⟩
  | halt x w' => simp only [soberUpon] at h
theorem wpSober_quiet (hC : Closed C) {Q : Act → Prop} : ∀ (l : List Oper) (a : Act), wpSober P ops C Q l a → wpQuiet P ops C Q l a := by
  intro l
  induction l with
  | nil => intro a h; exact h
  | cons o l ih =>
    intro a h
    unfold wpSober at h
    unfold wpQuiet
    split
    · rename_i hw
      simp only [hw, if_true] at h
      obtain ⟨v, h1, h2⟩ := h
      exact ⟨v, fun w hw' => soberAt_quiet hC hw' (h1 w hw'), ih _ h2⟩
    · rename_i hw
      simp only [hw] at h
      exact ih _ h
def sOp (P : Program) (ops : Array Oper) (C : World → Prop) (i : Nat) (K : Act → Prop) (a : Act) : Prop :=
  match ops[i]? with
  | none => K a
  | some o => if Region.wanted o (yielded ops a.tmps) then sober P o a C K else K (a.put o.dst undef)
theorem sober_mono {o : Oper} {a : Act} {K K' : Act → Prop} (h : ∀ a, K a → K' a) (hh : sober P o a C K) : sober P o a C K' :=
  let ⟨v, h1, h2⟩ := hh
  ⟨v, h1, h _ h2⟩
theorem sOp_mono {i : Nat} {a : Act} {K K' : Act → Prop} (h : ∀ a, K a → K' a) (hh : sOp P ops C i K a) : sOp P ops C i K' a := by
  unfold sOp at *
  split
  · exact h _ (by simpa [*] using hh)
  · rename_i o ho
    simp only [ho] at hh
    split
    · rename_i hw; simp only [hw, if_true] at hh; exact sober_mono h hh
    · rename_i hw; simp only [hw] at hh; exact h _ hh
theorem sOp_qOp (hC : Closed C) {i : Nat} {a : Act} {K : Act → Prop} (hh : sOp P ops C i K a) : qOp P ops C i K a := by
  unfold sOp at hh
  unfold qOp
  split
  · simpa [*] using hh
  · rename_i o ho
    simp only [ho] at hh
    split
    · rename_i hw; simp only [hw, if_true] at hh; obtain ⟨v, h1, h2⟩ := hh; exact ⟨v, fun w hw' => soberAt_quiet hC hw' (h1 w hw'), h2⟩
    · rename_i hw; simp only [hw] at hh; exact hh
def SYields (P : Program) (ops : Array Oper) (C : World → Prop) (o : Oper) (v : Value) (a : Act) : Prop :=
  (Region.wanted o (yielded ops a.tmps) = true ∧ ∀ w, C w → soberAt P o a w v) ∨
  (Region.wanted o (yielded ops a.tmps) = false ∧ v = undef)
theorem SYields.yields {D : World → Prop} (hD : Closed D) (hDC : ∀ w, D w → C w) {o : Oper} {v : Value} {a : Act} (h : SYields P ops C o v a) : YieldsIn P ops D o v a := by
  rcases h with ⟨h1, h2⟩ | h
  · exact .inl ⟨h1, fun w hw => soberAt_quiet hD hw (h2 w (hDC w hw))⟩
  · exact .inr h
theorem SYields.sOp {i : Nat} {o : Oper} {v : Value} {a : Act} (hi : ops[i]? = some o) (hy : SYields P ops C o v a) {K : Act → Prop} (h : K (a.put o.dst v)) : sOp P ops C i K a := by
  unfold Vc.sOp
  simp only [hi]
  rcases hy with ⟨hw, hv⟩ | ⟨hw, rfl⟩
  · simp only [hw, if_true]; exact ⟨v, hv, h⟩
  · simp only [hw, Bool.false_eq_true, if_false]; exact h
theorem SYields.of_same {o : Oper} {v : Value} {a a' : Act} (hy : SYields P ops C o v a) (he : execOp a'.eval o = execOp a.eval o)
    (hw : Region.wanted o (yielded ops a'.tmps) = Region.wanted o (yielded ops a.tmps)) : SYields P ops C o v a' := by
  unfold SYields soberAt at *
  rw [he, hw]
  exact hy
theorem syields_of_sOp {i : Nat} {o : Oper} {a : Act} {K : Act → Prop} (hi : ops[i]? = some o) (h : sOp P ops C i K a) : ∃ v, SYields P ops C o v a ∧ K (a.put o.dst v) := by
  unfold sOp at h
  simp only [hi] at h
  by_cases hw : Region.wanted o (yielded ops a.tmps) = true
  · simp only [hw, if_true] at h
    obtain ⟨v, h1, h2⟩ := h
    exact ⟨v, .inl ⟨hw, h1⟩, h2⟩
  · simp only [hw] at h
    exact ⟨undef, .inr ⟨by simpa using hw, rfl⟩, h⟩
theorem SYields.keep {o oj : Oper} {v u : Value} {a : Act} (hap : o.apart ops oj = true) (hsi : ∀ cs b, o.op ≠ .select cs b) (hy : SYields P ops C o v a) : SYields P ops C o v (a.put oj.dst u) := by
  obtain ⟨h1, h2, h3⟩ := Oper.apart_spec hap
  exact hy.of_same (execOp_put o hsi a oj.dst u h3) (wanted_put o a oj.dst u h3)
theorem sOp_put {j : Nat} {oi oj : Oper} {v : Value} (hj : ops[j]? = some oj) (hap : oi.apart ops oj = true)
    (hsi : ∀ cs b, oi.op ≠ .select cs b) (hsj : ∀ cs b, oj.op ≠ .select cs b) {K : Act → Prop} {a : Act}
    (hy : SYields P ops C oi v a) (h : sOp P ops C j K (a.put oi.dst v)) :
    sOp P ops C j (fun a' => SYields P ops C oi v a' ∧ K (a'.put oi.dst v)) a := by
  obtain ⟨h1, h2, h3⟩ := Oper.apart_spec hap
  unfold sOp at *
  simp only [hj] at *
  rw [wanted_put oj a oi.dst v h1] at h
  split
  · rename_i hw
    simp only [hw, if_true] at h
    obtain ⟨u, hu, hn⟩ := h
    refine ⟨u, fun w hw' => ?_, hy.keep hap hsi, by rw [← Act.put_comm a v u h2]; exact hn⟩
    have := hu w hw'
    unfold soberAt at *
    rwa [execOp_put oj hsj a oi.dst v h1] at this
  · rename_i hw
    simp only [hw] at h
    exact ⟨hy.keep hap hsi, by rw [← Act.put_comm a v undef h2]; exact h⟩
def ptrv (k : Nat) : Value := .pointer (some ⟨k, 0, none⟩)
/-- Operation m lays a block, whenever it comes up. -/
def floatAny (P : Program) (md : Region.Mode) (ops : Array Oper) (C : World → Prop) (D : Nat → World → Prop) (n m : Nat) (dst : Option Tmp) (L : Nat → Array Bool → Act → Prop) : Nat → Array Bool → Act → Prop
  | 0, _, _ => False
  | f + 1, listed, a => Region.ready md ops listed ≠ [] ∧ ∀ i ∈ Region.ready md ops listed, i < n ∧
      (if i = m then ∀ k, headAny P md ops (D k) n (L k) f (listed.setIfInBounds m true) (a.put dst (ptrv k)) else sOp P ops C i (floatAny P md ops C D n m dst L f (listed.setIfInBounds i true)) a)
theorem floatAny_any {D : Nat → World → Prop} {n m g : Nat} {om : Oper} {obj : Obj} {L : Nat → Array Bool → Act → Prop} {Q : Exit → Act → World → Prop} (hC : Closed C) (hom : ops[m]? = some om) (hg : om.guard = none)
    (hrun : ∀ (a : Act) w, (execOp a.eval om).run P w = .ok (.value (ptrv w.heap.size)) (w.alloc obj)) (hD : ∀ w, C w → D w.heap.size (w.alloc obj))
    (hL : ∀ k listed a w, D k w → L k listed a → wpAny P md ops Q g listed a w) :
    ∀ (f : Nat) (listed : Array Bool) (a : Act) (w : World), C w → floatAny P md ops C D n m om.dst L f listed a → wpAny P md ops Q (f + g) listed a w := by
  intro f
  induction f with
  | zero => intro listed a w hw h; exact h.elim
  | succ f ih =>
    intro listed a w hw h
    rw [Nat.add_right_comm]
    refine ⟨fun h0 => absurd h0 h.1, fun i hi => ?_⟩
    have h2 := (h.2 i hi).2
    by_cases him : i = m
    · subst him
      rw [if_pos rfl] at h2
      unfold wpOp
      simp only [hom]
      have hwant : Region.wanted om (yielded ops a.tmps) = true := by unfold Region.wanted; rw [hg]
      simp only [hwant, if_true]
      refine .inl ?_
      unfold Oper.wp
      rw [hrun]
      exact headAny_any (hL w.heap.size) f _ _ _ (hD w hw) (h2 w.heap.size)
    · rw [if_neg him] at h2
      exact wpOp_of_qOp hw (fun a' w' hw' h' => ih _ a' w' hw' h') (sOp_qOp hC h2)
theorem floatAny_first {D : Nat → World → Prop} {n m i : Nat} {om oi : Oper} {v : Value} {L : Nat → Array Bool → Act → Prop} (hC : Closed C) (hD : ∀ k, Closed (D k)) (hDC : ∀ k w, D k w → C w) (hom : ops[m]? = some om) (hi : ops[i]? = some oi) (him : i ≠ m)
    (hsel : ∀ (j : Nat) (o : Oper) cs b, ops[j]? = some o → o.op ≠ .select cs b)
    (hs : Region.sinkB md ops n = true) (hc : Region.chainB md ops n = true) (hn : n < ops.size) (hin : i < n) (hdone : ∀ k listed a, L k listed a → ∀ j ∈ Region.ready md ops listed, n ≤ j) :
    ∀ (f : Nat) (listed : Array Bool) (a : Act), HeadInv md ops n listed →
      (∀ j oj, ops[j]? = some oj → j ≠ i → listed.getD j true = false → (∀ e ∈ oj.after, Region.binds md e = true → e.on ≠ i) → oi.apart ops oj = true) →
      i ∈ Region.ready md ops listed → SYields P ops C oi v a → floatAny P md ops C D n m om.dst L f (listed.setIfInBounds i true) (a.put oi.dst v) → floatAny P md ops C D n m om.dst L (f + 1) listed a := by
  intro f
  induction f with
  | zero => intro listed a inv _ hr hy H; exact H.elim
  | succ f ih =>
    intro listed a inv hfree hr hy H
    refine ⟨fun h => (by rw [h] at hr; cases hr), fun j hj => ?_⟩
    have hun := (mem_ready.1 hr).1
    have hjn : j < n := Nat.lt_of_not_le fun h => tail_waits hs hc hn inv _ i rfl hin hun j h hj
    refine ⟨hjn, ?_⟩
    by_cases hji : j = i
    · subst hji; rw [if_neg him]; exact hy.sOp hi H
    obtain ⟨hjun, oj, hoj, hall⟩ := mem_ready.1 hj
    have hnot : ∀ e ∈ oj.after, Region.binds md e = true → e.on ≠ i := by
      intro e he hb heq
      have h1 := hall e he hb
      rw [heq, getD_both hun] at h1
      cases h1
    have hap := hfree j oj hoj hji hjun hnot
    have hfree' : ∀ k ok, ops[k]? = some ok → k ≠ i → (listed.setIfInBounds j true).getD k true = false → (∀ e ∈ ok.after, Region.binds md e = true → e.on ≠ i) → oi.apart ops ok = true := by
      intro k ok hk hki hkun hno
      refine hfree k ok hk hki ?_ hno
      by_cases hjk : j = k
      · subst hjk; exact hjun
      · rw [getD_set_ne true hjk] at hkun; exact hkun
    have H2 := (H.2 j (ready_mono hj hji)).2
    by_cases hjm : j = m
    · subst hjm
      obtain rfl : oj = om := Option.some.inj (hoj.symm.trans hom)
      rw [if_pos rfl] at H2 ⊢
      intro k
      have H3 := H2 k
      rw [Array.setIfInBounds_comm _ _ (Ne.symm hji)] at H3
      have hcm : (a.put oi.dst v).put oj.dst (ptrv k) = (a.put oj.dst (ptrv k)).put oi.dst v := by
        obtain ⟨_, h2, _⟩ := Oper.apart_spec hap
        exact Act.put_comm a v (ptrv k) h2
      rw [hcm] at H3
      exact headAny_first hi hsel hs hc hn hin (hdone k) f _ _ (inv.set hj hjn) hfree' (ready_mono hr (Ne.symm hji)) ((hy.keep hap (fun cs b => hsel i oi cs b hi)).yields (hD k) (hDC k)) H3
    · rw [if_neg hjm] at H2 ⊢
      have h2 := sOp_put hoj hap (fun cs b => hsel i oi cs b hi) (fun cs b => hsel j oj cs b hoj) hy H2
      refine sOp_mono (fun a' h3 => ih (listed.setIfInBounds j true) a' (inv.set hj hjn) hfree' (ready_mono hr (Ne.symm hji)) h3.1 ?_) h2
      rw [Array.setIfInBounds_comm _ _ hji]
      exact h3.2
theorem floatAny_lex {D : Nat → World → Prop} {m g : Nat} {om : Oper} {Lq : Nat → Act → Prop} (hC : Closed C) (hD : ∀ k, Closed (D k)) (hDC : ∀ k w, D k w → C w) (hom : ops[m]? = some om) (hsel : Region.noSelect ops = true)
    (hs : Region.sinkB md ops (m + 1) = true) (hc : Region.chainB md ops (m + 1) = true) (hn : m + 1 < ops.size) :
    ∀ (l : List Oper) (k : Nat) (listed : Array Bool) (a : Act), (∀ j, j < l.length → l[j]? = ops[k + j]?) → k + l.length = m → HeadInv md ops (m + 1) listed → listed.getD m true = false → Region.lexHead md ops g (l.length + 1) k listed = true →
      wpSober P ops C (fun a' => ∀ k, Lq k (a'.put om.dst (ptrv k))) l a → floatAny P md ops C D (m + 1) m om.dst (fun k listed' a' => Region.seqB md ops g (m + 1) listed' = true ∧ Lq k a') (l.length + 1) listed a := by
  intro l
  induction l with
  | nil =>
    intro k listed a _ hk inv hun hB h
    obtain rfl : k = m := by simpa using hk
    simp only [List.length_nil, Nat.zero_add, Region.lexHead, Bool.and_eq_true] at hB
    obtain ⟨⟨hr, hf⟩, hB'⟩ := hB
    have hr' : k ∈ Region.ready md ops listed := by simpa using hr
    refine ⟨fun h => (by rw [h] at hr'; cases hr'), fun j hj => ?_⟩
    have hjn : j < k + 1 := Nat.lt_of_not_le fun h => tail_waits hs hc hn inv _ k rfl (Nat.lt_succ_self k) hun j h hj
    refine ⟨hjn, ?_⟩
    by_cases hjk : j = k
    · rw [if_pos hjk]; intro q; exact ⟨hB', h q⟩
    · exact absurd (seqB_ready hB' j (ready_mono hj hjk)) (Nat.not_le_of_lt hjn)
  | cons o l ih =>
    intro k listed a hl hk inv hun hB h
    have h0 : ops[k]? = some o := by simpa using (hl 0 (by simp)).symm
    rw [List.length_cons] at hB
    unfold Region.lexHead at hB
    simp only [Bool.and_eq_true] at hB
    obtain ⟨⟨hr, hf⟩, hB'⟩ := hB
    have hkm : k < m := by simp only [List.length_cons] at hk; omega
    have hr' : k ∈ Region.ready md ops listed := by simpa using hr
    have hst : sOp P ops C k (wpSober P ops C (fun a' => ∀ k, Lq k (a'.put om.dst (ptrv k))) l) a := by unfold sOp; simp only [h0]; exact h
    obtain ⟨v, hy, hK⟩ := syields_of_sOp h0 hst
    refine floatAny_first hC hD hDC hom h0 (Nat.ne_of_lt hkm) (Region.noSelect_spec hsel) hs hc hn (by omega) (fun k listed' a' hL => seqB_ready hL.1) (l.length + 1) listed a inv (Region.free_spec h0 hf) hr' hy ?_
    refine ih (k + 1) _ _ (fun j hj => ?_) (by simp only [List.length_cons] at hk; omega) (inv.set hr' (by omega)) ?_ hB' hK
    · have := hl (j + 1) (by simp; omega)
      simpa [Nat.add_assoc, Nat.add_comm 1 j] using this
    · rw [getD_set_ne true (Nat.ne_of_lt hkm)]; exact hun
theorem closed_later (w : World) : Closed (Later w) := fun _ _ h k => Below.trans h (Below.mono k h.size)
/-- The first m quiet, operation m lays a block whenever it comes up, the others one behind the other. -/
theorem wpAny_float {Q : Exit → Act → World → Prop} {a : Act} {w : World} (m : Nat) {om : Oper} {obj : Obj} (hB : Region.lexTailB .any ops (m + 1) = true) (hom : ops[m]? = some om) (hg : om.guard = none)
    (hrun : ∀ (a : Act) w, (execOp a.eval om).run P w = .ok (.value (ptrv w.heap.size)) (w.alloc obj))
    (h : wpSober P ops (Later w) (fun a' => ∀ w1, Later w w1 → ∀ w2, w2 = w1.alloc obj → ∀ w3, Later w2 w3 → wpList P ops Q (ops.toList.drop (m + 1)) (a'.put om.dst (ptrv w1.heap.size)) w3) (ops.toList.take m) a) : wpAny P .any ops Q ops.size (Array.replicate ops.size false) a { w with drawn := w.drawn + 1 } := by
  simp only [Region.lexTailB, Bool.and_eq_true, decide_eq_true_eq] at hB
  obtain ⟨⟨⟨⟨hsel, hn⟩, hs⟩, hc⟩, hlex⟩ := hB
  have htl : (ops.toList.take m).length = m := by simp; omega
  have hdl : (ops.toList.drop (m + 1)).length = ops.size - (m + 1) := by simp
  have inv0 : HeadInv .any ops (m + 1) (Array.replicate ops.size false) :=
    ⟨by simp, fun j oj _ hl => (by rw [getD_replicate_false] at hl; cases hl), fun t _ ht => getD_in (by simpa using ht) (getD_replicate_false _ _)⟩
  have h' : wpSober P ops (Later w) (fun a' => ∀ k, (∀ w3, (∃ w1, Later w w1 ∧ k = w1.heap.size ∧ Later (w1.alloc obj) w3) → wpList P ops Q (ops.toList.drop (m + 1)) (a'.put om.dst (ptrv k)) w3)) (ops.toList.take m) a := by
    have mono : ∀ {Q1 Q2 : Act → Prop}, (∀ a, Q1 a → Q2 a) → ∀ (l : List Oper) (a : Act), wpSober P ops (Later w) Q1 l a → wpSober P ops (Later w) Q2 l a := by
      intro Q1 Q2 hq l
      induction l with
      | nil => intro a h; exact hq _ h
      | cons o l ih =>
        intro a h
        unfold wpSober at h ⊢
        split
        · rename_i hw; simp only [hw, if_true] at h; exact sober_mono ih h
        · rename_i hw; simp only [hw] at h; exact ih _ h
    refine mono (fun a' ha k w3 ⟨w1, h1, hk, h3⟩ => ?_) _ _ h
    subst hk
    exact ha w1 h1 _ rfl w3 h3
  have hCl := closed_later w
  have H := floatAny_lex (C := Later w) (D := fun k w3 => ∃ w1, Later w w1 ∧ k = w1.heap.size ∧ Later (w1.alloc obj) w3) (md := .any) (g := ops.size - (m + 1)) (om := om) (Lq := fun k a' => ∀ w3, (∃ w1, Later w w1 ∧ k = w1.heap.size ∧ Later (w1.alloc obj) w3) → wpList P ops Q (ops.toList.drop (m + 1)) a' w3) hCl
    (fun k w3 w4 ⟨w1, h1, hk, h3⟩ h4 => ⟨w1, h1, hk, closed_later _ _ _ h3 h4⟩) (fun k w3 ⟨w1, h1, hk, h3⟩ => hCl _ _ (hCl _ _ h1 (Below.alloc (Below.refl _ _) (Nat.le_refl _) obj)) h3) hom hsel hs hc hn (ops.toList.take m) 0 (Array.replicate ops.size false) a
    (fun j hj => by
      rw [htl] at hj
      simp [hj]) (by simpa using htl) inv0 (getD_in (by simp; omega) (getD_replicate_false _ _)) (by rw [htl]; exact hlex) h'
  have := floatAny_any (Q := Q) (g := ops.size - (m + 1)) hCl hom hg hrun (fun w1 h1 => ⟨w1, h1, rfl, Below.refl _ _⟩) (fun k listed a' w' hw' hL => by
    have := wpAny_of_seq (md := .any) (Q' := Q) (ops.toList.drop (m + 1)) (m + 1) listed a' w' (fun j => by simp [List.getElem?_drop]) (by rw [hdl]; exact hL.1) (hL.2 w' hw')
    rwa [hdl] at this) _ _ _ _ (Below.drew (Below.refl _ _)) H
  rw [htl, show m + 1 + (ops.size - (m + 1)) = ops.size by omega] at this
  exact this
end
/-! ### an edge more -/
section
variable {P : Program} {ops : Array Oper} {md : Region.Mode} {Q : Exit → Act → World → Prop}
def plusEdge (ops : Array Oper) (i j : Nat) : Array Oper := ops.modify j fun o => { o with after := o.after.push ⟨i, .data⟩ }
def isExtract : Op → Bool
  | .extract _ _ => true
  | .move _ => true
  | _ => false
def waitsB (md : Region.Mode) (o : Oper) (i : Nat) : Bool := o.after.any fun e => Region.binds md e && e.on == i
def edgeB (md : Region.Mode) (ops : Array Oper) (i j : Nat) : Bool :=
  match ops[i]?, ops[j]? with
  | some oi, some oj => !(i == j) && oi.guard.isNone && isExtract oi.op && (oi.after.all fun e => !Region.binds md e || waitsB md oj e.on) &&
      ((List.range ops.size).all fun k => k == i || (match ops[k]? with
        | some ok => waitsB md ok i || waitsB md oi k || oi.apart ops ok
        | none => true))
  | _, _ => false
theorem waitsB_spec {o : Oper} {i : Nat} (h : waitsB md o i = true) : ∃ e ∈ o.after, Region.binds md e = true ∧ e.on = i := by
  unfold waitsB at h
  obtain ⟨e, he, hb⟩ := Array.any_eq_true'.1 h
  simp only [Bool.and_eq_true, beq_iff_eq] at hb
  exact ⟨e, he, hb.1, hb.2⟩
theorem plusEdge_ne {i j k : Nat} (h : k ≠ j) : (plusEdge ops i j)[k]? = ops[k]? := by
  unfold plusEdge
  rw [Array.getElem?_modify, if_neg (Ne.symm h)]
theorem plusEdge_at {i j : Nat} : (plusEdge ops i j)[j]? = (ops[j]?).map fun o => { o with after := o.after.push ⟨i, .data⟩ } := by
  unfold plusEdge
  rw [Array.getElem?_modify, if_pos rfl]
theorem yielded_plusEdge {i j : Nat} (tmps : Array Value) : yielded (plusEdge ops i j) tmps = yielded ops tmps := by
  funext k
  unfold yielded
  by_cases h : k = j
  · subst h
    rw [plusEdge_at]
    cases ops[k]? <;> rfl
  · rw [plusEdge_ne h]
theorem wpOp_plusEdge {i j k : Nat} {K : Act → World → Prop} {a : Act} {w : World} : wpOp P (plusEdge ops i j) Q k K a w ↔ wpOp P ops Q k K a w := by
  unfold wpOp
  by_cases h : k = j
  · subst h
    rw [plusEdge_at, yielded_plusEdge]
    cases ops[k]? <;> exact Iff.rfl
  · rw [plusEdge_ne h, yielded_plusEdge]
/-- One more edge, on an operation that takes a part of what is there, turns nothing. -/
theorem wpAny_edge {i j : Nat} (hB : edgeB md ops i j = true) (hsel : Region.noSelect ops = true) (hQ : ∀ c a w, ¬ Q (.panic c) a w) (hO : ∀ a w, ¬ Q .outgrown a w) :
    ∀ (f : Nat) (listed : Array Bool) (a : Act) (w : World), listed.size = ops.size → wpAny P md (plusEdge ops i j) Q f listed a w → wpAny P md ops Q f listed a w := by
  unfold edgeB at hB
  split at hB
  case h_2 => cases hB
  rename_i oi oj hi hj
  simp only [Bool.and_eq_true, Bool.not_eq_true', beq_eq_false_iff_ne, Array.all_eq_true_iff_forall_mem, List.all_eq_true, List.mem_range, Bool.or_eq_true, beq_iff_eq, Option.isNone_iff_eq_none] at hB
  obtain ⟨⟨⟨⟨hij, hg⟩, hx⟩, hdep⟩, hfree⟩ := hB
  have hilt : i < ops.size := (Array.getElem?_eq_some_iff.1 hi).1
  have down : ∀ {listed : Array Bool} {k : Nat}, k ∈ Region.ready md (plusEdge ops i j) listed → k ∈ Region.ready md ops listed := by
    intro listed k hk
    obtain ⟨h0, o, ho, hall⟩ := mem_ready.1 hk
    by_cases hkj : k = j
    · subst hkj
      rw [plusEdge_at, hj] at ho
      obtain rfl := Option.some.inj ho
      exact mem_ready.2 ⟨h0, oj, hj, fun e he hb => hall e (Array.mem_push.2 (.inl he)) hb⟩
    · rw [plusEdge_ne hkj] at ho
      exact mem_ready.2 ⟨h0, o, ho, hall⟩
  have upNe : ∀ {listed : Array Bool} {k : Nat}, k ≠ j → k ∈ Region.ready md ops listed → k ∈ Region.ready md (plusEdge ops i j) listed := by
    intro listed k hkj hk
    obtain ⟨h0, o, ho, hall⟩ := mem_ready.1 hk
    exact mem_ready.2 ⟨h0, o, by rw [plusEdge_ne hkj]; exact ho, hall⟩
  intro f
  induction f with
  | zero =>
    intro listed a w hsz h
    refine ⟨?_, h.2⟩
    rw [List.eq_nil_iff_forall_not_mem]
    intro k hk
    by_cases hkj : k = j
    · subst hkj
      by_cases hli : listed.getD i true = true
      · obtain ⟨h0, o, ho, hall⟩ := mem_ready.1 hk
        have : k ∈ Region.ready md (plusEdge ops i k) listed := by
          refine mem_ready.2 ⟨h0, _, by rw [plusEdge_at, ho]; rfl, fun e he hb => ?_⟩
          rcases Array.mem_push.1 he with he | rfl
          · exact hall e he hb
          · simp only [Array.getD_eq_getD_getElem?] at hli ⊢
            rw [Array.getElem?_eq_getElem (by omega)] at hli ⊢
            simpa using hli
        rw [h.1] at this
        cases this
      · -- i may come up too
        have hli : listed.getD i true = false := by simpa using hli
        obtain ⟨h0, o, ho, hall⟩ := mem_ready.1 hk
        obtain rfl : oj = o := Option.some.inj (hj.symm.trans ho)
        have : i ∈ Region.ready md (plusEdge ops i k) listed := upNe hij (mem_ready.2 ⟨hli, oi, hi, fun e he hb => by
          obtain ⟨e', he', hb', hon⟩ := waitsB_spec ((hdep e he).resolve_left (by simp [hb]))
          rw [← hon]; exact hall e' he' hb'⟩)
        rw [h.1] at this
        cases this
    · have := upNe hkj hk
      rw [h.1] at this
      cases this
  | succ f ih =>
    intro listed a w hsz h
    by_cases hri : i ∈ Region.ready md ops listed
    · have h1 := h.2 i (upNe hij hri)
      rw [wpOp_plusEdge] at h1
      unfold wpOp at h1
      simp only [hi] at h1
      have hwant : Region.wanted oi (yielded ops a.tmps) = true := by unfold Region.wanted; rw [hg]
      simp only [hwant, if_true] at h1
      rcases h1 with h1 | ⟨_, a', w', h1⟩
      case inr => exact absurd h1 (hO a' w')
      have hex : ∃ v, (∀ w, (execOp a.eval oi).run P w = .ok (.value v) w) ∧ wpAny P md (plusEdge ops i j) Q f (listed.setIfInBounds i true) (a.put oi.dst v) w := by
        unfold isExtract at hx
        split at hx
        · rename_i x n ho
          unfold Oper.wp at h1
          have hr : ∀ w, (execOp a.eval oi).run P w = ((Instr.extract (a.eval x) n).run P w).andThen fun v w => .ok (.value v) w := by
            intro w; simp [execOp, ho]
          rw [hr] at h1
          cases hv : a.eval x with
          | tuple vs =>
            cases hn : vs[n]? with
            | none =>
              rw [hv] at h1
              simp [Instr.extract, hn] at h1
              exact (h1 : False).elim
            | some u =>
              rw [hv] at h1
              simp only [Instr.extract, hn, Sem.run_pure, Result.andThen_ok, Oper.upon] at h1
              refine ⟨u, fun w => ?_, h1⟩
              rw [hr, hv]
              simp [Instr.extract, hn]
          | _ => rw [hv] at h1; exact (h1 : False).elim
        · rename_i x ho
          have hr : ∀ w, (execOp a.eval oi).run P w = .ok (.value (a.eval x)) w := fun w => by simp [execOp, ho]
          unfold Oper.wp at h1
          rw [hr] at h1
          exact ⟨a.eval x, hr, h1⟩
        · cases hx
      obtain ⟨v, hv, h2⟩ := hex
      refine wpAny_first hi (Region.noSelect_spec hsel) (fun c a w h => absurd h (hQ c _ w)) f listed a w ?_ hri (.inl ⟨hwant, hv⟩) (ih _ _ _ (by simpa using hsz) h2)
      intro k ok hk hki hun hno
      have hklt : k < ops.size := (Array.getElem?_eq_some_iff.1 hk).1
      have := hfree k hklt
      rw [hk] at this
      rcases this with h | h
      · exact absurd h hki
      simp only [Bool.or_eq_true] at h
      rcases h with (h | h) | h
      · obtain ⟨e, he, hb, hon⟩ := waitsB_spec h
        exact absurd hon (hno e he hb)
      · obtain ⟨e, he, hb, hon⟩ := waitsB_spec h
        obtain ⟨_, o, ho, hall⟩ := mem_ready.1 hri
        obtain rfl : oi = o := Option.some.inj (hi.symm.trans ho)
        have := hall e he hb
        rw [hon, getD_both hun] at this
        cases this
      · exact h
    · have same : ∀ {k : Nat}, k ∈ Region.ready md ops listed → k ∈ Region.ready md (plusEdge ops i j) listed := by
        intro k hk
        by_cases hkj : k = j
        · subst hkj
          obtain ⟨h0, o, ho, hall⟩ := mem_ready.1 hk
          obtain rfl : oj = o := Option.some.inj (hj.symm.trans ho)
          by_cases hli : listed.getD i true = true
          · refine mem_ready.2 ⟨h0, _, by rw [plusEdge_at, ho]; rfl, fun e he hb => ?_⟩
            rcases Array.mem_push.1 he with he | rfl
            · exact hall e he hb
            · simp only [Array.getD_eq_getD_getElem?] at hli ⊢
              rw [Array.getElem?_eq_getElem (by omega)] at hli ⊢
              simpa using hli
          · have hli : listed.getD i true = false := by simpa using hli
            exact absurd (mem_ready.2 ⟨hli, oi, hi, fun e he hb => by
              obtain ⟨e', he', hb', hon⟩ := waitsB_spec ((hdep e he).resolve_left (by simp [hb]))
              rw [← hon]; exact hall e' he' hb'⟩) hri
        · exact upNe hkj hk
      refine ⟨fun h0 => h.1 ?_, fun k hk => ?_⟩
      · rw [List.eq_nil_iff_forall_not_mem]
        intro k hk
        have := down hk
        rw [h0] at this
        cases this
      · have := h.2 k (same hk)
        rw [wpOp_plusEdge] at this
        exact wpOp_mono (fun a' w' h' => ih _ _ _ (by simpa using hsz) h') this
def plusEdges (ops : Array Oper) : List (Nat × Nat) → Array Oper
  | [] => ops
  | e :: es => plusEdges (plusEdge ops e.1 e.2) es
def edgesB (md : Region.Mode) (ops : Array Oper) : List (Nat × Nat) → Bool
  | [] => true
  | e :: es => edgeB md ops e.1 e.2 && Region.noSelect ops && edgesB md (plusEdge ops e.1 e.2) es
theorem wpAny_edges (hQ : ∀ c a w, ¬ Q (.panic c) a w) (hO : ∀ a w, ¬ Q .outgrown a w) : ∀ (es : List (Nat × Nat)) (ops : Array Oper), edgesB md ops es = true → (plusEdges ops es).size = ops.size ∧
    ∀ (f : Nat) (listed : Array Bool) (a : Act) (w : World), listed.size = ops.size → wpAny P md (plusEdges ops es) Q f listed a w → wpAny P md ops Q f listed a w := by
  intro es
  induction es with
  | nil => intro ops _; exact ⟨rfl, fun f listed a w _ h => h⟩
  | cons e es ih =>
    intro ops hB
    simp only [edgesB, Bool.and_eq_true] at hB
    obtain ⟨⟨h1, h2⟩, h3⟩ := hB
    have hs : (plusEdge ops e.1 e.2).size = ops.size := by simp [plusEdge]
    obtain ⟨h4, h5⟩ := ih _ h3
    exact ⟨h4.trans hs, fun f listed a w hsz h => wpAny_edge h1 h2 hQ hO f listed a w hsz (h5 f listed a w (by rw [hs]; exact hsz) h)⟩
/-- The first m quiet, operation m lays a block whenever it comes up, the others one behind the other, once some edges are added. -/
theorem wp_region_float {a : Act} {w : World} (es : List (Nat × Nat)) (m : Nat) {om : Oper} {obj : Obj} (hm : P.follows .mixedOrders = true) (hE : edgesB .any ops es = true) (hQ : ∀ c a w, ¬ Q (.panic c) a w) (hO : ∀ a w, ¬ Q .outgrown a w)
    (hB : Region.lexTailB .any (plusEdges ops es) (m + 1) = true) (hom : (plusEdges ops es)[m]? = some om) (hg : om.guard = none)
    (hrun : ∀ (a : Act) w, (execOp a.eval om).run P w = .ok (.value (ptrv w.heap.size)) (w.alloc obj))
    (h : wpSober P (plusEdges ops es) (Later w) (fun a' => ∀ w1, Later w w1 → ∀ w2, w2 = w1.alloc obj → ∀ w3, Later w2 w3 → wpList P (plusEdges ops es) Q ((plusEdges ops es).toList.drop (m + 1)) (a'.put om.dst (ptrv w1.heap.size)) w3) ((plusEdges ops es).toList.take m) a) : wpR P ops true Q a w := by
  obtain ⟨h1, h2⟩ := wpAny_edges (P := P) (Q := Q) hQ hO es ops hE
  refine wpR_any hm (h2 _ _ _ _ (by simp) ?_)
  have := wpAny_float m hB hom hg hrun h
  rwa [h1] at this
end
/-- The first n quiet, the others one behind the other, once some edges are added. -/
theorem wp_region_tail_edges {P : Program} {ops : Array Oper} {Q : Exit → Act → World → Prop} {a : Act} {w : World} (es : List (Nat × Nat)) (n : Nat) (hm : P.follows .mixedOrders = true) (hE : edgesB .any ops es = true) (hQ : ∀ c a w, ¬ Q (.panic c) a w) (hO : ∀ a w, ¬ Q .outgrown a w)
    (hB : Region.lexTailB .any (plusEdges ops es) n = true)
    (h : wpSober P (plusEdges ops es) (Later w) (fun a' => ∀ w', Later w w' → wpList P (plusEdges ops es) Q ((plusEdges ops es).toList.drop n) a' w') ((plusEdges ops es).toList.take n) a) : wpR P ops true Q a w := by
  obtain ⟨h1, h2⟩ := wpAny_edges (P := P) (Q := Q) hQ hO es ops hE
  refine wpR_any hm (h2 _ _ _ _ (by simp) ?_)
  have := wpAny_quiet_tail (C := Later w) (w := { w with drawn := w.drawn + 1 }) (Q := Q) n hB ((Below.refl _ _).drew) (wpSober_quiet (closed_later w) _ _ h)
  rwa [h1] at this
/-! ### operations among the others that turn the world, one behind the other: each other one is quiet in all the worlds in which it may come up -/
section
variable {P : Program} {ops : Array Oper} {md : Region.Mode} {C : Nat → World → Prop}
inductive PhK where
  | turn (q : Nat) | quiet (lo hi : Nat)
def isTurn (K : Option PhK) (q : Nat) : Bool := match K with | some (.turn p) => Nat.beq p q | _ => false
theorem isTurn_spec {K : Option PhK} {q : Nat} (h : isTurn K q = true) : K = some (.turn q) := by
  unfold isTurn at h
  split at h
  · rw [Nat.eq_of_beq_eq_true h]
  · cases h
theorem isTurn_mk (q : Nat) : isTurn (some (.turn q)) q = true := Nat.beq_refl q
def anyTurn (ops : Array Oper) (ks : List PhK) (q : Nat) (f : Nat → Bool) : Bool := (List.range ops.size).any fun t => isTurn ks[t]? q && f t
def waitsFor (md : Region.Mode) (ops : Array Oper) (t i : Nat) : Bool := match ops[t]? with | some o => waitsB md o i | none => false
def phOk (md : Region.Mode) (ops : Array Oper) (ks : List PhK) (k i : Nat) : Bool :=
  match ops[i]?, ks[i]? with
  | some o, some K => o.guard.isNone && o.after.all (fun e => !Region.binds md e || Nat.blt e.on i) &&
      (List.range i).all (fun j => match ops[j]? with | some oj => waitsB md o j || oj.apart ops o | none => false) &&
      (match K with
       | .turn q => Nat.blt q k && (Nat.beq q 0 || anyTurn ops ks (q - 1) (waitsB md o)) && (List.range ops.size).all (fun j => Nat.beq j i || !isTurn ks[j]? q)
       | .quiet lo hi => (Nat.beq lo 0 || anyTurn ops ks (lo - 1) (waitsB md o)) && (Nat.beq hi k || anyTurn ops ks hi (fun t => waitsFor md ops t i)))
  | _, _ => false
def phB (md : Region.Mode) (ops : Array Oper) (ks : List PhK) (k : Nat) : Bool :=
  Region.noSelect ops && (List.range ops.size).all (phOk md ops ks k) && (Nat.beq k 0 || anyTurn ops ks (k - 1) fun _ => true)
def PhC (C : Nat → World → Prop) (lo hi : Nat) (w : World) : Prop := ∃ p, lo ≤ p ∧ p ≤ hi ∧ C p w
def PStep (P : Program) (C : Nat → World → Prop) (o : Oper) (v : Value) (a : Act) : PhK → Prop
  | .turn q => ∀ w, C q w → ∃ w', ((execOp a.eval o).run P w = .ok (.value v) w' ∨ ((execOp a.eval o).run P w = .ok .skip w' ∧ v = undef)) ∧ C (q + 1) w'
  | .quiet lo hi => ∀ w, PhC C lo hi w → soberAt P o a w v
def phSeq (P : Program) (C : Nat → World → Prop) (ops : Array Oper) (ks : List PhK) (Q : Act → Prop) : List Nat → Act → Prop
  | [], a => Q a
  | i :: r, a => ∃ o K v, ops[i]? = some o ∧ ks[i]? = some K ∧ PStep P C o v a K ∧ phSeq P C ops ks Q r (a.put o.dst v)
theorem PStep.same {o : Oper} {v : Value} {a a' : Act} {K : PhK} (he : execOp a'.eval o = execOp a.eval o) (h : PStep P C o v a K) : PStep P C o v a' K := by
  cases K <;> simp only [PStep, soberAt] at * <;> rw [he] <;> exact h
theorem phSeq_pick {ks : List PhK} {Q : Act → Prop} (hsel : ∀ (j : Nat) (o : Oper) cs b, ops[j]? = some o → o.op ≠ .select cs b) {i : Nat} {oi : Oper} (hi : ops[i]? = some oi) :
    ∀ (rem : List Nat) (a : Act), i ∈ rem → rem.Nodup → (∀ j oj, j ∈ rem → ops[j]? = some oj → (j < i → oj.apart ops oi = true)) → rem.Pairwise (· < ·) → phSeq P C ops ks Q rem a →
      ∃ K v, ks[i]? = some K ∧ PStep P C oi v a K ∧ phSeq P C ops ks Q (rem.erase i) (a.put oi.dst v) := by
  intro rem
  induction rem with
  | nil => intro a h; cases h
  | cons j r ih =>
    intro a hin hnd hap hpw h
    obtain ⟨o, K, v, ho, hK, hs, hr⟩ := h
    by_cases hji : j = i
    · subst hji
      obtain rfl : o = oi := Option.some.inj (ho.symm.trans hi)
      exact ⟨K, v, hK, hs, by rw [List.erase_cons_head]; exact hr⟩
    · have hir : i ∈ r := by rcases List.mem_cons.1 hin with h | h
                             · exact absurd h.symm hji
                             · exact h
      have hlt : j < i := (List.pairwise_cons.1 hpw).1 i hir
      have ha := hap j o List.mem_cons_self ho hlt
      obtain ⟨q1, q2, q3⟩ := Oper.apart_spec ha
      obtain ⟨K', u, hK', hs', hr'⟩ := ih (a.put o.dst v) hir (List.nodup_cons.1 hnd).2 (fun j' oj' h' => hap j' oj' (List.mem_cons_of_mem _ h')) (List.pairwise_cons.1 hpw).2 hr
      refine ⟨K', u, hK', hs'.same (execOp_put oi (fun cs b => hsel i oi cs b hi) a o.dst v q1).symm, ?_⟩
      rw [List.erase_cons_tail (by simpa using hji)]
      refine ⟨o, K, v, ho, hK, hs.same (execOp_put o (fun cs b => hsel j o cs b ho) a oi.dst u q3), ?_⟩
      rw [Act.put_comm a u v (fun d hd hd' => q2 d hd' hd)]
      exact hr'
theorem anyTurn_spec {ks : List PhK} {q : Nat} {f : Nat → Bool} (h : anyTurn ops ks q f = true) : ∃ t, t < ops.size ∧ ks[t]? = some (.turn q) ∧ f t = true := by
  simp only [anyTurn, List.any_eq_true, List.mem_range, Bool.and_eq_true] at h
  obtain ⟨t, h1, h2, h3⟩ := h
  exact ⟨t, h1, isTurn_spec h2, h3⟩
theorem not_waitsB {o : Oper} {i : Nat} (h : waitsB md o i = false) : ∀ e ∈ o.after, Region.binds md e = true → e.on ≠ i := by
  intro e he hb heq
  have : waitsB md o i = true := by
    simp only [waitsB, Array.any_eq_true', Bool.and_eq_true, beq_iff_eq]
    exact ⟨e, he, hb, heq⟩
  rw [this] at h; cases h
theorem ph_any {ks : List PhK} {k : Nat} {Qa : Act → Prop} {Q : Exit → Act → World → Prop} (hB : phB md ops ks k = true) (hC : ∀ p, Closed (C p)) (hQ : ∀ a w, C k w → Qa a → Q .normal a w) :
    ∀ (n : Nat) (rem : List Nat) (listed : Array Bool) (a : Act) (w : World) (p : Nat), rem.length = n → (∀ i, i ∈ rem ↔ i < ops.size ∧ listed.getD i true = false) → rem.Nodup → rem.Pairwise (· < ·) → HeadInv md ops ops.size listed →
      (∀ t q, t < ops.size → ks[t]? = some (.turn q) → (listed.getD t false = true ↔ q < p)) → p ≤ k → C p w → phSeq P C ops ks Qa rem a → wpAny P md ops Q n listed a w := by
  simp only [phB, Bool.and_eq_true, List.all_eq_true, List.mem_range] at hB
  obtain ⟨⟨hsel, hok⟩, hlast⟩ := hB
  have hsel := Region.noSelect_spec hsel
  have both : ∀ (listed : Array Bool) (i : Nat), listed.size = ops.size → i < ops.size → (listed.getD i true = false ↔ listed.getD i false = false) := by
    intro listed i hs hi
    have : i < listed.size := by omega
    simp [this]
  intro n
  induction n with
  | zero =>
    intro rem listed a w p hlen hrem hnd hpw inv hph hpk hw h
    obtain rfl : rem = [] := List.length_eq_zero_iff.1 hlen
    have hnone : Region.ready md ops listed = [] := by
      rw [List.eq_nil_iff_forall_not_mem]
      intro i hi
      obtain ⟨h1, o, ho, _⟩ := mem_ready.1 hi
      have := (hrem i).2 ⟨(Array.getElem?_eq_some_iff.1 ho).1, h1⟩
      cases this
    refine ⟨hnone, hQ _ _ ?_ h⟩
    have : p = k := by
      rcases Bool.or_eq_true _ _ ▸ hlast with h0 | h0
      · have := Nat.eq_of_beq_eq_true h0; omega
      · obtain ⟨t, ht, hk, _⟩ := anyTurn_spec h0
        by_cases hk0 : k = 0
        · omega
        · have hl : listed.getD t false = true := by
            cases hh : listed.getD t false with
            | true => rfl
            | false =>
              have := (hrem t).2 ⟨ht, (both listed t inv.size ht).2 hh⟩
              cases this
          have := (hph t _ ht hk).1 hl
          omega
    subst this
    exact hw
  | succ n ih =>
    intro rem listed a w p hlen hrem hnd hpw inv hph hpk hw h
    refine ⟨fun h0 => ?_, fun i hi => ?_⟩
    · exfalso
      cases rem with
      | nil => cases hlen
      | cons i r =>
        obtain ⟨hi1, hi2⟩ := (hrem i).1 List.mem_cons_self
        have ho := Array.getElem?_eq_getElem hi1
        have : i ∈ Region.ready md ops listed := by
          refine mem_ready.2 ⟨hi2, _, ho, fun e he hb => ?_⟩
          have hk := hok i hi1
          unfold phOk at hk
          simp only [ho] at hk
          split at hk
          · rename_i o K ho' hK
            obtain rfl : ops[i] = o := Option.some.inj ho'
            simp only [Bool.and_eq_true, Array.all_eq_true_iff_forall_mem, Bool.or_eq_true, Bool.not_eq_true'] at hk
            have hlt : e.on < i := by
              rcases hk.1.1.2 e he with h | h
              · rw [hb] at h; cases h
              · simpa [Nat.blt_eq] using h
            cases hh : listed.getD e.on false with
            | true => rfl
            | false =>
              have hin := (hrem e.on).2 ⟨by omega, (both listed e.on inv.size (by omega)).2 hh⟩
              rcases List.mem_cons.1 hin with h | h
              · omega
              · have := (List.pairwise_cons.1 hpw).1 _ h; omega
          · cases hk
        rw [h0] at this; cases this
    obtain ⟨hun, o, ho, hall⟩ := mem_ready.1 hi
    have hin : i < ops.size := (Array.getElem?_eq_some_iff.1 ho).1
    have hk := hok i hin
    unfold phOk at hk
    split at hk
    case h_2 => cases hk
    rename_i o' K ho' hK
    obtain rfl : o' = o := Option.some.inj (ho'.symm.trans ho)
    simp only [Bool.and_eq_true, Array.all_eq_true_iff_forall_mem, Bool.or_eq_true, Bool.not_eq_true', List.all_eq_true, List.mem_range, Option.isNone_iff_eq_none] at hk
    obtain ⟨⟨⟨hg, hback⟩, hapart⟩, hkind⟩ := hk
    have hwant : Region.wanted o' (yielded ops a.tmps) = true := by unfold Region.wanted; rw [hg]
    have noWait : ∀ j, listed.getD j true = false → waitsB md o' j = false := by
      intro j hj
      cases hh : waitsB md o' j with
      | false => rfl
      | true =>
        obtain ⟨e, he, hb, rfl⟩ := waitsB_spec hh
        have := hall e he hb
        rw [getD_both hj] at this
        cases this
    obtain ⟨K', v, hK', hs, hr⟩ := phSeq_pick hsel ho rem a ((hrem i).2 ⟨hin, hun⟩) hnd (fun j oj hj hoj hlt => by
      have := hapart j hlt
      simp only [hoj, noWait j ((hrem j).1 hj).2, Bool.false_or] at this
      exact this) hpw h
    obtain rfl : K' = K := Option.some.inj (hK'.symm.trans hK)
    have hlen' : (rem.erase i).length = n := by rw [List.length_erase_of_mem ((hrem i).2 ⟨hin, hun⟩), hlen]; rfl
    have hrem' : ∀ j, j ∈ rem.erase i ↔ j < ops.size ∧ (listed.setIfInBounds i true).getD j true = false := by
      intro j
      rw [hnd.mem_erase_iff, hrem j]
      by_cases hij : i = j
      · subst hij
        have : i < listed.size := by rw [inv.size]; exact hin
        simp [this]
      · rw [getD_set_ne true hij]
        exact ⟨fun h => h.2, fun h => ⟨fun e => hij e.symm, h⟩⟩
    have inv' := inv.set hi hin
    have listedT : ∀ t, waitsB md o' t = true → listed.getD t false = true := by
      intro t ht
      obtain ⟨e, he, hb, rfl⟩ := waitsB_spec ht
      exact hall e he hb
    have hpw' : (rem.erase i).Pairwise (· < ·) := hpw.sublist List.erase_sublist
    have hnd' : (rem.erase i).Nodup := hnd.erase i
    unfold wpOp
    simp only [ho, hwant, if_true]
    refine .inl ?_
    unfold Oper.wp
    cases K' with
    | turn q =>
      simp only [Bool.and_eq_true, Bool.or_eq_true, List.all_eq_true, List.mem_range, Bool.not_eq_true'] at hkind
      obtain ⟨⟨hqk, hprev⟩, huniq⟩ := hkind
      have hqk := by simpa [Nat.blt_eq] using hqk
      have hge : ¬ q < p := fun hlt => by
        have := (hph i q hin hK).2 hlt
        rw [getD_both hun] at this; cases this
      have hle : q ≤ p := by
        rcases hprev with h0 | h0
        · have := Nat.eq_of_beq_eq_true h0; omega
        · obtain ⟨t, ht, hkt, hwt⟩ := anyTurn_spec h0
          have := (hph t _ ht hkt).1 (listedT t hwt)
          omega
      obtain rfl : q = p := by omega
      obtain ⟨w', hrun, hC'⟩ := hs w hw
      have next : wpAny P md ops Q n (listed.setIfInBounds i true) (a.put o'.dst v) w' := by
        refine ih (rem.erase i) _ _ _ (q + 1) hlen' hrem' hnd' hpw' inv' (fun t q' ht hkt => ?_) (by omega) hC' hr
        by_cases hti : i = t
        · subst hti
          obtain rfl : q' = q := by rw [hK] at hkt; cases hkt; rfl
          have : i < listed.size := by rw [inv.size]; exact hin
          simp [this]
        · rw [getD_set_ne false hti, hph t q' ht hkt]
          have : q' ≠ q := by
            rintro rfl
            rcases huniq t ht with h | h
            · exact hti (Nat.eq_of_beq_eq_true h).symm
            · rw [hkt, isTurn_mk] at h; cases h
          omega
      rcases hrun with hrun | ⟨hrun, rfl⟩ <;> rw [hrun] <;> exact next
    | quiet lo hi' =>
      simp only [Bool.and_eq_true, Bool.or_eq_true] at hkind
      obtain ⟨hlo, hhi⟩ := hkind
      have hlo : lo ≤ p := by
        rcases hlo with h0 | h0
        · have := Nat.eq_of_beq_eq_true h0; omega
        · obtain ⟨t, ht, hkt, hwt⟩ := anyTurn_spec h0
          have := (hph t _ ht hkt).1 (listedT t hwt)
          omega
      have hhi : p ≤ hi' := by
        rcases hhi with h0 | h0
        · have := Nat.eq_of_beq_eq_true h0; omega
        · obtain ⟨t, ht, hkt, hwt⟩ := anyTurn_spec h0
          unfold waitsFor at hwt
          split at hwt
          · rename_i ot hot
            obtain ⟨e, he, hb, rfl⟩ := waitsB_spec hwt
            have hnl : listed.getD t false = false := by
              cases hh : listed.getD t false with
              | false => rfl
              | true =>
                have := inv.closed t ot hot hh e he hb
                rw [getD_both hun] at this; cases this
            have : ¬ hi' < p := fun hlt => by
              have := (hph t _ ht hkt).2 hlt
              rw [hnl] at this; cases this
            omega
          · cases hwt
      have next : ∀ w', C p w' → wpAny P md ops Q n (listed.setIfInBounds i true) (a.put o'.dst v) w' := by
        intro w' hw'
        refine ih (rem.erase i) _ _ _ p hlen' hrem' hnd' hpw' inv' (fun t q' ht hkt => ?_) hpk hw' hr
        have hti : i ≠ t := by rintro rfl; rw [hK] at hkt; cases hkt
        rw [getD_set_ne false hti, hph t q' ht hkt]
      have hso := hs w ⟨p, hlo, hhi, hw⟩
      unfold soberAt at hso
      generalize (execOp a.eval o').run P w = r at hso
      cases r with
      | ok m w' =>
        cases m <;> simp only [soberUpon] at hso <;> simp only [Oper.upon]
        case value u => obtain ⟨rfl, rfl⟩ := hso; exact next _ hw
        case skip => obtain ⟨rfl, rfl⟩ := hso; exact next _ hw
        case enter f args =>
          obtain ⟨rfl, hc⟩ := hso
          exact hc.mono fun e w'' ⟨he, hl⟩ => by subst he; exact next _ (hC p _ _ hw hl)
      | halt x w' => simp only [soberUpon] at hso
theorem wp_region_ph {ks : List PhK} {k : Nat} {Qa : Act → Prop} {Q : Exit → Act → World → Prop} {a : Act} {w : World} (es : List (Nat × Nat)) (hm : P.follows .mixedOrders = true) (hE : edgesB .any ops es = true) (hq : ∀ c a w, ¬ Q (.panic c) a w) (hO : ∀ a w, ¬ Q .outgrown a w)
    (hB : phB .any (plusEdges ops es) ks k = true) (hC : ∀ p, Closed (C p)) (hQ : ∀ a w, C k w → Qa a → Q .normal a w)
    (hw : C 0 w) (h : phSeq P C (plusEdges ops es) ks Qa (List.range (plusEdges ops es).size) a) : wpR P ops true Q a w := by
  obtain ⟨h1, h2⟩ := wpAny_edges (P := P) (Q := Q) hq hO es ops hE
  refine wpR_any hm (h2 _ _ _ _ (by simp) ?_)
  have := ph_any hB hC hQ (plusEdges ops es).size (List.range (plusEdges ops es).size) (Array.replicate (plusEdges ops es).size false) a { w with drawn := w.drawn + 1 } 0 (by simp) (fun i => ?_) List.nodup_range List.pairwise_lt_range ⟨by simp, fun j oj _ hl => (by rw [getD_replicate_false] at hl; cases hl), fun t ht ht' => absurd ht' (by omega)⟩ (fun t q ht hk => ?_) (Nat.zero_le _) (hC 0 _ _ hw ((Below.refl _ w).drew)) h
  · rwa [h1] at this
  · rw [List.mem_range]
    exact ⟨fun h => ⟨h, getD_in (by simpa using h) (getD_replicate_false _ _)⟩, fun h => h.1⟩
  · rw [getD_replicate_false]
    simp
end
/-! ### new blocks among the first ones, in any order -/
section
variable {P : Program} {ops : Array Oper} {md : Region.Mode}
/-- What stands behind some new blocks. -/
def Good (w0 : World) (Fs : List (Nat × Obj)) (w : World) : Prop := Later w0 w ∧ (∀ x ∈ Fs, w0.heap.size ≤ x.1 ∧ w.heap[x.1]? = some x.2) ∧ (Fs.map (·.1)).Nodup
theorem Good.closed (w0 : World) (Fs : List (Nat × Obj)) : Closed (Good w0 Fs) := by
  intro w w' h hl
  refine ⟨closed_later _ _ _ h.1 hl, fun x hx => ⟨(h.2.1 x hx).1, ?_⟩, h.2.2⟩
  have hb := (h.2.1 x hx).2
  rw [hl.block x.1 (Array.getElem?_eq_some_iff.1 hb).1]
  exact hb
theorem Good.perm {w0 w : World} {Fs Fs' : List (Nat × Obj)} (hp : Fs.Perm Fs') (h : Good w0 Fs w) : Good w0 Fs' w :=
  ⟨h.1, fun x hx => h.2.1 x (hp.mem_iff.2 hx), (hp.map _).nodup_iff.1 h.2.2⟩
theorem Good.add {w0 w w' : World} {Fs : List (Nat × Obj)} {obj : Obj} (h : Good w0 Fs w) (hl : Later w w') (ho : w'.heap[w.heap.size]? = some obj) : Good w0 ((w.heap.size, obj) :: Fs) w' := by
  have h' := Good.closed w0 Fs _ _ h hl
  refine ⟨h'.1, fun x hx => ?_, ?_⟩
  · rcases List.mem_cons.1 hx with rfl | hx
    · exact ⟨h.1.size, ho⟩
    · exact h'.2.1 x hx
  · rw [List.map_cons, List.nodup_cons]
    refine ⟨?_, h.2.2⟩
    intro hm
    obtain ⟨x, hx, he⟩ := List.mem_map.1 hm
    have := (Array.getElem?_eq_some_iff.1 (h.2.1 x hx).2).1
    omega
/-- An operation that lays a block. -/
def Maker (P : Program) (o : Oper) (a : Act) (w0 : World) (val : Nat → Value) (obj : Obj) : Prop := ∀ w, Later w0 w → ∃ w', (execOp a.eval o).run P w = .ok (.value (val w.heap.size)) w' ∧ Later w w' ∧ w'.heap[w.heap.size]? = some obj
/-- An operation that has a value, the world as it was. -/
def plainAt (P : Program) (o : Oper) (a : Act) (w0 : World) (v : Value) : Prop := ∀ w, Later w0 w → (execOp a.eval o).run P w = .ok (.value v) w
inductive MixStep (P : Program) (w0 : World) (o : Oper) (a : Act) (next : List (Nat × Obj) → Act → Prop) (Fs : List (Nat × Obj)) : Prop where
  | plain (v : Value) (h : plainAt P o a w0 v) (hn : next Fs (a.put o.dst v)) : MixStep P w0 o a next Fs
  | make (val : Nat → Value) (obj : Obj) (h : Maker P o a w0 val obj) (hn : ∀ k, w0.heap.size ≤ k → next ((k, obj) :: Fs) (a.put o.dst (val k))) : MixStep P w0 o a next Fs
def mixAny (P : Program) (md : Region.Mode) (ops : Array Oper) (w0 : World) (n : Nat) (L : List (Nat × Obj) → Array Bool → Act → Prop) : Nat → Array Bool → List (Nat × Obj) → Act → Prop
  | 0, listed, Fs, a => L Fs listed a
  | f + 1, listed, Fs, a => Region.ready md ops listed ≠ [] ∧ ∀ i ∈ Region.ready md ops listed, i < n ∧ ∃ o, ops[i]? = some o ∧ o.guard = none ∧ MixStep P w0 o a (fun Fs' a' => mixAny P md ops w0 n L f (listed.setIfInBounds i true) Fs' a') Fs
theorem mixAny_perm {w0 : World} {n : Nat} {L : List (Nat × Obj) → Array Bool → Act → Prop} (hL : ∀ Fs Fs' l a, Fs.Perm Fs' → L Fs l a → L Fs' l a) : ∀ (f : Nat) (listed : Array Bool) (Fs Fs' : List (Nat × Obj)) (a : Act), Fs.Perm Fs' → mixAny P md ops w0 n L f listed Fs a → mixAny P md ops w0 n L f listed Fs' a := by
  intro f
  induction f with
  | zero => intro listed Fs Fs' a hp h; exact hL _ _ _ _ hp h
  | succ f ih =>
    intro listed Fs Fs' a hp h
    refine ⟨h.1, fun i hi => ?_⟩
    obtain ⟨hin, o, ho, hg, hs⟩ := h.2 i hi
    refine ⟨hin, o, ho, hg, ?_⟩
    cases hs with
    | plain v hv hn => exact .plain v hv (ih _ _ _ _ hp hn)
    | make val obj hv hn => exact .make val obj hv fun k hk => ih _ _ _ _ (hp.cons _) (hn k hk)
theorem mixAny_any {w0 : World} {n g : Nat} {L : List (Nat × Obj) → Array Bool → Act → Prop} {Q : Exit → Act → World → Prop} (hL : ∀ Fs listed a w, Good w0 Fs w → L Fs listed a → wpAny P md ops Q g listed a w) :
    ∀ (f : Nat) (listed : Array Bool) (Fs : List (Nat × Obj)) (a : Act) (w : World), Good w0 Fs w → mixAny P md ops w0 n L f listed Fs a → wpAny P md ops Q (f + g) listed a w := by
  intro f
  induction f with
  | zero => intro listed Fs a w hw h; rw [Nat.zero_add]; exact hL _ _ _ _ hw h
  | succ f ih =>
    intro listed Fs a w hw h
    rw [Nat.add_right_comm]
    refine ⟨fun h0 => absurd h0 h.1, fun i hi => ?_⟩
    obtain ⟨hin, o, ho, hg, hs⟩ := h.2 i hi
    unfold wpOp
    simp only [ho]
    have hwant : Region.wanted o (yielded ops a.tmps) = true := by unfold Region.wanted; rw [hg]
    simp only [hwant, if_true]
    refine .inl ?_
    unfold Oper.wp
    cases hs with
    | plain v hv hn =>
      rw [hv w hw.1]
      exact ih _ _ _ _ hw hn
    | make val obj hv hn =>
      obtain ⟨w', hr, hl, hb⟩ := hv w hw.1
      rw [hr]
      exact ih _ _ _ _ (hw.add hl hb) (hn w.heap.size hw.1.size)
/-- What a step asks of a state where one more value is at hand. -/
theorem plainAt_put {w0 : World} {o : Oper} {a : Act} {u v : Value} {d : Option Tmp} (hs : ∀ cs b, o.op ≠ .select cs b) (h : ∀ x, d = some x → x ∉ o.looksAt ops) : plainAt P o (a.put d u) w0 v ↔ plainAt P o a w0 v := by
  unfold plainAt
  rw [execOp_put o hs a d u h]
theorem Maker_put {w0 : World} {o : Oper} {a : Act} {u : Value} {val : Nat → Value} {obj : Obj} {d : Option Tmp} (hs : ∀ cs b, o.op ≠ .select cs b) (h : ∀ x, d = some x → x ∉ o.looksAt ops) : Maker P o (a.put d u) w0 val obj ↔ Maker P o a w0 val obj := by
  unfold Maker
  rw [execOp_put o hs a d u h]
theorem later_size (w0 : World) (k : Nat) (h : w0.heap.size ≤ k) : ∃ w, Later w0 w ∧ w.heap.size = k := by
  have go : ∀ d, ∃ w, Later w0 w ∧ w.heap.size = w0.heap.size + d := by
    intro d
    induction d with
    | zero => exact ⟨w0, Below.refl _ _, rfl⟩
    | succ d ih =>
      obtain ⟨w, h1, h2⟩ := ih
      exact ⟨w.alloc (.map #[] 0), Below.alloc h1 h1.size _, by rw [World.size_alloc, h2]; omega⟩
  obtain ⟨w, h1, h2⟩ := go (k - w0.heap.size)
  exact ⟨w, h1, by omega⟩
theorem mixAny_first {w0 : World} {n i : Nat} {oi : Oper} {L : List (Nat × Obj) → Array Bool → Act → Prop} (hLp : ∀ Fs Fs' l a, Fs.Perm Fs' → L Fs l a → L Fs' l a) (hi : ops[i]? = some oi) (hg : oi.guard = none) (hsel : ∀ (j : Nat) (o : Oper) cs b, ops[j]? = some o → o.op ≠ .select cs b)
    (hs : Region.sinkB md ops n = true) (hc : Region.chainB md ops n = true) (hn : n < ops.size) (hin : i < n) (hdone : ∀ Fs listed a, L Fs listed a → ∀ j ∈ Region.ready md ops listed, n ≤ j) :
    ∀ (f : Nat) (listed : Array Bool) (Fs : List (Nat × Obj)) (a : Act), HeadInv md ops n listed →
      (∀ j oj, ops[j]? = some oj → j ≠ i → listed.getD j true = false → (∀ e ∈ oj.after, Region.binds md e = true → e.on ≠ i) → oi.apart ops oj = true) →
      i ∈ Region.ready md ops listed → MixStep P w0 oi a (fun Fs' a' => mixAny P md ops w0 n L f (listed.setIfInBounds i true) Fs' a') Fs → mixAny P md ops w0 n L (f + 1) listed Fs a := by
  intro f
  induction f with
  | zero =>
    intro listed Fs a inv _ hr H
    refine ⟨fun h => (by rw [h] at hr; cases hr), fun j hj => ?_⟩
    have hjn : j < n := Nat.lt_of_not_le fun h => tail_waits hs hc hn inv _ i rfl hin (mem_ready.1 hr).1 j h hj
    refine ⟨hjn, ?_⟩
    by_cases hji : j = i
    · subst hji; exact ⟨oi, hi, hg, H⟩
    · have : ∃ Fs' a', L Fs' (listed.setIfInBounds i true) a' := by
        cases H with
        | plain v hv hn => exact ⟨_, _, hn⟩
        | make val obj hv hn => exact ⟨_, _, hn _ (Nat.le_refl _)⟩
      obtain ⟨Fs', a', hl⟩ := this
      exact absurd (hdone _ _ _ hl j (ready_mono hj hji)) (Nat.not_le_of_lt hjn)
  | succ f ih =>
    intro listed Fs a inv hfree hr H
    refine ⟨fun h => (by rw [h] at hr; cases hr), fun j hj => ?_⟩
    have hun := (mem_ready.1 hr).1
    have hjn : j < n := Nat.lt_of_not_le fun h => tail_waits hs hc hn inv _ i rfl hin hun j h hj
    refine ⟨hjn, ?_⟩
    by_cases hji : j = i
    · subst hji; exact ⟨oi, hi, hg, H⟩
    obtain ⟨hjun, oj, hoj, hall⟩ := mem_ready.1 hj
    have hnot : ∀ e ∈ oj.after, Region.binds md e = true → e.on ≠ i := by
      intro e he hb heq
      have h1 := hall e he hb
      rw [heq, getD_both hun] at h1
      cases h1
    obtain ⟨p1, p2, p3⟩ := Oper.apart_spec (hfree j oj hoj hji hjun hnot)
    have si := fun cs b => hsel i oi cs b hi
    have sj := fun cs b => hsel j oj cs b hoj
    have hfree' : ∀ k ok, ops[k]? = some ok → k ≠ i → (listed.setIfInBounds j true).getD k true = false → (∀ e ∈ ok.after, Region.binds md e = true → e.on ≠ i) → oi.apart ops ok = true := by
      intro k ok hk hki hkun hno
      refine hfree k ok hk hki ?_ hno
      by_cases hjk : j = k
      · subst hjk; exact hjun
      · rw [getD_set_ne true hjk] at hkun; exact hkun
    have go : ∀ Fs' u, MixStep P w0 oi (a.put oj.dst u) (fun Fs'' a'' => mixAny P md ops w0 n L f ((listed.setIfInBounds j true).setIfInBounds i true) Fs'' a'') Fs' → mixAny P md ops w0 n L (f + 1) (listed.setIfInBounds j true) Fs' (a.put oj.dst u) :=
      fun Fs' u h => ih _ _ _ (inv.set hj hjn) hfree' (ready_mono hr (Ne.symm hji)) h
    have hcomm := Array.setIfInBounds_comm (xs := listed) (i := i) (j := j) true true (Ne.symm hji)
    cases H with
    | plain v hv hn =>
      obtain ⟨_, oj', hoj', hgj, hst⟩ := hn.2 j (ready_mono hj hji)
      obtain rfl : oj = oj' := Option.some.inj (hoj.symm.trans hoj')
      refine ⟨oj, hoj, hgj, ?_⟩
      cases hst with
      | plain u hu hn2 =>
        refine .plain u ((plainAt_put sj p1).1 hu) (go _ _ (.plain v ((plainAt_put si p3).2 hv) ?_))
        rw [← Act.put_comm a v u p2, ← hcomm]
        exact hn2
      | make val obj hu hn2 =>
        refine .make val obj ((Maker_put sj p1).1 hu) fun k hk => go _ _ (.plain v ((plainAt_put si p3).2 hv) ?_)
        rw [← Act.put_comm a v (val k) p2, ← hcomm]
        exact hn2 k hk
    | make vi oi' hv hn =>
      obtain ⟨_, oj', hoj', hgj, hst⟩ := (hn _ (Nat.le_refl _)).2 j (ready_mono hj hji)
      obtain rfl : oj = oj' := Option.some.inj (hoj.symm.trans hoj')
      refine ⟨oj, hoj, hgj, ?_⟩
      have hl0 : Later w0 w0 := Below.refl _ _
      cases hst with
      | plain u hu _ =>
        have hu' := (plainAt_put sj p1).1 hu
        refine .plain u hu' (go _ _ (.make vi oi' ((Maker_put si p3).2 hv) fun k hk => ?_))
        obtain ⟨_, oj', hoj', _, hst⟩ := (hn k hk).2 j (ready_mono hj hji)
        obtain rfl : oj = oj' := Option.some.inj (hoj.symm.trans hoj')
        cases hst with
        | plain u2 hu2 hn2 =>
          have h1 := (plainAt_put sj p1).1 hu2 w0 hl0
          rw [hu' w0 hl0] at h1
          obtain rfl : u = u2 := by simpa using h1
          rw [← Act.put_comm a (vi k) u p2, ← hcomm]
          exact hn2
        | make val2 obj2 hu2 hn2 =>
          obtain ⟨w', h1, _, h3⟩ := (Maker_put sj p1).1 hu2 w0 hl0
          rw [hu' w0 hl0] at h1
          simp only [Result.ok.injEq, Next.value.injEq] at h1
          obtain ⟨_, rfl⟩ := h1
          have := (Array.getElem?_eq_some_iff.1 h3).1
          omega
      | make val obj hu _ =>
        have hu' := (Maker_put sj p1).1 hu
        refine .make val obj hu' fun k2 hk2 => go _ _ (.make vi oi' ((Maker_put si p3).2 hv) fun k hk => ?_)
        obtain ⟨_, oj', hoj', _, hst⟩ := (hn k hk).2 j (ready_mono hj hji)
        obtain rfl : oj = oj' := Option.some.inj (hoj.symm.trans hoj')
        obtain ⟨w2, hl2, hw2⟩ := later_size w0 k2 hk2
        obtain ⟨w', h1, _, h3⟩ := hu' w2 hl2
        cases hst with
        | plain u2 hu2 hn2 =>
          have h4 := (plainAt_put sj p1).1 hu2 w2 hl2
          rw [h1] at h4
          simp only [Result.ok.injEq, Next.value.injEq] at h4
          obtain ⟨_, rfl⟩ := h4
          have := (Array.getElem?_eq_some_iff.1 h3).1
          omega
        | make val2 obj2 hu2 hn2 =>
          obtain ⟨w'', h4, _, h5⟩ := (Maker_put sj p1).1 hu2 w2 hl2
          rw [h1] at h4
          simp only [Result.ok.injEq, Next.value.injEq] at h4
          obtain ⟨h6, rfl⟩ := h4
          rw [hw2] at h6 h3 h5
          rw [h3] at h5
          obtain rfl : obj = obj2 := Option.some.inj h5
          have := hn2 k2 hk2
          rw [← h6] at this
          rw [← Act.put_comm a (vi k) (val k2) p2, ← hcomm]
          exact mixAny_perm hLp _ _ _ _ _ (List.Perm.swap _ _ _) this
/-- The first n plain, or laying blocks, in whatever order they come up; the others one behind the other. -/
def wpMix (P : Program) (ops : Array Oper) (w0 : World) (Q : List (Nat × Obj) → Act → Prop) : List Oper → List (Nat × Obj) → Act → Prop
  | [], Fs, a => Q Fs a
  | o :: rest, Fs, a => o.guard = none ∧ MixStep P w0 o a (fun Fs' a' => wpMix P ops w0 Q rest Fs' a') Fs
theorem MixStep.mono {w0 : World} {o : Oper} {a : Act} {next next' : List (Nat × Obj) → Act → Prop} {Fs : List (Nat × Obj)} (h : ∀ Fs a, next Fs a → next' Fs a) (hh : MixStep P w0 o a next Fs) : MixStep P w0 o a next' Fs := by
  cases hh with
  | plain v hv hn => exact .plain v hv (h _ _ hn)
  | make val obj hv hn => exact .make val obj hv fun k hk => h _ _ (hn k hk)
theorem mixAny_lex {w0 : World} {n g : Nat} {Lq : List (Nat × Obj) → Act → Prop} (hLp : ∀ Fs Fs' a, Fs.Perm Fs' → Lq Fs a → Lq Fs' a) (hsel : Region.noSelect ops = true) (hs : Region.sinkB md ops n = true) (hc : Region.chainB md ops n = true) (hn : n < ops.size) :
    ∀ (l : List Oper) (k : Nat) (listed : Array Bool) (Fs : List (Nat × Obj)) (a : Act), (∀ j, j < l.length → l[j]? = ops[k + j]?) → k + l.length = n → HeadInv md ops n listed → Region.lexHead md ops g l.length k listed = true →
      wpMix P ops w0 Lq l Fs a → mixAny P md ops w0 n (fun Fs' listed' a' => Region.seqB md ops g n listed' = true ∧ Lq Fs' a') l.length listed Fs a := by
  intro l
  induction l with
  | nil =>
    intro k listed Fs a _ hk _ hB h
    obtain rfl : k = n := by simpa using hk
    exact ⟨by simpa [Region.lexHead] using hB, h⟩
  | cons o l ih =>
    intro k listed Fs a hl hk inv hB h
    have h0 : ops[k]? = some o := by simpa using (hl 0 (by simp)).symm
    simp only [List.length_cons, Region.lexHead, Bool.and_eq_true] at hB
    obtain ⟨⟨hr, hf⟩, hB'⟩ := hB
    have hkn : k < n := by simp only [List.length_cons] at hk; omega
    have hr' : k ∈ Region.ready md ops listed := by simpa using hr
    refine mixAny_first (fun Fs Fs' l a hp h => ⟨h.1, hLp _ _ _ hp h.2⟩) h0 h.1 (Region.noSelect_spec hsel) hs hc hn hkn (fun Fs' listed' a' hL => seqB_ready hL.1) l.length listed Fs a inv (Region.free_spec h0 hf) hr' (h.2.mono fun Fs' a' h' => ?_)
    refine ih (k + 1) _ _ _ (fun j hj => ?_) (by simp only [List.length_cons] at hk; omega) (inv.set hr' hkn) hB' h'
    have := hl (j + 1) (by simp; omega)
    simpa [Nat.add_assoc, Nat.add_comm 1 j] using this
theorem wp_region_mix {Q : Exit → Act → World → Prop} {a : Act} {w : World} (n : Nat) (hm : P.follows .mixedOrders = true) (hB : Region.lexTailB .any ops n = true)
    (h : wpMix P ops w (fun Fs a' => ∀ w', Good w Fs w' → wpList P ops Q (ops.toList.drop n) a' w') (ops.toList.take n) [] a) : wpR P ops true Q a w := by
  simp only [Region.lexTailB, Bool.and_eq_true, decide_eq_true_eq] at hB
  obtain ⟨⟨⟨⟨hsel, hn⟩, hs⟩, hc⟩, hlex⟩ := hB
  have htl : (ops.toList.take n).length = n := by simp; omega
  have hdl : (ops.toList.drop n).length = ops.size - n := by simp
  have inv0 : HeadInv .any ops n (Array.replicate ops.size false) :=
    ⟨by simp, fun j oj _ hl => (by rw [getD_replicate_false] at hl; cases hl), fun t _ ht => getD_in (by simpa using ht) (getD_replicate_false _ _)⟩
  have H := mixAny_lex (md := .any) (g := ops.size - n) (fun Fs Fs' a hp h w' hg => h w' (hg.perm hp.symm)) hsel hs hc hn (ops.toList.take n) 0 (Array.replicate ops.size false) [] a
    (fun j hj => by
      rw [htl] at hj
      simp [hj]) (by simpa using htl) inv0 (by rw [htl]; exact hlex) h
  refine wpR_any hm ?_
  have hg0 : Good w [] { w with drawn := w.drawn + 1 } := ⟨Below.drew (Below.refl _ _), by simp, by simp⟩
  have := mixAny_any (Q := Q) (g := ops.size - n) (fun Fs listed a' w' hw' hL => by
    have := wpAny_of_seq (md := .any) (Q' := Q) (ops.toList.drop n) n listed a' w' (fun j => by simp [List.getElem?_drop]) (by rw [hdl]; exact hL.1) (hL.2 w' hw')
    rwa [hdl] at this) _ _ _ _ _ hg0 H
  rw [htl, show n + (ops.size - n) = ops.size by omega] at this
  exact this
end
end Go.Vc
