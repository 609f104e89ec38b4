/-
A generator of verification conditions over the model, fourth part: that the conditions of operations, regions and code give the model's.
Conditions: none; all is proved over any program.
-/
import Derived.Test.YtngkifnknlginaaVcCode
import Derived.Test.YtngkifnknlginaaVcTail
namespace Go.Vc
open Go.RowKit
set_option linter.unusedSimpArgs false
set_option linter.unnecessarySimpa false
set_option linter.unusedVariables false
variable {ds : List Deferred}

def actD (ds : List Deferred) (tm : List Value) : Act := { tmps := tm.toArray, defers := ds }
def putl (dst : Option Tmp) (tm : List Value) (v : Value) : List Value := match dst with | some d => tm.set d v | none => tm
theorem eval_act (tm : List Value) : (actD ds tm).eval = ev tm := by
  funext x
  cases x <;> simp [actD, Act.eval, ev]
theorem put_act (tm : List Value) (dst : Option Tmp) (v : Value) : (actD ds tm).put dst v = actD ds (putl dst tm v) := by
  cases dst <;> simp [actD, Act.put, putl]

theorem opV_wp {P : Program} {pan : Bool} {lets : List Nat} {o : Oper} {tm : List Value} {w : World} {K : Value → World → Prop} {KP : List PanicEntry → World → Prop} {next : Act → World → Prop} {Q : Exit → Act → World → Prop}
    (h : opV P pan lets o tm w K KP) (hK : ∀ v w', K v w' → next (actD ds (putl o.dst tm v)) w') (hP : ∀ c w', KP c w' → Q (.panic c) (actD ds tm) w') : o.wp P (actD ds tm) w next Q := by
  unfold Oper.wp
  rw [eval_act]
  have val : ∀ v w', (execOp (ev tm) o).run P w = .ok (.value v) w' → K v w' → o.upon P (actD ds tm) next Q ((execOp (ev tm) o).run P w) := by
    intro v w' hr hv
    rw [hr, Oper.upon_value, put_act]
    exact hK v w' hv
  have skip : ∀ w', (execOp (ev tm) o).run P w = .ok .skip w' → K undef w' → o.upon P (actD ds tm) next Q ((execOp (ev tm) o).run P w) := by
    intro w' hr hv
    rw [hr, Oper.upon_skip, put_act]
    exact hK _ w' hv
  have sem : ∀ s, semOf tm o = some s → ∀ v w', s.run P w = .ok v w' → K v w' → o.upon P (actD ds tm) next Q ((execOp (ev tm) o).run P w) := by
    intro s hs v w' hr hv
    obtain ⟨h1, h2⟩ := semOf_run hs hr
    cases hu : isUnit o.op with
    | true => rw [hu] at h1; rw [h2 hu] at hv; exact skip w' h1 hv
    | false => rw [hu] at h1; exact val v w' h1 hv
  have call : ∀ f args, (execOp (ev tm) o).run P w = .ok (.enter f args) w → Calls P f args w (callR P o.type pan K KP) → o.upon P (actD ds tm) next Q ((execOp (ev tm) o).run P w) := by
    intro f args hr hc
    rw [hr, Oper.upon_enter]
    refine hc.mono fun e w' he => ?_
    rcases callR_cases he with ⟨v, rfl, hv⟩ | ⟨c, rfl, hc⟩
    · show next ((actD ds tm).put o.dst v) w'
      rw [put_act]; exact hK v w' hv
    · exact hP c w' hc
  unfold opV at h
  split at h
  · rename_i t ht
    split at h
    · obtain ⟨v, h1, h2⟩ := pureT_sound ht h
      exact val v w (h2 w) (letV_elim h1)
    · obtain ⟨v, h1, h2⟩ := pureT_sound ht h
      exact val v w (h2 w) h1
  · split at h
    · rename_i t len parts ho
      have h' : buildSliceV P t len (parts.map fun (i, x) => (i, ev tm x)).toList w K := by simpa using h
      obtain ⟨v, w', h1, h2⟩ := buildSliceV_run h'
      exact val v w' (by simp [execOp, ho, h2]) h1
    · rename_i t a ho
      split at h
      · rename_i p he
        obtain ⟨ad, rfl, hL⟩ := Deref_elim h
        obtain ⟨v, h1, h2⟩ := loadV_run hL
        refine val v w ?_ h1
        simp only [execOp, ho, he, Instr.loadAt, Instr.sureAddr, Sem.run_bind, Sem.run_pure, Result.andThen_ok, h2 w (fun _ h => h) (fun _ h => h)]
      · exact h.elim
    · rename_i t a x ho
      split at h
      · rename_i p he
        obtain ⟨ad, rfl, hL⟩ := Deref_elim h
        unfold storeV at hL
        cases hu : P.underlying t with
        | none => simp only [hu] at hL
        | some d =>
          cases hn : cellsT P t with
          | none => simp only [hu, hn] at hL
          | some n =>
            simp only [hu, hn] at hL
            cases hag : isAggT P t with
            | true =>
              simp only [hag] at hL
              rcases cnd_cases hL with ⟨hs, h1, h2⟩ | ⟨_, h⟩
              · have hs := of_decide_eq_true hs
                refine skip _ ?_ (h2 _ rfl)
                simp only [execOp, ho, he, Instr.storeAt, Instr.sureAddr, Sem.run_bind, Sem.run_pure, Result.andThen_ok, storeVar, run_sizeOf hn, hs, ne_eq, not_true_eq_false, if_false, run_storeCells _ _ _ h1]
              · exact h.elim
            | false =>
              simp only [hag] at hL
              rcases cnd_cases hL with ⟨hs, hL⟩ | ⟨_, h⟩
              · have hs := of_decide_eq_true hs
                rcases cnd_cases hL with ⟨ho1, ⟨hc, hf⟩, h2⟩ | ⟨_, h⟩
                · refine skip _ ?_ (h2 _ rfl)
                  have hcells : (ev tm x).cells = #[ev tm x] := by cases hv : ev tm x <;> simp [hv, Value.oneCell'] at ho1 <;> rfl
                  obtain ⟨u, hu'⟩ := Option.isSome_iff_exists.1 hc
                  simp only [execOp, ho, he, Instr.storeAt, Instr.sureAddr, Sem.run_bind, Sem.run_pure, Result.andThen_ok, storeVar, run_sizeOf hn, hcells, hs, ne_eq, List.size_toArray, List.length_cons, List.length_nil, not_true_eq_false, if_false]
                  have ha0 : ad.add 0 = ad := rfl
                  simp only [storeCells, Sem.run_bind, ha0, run_store P w ad _ _ ho1, hu', hf, Bool.false_eq_true, if_false, Result.andThen_ok, Sem.run_pure]
                · exact h.elim
              · exact h.elim
      · exact h.elim
    · rename_i e ho
      split at h
      · rename_i i hi
        obtain ⟨z, hz, h⟩ := IsSome_elim h
        refine val _ _ ?_ (h _ rfl)
        simp [execOp, ho, Instr.alloc, run_zeroValue hi hz, newVar, newRow]
      · exact h.elim
    · rename_i e x ho
      refine val _ _ ?_ (h _ rfl)
      simp [execOp, ho, Instr.box, newVar, newRow]
    · rename_i x ho
      split at h
      · rename_i p he
        obtain ⟨ad, rfl, hL⟩ := Deref_elim h
        refine val _ w ?_ hL
        simp [execOp, ho, he]
      · exact h.elim
    · rename_i x ho
      split at h
      · rename_i v w' hr
        have : (execOp (ev tm) o).run P w = .halt (.panic v) w' := by
          simp only [execOp, ho, Sem.run_bind, hr, Result.andThen_halt]
        rw [this, Oper.upon_panic]
        exact hP _ _ h
      · exact h.elim
    · rename_i c ho
      split at h
      · rename_i s hs
        obtain ⟨v, w', h1, h2⟩ := RunsV_elim h
        obtain ⟨x, _, rfl, hk⟩ := Shape.ex_elim h2
        exact sem s hs v w' h1 hk
      · obtain ⟨f, args, hc, hr⟩ := calleeV_elim (P := P) ho h
        rcases cnd_cases hc with ⟨he, hc⟩ | ⟨_, hc⟩
        · exact call f args ((hr w).trans (run_callFunc he w)) hc
        · obtain ⟨v, w', h1, h2⟩ := RunsC_elim hc
          obtain ⟨x, rfl, hk⟩ := retEx_elim h2
          exact val v w' ((hr w).trans h1) hk
    · split at h
      · rename_i s hs
        split at h
        · rename_i hu
          obtain ⟨v, w', h1, h2⟩ := RunsV_elim h
          obtain ⟨h3, h4⟩ := semOf_run hs h1
          rw [hu] at h3
          exact skip w' h3 h2
        · obtain ⟨v, w', h1, h2⟩ := RunsV_elim h
          obtain ⟨x, rfl, hk⟩ := retEx_elim h2
          exact sem s hs v w' h1 hk
      · exact h.elim

/-! ### regions -/
/-- The slot that a guard asks. -/
def guardSlot (ops : Array Oper) (j : Nat) : Option Tmp := (ops[j]?).bind (·.dst)
def opsV (P : Program) (pan : Bool) (lets : List Nat) (ops : Array Oper) (Q : Exit → List Value → World → Prop) : List Oper → List Value → World → Prop
  | [], tm, w => Q .normal tm w
  | o :: rest, tm, w =>
    match o.guard with
    | none => opV P pan lets o tm w (fun v w' => opsV P pan lets ops Q rest (putl o.dst tm v) w') (fun c w' => Q (.panic c) tm w')
    | some (j, want) => IsSome (guardSlot ops j) fun d => (match tm.getD d undef with
        | .bool b => (match want with
            | true => cnd b (opV P pan lets o (tm.set d (.bool true)) w (fun v w' => opsV P pan lets ops Q rest (putl o.dst (tm.set d (.bool true)) v) w') (fun c w' => Q (.panic c) (tm.set d (.bool true)) w'))
                (opsV P pan lets ops Q rest (putl o.dst (tm.set d (.bool false)) undef) w)
            | false => cnd b (opsV P pan lets ops Q rest (putl o.dst (tm.set d (.bool true)) undef) w)
                (opV P pan lets o (tm.set d (.bool false)) w (fun v w' => opsV P pan lets ops Q rest (putl o.dst (tm.set d (.bool false)) v) w') (fun c w' => Q (.panic c) (tm.set d (.bool false)) w')))
        | _ => cnd (decide (d < tm.length)) (opsV P pan lets ops Q rest (putl o.dst tm undef) w) False)
def upD (ds : List Deferred) (Q : Exit → List Value → World → Prop) : Exit → Act → World → Prop := fun e a w => a.defers = ds ∧ Q e a.tmps.toList w
theorem up_act {Q : Exit → List Value → World → Prop} {e : Exit} {tm : List Value} {w : World} (h : Q e tm w) : upD ds Q e (actD ds tm) w := ⟨rfl, by simpa [actD] using h⟩
theorem act_of {a : Act} (h : a.defers = ds) : a = actD ds a.tmps.toList := by cases a; simp only at h; subst h; simp [actD]

theorem set_same {tm : List Value} {d : Nat} {v : Value} (h : tm.getD d undef = v) : tm.set d v = tm := by
  subst h
  apply List.ext_getElem?
  intro i
  rw [List.getElem?_set]
  by_cases hi : d = i
  · subst hi
    by_cases hl : d < tm.length
    · simp [hl, List.getD]
    · simp [hl]
  · simp [hi]
theorem getD_none {tm : List Value} {d : Nat} {v : Value} (h : tm.getD d undef = v) (hv : ∀ b, v ≠ .bool b) (b : Bool) : tm[d]? ≠ some (.bool b) := by
  intro hh
  simp [List.getD, hh] at h
  exact hv b h.symm

theorem wanted_guard {ops : Array Oper} {o : Oper} {j : Nat} {want : Bool} (hg : o.guard = some (j, want)) {d : Tmp} (hd : guardSlot ops j = some d) {tm : List Value} :
    Region.wanted o (yielded ops (actD ds tm).tmps) = (match tm[d]? with | some (.bool b) => b == want | _ => false) := by
  unfold Region.wanted
  rw [hg]
  simp only [yielded]
  unfold guardSlot at hd
  rw [hd]
  simp only [Option.bind_some, actD, List.getElem?_toArray]
  cases h : tm[d]? with
  | none => simp
  | some v => cases v <;> first | rfl | (rename_i b; cases b <;> cases want <;> rfl)
theorem opsV_wp {P : Program} {pan : Bool} {lets : List Nat} {ops : Array Oper} {Q : Exit → List Value → World → Prop} : ∀ (l : List Oper) (tm : List Value) (w : World), opsV P pan lets ops Q l tm w → wpList P ops (upD ds Q) l (actD ds tm) w := by
  intro l
  induction l with
  | nil => intro tm w h; exact wpList_nil (up_act h)
  | cons o rest ih =>
    intro tm w h
    have exec : ∀ tm', tm' = tm → Region.wanted o (yielded ops (actD ds tm).tmps) = true →
        opV P pan lets o tm' w (fun v w' => opsV P pan lets ops Q rest (putl o.dst tm' v) w') (fun c w' => Q (.panic c) tm' w') → wpList P ops (upD ds Q) (o :: rest) (actD ds tm) w := by
      intro tm' he hw ho
      subst he
      unfold wpList
      rw [if_pos hw]
      exact .inl (opV_wp ho (fun v w' hv => ih _ _ hv) (fun c w' hc => up_act hc))
    have skip : ∀ tm', tm' = tm → Region.wanted o (yielded ops (actD ds tm).tmps) = false → opsV P pan lets ops Q rest (putl o.dst tm' undef) w → wpList P ops (upD ds Q) (o :: rest) (actD ds tm) w := by
      intro tm' he hw ho
      subst he
      unfold wpList
      rw [if_neg (by simp [hw]), put_act]
      exact ih _ _ ho
    unfold opsV at h
    split at h
    · rename_i hg
      exact exec tm rfl (by simp [Region.wanted, hg]) h
    · rename_i j want hg
      obtain ⟨d, hd, h⟩ := IsSome_elim h
      have hw := wanted_guard (ds := ds) (ops := ops) hg hd (tm := tm)
      split at h
      · rename_i b hb
        have hsome : tm[d]? = some (.bool b) := by
          cases hh : tm[d]? with
          | none => simp [List.getD, hh, undef] at hb
          | some v => simp [List.getD, hh] at hb; rw [hb]
        rw [hsome] at hw
        cases b <;> cases want <;> simp only [cnd] at h
        · exact exec _ (set_same hb) (by simpa using hw) h
        · exact skip _ (set_same hb) (by simpa using hw) h
        · exact skip _ (set_same hb) (by simpa using hw) h
        · exact exec _ (set_same hb) (by simpa using hw) h
      · rename_i hne
        rcases cnd_cases h with ⟨_, h⟩ | ⟨_, h⟩
        · refine skip tm rfl ?_ h
          rw [hw]
          split
          · rename_i b hb
            exact absurd (by simp [List.getD, hb]) (hne b)
          · rfl
        · exact h.elim

/-! ### regions that draw their order, and only read -/
def qOpV (P : Program) (C : World → Prop) (o : Oper) (tm : List Value) (K : Value → Prop) : Prop :=
  match pureT P tm o with
  | some t => t.run K
  | none => (match o.op with
    | .load t a => (match ev tm a with
        | .pointer p => Deref p fun ad => loadV P t (fun a i l => ∀ w', C w' → CellsAt w' a i l) (fun a v => ∀ w', C w' → w'.cell? a = some v) ad K
        | _ => False)
    | .nilCheck x => (match ev tm x with
        | .pointer p => Deref p fun a => K (.pointer (some a))
        | _ => False)
    | .call c => (match semOf tm o with
        | some s => (typeShape P o.type).ex fun v => (∀ w', C w' → s.run P w' = .ok v w') ∧ K v
        | none => calleeV tm c fun f args => cnd (entersB P f) (retEx P o.type fun v => (∀ w', C w' → Calls P f args w' fun e w'' => e = .returned v ∧ Later w' w'') ∧ K v) False)
    | _ => (match semOf tm o with
        | some s => (match isUnit o.op with
            | true => False
            | false => retEx P o.type fun v => (∀ w', C w' → s.run P w' = .ok v w') ∧ K v)
        | none => False))
def qOpsV (P : Program) (ops : Array Oper) (C : World → Prop) (Q : List Value → Prop) : List Oper → List Value → Prop
  | [], tm => Q tm
  | o :: rest, tm =>
    match o.guard with
    | none => qOpV P C o tm (fun v => qOpsV P ops C Q rest (putl o.dst tm v))
    | some (j, want) => IsSome (guardSlot ops j) fun d => (match tm.getD d undef with
        | .bool b => (match want with
            | true => cnd b (qOpV P C o (tm.set d (.bool true)) (fun v => qOpsV P ops C Q rest (putl o.dst (tm.set d (.bool true)) v)))
                (qOpsV P ops C Q rest (putl o.dst (tm.set d (.bool false)) undef))
            | false => cnd b (qOpsV P ops C Q rest (putl o.dst (tm.set d (.bool true)) undef))
                (qOpV P C o (tm.set d (.bool false)) (fun v => qOpsV P ops C Q rest (putl o.dst (tm.set d (.bool false)) v))))
        | _ => cnd (decide (d < tm.length)) (qOpsV P ops C Q rest (putl o.dst tm undef)) False)
theorem qOpV_sober {P : Program} {C : World → Prop} {o : Oper} {tm : List Value} {K : Value → Prop} {next : Act → Prop} (h : qOpV P C o tm K) (hK : ∀ v, K v → next (actD ds (putl o.dst tm v))) :
    sober P o (actD ds tm) C next := by
  unfold sober soberAt
  rw [eval_act]
  have val : ∀ v, (∀ w', C w' → (execOp (ev tm) o).run P w' = .ok (.value v) w') → K v → ∃ v, (∀ w', C w' → soberUpon P w' v ((execOp (ev tm) o).run P w')) ∧ next ((actD ds tm).put o.dst v) := by
    intro v hr hv
    refine ⟨v, fun w' hw' => ?_, by rw [put_act]; exact hK v hv⟩
    rw [hr w' hw']
    exact ⟨rfl, rfl⟩
  have sem : ∀ s, semOf tm o = some s → isUnit o.op = false → ∀ v, (∀ w', C w' → s.run P w' = .ok v w') → K v → ∃ v, (∀ w', C w' → soberUpon P w' v ((execOp (ev tm) o).run P w')) ∧ next ((actD ds tm).put o.dst v) := by
    intro s hs hu v hr hv
    refine val v (fun w' hw' => ?_) hv
    have := (semOf_run hs (hr w' hw')).1
    rwa [hu] at this
  unfold qOpV at h
  split at h
  · rename_i t ht
    obtain ⟨v, h1, h2⟩ := pureT_sound ht h
    exact val v (fun w' _ => h2 w') h1
  · split at h
    · rename_i t a ho
      split at h
      · rename_i p he
        obtain ⟨ad, rfl, hL⟩ := Deref_elim h
        obtain ⟨v, h1, h2⟩ := loadV_run hL
        refine val v (fun w' hw' => ?_) h1
        simp only [execOp, ho, he, Instr.loadAt, Instr.sureAddr, Sem.run_bind, Sem.run_pure, Result.andThen_ok, h2 w' (fun _ h => h w' hw') (fun _ h => h w' hw')]
      · exact h.elim
    · rename_i x ho
      split at h
      · rename_i p he
        obtain ⟨ad, rfl, hL⟩ := Deref_elim h
        refine val _ (fun w' hw' => ?_) hL
        simp [execOp, ho, he]
      · exact h.elim
    · rename_i c ho
      split at h
      · rename_i s hs
        obtain ⟨v, _, h1, h2⟩ := Shape.ex_elim h
        exact sem s hs (by rw [ho]; rfl) v h1 h2
      · obtain ⟨f, args, hc, hr⟩ := calleeV_elim (P := P) ho h
        rcases cnd_cases hc with ⟨he, hc⟩ | ⟨_, hc⟩
        · obtain ⟨v, h1, h2⟩ := retEx_elim hc
          refine ⟨v, fun w' hw' => ?_, by rw [put_act]; exact hK v h2⟩
          rw [(hr w').trans (run_callFunc he w')]
          exact ⟨rfl, h1 w' hw'⟩
        · exact hc.elim
    · split at h
      · rename_i s hs
        split at h
        · exact h.elim
        · rename_i hu
          obtain ⟨v, h1, h2⟩ := retEx_elim h
          exact sem s hs hu v h1 h2
      · exact h.elim
theorem qOpsV_wp {P : Program} {ops : Array Oper} {C : World → Prop} {Q : List Value → Prop} {Q' : Act → Prop} (hQ : ∀ tm, Q tm → Q' (actD ds tm)) : ∀ (l : List Oper) (tm : List Value), qOpsV P ops C Q l tm → wpSober P ops C Q' l (actD ds tm) := by
  intro l
  induction l with
  | nil => intro tm h; exact hQ _ h
  | cons o rest ih =>
    intro tm h
    have exec : ∀ tm', tm' = tm → Region.wanted o (yielded ops (actD ds tm).tmps) = true →
        qOpV P C o tm' (fun v => qOpsV P ops C Q rest (putl o.dst tm' v)) → wpSober P ops C Q' (o :: rest) (actD ds tm) := by
      intro tm' he hw ho
      subst he
      unfold wpSober
      rw [if_pos hw]
      exact qOpV_sober ho fun v hv => ih _ hv
    have skip : ∀ tm', tm' = tm → Region.wanted o (yielded ops (actD ds tm).tmps) = false → qOpsV P ops C Q rest (putl o.dst tm' undef) → wpSober P ops C Q' (o :: rest) (actD ds tm) := by
      intro tm' he hw ho
      subst he
      unfold wpSober
      rw [if_neg (by simp [hw]), put_act]
      exact ih _ ho
    unfold qOpsV at h
    split at h
    · rename_i hg
      exact exec tm rfl (by simp [Region.wanted, hg]) h
    · rename_i j want hg
      obtain ⟨d, hd, h⟩ := IsSome_elim h
      have hw := wanted_guard (ds := ds) (ops := ops) hg hd (tm := tm)
      split at h
      · rename_i b hb
        have hsome : tm[d]? = some (.bool b) := by
          cases hh : tm[d]? with
          | none => simp [List.getD, hh, undef] at hb
          | some v => simp [List.getD, hh] at hb; rw [hb]
        rw [hsome] at hw
        cases b <;> cases want <;> simp only [cnd] at h
        · exact exec _ (set_same hb) (by simpa using hw) h
        · exact skip _ (set_same hb) (by simpa using hw) h
        · exact skip _ (set_same hb) (by simpa using hw) h
        · exact exec _ (set_same hb) (by simpa using hw) h
      · rename_i hne
        rcases cnd_cases h with ⟨_, h⟩ | ⟨_, h⟩
        · refine skip tm rfl ?_ h
          rw [hw]
          split
          · rename_i b hb
            exact absurd (by simp [List.getD, hb]) (hne b)
          · rfl
        · exact h.elim
end Go.Vc
