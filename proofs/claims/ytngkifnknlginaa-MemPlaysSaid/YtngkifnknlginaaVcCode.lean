/-
A generator of verification conditions over the model, third part: memory, calls, regions, code, loops; and that the condition gives the model's call.
Conditions: none; all is proved over any program.
-/
import Derived.Test.YtngkifnknlginaaVcOps
namespace Go.Vc
open Go.RowKit
set_option linter.unusedSimpArgs false
set_option linter.unnecessarySimpa false
set_option linter.unusedVariables false

/-! ### memory -/
def CellsAt (w : World) (a : Addr) : Nat → List Value → Prop
  | _, [] => True
  | i, v :: l => w.cell? (a.add i) = some v ∧ CellsAt w a (i + 1) l
def setCellsAt (w : World) (a : Addr) : Nat → List Value → World
  | _, [] => w
  | i, v :: l => setCellsAt (w.setCell (a.add i) v) a (i + 1) l
def SetsAt (w : World) (a : Addr) : Nat → List Value → Prop
  | _, [] => True
  | i, v :: l => cnd v.oneCell' (((w.cell? (a.add i)).isSome = true ∧ w.frozen? (a.add i) = false) ∧ SetsAt w a (i + 1) l) False

theorem run_loadCellsFrom {P : Program} {w : World} {a : Addr} : ∀ (l : List Value) (i : Nat) (acc : Array Value), CellsAt w a i l →
    (loadCellsFrom a i l.length acc).run P w = .ok (acc ++ l.toArray) w := by
  intro l
  induction l with
  | nil => intro i acc _; simp [loadCellsFrom]
  | cons v l ih =>
    intro i acc h
    have hc := h.1
    simp only [List.length_cons, loadCellsFrom, Sem.run_bind, run_load, hc, Result.andThen_ok]
    rw [ih _ _ h.2]
    simp
theorem run_loadCells {P : Program} {w : World} {a : Addr} {l : List Value} {n : Nat} (h : CellsAt w a 0 l) (hn : l.length = n) : (loadCells a n).run P w = .ok l.toArray w := by
  subst hn
  simpa [loadCells] using run_loadCellsFrom (P := P) l 0 #[] h
theorem isSome_setCell {w : World} {b : Addr} (a : Addr) (v : Value) (hb : (w.cell? b).isSome = true) : ((w.setCell a v).cell? b).isSome = true := by
  by_cases h : a = b
  · subst h
    obtain ⟨u, hu⟩ := Option.isSome_iff_exists.1 hb
    rw [World.cell?_setCell_same w a v hu]; rfl
  · rw [World.cell?_setCell_other w a b v h]; exact hb
theorem SetsAt_setCell {a : Addr} : ∀ (l : List Value) (w : World) (i : Nat) (b : Addr) (v : Value), SetsAt w a i l → SetsAt (w.setCell b v) a i l := by
  intro l
  induction l with
  | nil => intro w i b v h; exact h
  | cons u l ih =>
    intro w i b v h
    refine cnd_mono h (fun h => ⟨⟨isSome_setCell _ _ h.1.1, by rw [World.frozen?_setCell]; exact h.1.2⟩, ih w (i + 1) b v h.2⟩) id
theorem run_storeCells {P : Program} {a : Addr} : ∀ (l : List Value) (w : World) (i : Nat), SetsAt w a i l → (storeCells a l i).run P w = .ok () (setCellsAt w a i l) := by
  intro l
  induction l with
  | nil => intro w i _; simp [storeCells, setCellsAt]
  | cons v l ih =>
    intro w i h
    rcases cnd_cases h with ⟨hv, ⟨hc, hf⟩, h⟩ | ⟨_, h⟩
    · obtain ⟨u, hu⟩ := Option.isSome_iff_exists.1 hc
      simp only [storeCells, Sem.run_bind, run_store P w _ v _ hv, hu, hf, Bool.false_eq_true, if_false, Result.andThen_ok, setCellsAt]
      exact ih _ _ (SetsAt_setCell l w (i + 1) _ v h)
    · exact h.elim

def aggShape (few : Bool) (i : TypeInfo) : Option Shape := match i.zero with | some (.agg cs) => cond (decide (cs.size = i.size)) (some (shapeOf few (.agg cs))) none | _ => none
/-- What is asked of a place from which a value of type t is loaded: a value's shape, and that it lies there. -/
def loadV (P : Program) (t : TypeId) (H : Addr → Nat → List Value → Prop) (H1 : Addr → Value → Prop) (a : Addr) (K : Value → Prop) : Prop :=
  match P.underlying t, P.info? t with
  | some _, some i => (match isAggT P t with
      | true => IsSome (aggShape (fewT P t) i) fun s => s.ex fun v => H a 0 v.cells.toList ∧ K v
      | false => (typeShape P t).ex fun v => H1 a v ∧ K v)
  | _, _ => False
theorem loadV_mono {P : Program} {t : TypeId} {H H' : Addr → Nat → List Value → Prop} {H1 H1' : Addr → Value → Prop} {a : Addr} {K K' : Value → Prop}
    (h : ∀ v, K v → K' v) (hH : ∀ a i l, H a i l → H' a i l) (hH1 : ∀ a v, H1 a v → H1' a v) (hh : loadV P t H H1 a K) : loadV P t H' H1' a K' := by
  unfold loadV at hh ⊢
  split at hh
  · rename_i d i hd hi
    try simp only [hd, hi]
    split at hh
    · obtain ⟨s, hs, hh⟩ := IsSome_elim hh
      exact IsSome_some hs (Shape.ex_mono (fun v hv => ⟨hH _ _ _ hv.1, h v hv.2⟩) hh)
    · exact Shape.ex_mono (fun v hv => ⟨hH1 _ _ hv.1, h v hv.2⟩) hh
  · exact hh.elim
theorem aggShape_ok {few : Bool} {i : TypeInfo} {s : Shape} {v : Value} (h : aggShape few i = some s) (hv : s.ok v = true) : ∃ cs : Array Value, v = .agg cs ∧ cs.size = i.size := by
  unfold aggShape at h
  split at h
  · rename_i zs hz
    by_cases hn : zs.size = i.size
    · simp only [hn, decide_true, cond_true, Option.some.injEq] at h
      subst h
      unfold shapeOf at hv
      simp only at hv
      cases hb : (few && Nat.ble zs.size 40) <;> simp only [hb, cond_true, cond_false] at hv
      · cases v <;> simp [Shape.ok] at hv
        exact ⟨_, rfl, by omega⟩
      · cases v <;> simp only [Shape.ok] at hv <;> try (cases hv; done)
        rename_i cs
        have := okL_length hv
        simp at this
        exact ⟨_, rfl, by omega⟩
    · simp [hn] at h
  · cases h
theorem loadV_run {P : Program} {t : TypeId} {H : Addr → Nat → List Value → Prop} {H1 : Addr → Value → Prop} {a : Addr} {K : Value → Prop} (hh : loadV P t H H1 a K) :
    ∃ v, K v ∧ ∀ w, (∀ l, H a 0 l → CellsAt w a 0 l) → (∀ v, H1 a v → w.cell? a = some v) → (loadVar t a).run P w = .ok v w := by
  unfold loadV at hh
  split at hh
  · rename_i d i hd hi
    split at hh
    · rename_i ha
      obtain ⟨s, hs, hh⟩ := IsSome_elim hh
      obtain ⟨v, hv, h1, h2⟩ := Shape.ex_elim hh
      obtain ⟨cs, rfl, hsz⟩ := aggShape_ok hs hv
      refine ⟨_, h2, fun w hw _ => ?_⟩
      have hn : cellsT P t = some i.size := by simp [cellsT, hi]
      have := run_loadCells (P := P) (n := i.size) (hw _ h1) (by simpa [Value.cells] using hsz)
      simp only [loadVar, Sem.run_bind, run_isAgg hd, ha, Result.andThen_ok, if_true, run_sizeOf hn, this, Sem.run_pure]
      simp [Value.cells]
    · rename_i ha
      obtain ⟨v, hv, h1, h2⟩ := Shape.ex_elim hh
      refine ⟨_, h2, fun w _ hw => ?_⟩
      have hc := hw _ h1
      simp only [loadVar, Sem.run_bind, run_isAgg hd, ha, Result.andThen_ok, Bool.false_eq_true, if_false, run_load]
      rw [hc]
  · exact hh.elim

def storeV (P : Program) (t : TypeId) (w : World) (a : Addr) (v : Value) (K : Value → World → Prop) : Prop :=
  match P.underlying t, cellsT P t with
  | some _, some n => (match isAggT P t with
      | true => cnd (decide (v.cells.size = n)) (SetsAt w a 0 v.cells.toList ∧ ∀ w', w' = setCellsAt w a 0 v.cells.toList → K undef w') False
      | false => cnd (decide (n = 1)) (cnd v.oneCell' (((w.cell? a).isSome = true ∧ w.frozen? a = false) ∧ ∀ w', w' = w.setCell a v → K undef w') False) False)
  | _, _ => False
def allocV (w : World) (o : Obj) (K : Addr → World → Prop) : Prop := ∀ w', w' = w.alloc o → K ⟨w.heap.size, 0, none⟩ w'

/-- A computation that comes to a value. -/
def RunsV (P : Program) (s : Sem Value) (w : World) (K : Value → World → Prop) : Prop := match s.run P w with | .ok v w' => K v w' | .halt _ _ => False
theorem RunsV_of {P : Program} {s : Sem Value} {w w' : World} {v : Value} {K : Value → World → Prop} (h : s.run P w = .ok v w') (hK : K v w') : RunsV P s w K := by
  simp [RunsV, h, hK]
theorem RunsV_elim {P : Program} {s : Sem Value} {w : World} {K : Value → World → Prop} (h : RunsV P s w K) : ∃ v w', s.run P w = .ok v w' ∧ K v w' := by
  unfold RunsV at h
  split at h
  · exact ⟨_, _, by assumption, h⟩
  · exact h.elim
theorem RunsV_mono {P : Program} {s : Sem Value} {w : World} {K K' : Value → World → Prop} (h : ∀ v w, K v w → K' v w) (hh : RunsV P s w K) : RunsV P s w K' := by
  obtain ⟨v, w', h1, h2⟩ := RunsV_elim hh
  exact RunsV_of h1 (h _ _ h2)

/-- Operations that come to a value and are not told by the parts before. -/
def semOf (tm : List Value) (o : Oper) : Option (Sem Value) :=
  match o.op with
  | .convert src dst x => some (convert src dst (ev tm x))
  | .sliceToArrayPointer arr x => some (Instr.arrayAt arr (ev tm x))
  | .makeMap t r => some (Instr.makeMap t (r.map (ev tm)))
  | .makeSlice t l c => some (Instr.makeSlice t (ev tm l) (ev tm c))
  | .lookup t x i ok => some (Instr.lookup t (ev tm x) (ev tm i) ok)
  | .mapUpdate t m k x | .insert t m k x => some (do Instr.mapUpdate t (ev tm m) (ev tm k) (ev tm x); pure undef)
  | .mapEntry t m k => some (Instr.mapEntry t (ev tm m) (ev tm k))
  | .entryStore t m s x => some (do Instr.entryStore t (ev tm m) (ev tm s) (ev tm x); pure undef)
  | .range t x => some (Instr.range t (ev tm x))
  | .next it str => some (Instr.next (ev tm it) str o.type)
  | .entry it => some (Instr.entry (ev tm it))
  | .typeAssert x t as ok => some (Instr.typeAssert (ev tm x) t as ok)
  | .call c => (match c.callee with
      | .builtin .append => some (Builtin.append_ c.argTypes o.type (c.args.map (ev tm)))
      | .builtin .copy => some (Builtin.copy_ c.argTypes o.type (c.args.map (ev tm)))
      | .builtin .cap => some (Builtin.cap_ c.argTypes o.type (c.args.map (ev tm)))
      | .builtin .len => some (Builtin.len_ c.argTypes o.type (c.args.map (ev tm)))
      | .builtin .delete => some (Builtin.delete_ c.argTypes o.type (c.args.map (ev tm)))
      | .builtin .clear => some (Builtin.clear_ c.argTypes o.type (c.args.map (ev tm)))
      | .builtin .unsafeSliceData => some (Builtin.unsafeSliceData_ c.argTypes o.type (c.args.map (ev tm)))
      | .builtin .unsafeString => some (Builtin.unsafeString_ c.argTypes o.type (c.args.map (ev tm)))
      | _ => none)
  | _ => none
def isUnit : Op → Bool
  | .mapUpdate .. | .insert .. | .entryStore .. => true
  | _ => false
theorem semOf_run {P : Program} {tm : List Value} {o : Oper} {s : Sem Value} (h : semOf tm o = some s) {w w' : World} {v : Value} (hr : s.run P w = .ok v w') :
    (execOp (ev tm) o).run P w = .ok (cond (isUnit o.op) .skip (.value v)) w' ∧ (isUnit o.op = true → v = undef) := by
  have val : isUnit o.op = false → (∀ w, (execOp (ev tm) o).run P w = (s.run P w).andThen fun v w' => .ok (.value v) w') → (execOp (ev tm) o).run P w = .ok (cond (isUnit o.op) .skip (.value v)) w' ∧ (isUnit o.op = true → v = undef) := by
    intro hu he
    exact ⟨by rw [he, hr, hu]; rfl, by simp [hu]⟩
  have unit : ∀ (u : Sem Unit), s = (do u; pure undef) → isUnit o.op = true → (∀ w, (execOp (ev tm) o).run P w = (u.run P w).andThen fun v w' => .ok .skip w') → (execOp (ev tm) o).run P w = .ok (cond (isUnit o.op) .skip (.value v)) w' ∧ (isUnit o.op = true → v = undef) := by
    intro u hs hu he
    subst hs
    simp only [Sem.run_bind] at hr
    cases hx : u.run P w with
    | ok a w1 => simp only [hx, Result.andThen_ok, Sem.run_pure, Result.ok.injEq] at hr; obtain ⟨rfl, rfl⟩ := hr; exact ⟨by rw [he, hx, hu]; rfl, fun _ => rfl⟩
    | halt a w1 => simp [hx] at hr
  unfold semOf at h
  cases ho : o.op <;> simp only [ho] at h <;> try (cases h; done)
  case mapUpdate t m k x => rw [← ho]; exact unit _ (Option.some.inj h).symm (by rw [ho]; rfl) fun w => by simp [execOp, ho]
  case insert t m k x => rw [← ho]; exact unit _ (Option.some.inj h).symm (by rw [ho]; rfl) fun w => by simp [execOp, ho]
  case entryStore t m s' x => rw [← ho]; exact unit _ (Option.some.inj h).symm (by rw [ho]; rfl) fun w => by simp [execOp, ho]
  case call c =>
    obtain ⟨callee, args, argTypes⟩ := c
    cases callee <;> simp only at h <;> try (cases h; done)
    rename_i b
    cases b <;> simp only at h <;> try (cases h; done)
    all_goals (obtain rfl := Option.some.inj h; rw [← ho]; exact val (by rw [ho]; rfl) fun w => by simp [execOp, ho, resolve, invoke, builtin])
  all_goals (obtain rfl := Option.some.inj h; rw [← ho]; exact val (by rw [ho]; rfl) fun w => by simp [execOp, ho])

/-! ### slices that are built -/
def repL (z : List Value) : Nat → List Value
  | 0 => []
  | n + 1 => z ++ repL z n
theorem repL_length (z : List Value) : ∀ n, (repL z n).length = n * z.length := by
  intro n
  induction n with
  | zero => simp [repL]
  | succ n ih => simp [repL, ih, Nat.succ_mul]; omega
theorem repL_get (z : List Value) : ∀ (n i : Nat), i < n * z.length → (repL z n)[i]? = z[i % z.length]? := by
  intro n
  induction n with
  | zero => intro i h; omega
  | succ n ih =>
    intro i h
    rw [Nat.succ_mul] at h
    simp only [repL]
    by_cases hi : i < z.length
    · rw [List.getElem?_append_left hi, Nat.mod_eq_of_lt hi]
    · rw [List.getElem?_append_right (by omega), ih _ (by omega)]
      congr 1
      exact (Nat.mod_eq_sub_mod (by omega)).symm
theorem repL_range (z : Array Value) (n : Nat) : (Array.range (n * z.size)).map (z[· % z.size]!) = (repL z.toList n).toArray := by
  apply Array.ext_getElem?
  intro i
  simp only [Array.getElem?_map, List.getElem?_toArray]
  by_cases hi : i < n * z.size
  · rw [Array.getElem?_range, if_pos hi, repL_get _ _ _ (by simpa using hi)]
    have hz : 0 < z.size := by
      rcases Nat.eq_zero_or_pos z.size with h | h
      · rw [h] at hi; omega
      · exact h
    have hm : i % z.size < z.size := Nat.mod_lt _ hz
    simp [hm]
  · rw [Array.getElem?_range, if_neg hi]
    have : (repL z.toList n).length ≤ i := by rw [repL_length]; simp; omega
    rw [List.getElem?_eq_none this]
    rfl
def buildSliceV (P : Program) (t : TypeId) (len : Nat) (parts : List (Nat × Value)) (w : World) (K : Value → World → Prop) : Prop :=
  match P.underlying t with
  | some (.slice e) => IsSome (P.info? e) fun i => IsSome i.zero fun z => cnd (decide (z.cells.size = i.size) && (Nat.ble (len * i.size) 16777216 && partsOk (fun k => some (k * i.size, i.size)) (len * i.size) parts))
      (allocV w (.cells (fillFrom (fun k => some (k * i.size, i.size)) parts 0 (repL z.cells.toList len)).toArray e) fun a w' => K (.slice (some a) len len) w') False
  | _ => False
theorem buildSliceV_mono {P : Program} {t : TypeId} {len : Nat} {parts : List (Nat × Value)} {w : World} {K K' : Value → World → Prop} (h : ∀ v w, K v w → K' v w) (hh : buildSliceV P t len parts w K) : buildSliceV P t len parts w K' := by
  unfold buildSliceV at hh ⊢
  split at hh
  · obtain ⟨i, hi, hh⟩ := IsSome_elim hh
    obtain ⟨z, hz, hh⟩ := IsSome_elim hh
    exact IsSome_some hi (IsSome_some hz (cnd_mono hh (fun hh w' hw' => h _ _ (hh w' hw')) (fun x => x)))
  · exact hh.elim
theorem buildSliceV_run {P : Program} {t : TypeId} {len : Nat} {parts : Array (Nat × Value)} {w : World} {K : Value → World → Prop} (hh : buildSliceV P t len parts.toList w K) :
    ∃ v w', K v w' ∧ (Instr.buildSlice t len parts).run P w = .ok v w' := by
  unfold buildSliceV at hh
  split at hh
  · rename_i e hu
    obtain ⟨i, hi, hh⟩ := IsSome_elim hh
    obtain ⟨z, hz, hh⟩ := IsSome_elim hh
    rcases cnd_cases hh with ⟨hc, hh⟩ | ⟨_, hh⟩
    · simp only [Bool.and_eq_true, decide_eq_true_eq] at hc
      obtain ⟨h1, h2, h3⟩ := hc
      have h2 := Nat.le_of_ble_eq_true h2
      refine ⟨_, _, hh _ rfl, ?_⟩
      have hn : cellsT P e = some i.size := by simp [cellsT, hi]
      have hlen : (repL z.cells.toList len).length = len * i.size := by rw [repL_length]; simp [h1]
      have hf := fillL_fill _ _ (fillFrom_fillL (place := fun k => some (k * i.size, i.size)) parts.toList (repL z.cells.toList len) (by rw [hlen]; exact h3))
      simp only [Instr.buildSlice, Sem.run_bind, run_underlying hu, Result.andThen_ok, run_sizeOf hn]
      rw [if_neg (by omega)]
      by_cases h0 : len * i.size = 0
      · have hr : repL z.cells.toList len = [] := List.eq_nil_of_length_eq_zero (by rw [hlen]; exact h0)
        rw [hr] at hf
        simp only [h0, if_true, Sem.run_bind, Sem.run_pure, Result.andThen_ok]
        have he : (Array.map (fun x => (#[] : Array Value)[x % (#[] : Array Value).size]!) (Array.range 0)) = (([] : List Value)).toArray := by simp
        rw [he, hf, hr]
        simp [newRow]
      · simp only [h0, if_false, Sem.run_bind, run_zeroValue hi hz, Result.andThen_ok, Sem.run_pure]
        rw [← h1, repL_range]
        rw [← h1] at hf
        rw [hf]
        simp [newRow]
    · exact hh.elim
  · exact hh.elim

/-! ### what code is told beside the code -/
abbrev Slots := List (Nat × Shape)
structure Hints where
  loops : List (Nat × Slots) := []
  conds : List (Nat × Slots) := []
  blocks : List (Nat × Slots) := []
  regs : List (Nat × Slots) := []
  raw : List Nat := []
  tails : List (Nat × Nat) := []
  floats : List (Nat × Nat) := []
  edges : List (Nat × List (Nat × Nat)) := []
  mixes : List (Nat × Nat) := []
  lets : List Nat := []
  yields : List (Nat × Nat) := []
  rngs : List (Nat × Slots × Slots) := []
  pan : Bool := false

/-! ### calls -/
def entersB (P : Program) (f : FuncId) : Bool := match P.funcs[f]? with | some fn => fn.body.isSome && !(fn.name == "runtime.NumGoroutine") | none => false
def callR (P : Program) (t : TypeId) (pan : Bool) (K : Value → World → Prop) (KP : List PanicEntry → World → Prop) (e : Ending) (w' : World) : Prop :=
  match pan with
  | false => retEx P t fun v => e = .returned v ∧ K v w'
  | true => (retEx P t fun v => e = .returned v ∧ K v w') ∨ ∃ c, e = .panicked c ∧ KP c w'
/-- A function that the model stands in for: it comes to a value here and now. -/
def RunsC (P : Program) (f : FuncId) (args : Array Value) (w : World) (K : Value → World → Prop) : Prop := match (callFunc f args).run P w with | .ok (.value v) w' => K v w' | _ => False
theorem RunsC_of {P : Program} {f : FuncId} {args : Array Value} {w w' : World} {v : Value} {K : Value → World → Prop} (h : (callFunc f args).run P w = .ok (.value v) w') (hK : K v w') : RunsC P f args w K := by
  simp [RunsC, h, hK]
theorem RunsC_elim {P : Program} {f : FuncId} {args : Array Value} {w : World} {K : Value → World → Prop} (h : RunsC P f args w K) : ∃ v w', (callFunc f args).run P w = .ok (.value v) w' ∧ K v w' := by
  unfold RunsC at h
  split at h
  · exact ⟨_, _, by assumption, h⟩
  · exact h.elim
theorem RunsC_mono {P : Program} {f : FuncId} {args : Array Value} {w : World} {K K' : Value → World → Prop} (h : ∀ v w, K v w → K' v w) (hh : RunsC P f args w K) : RunsC P f args w K' := by
  obtain ⟨v, w', h1, h2⟩ := RunsC_elim hh
  exact RunsC_of h1 (h _ _ h2)
def callV (P : Program) (pan : Bool) (t : TypeId) (f : FuncId) (args : Array Value) (w : World) (K : Value → World → Prop) (KP : List PanicEntry → World → Prop) : Prop :=
  cnd (entersB P f) (Calls P f args w (callR P t pan K KP)) (RunsC P f args w fun v w' => retEx P t fun u => v = u ∧ K u w')
theorem callR_mono {P : Program} {t : TypeId} {pan : Bool} {K K' : Value → World → Prop} {KP KP' : List PanicEntry → World → Prop} (h : ∀ v w, K v w → K' v w) (hp : ∀ c w, KP c w → KP' c w) {e : Ending} {w : World}
    (hh : callR P t pan K KP e w) : callR P t pan K' KP' e w := by
  have one : (retEx P t fun v => e = .returned v ∧ K v w) → (retEx P t fun v => e = .returned v ∧ K' v w) := fun x => retEx_mono (fun v hv => ⟨hv.1, h _ _ hv.2⟩) x
  cases pan with
  | false => exact one hh
  | true =>
    rcases hh with hh | ⟨c, h1, h2⟩
    · exact .inl (one hh)
    · exact .inr ⟨c, h1, hp _ _ h2⟩
theorem callR_cases {P : Program} {t : TypeId} {pan : Bool} {K : Value → World → Prop} {KP : List PanicEntry → World → Prop} {e : Ending} {w : World} (hh : callR P t pan K KP e w) :
    (∃ v, e = .returned v ∧ K v w) ∨ (∃ c, e = .panicked c ∧ KP c w) := by
  cases pan with
  | false => exact .inl (retEx_elim hh)
  | true =>
    rcases hh with hh | hh
    · exact .inl (retEx_elim hh)
    · exact .inr hh
theorem run_callFunc {P : Program} {f : FuncId} {args : Array Value} (h : entersB P f = true) (w : World) : (callFunc f args).run P w = .ok (.enter f args) w := by
  unfold entersB at h
  split at h
  · rename_i fn hf
    simp only [Bool.and_eq_true, Bool.not_eq_true'] at h
    have : fn.body.isNone = false := by cases hb : fn.body <;> simp [hb] at h ⊢
    simp only [callFunc, Sem.run_bind, run_program, Result.andThen_ok, hf, h.2, this, Bool.false_eq_true, if_false, Sem.run_pure]
  · cases h
/-- What is called, and with what: a function of the program. -/
def calleeV (tm : List Value) (c : Call) (L : FuncId → Array Value → Prop) : Prop :=
  match c.callee with
  | .value (.func f) => L f (c.args.map (ev tm))
  | .value x => AsFn (ev tm x) fun f fi ca => L f (fi ++ c.args.map (ev tm) ++ ca)
  | _ => False
theorem calleeV_mono {tm : List Value} {c : Call} {L L' : FuncId → Array Value → Prop} (h : ∀ f a, L f a → L' f a) (hh : calleeV tm c L) : calleeV tm c L' := by
  unfold calleeV at hh ⊢
  split at hh
  · exact h _ _ hh
  · obtain ⟨f, fi, ca, h1, h2⟩ := AsFn_elim hh
    simp only [h1]; exact h _ _ h2
  · exact hh.elim
theorem calleeV_elim {P : Program} {tm : List Value} {o : Oper} {c : Call} (ho : o.op = .call c) {L : FuncId → Array Value → Prop} (hh : calleeV tm c L) :
    ∃ f args, L f args ∧ ∀ w, (execOp (ev tm) o).run P w = (callFunc f args).run P w := by
  obtain ⟨callee, args, argTypes⟩ := c
  unfold calleeV at hh
  split at hh
  · rename_i f hc
    simp only at hc
    subst hc
    refine ⟨f, _, hh, fun w => ?_⟩
    simp only [execOp, ho, resolve, ev, Deferred.ofValue, Sem.run_bind, Sem.run_pure, Result.andThen_ok, invoke]
    simp
  · rename_i x hne hc
    simp only at hc
    subst hc
    obtain ⟨f, fi, ca, h1, h2⟩ := AsFn_elim hh
    refine ⟨f, _, h2, fun w => ?_⟩
    simp only [execOp, ho, resolve, h1, Deferred.ofValue, Sem.run_bind, Sem.run_pure, Result.andThen_ok, invoke]
  · exact hh.elim

/-! ### one operation -/
/-- A value under a name of its own. -/
def letV (v : Value) (K : Value → Prop) : Prop :=
  match v with
  | .int k a => ∀ n : Int, n = a → K (.int k n)
  | .bool a => ∀ b : Bool, b = a → K (.bool b)
  | v => K v
theorem letV_elim {v : Value} {K : Value → Prop} (h : letV v K) : K v := by
  unfold letV at h
  split at h
  · exact h _ rfl
  · exact h _ rfl
  · exact h
theorem letV_mono {v : Value} {K K' : Value → Prop} (h : ∀ v, K v → K' v) (hh : letV v K) : letV v K' := by
  unfold letV at hh ⊢
  split
  · exact fun n hn => h _ (hh n hn)
  · exact fun n hn => h _ (hh n hn)
  · rename_i h1 h2
    refine h _ ?_
    revert hh
    split
    · rename_i k a; exact absurd rfl (h1 k a)
    · rename_i b; exact absurd rfl (h2 b)
    · exact id
def letIf (lets : List Nat) (dst : Option Tmp) : Bool := match dst with | some d => lets.elem d | none => false
def opV (P : Program) (pan : Bool) (lets : List Nat) (o : Oper) (tm : List Value) (w : World) (K : Value → World → Prop) (KP : List PanicEntry → World → Prop) : Prop :=
  match pureT P tm o with
  | some t => (match letIf lets o.dst with
      | true => t.run fun v => letV v fun v => K v w
      | false => t.run fun v => K v w)
  | none => (match o.op with
    | .buildSlice t len parts => buildSliceV P t len (parts.toList.map fun (i, x) => (i, ev tm x)) w K
    | .load t a => (match ev tm a with
        | .pointer p => Deref p fun ad => loadV P t (CellsAt w) (fun a v => w.cell? a = some v) ad fun v => K v w
        | _ => False)
    | .store t a x => (match ev tm a with
        | .pointer p => Deref p fun ad => storeV P t w ad (ev tm x) K
        | _ => False)
    | .alloc e => (match P.info? e with
        | some i => IsSome i.zero fun z => allocV w (.cells z.cells e) fun a w' => K (.pointer (some a)) w'
        | none => False)
    | .box e x => allocV w (.cells (ev tm x).cells e) fun a w' => K (.pointer (some a)) w'
    | .nilCheck x => (match ev tm x with
        | .pointer p => Deref p fun a => K (.pointer (some a)) w
        | _ => False)
    | .panic x => (match (Instr.panic (ev tm x)).run P w with
        | .halt (.panic v) w' => KP [{ v, recovered := false }] w'
        | _ => False)
    | .call c => (match semOf tm o with
        | some s => RunsV P s w fun v w' => (typeShape P o.type).ex fun x => v = x ∧ K x w'
        | none => calleeV tm c fun f args => callV P pan o.type f args w K KP)
    | _ => (match semOf tm o with
        | some s => (match isUnit o.op with
            | true => RunsV P s w fun _ w' => K undef w'
            | false => RunsV P s w fun v w' => retEx P o.type fun x => v = x ∧ K x w')
        | none => False))

theorem storeV_mono {P : Program} {t : TypeId} {w : World} {a : Addr} {v : Value} {K K' : Value → World → Prop} (h : ∀ v w, K v w → K' v w) (hh : storeV P t w a v K) : storeV P t w a v K' := by
  unfold storeV at hh ⊢
  cases hu : P.underlying t with
  | none => simp only [hu] at hh
  | some d =>
    cases hn : cellsT P t with
    | none => simp only [hu, hn] at hh
    | some n =>
      simp only [hu, hn] at hh ⊢
      cases ha : isAggT P t <;> simp only [ha] at hh ⊢
      · exact cnd_mono hh (fun hh => cnd_mono hh (fun hh => ⟨hh.1, fun w' hw' => h _ _ (hh.2 w' hw')⟩) (fun x => x)) (fun x => x)
      · exact cnd_mono hh (fun hh => ⟨hh.1, fun w' hw' => h _ _ (hh.2 w' hw')⟩) (fun x => x)
set_option maxHeartbeats 1000000 in
theorem opV_mono {P : Program} {pan : Bool} {lets : List Nat} {o : Oper} {tm : List Value} {w : World} {K K' : Value → World → Prop} {KP KP' : List PanicEntry → World → Prop}
    (h : ∀ v w, K v w → K' v w) (hp : ∀ c w, KP c w → KP' c w) (hh : opV P pan lets o tm w K KP) : opV P pan lets o tm w K' KP' := by
  unfold opV at hh ⊢
  split
  · rename_i t ht
    simp only [ht] at hh
    split
    · rename_i hl
      simp only [hl] at hh
      exact t.mono (fun v hv => letV_mono (fun v => h v w) hv) hh
    · rename_i hl
      simp only [hl] at hh
      exact t.mono (fun v => h v w) hh
  · rename_i ht
    simp only [ht] at hh
    split
    · rename_i t len parts ho
      simp only [ho] at hh
      exact buildSliceV_mono h hh
    · rename_i t a ho
      simp only [ho] at hh
      split
      · rename_i p he
        simp only [he] at hh
        obtain ⟨ad, ha, hh⟩ := Deref_elim hh
        exact Deref_some ha (loadV_mono (fun v => h v w) (fun _ _ _ => id) (fun _ _ => id) hh)
      · rename_i hne
        revert hh
        split
        · rename_i p he; exact absurd he (hne p)
        · exact id
    · rename_i t a x ho
      simp only [ho] at hh
      split
      · rename_i p he
        simp only [he] at hh
        obtain ⟨ad, ha, hh⟩ := Deref_elim hh
        refine Deref_some ha ?_
        exact storeV_mono h hh
      · rename_i hne
        revert hh
        split
        · rename_i p he; exact absurd he (hne p)
        · exact id
    · rename_i e ho
      simp only [ho] at hh
      split
      · rename_i i hi
        simp only [hi] at hh
        obtain ⟨z, hz, hh⟩ := IsSome_elim hh
        exact IsSome_some hz fun w' hw' => h _ _ (hh w' hw')
      · rename_i hi
        simp only [hi] at hh
    · rename_i e x ho
      simp only [ho] at hh
      exact fun w' hw' => h _ _ (hh w' hw')
    · rename_i x ho
      simp only [ho] at hh
      split
      · rename_i p he
        simp only [he] at hh
        obtain ⟨ad, ha, hh⟩ := Deref_elim hh
        exact Deref_some ha (h _ _ hh)
      · rename_i hne
        revert hh
        split
        · rename_i p he; exact absurd he (hne p)
        · exact id
    · rename_i x ho
      simp only [ho] at hh
      revert hh
      split
      · exact hp _ _
      · exact id
    · rename_i c ho
      simp only [ho] at hh
      split
      · rename_i s hs
        simp only [hs] at hh
        exact RunsV_mono (fun v w' hv => Shape.ex_mono (fun x hx => ⟨hx.1, h _ _ hx.2⟩) hv) hh
      · rename_i hs
        simp only [hs] at hh
        refine calleeV_mono (fun f a hc => ?_) hh
        exact cnd_mono hc (fun hc => hc.mono fun e w' he => callR_mono h hp he) (fun hc => RunsC_mono (fun v w' hv => retEx_mono (fun u hu => ⟨hu.1, h _ _ hu.2⟩) hv) hc)
    · have hh' : (match semOf tm o with
        | some s => (match isUnit o.op with
            | true => RunsV P s w fun _ w' => K undef w'
            | false => RunsV P s w fun v w' => retEx P o.type fun x => v = x ∧ K x w')
        | none => False) := by
        revert hh
        split <;> first
          | exact id
          | (rename_i ho; intro _; exfalso; simp_all; done)
          | (intro _; simp_all)
      clear hh
      split
      · rename_i s hs
        simp only [hs] at hh'
        split
        · rename_i hu
          simp only [hu] at hh'
          exact RunsV_mono (fun v w' hv => h _ _ hv) hh'
        · rename_i hu
          simp only [hu] at hh'
          exact RunsV_mono (fun v w' hv => retEx_mono (fun x hx => ⟨hx.1, h _ _ hx.2⟩) hv) hh'
      · rename_i hs
        simp only [hs] at hh'
end Go.Vc
