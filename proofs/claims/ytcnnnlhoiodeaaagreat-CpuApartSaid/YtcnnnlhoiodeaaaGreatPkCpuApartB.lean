/-
Texts of this claim, merged: VcTop, Vlaw05, Vref02, Vref02n, Vinsn, VcLib, VcNum, Base, VcOwn, VcLoc.
Conditions: each theorem's own.
-/
import Derived.Test.YtcnnnlhoiodeaaaGreatPkCpuApartA
import Derived.RangeFuncSeq
import Derived.RangeFuncBound
import Derived.Test.YtcnnnlhoiodeaaaGreatProg
import Derived.Laws.AppendOwn
import Derived.Laws.OwnMore
set_option linter.unusedSimpArgs false
set_option linter.unnecessarySimpa false
set_option linter.unusedVariables false
set_option linter.unusedSectionVars false

/-
A generator of verification conditions over the model, last part: code and loops, and the call of a function from its condition.
Conditions: none; all is proved over any program.
-/
namespace Go.Vc
open Go.RowKit
variable {ds : List Deferred}

/-! ### what code assigns -/
def opDsts : List Oper → List Nat
  | [] => []
  | o :: l => (match o.dst with | some d => d :: opDsts l | none => opDsts l)
theorem mem_opDsts {d : Nat} : ∀ {l : List Oper}, d ∈ opDsts l ↔ ∃ o ∈ l, o.dst = some d := by
  intro l
  induction l with
  | nil => simp [opDsts]
  | cons o l ih =>
    unfold opDsts
    cases h : o.dst with
    | none => simp [h, ih]
    | some e => simp [h, ih, eq_comm]
def assigned : Code → List Nat
  | .region _ ops _ => opDsts ops.toList
  | .seq a b => assigned a ++ assigned b
  | .cond _ a b => assigned a ++ assigned b
  | .block _ c => assigned c
  | .loop c => assigned c
  | .scope c => assigned c
  | .rangeFunc _ ps a b => ps.toList ++ assigned a ++ assigned b
  | _ => []
def Agree (A : List Nat) (tm tm' : List Value) : Prop := tm'.length = tm.length ∧ ∀ i, i ∉ A → tm'[i]? = tm[i]?
theorem Agree.refl (A : List Nat) (tm : List Value) : Agree A tm tm := ⟨rfl, fun _ _ => rfl⟩
theorem Agree.trans {A : List Nat} {a b c : List Value} (h : Agree A a b) (k : Agree A b c) : Agree A a c := ⟨k.1.trans h.1, fun i hi => (k.2 i hi).trans (h.2 i hi)⟩
theorem Agree.mono {A B : List Nat} {a b : List Value} (h : Agree A a b) (hs : ∀ i, i ∈ A → i ∈ B) : Agree B a b := ⟨h.1, fun i hi => h.2 i fun hA => hi (hs i hA)⟩
theorem Agree.put {A : List Nat} {a b : List Value} (h : Agree A a b) {dst : Option Tmp} (hd : ∀ d, dst = some d → d ∈ A) (v : Value) : Agree A a (putl dst b v) := by
  cases dst with
  | none => exact h
  | some d =>
    refine ⟨by simp [putl, h.1], fun i hi => ?_⟩
    have hne : d ≠ i := fun e => hi (e ▸ hd d rfl)
    simp only [putl]
    rw [List.getElem?_set_ne hne]
    exact h.2 i hi
theorem Agree.setSame {A : List Nat} {a b : List Value} (h : Agree A a b) {d : Nat} {v : Value} (he : b.getD d undef = v) : Agree A a (b.set d v) := by rw [set_same he]; exact h

/-! ### the slots that a relation speaks of -/
def selL : Slots → List Value → List Value
  | [], _ => []
  | x :: l, tm => tm.getD x.1 undef :: selL l tm
def okSel : Slots → List Value → Bool
  | [], _ => true
  | x :: l, tm => x.2.ok (tm.getD x.1 undef) && okSel l tm
def allSel : Slots → (List Value → Prop) → Prop
  | [], L => L []
  | x :: l, L => x.2.all fun v => allSel l fun vs => L (v :: vs)
def setSel : Slots → List Value → List Value → List Value
  | x :: l, v :: vs, tm => setSel l vs (tm.set x.1 v)
  | _, _, tm => tm
def garbFrom (g : Nat → Value) (A : List Nat) : Nat → List Value → List Value
  | _, [] => []
  | i, v :: r => (match A.elem i with | true => g i | false => v) :: garbFrom g A (i + 1) r
theorem allSel_elim {l : Slots} : ∀ {L : List Value → Prop}, allSel l L → ∀ {tm : List Value}, okSel l tm = true → L (selL l tm) := by
  induction l with
  | nil => intro L h tm _; exact h
  | cons x l ih =>
    intro L h tm hok
    simp only [okSel, Bool.and_eq_true] at hok
    exact ih (Shape.all_elim h hok.1) hok.2
theorem setSel_self : ∀ (l : Slots) (tm : List Value), setSel l (selL l tm) tm = tm := by
  intro l
  induction l with
  | nil => intro tm; rfl
  | cons x l ih =>
    intro tm
    simp only [selL, setSel]
    rw [set_same rfl]
    exact ih tm
theorem garbFrom_get (g : Nat → Value) (A : List Nat) : ∀ (tm : List Value) (k i : Nat), (garbFrom g A k tm)[i]? = (tm[i]?).map fun v => match A.elem (k + i) with | true => g (k + i) | false => v := by
  intro tm
  induction tm with
  | nil => intro k i; simp [garbFrom]
  | cons v tm ih =>
    intro k i
    cases i with
    | zero => simp [garbFrom]
    | succ i => simp only [garbFrom, List.getElem?_cons_succ, ih]; rw [show k + 1 + i = k + (i + 1) by omega]
theorem garb_of_agree {A : List Nat} {tm tm' : List Value} (h : Agree A tm tm') : garbFrom (fun i => tm'.getD i undef) A 0 tm = tm' := by
  apply List.ext_getElem?
  intro i
  rw [garbFrom_get]
  simp only [Nat.zero_add]
  cases hA : A.elem i with
  | true =>
    simp only
    by_cases hl : i < tm.length
    · have hl' : i < tm'.length := by rw [h.1]; exact hl
      simp [List.getElem?_eq_getElem hl, List.getElem?_eq_getElem hl', List.getD]
    · have hl' : ¬ i < tm'.length := by rw [h.1]; exact hl
      simp [List.getElem?_eq_none (Nat.le_of_not_lt hl), List.getElem?_eq_none (Nat.le_of_not_lt hl')]
  | false =>
    simp only [Option.map_id']
    exact (h.2 i (by simpa using hA)).symm

/-! ### code -/
def firstRegion : Code → Nat
  | .region id _ _ => id + 1
  | .seq a b => (match firstRegion a with | 0 => firstRegion b | n => n)
  | .cond _ a b => (match firstRegion a with | 0 => firstRegion b | n => n)
  | .block _ c => firstRegion c
  | .loop c => firstRegion c
  | _ => 0
/-- Which 'if' it is: what it asks, and the first region in it. -/
def condKey (k : Nat) (a b : Code) : Nat := k + 1000 * (match firstRegion a with | 0 => firstRegion b | n => n)
def look (l : List (Nat × Slots)) (k : Nat) : Option Slots :=
  match l with
  | [] => none
  | x :: r => (match Nat.beq x.1 k with | true => some x.2 | false => look r k)
def seqQ (next : List Value → World → Prop) (Q : Exit → List Value → World → Prop) : Exit → List Value → World → Prop
  | .normal, tm, w => next tm w
  | e, tm, w => Q e tm w
def blockQ (id : Nat) (Q : Exit → List Value → World → Prop) : Exit → List Value → World → Prop
  | .exit id', tm, w => (match Nat.beq id' id with | true => Q .normal tm w | false => Q (.exit id') tm w)
  | e, tm, w => Q e tm w
/-- Go on behind a place where ways meet, from what J says of some slots; what else was assigned is of no account. -/
def subS (S : Slots) (A : List Nat) : Bool := S.all fun x => A.elem x.1
def joinV (S : Slots) (A : List Nat) (tm : List Value) (J : List Value → World → Prop) (next : List Value → World → Prop) : Prop :=
  ∀ (g : Nat → Value), allSel S fun vs => ∀ w', J vs w' → next (setSel S vs (garbFrom g A 0 tm)) w'
def meetQ (S : Slots) (J : List Value → World → Prop) (tm : List Value) (w : World) : Prop := cnd (okSel S tm) (J (selL S tm) w) False
def RawWp (P : Program) (c : Code) (Q : Exit → List Value → World → Prop) (tm : List Value) (w : World) : Prop := ∀ ds, c.wp P (upD ds fun e tm' w' => Agree (assigned c) tm tm' ∧ Q e tm' w') (actD ds tm) w

/-- A round ends where the relation holds, and nearer to the end. -/
def Goes (I : List Value → World → Prop) (μ : List Value → World → Nat) (vs : List Value) (w : World) (vs2 : List Value) (w2 : World) : Prop := I vs2 w2 ∧ μ vs2 w2 < μ vs w
def lookN (l : List (Nat × Nat)) (k : Nat) : Option Nat :=
  match l with
  | [] => none
  | x :: r => (match Nat.beq x.1 k with | true => some x.2 | false => lookN r k)
/-- What an operation that lays a block asks, has, and lays. -/
structure Made where
  need : Prop
  val : Nat → Value
  obj : Obj
def makerV (P : Program) (tm : List Value) (o : Oper) : Option Made :=
  match o.op with
  | .alloc e => (match P.info? e with
    | some i => (match i.zero with | some z => some ⟨True, fun k => .pointer (some ⟨k, 0, none⟩), .cells z.cells e⟩ | none => none)
    | none => none)
  | .box e x => some ⟨True, fun k => .pointer (some ⟨k, 0, none⟩), .cells (ev tm x).cells e⟩
  | .makeMap _ none => some ⟨True, fun k => .map (some k), .map #[] 0⟩
  | .makeSlice t l c => (match P.underlying t, ev tm l, ev tm c with
    | some (.slice e), .int _ n, .int _ m => (match P.info? e with
      | some i => (match i.zero with
        | some z => some ⟨0 ≤ n ∧ m = n ∧ n ≤ 16777216 ∧ i.bytes ≤ 1024 ∧ i.size = z.cells.size ∧ 0 < z.cells.size, fun k => .slice (some ⟨k, 0, none⟩) n.toNat n.toNat, .cells (repL z.cells.toList n.toNat).toArray e⟩
        | none => none)
      | none => none)
    | _, _, _ => none)
  | _ => none
theorem run_makeSlice_eq {P : Program} {t e : TypeId} {i : TypeInfo} {z : Value} {k k' : IntKind} {n : Int} {w : World} (ht : P.underlying t = some (.slice e)) (hi : P.info? e = some i) (hz : i.zero = some z) (h0 : 0 ≤ n) (h1 : n ≤ 16777216) (hb : i.bytes ≤ 1024) (hs : i.size = z.cells.size) (hp : 0 < z.cells.size) :
    ∃ w', (Instr.makeSlice t (.int k n) (.int k' n)).run P w = .ok (.slice (some ⟨w.heap.size, 0, none⟩) n.toNat n.toNat) w' ∧ Later w w' ∧ w'.heap[w.heap.size]? = some (.cells (repL z.cells.toList n.toNat).toArray e) := by
  have hsz : cellsT P e = some i.size := by simp [cellsT, hi]
  have hwr : IntKind.i64.wrap n = n := by
    simp only [IntKind.wrap, IntKind.bits, IntKind.signed]
    simp
    omega
  have hmul : (i.bytes : Int) * n ≤ 1024 * 16777216 := Int.le_trans (Int.mul_le_mul_of_nonneg_right (show (i.bytes : Int) ≤ 1024 by omega) h0) (Int.mul_le_mul_of_nonneg_left h1 (by omega))
  have hb1 : ¬ (281474976710656 : Int) < (i.bytes : Int) * n := by omega
  have hn0 : ¬ n < 0 := by omega
  refine ⟨w.alloc (.cells (repL z.cells.toList n.toNat).toArray e), ?_, Below.alloc (Below.refl _ _) (Nat.le_refl _) _, heap_alloc_new w _⟩
  have hcells : (Array.range (n.toNat * i.size)).map ((if n.toNat * i.size = 0 then (#[] : Array Value) else z.cells)[· % (if n.toNat * i.size = 0 then (#[] : Array Value) else z.cells).size]!) = (repL z.cells.toList n.toNat).toArray := by
    by_cases hz0 : n.toNat * i.size = 0
    · rw [if_pos hz0, hz0]
      have : n.toNat = 0 := by
        rcases Nat.mul_eq_zero.1 hz0 with h | h
        · exact h
        · omega
      rw [this]
      simp [repL]
    · rw [if_neg hz0, hs]
      exact repL_range z.cells n.toNat
  have e1 : (Instr.makeSlice t (.int k n) (.int k' n)).run P w = ((if n.toNat * i.size = 0 then pure #[] else do pure (← zeroValue e).cells : Sem (Array Value)).run P w).andThen fun zero w => ((do let a ← newRow e ((Array.range (n.toNat * i.size)).map (zero[· % zero.size]!)); pure (.slice (some a) n.toNat n.toNat) : Sem Value)).run P w := by
    simp [Instr.makeSlice, run_underlying ht, asInt, asIntOf, typeInfo, hi, hwr, hb1, hn0, sizeOf]
    split
    · rfl
    · rw [run_zeroValue hi hz]
      rfl
  rw [e1]
  have e2 : (if n.toNat * i.size = 0 then pure #[] else do pure (← zeroValue e).cells : Sem (Array Value)).run P w = .ok (if n.toNat * i.size = 0 then #[] else z.cells) w := by
    split
    · rfl
    · simp [run_zeroValue hi hz]
  rw [e2, Result.andThen_ok, hcells]
  simp [newRow]
theorem makerV_sound {P : Program} {tm : List Value} {o : Oper} {m : Made} {w0 : World} (h : makerV P tm o = some m) (hn : m.need) : Maker P o (actD ds tm) w0 m.val m.obj := by
  intro w hw
  rw [eval_act]
  unfold makerV at h
  split at h
  · rename_i e ho
    split at h
    · rename_i i hi
      split at h
      · rename_i z hz
        obtain rfl := Option.some.inj h
        exact ⟨w.alloc (.cells z.cells e), by simp [execOp, ho, Instr.alloc, run_zeroValue hi hz, newVar, newRow], Below.alloc (Below.refl _ _) (Nat.le_refl _) _, heap_alloc_new w _⟩
      · cases h
    · cases h
  · rename_i e x ho
    obtain rfl := Option.some.inj h
    exact ⟨w.alloc (.cells (ev tm x).cells e), by simp [execOp, ho, Instr.box, newVar, newRow], Below.alloc (Below.refl _ _) (Nat.le_refl _) _, heap_alloc_new w _⟩
  · rename_i t ho
    obtain rfl := Option.some.inj h
    exact ⟨w.alloc (.map #[] 0), by simp [execOp, ho, Instr.makeMap, newObj]; rfl, Below.alloc (Below.refl _ _) (Nat.le_refl _) _, heap_alloc_new w _⟩
  · rename_i t l c ho
    split at h
    · rename_i e k n k' m hu hl hc
      split at h
      · rename_i i hi
        split at h
        · rename_i z hz
          obtain rfl := Option.some.inj h
          obtain ⟨h0, rfl, h1, hb, hs, hp⟩ := hn
          obtain ⟨w', h2, h3, h4⟩ := run_makeSlice_eq (w := w) (k := k) (k' := k') hu hi hz h0 h1 hb hs hp
          exact ⟨w', by simp [execOp, ho, hl, hc, h2], h3, h4⟩
        · cases h
      · cases h
    · cases h
  · cases h
def mixV (P : Program) (w : World) (K : List (Nat × Obj) → List Value → Prop) : List Oper → List (Nat × Obj) → List Value → Prop
  | [], Fs, tm => K Fs tm
  | o :: rest, Fs, tm => (match o.guard with
    | some _ => False
    | none => (match makerV P tm o with
      | some m => m.need ∧ ∀ k : Nat, w.heap.size ≤ k → mixV P w K rest ((k, m.obj) :: Fs) (putl o.dst tm (m.val k))
      | none => (match pureT P tm o with
        | some t => t.run fun v => mixV P w K rest Fs (putl o.dst tm v)
        | none => (match o.op with
          | .load t a => (match ev tm a with
            | .pointer p => Deref p fun ad => loadV P t (fun a i l => ∀ w', Later w w' → CellsAt w' a i l) (fun a v => ∀ w', Later w w' → w'.cell? a = some v) ad fun v => mixV P w K rest Fs (putl o.dst tm v)
            | _ => False)
          | _ => False))))
theorem mixV_wp {P : Program} {ops : Array Oper} {w : World} {K : List (Nat × Obj) → List Value → Prop} {Q : List (Nat × Obj) → Act → Prop} (hQ : ∀ Fs tm, K Fs tm → Q Fs (actD ds tm)) : ∀ (l : List Oper) (Fs : List (Nat × Obj)) (tm : List Value), mixV P w K l Fs tm → wpMix P ops w Q l Fs (actD ds tm) := by
  intro l
  induction l with
  | nil => intro Fs tm h; exact hQ _ _ h
  | cons o rest ih =>
    intro Fs tm h
    unfold mixV at h
    cases hg : o.guard with
    | some x => simp only [hg] at h
    | none =>
      simp only [hg] at h
      refine ⟨hg, ?_⟩
      cases hm : makerV P tm o with
      | some m =>
        simp only [hm] at h
        exact .make m.val m.obj (makerV_sound hm h.1) fun k hk => by rw [put_act]; exact ih _ _ (h.2 k hk)
      | none =>
        simp only [hm] at h
        cases ht : pureT P tm o with
        | some t =>
          simp only [ht] at h
          obtain ⟨v, h1, h2⟩ := pureT_sound ht h
          exact .plain v (fun w' _ => by rw [eval_act]; exact h2 w') (by rw [put_act]; exact ih _ _ h1)
        | none =>
          simp only [ht] at h
          split at h
          · rename_i t a ho
            split at h
            · rename_i p he
              obtain ⟨ad, rfl, hL⟩ := Deref_elim h
              obtain ⟨v, h1, h2⟩ := loadV_run hL
              refine .plain v (fun w' hw' => ?_) (by rw [put_act]; exact ih _ _ h1)
              rw [eval_act]
              simp only [execOp, ho, he, Instr.loadAt, Instr.sureAddr, Sem.run_bind, Sem.run_pure, Result.andThen_ok, h2 w' (fun _ h => h w' hw') (fun _ h => h w' hw')]
            · exact h.elim
          · exact h.elim
/-- What an operation that lays a block lays. -/
def laidV (P : Program) (o : Oper) : Option Obj :=
  match o.guard, o.op with
  | none, .alloc e => (match P.info? e with | some i => (i.zero).map fun z => .cells z.cells e | none => none)
  | _, _ => none
theorem laidV_run {P : Program} {o : Oper} {obj : Obj} (h : laidV P o = some obj) : o.guard = none ∧ ∀ (a : Act) w, (execOp a.eval o).run P w = .ok (.value (ptrv w.heap.size)) (w.alloc obj) := by
  unfold laidV at h
  split at h
  · rename_i e hg ho
    split at h
    · rename_i i hi
      obtain ⟨z, hz, rfl⟩ := Option.map_eq_some_iff.1 h
      exact ⟨hg, fun a w => by simp [execOp, ho, Instr.alloc, run_zeroValue hi hz, newVar, newRow, ptrv]⟩
    · cases h
  · cases h
def normalQ (Q : Exit → List Value → World → Prop) : Exit → List Value → World → Prop
  | .normal, tm, w => Q .normal tm w
  | _, _, _ => False
/-- Whatever the region's own slots hold. -/
def Blind (A : List Nat) (tm : List Value) (K : List Value → Prop) : Prop := ∀ tm', Agree A tm tm' → K tm'
def blindQ (A : List Nat) (tm0 : List Value) (Q : Exit → List Value → World → Prop) : Exit → List Value → World → Prop
  | .normal, tm, w => Q .normal tm w
  | .panic c, _, w => Blind A tm0 fun tm' => Q (.panic c) tm' w
  | _, _, _ => False
theorem Agree.back {A : List Nat} {tm0 tm : List Value} {dst : Option Tmp} {v : Value} (h : Agree A tm0 (putl dst tm v)) (hd : ∀ d, dst = some d → d ∈ A) : Agree A tm0 tm := by
  cases dst with
  | none => exact h
  | some d =>
    refine ⟨by simpa [putl] using h.1, fun i hi => ?_⟩
    have := h.2 i hi
    simp only [putl] at this
    rwa [List.getElem?_set_ne (fun e : d = i => hi (by rw [← e]; exact hd d rfl))] at this
def edgesOf (l : List (Nat × List (Nat × Nat))) (k : Nat) : List (Nat × Nat) :=
  match l with
  | [] => []
  | x :: r => (match Nat.beq x.1 k with | true => x.2 | false => edgesOf r k)
/-- An operation that turns a map's entry up. -/
def isEnt (o : Oper) : Bool := match o.op with | .mapEntry _ _ _ => true | _ => false
def turnB (o : Oper) : Bool := match o.op with | .mapEntry _ _ _ => true | .entryStore _ _ _ _ => true | .mapUpdate _ _ _ _ => true | _ => false
/-- Which operations turn the world. -/
def turnersFrom : Nat → List Oper → List Nat
  | _, [] => []
  | i, o :: l => (match turnB o with | true => i :: turnersFrom (i + 1) l | false => turnersFrom (i + 1) l)
def placeOf (i : Nat) : Nat → List Nat → Option Nat
  | _, [] => none
  | q, t :: l => (match Nat.beq t i with | true => some q | false => placeOf i (q + 1) l)
def loOf (ops : Array Oper) (i : Nat) : Nat → Nat → List Nat → Nat
  | _, acc, [] => acc
  | q, acc, t :: l => (match waitsFor .any ops i t with | true => loOf ops i (q + 1) (q + 1) l | false => loOf ops i (q + 1) acc l)
def hiOf (ops : Array Oper) (i : Nat) : Nat → List Nat → Nat
  | q, [] => q
  | q, t :: l => (match waitsFor .any ops t i with | true => q | false => hiOf ops i (q + 1) l)
def phKsFrom (ops : Array Oper) (T : List Nat) : Nat → List Oper → List PhK
  | _, [] => []
  | i, _ :: l => (match placeOf i 0 T with | some q => PhK.turn q | none => PhK.quiet (loOf ops i 0 0 T) (hiOf ops i 0 T)) :: phKsFrom ops T (i + 1) l
def phOpsV (P : Program) (C : Nat → World → Prop) (Q : List Value → Prop) : List PhK → List Oper → List Value → Prop
  | _, [], tm => Q tm
  | [], _ :: _, _ => False
  | k :: ks, o :: rest, tm => (match k with
    | .turn q => IsSome (semOf tm o) fun s => (match isUnit o.op with
        | true => (∀ w, C q w → ∃ w', s.run P w = .ok undef w' ∧ C (q + 1) w') ∧ phOpsV P C Q ks rest (putl o.dst tm undef)
        | false => ∃ (x : Value) (st : Int), (∀ w, C q w → ∃ w', s.run P w = .ok (.tuple #[x, goInt st]) w' ∧ C (q + 1) w') ∧ phOpsV P C Q ks rest (putl o.dst tm (.tuple #[x, goInt st])))
    | .quiet lo hi => qOpV P (PhC C lo hi) o tm fun v => phOpsV P C Q ks rest (putl o.dst tm v))
def entV (P : Program) (ops : Array Oper) (Q : Exit → List Value → World → Prop) (tm : List Value) (w : World) : Prop :=
  cnd (phB .any ops (phKsFrom ops (turnersFrom 0 ops.toList) 0 ops.toList) (turnersFrom 0 ops.toList).length) (∃ C : Nat → World → Prop, ((∀ p, Closed (C p)) ∧ C 0 w) ∧
    phOpsV P C (fun tm' => ∀ w', C (turnersFrom 0 ops.toList).length w' → Q .normal tm' w') (phKsFrom ops (turnersFrom 0 ops.toList) 0 ops.toList) ops.toList tm) False
theorem phOpsV_seq {P : Program} {C : Nat → World → Prop} {ops : Array Oper} {all : List PhK} {Q : List Value → Prop} {Qa : Act → Prop} (hQ : ∀ tm, Q tm → Qa (actD ds tm)) : ∀ (l : List Oper) (ks : List PhK) (i : Nat) (tm : List Value),
    (∀ j, j < l.length → l[j]? = ops[i + j]?) → (∀ j, ks[j]? = all[i + j]?) → phOpsV P C Q ks l tm → phSeq P C ops all Qa (List.range' i l.length) (actD ds tm) := by
  intro l
  induction l with
  | nil =>
    intro ks i tm _ _ h
    unfold phOpsV at h
    exact hQ _ h
  | cons o l ih =>
    intro ks i tm hl hk h
    cases ks with
    | nil => simp [phOpsV] at h
    | cons K ks =>
      have h0 : ops[i]? = some o := by simpa using (hl 0 (by simp)).symm
      have hk0 : all[i]? = some K := by simpa using (hk 0).symm
      have hl' : ∀ j, j < l.length → l[j]? = ops[i + 1 + j]? := fun j hj => by
        have := hl (j + 1) (by simp; omega)
        simpa [Nat.add_assoc, Nat.add_comm 1 j] using this
      have hk' : ∀ j, ks[j]? = all[i + 1 + j]? := fun j => by
        have := hk (j + 1)
        simpa [Nat.add_assoc, Nat.add_comm 1 j] using this
      unfold phOpsV at h
      rw [List.length_cons, List.range'_succ]
      cases K with
      | turn q =>
        obtain ⟨s, hs, h⟩ := IsSome_elim h
        split at h
        · rename_i hu
          obtain ⟨h1, h2⟩ := h
          refine ⟨o, _, undef, h0, hk0, fun w hw => ?_, by rw [put_act]; exact ih ks (i + 1) _ hl' hk' h2⟩
          obtain ⟨w', hr, hc⟩ := h1 w hw
          have := (semOf_run hs hr).1
          rw [hu] at this
          exact ⟨w', .inr ⟨by rw [eval_act]; exact this, rfl⟩, hc⟩
        · rename_i hu
          obtain ⟨x, st, h1, h2⟩ := h
          refine ⟨o, _, _, h0, hk0, fun w hw => ?_, by rw [put_act]; exact ih ks (i + 1) _ hl' hk' h2⟩
          obtain ⟨w', hr, hc⟩ := h1 w hw
          have := (semOf_run hs hr).1
          rw [hu] at this
          exact ⟨w', .inl (by rw [eval_act]; exact this), hc⟩
      | quiet lo hi =>
        obtain ⟨v, h1, h2⟩ := qOpV_sober (next := fun a => phSeq P C ops all Qa (List.range' (i + 1) l.length) a) h fun v hv => ih ks (i + 1) _ hl' hk' hv
        exact ⟨o, _, v, h0, hk0, h1, h2⟩
def floatV (P : Program) (H : Hints) (ops : Array Oper) (m : Nat) (Q : Exit → List Value → World → Prop) (tm : List Value) (w : World) : Prop :=
  IsSome ops[m]? fun om => (match isEnt om with | true => entV P ops Q tm w | false => cnd (Region.lexTailB .any ops (m + 1)) (IsSome (laidV P om) fun obj => qOpsV P ops (Later w) (fun tm' => ∀ w1, Later w w1 → ∀ w2, w2 = w1.alloc obj → ∀ w3, Later w2 w3 → opsV P H.pan H.lets ops (normalQ Q) (ops.toList.drop (m + 1)) (putl om.dst tm' (.pointer (some ⟨w1.heap.size, 0, none⟩))) w3) (ops.toList.take m) tm) False)
def tailsV (P : Program) (H : Hints) (ops : Array Oper) (n : Nat) (Q : Exit → List Value → World → Prop) (tm : List Value) (w : World) : Prop :=
  cnd (Region.lexTailB .any ops n) (qOpsV P ops (Later w) (fun tm' => ∀ w', Later w w' → opsV P H.pan H.lets ops (normalQ Q) (ops.toList.drop n) tm' w') (ops.toList.take n) tm) False
def regV (P : Program) (H : Hints) (ops : Array Oper) (draw : Bool) (tl : Option Nat) (fl : Option Nat) (es : List (Nat × Nat)) (mx : Option Nat) (Q : Exit → List Value → World → Prop) (tm : List Value) (w : World) : Prop :=
  match draw with
  | false => opsV P H.pan H.lets ops Q ops.toList tm w
  | true => match mx with
   | some n => (match Nat.blt 900 n with
    | true => (match Nat.beq n 1002 with
     | true => cnd (P.follows .mixedOrders && otOk ops (otOf ops ops.size true (Array.replicate ops.size false))) (∃ C : World → Prop, (∀ w', Later w w' → C w') ∧ ∀ w', Later w w' → ordT P H.pan H.lets ops C (normalQ Q) (otOf ops ops.size true (Array.replicate ops.size false)) tm w') False
     | false => cnd (P.follows .mixedOrders && ordOk ops (ordOf ops ops.size (Array.replicate ops.size false))) (match Nat.beq n 1001 with
      | true => ∃ C : World → Prop, (∀ w', Later w w' → C w') ∧ ∀ w', Later w w' → ordV P H.pan H.lets ops (wtOf ops (ordOf ops ops.size (Array.replicate ops.size false))) C (blindQ (opDsts ops.toList) tm Q) (ordOf ops ops.size (Array.replicate ops.size false)) tm w'
      | false => ∀ w', Later w w' → ordV P H.pan H.lets ops (wtOf ops (ordOf ops ops.size (Array.replicate ops.size false))) (Later w) (normalQ Q) (ordOf ops ops.size (Array.replicate ops.size false)) tm w') False)
    | false => cnd (P.follows .mixedOrders && Region.lexTailB .any ops n) (mixV P w (fun Fs tm' => ∀ w', Good w Fs w' → opsV P H.pan H.lets ops Q (ops.toList.drop n) tm' w') (ops.toList.take n) [] tm) False)
   | none => match fl with
   | some m => cnd (P.follows .mixedOrders && edgesB .any ops es) (floatV P H (plusEdges ops es) m Q tm w) False
   | none => match tl with
    | none => cnd (P.follows .mixedOrders && Region.lexB .any ops) (qOpsV P ops (Later w) (fun tm' => ∀ w', Later w w' → Q .normal tm' w') ops.toList tm) False
    | some n => match es with
     | [] => cnd (P.follows .mixedOrders && Region.lexTailB .any ops n) (qOpsV P ops (Later w) (fun tm' => ∀ w', Later w w' → opsV P H.pan H.lets ops Q (ops.toList.drop n) tm' w') (ops.toList.take n) tm) False
     | e :: es => cnd (P.follows .mixedOrders && edgesB .any ops (e :: es)) (tailsV P H (plusEdges ops (e :: es)) n Q tm w) False
/-! ### a region that yields, in the function that is ranged over -/
def YieldC (P : Program) (l : Nat) (args : Array Value) (w : World) (K : Bool → World → Prop) : Prop :=
  YieldAt Fence.wide 0 P l args w fun e w' => ∃ b : Bool, e = .returned (.bool b) ∧ K b w'
theorem YieldC_mono {P : Program} {l : Nat} {args : Array Value} {w : World} {K K' : Bool → World → Prop} (h : ∀ v w, K v w → K' v w) (hh : YieldC P l args w K) : YieldC P l args w K' :=
  YieldAt.mono hh fun e w' ⟨b, h1, h2⟩ => ⟨b, h1, h _ _ h2⟩
theorem roundIn_wide {n m : Nat} {P : Program} {l : Nat} {f : FuncId} {tmps : Array Value} {assign body : Code} {w : World} {R : Ending → World → Prop} (h : RoundIn Fence.wide n P l f tmps assign body w R) : RoundIn Fence.wide m P l f tmps assign body w R :=
  ⟨h.1, fun c cs _ => h.2 c cs (room_wide _)⟩
def yieldOp (P : Program) (H : Hints) (ops : Array Oper) (Q : Exit → List Value → World → Prop) : List Oper → List Value → World → Prop
  | [], _, _ => False
  | o :: rest, tm, w => (match o.guard, o.op with
    | none, .call c => (match c.callee with
      | .value x => AsYield (ev tm x) fun l => YieldC P l (c.args.map (ev tm)) w fun b w' => opsV P H.pan H.lets ops Q rest (putl o.dst tm (.bool b)) w'
      | _ => False)
    | _, _ => False)
def yieldQ (P : Program) (H : Hints) (ops : Array Oper) (Q : Exit → List Value → World → Prop) (l : List Oper) : Exit → List Value → World → Prop
  | .normal, tm, w => yieldOp P H ops Q l tm w
  | e, tm, w => Q e tm w
def yieldV (P : Program) (H : Hints) (ops : Array Oper) (draw : Bool) (j : Nat) (Q : Exit → List Value → World → Prop) (tm : List Value) (w : World) : Prop :=
  cnd draw False (opsV P H.pan H.lets ops (yieldQ P H ops Q (ops.toList.drop j)) (ops.toList.take j) tm w)
def codeV (P : Program) (H : Hints) : Code → (Exit → List Value → World → Prop) → List Value → World → Prop
  | .skip, Q, tm, w => Q .normal tm w
  | .label _, Q, tm, w => Q .normal tm w
  | .ret, Q, tm, w => Q .ret tm w
  | .exit id, Q, tm, w => Q (.exit id) tm w
  | .goto l, Q, tm, w => Q (.goto l) tm w
  | .region id ops draw, Q, tm, w => (match H.raw.elem id with
      | true => (match lookN H.yields id with
        | some j => yieldV P H ops draw j Q tm w
        | none => RawWp P (.region id ops draw) Q tm w)
      | false => (match look H.regs id with
        | none => regV P H ops draw (lookN H.tails id) (lookN H.floats id) (edgesOf H.edges id) (lookN H.mixes id) Q tm w
        | some S => cnd (subS S (opDsts ops.toList)) (∃ J : List Value → World → Prop, regV P H ops draw (lookN H.tails id) (lookN H.floats id) (edgesOf H.edges id) (lookN H.mixes id) (seqQ (meetQ S J) Q) tm w ∧ joinV S (opDsts ops.toList) tm J fun tm' w' => Q .normal tm' w') False))
  | .seq a b, Q, tm, w => codeV P H a (seqQ (fun tm w => codeV P H b Q tm w) Q) tm w
  | .cond c a b, Q, tm, w => (match ev tm c with
      | .bool t => (match (match c with | .tmp k => look H.conds (condKey k a b) | _ => none) with
          | none => cnd t (codeV P H a Q tm w) (codeV P H b Q tm w)
          | some S => cnd (subS S (assigned a ++ assigned b)) (∃ J : List Value → World → Prop, cnd t (codeV P H a (seqQ (meetQ S J) Q) tm w) (codeV P H b (seqQ (meetQ S J) Q) tm w) ∧ joinV S (assigned a ++ assigned b) tm J fun tm' w' => Q .normal tm' w') False)
      | _ => False)
  | .block id c, Q, tm, w => (match look H.blocks id with
      | none => codeV P H c (blockQ id Q) tm w
      | some S => cnd (subS S (assigned c)) (∃ J : List Value → World → Prop, codeV P H c (blockQ id (seqQ (meetQ S J) Q)) tm w ∧ joinV S (assigned c) tm J fun tm' w' => Q .normal tm' w') False)
  | .loop c, Q, tm, w => IsSome (look H.loops (firstRegion c)) fun S => cnd (subS S (assigned c)) (∃ (I : List Value → World → Prop) (μ : List Value → World → Nat), meetQ S I tm w ∧
      ∀ (g : Nat → Value), allSel S fun vs => ∀ w', I vs w' → codeV P H c (seqQ (fun tm2 w2 => cnd (okSel S tm2) (Goes I μ vs w' (selL S tm2) w2) False) Q) (setSel S vs (garbFrom g (assigned c) 0 tm)) w') False
  | c, Q, tm, w => RawWp P c Q tm w

theorem opsV_strong {P : Program} {pan : Bool} {lets : List Nat} {ops : Array Oper} {A : List Nat} {tm0 : List Value} {Q Q' : Exit → List Value → World → Prop} (hq : ∀ e tm w, Agree A tm0 tm → Q e tm w → Q' e tm w) :
    ∀ (l : List Oper) (tm : List Value) (w : World), (∀ d, d ∈ opDsts l → d ∈ A) → Agree A tm0 tm → opsV P pan lets ops Q l tm w → opsV P pan lets ops Q' l tm w := by
  intro l
  induction l with
  | nil => intro tm w _ ha h; exact hq _ _ _ ha h
  | cons o rest ih =>
    intro tm w hA ha h
    have hd : ∀ d, o.dst = some d → d ∈ A := fun d hd => hA d (by simp [opDsts, hd])
    have hrest : ∀ d, d ∈ opDsts rest → d ∈ A := fun d hd => hA d (by unfold opDsts; split <;> simp [hd])
    have exec : ∀ tm', Agree A tm0 tm' → opV P pan lets o tm' w (fun v w' => opsV P pan lets ops Q rest (putl o.dst tm' v) w') (fun c w' => Q (.panic c) tm' w') →
        opV P pan lets o tm' w (fun v w' => opsV P pan lets ops Q' rest (putl o.dst tm' v) w') (fun c w' => Q' (.panic c) tm' w') := fun tm' ha' h' =>
      opV_mono (fun v w' hv => ih _ _ hrest (ha'.put hd v) hv) (fun c w' hc => hq _ _ _ ha' hc) h'
    have skip : ∀ tm', Agree A tm0 tm' → opsV P pan lets ops Q rest (putl o.dst tm' undef) w → opsV P pan lets ops Q' rest (putl o.dst tm' undef) w := fun tm' ha' h' => ih _ _ hrest (ha'.put hd _) h'
    unfold opsV at h ⊢
    split
    · rename_i hg
      simp only [hg] at h
      exact exec tm ha h
    · rename_i j want hg
      simp only [hg] at h
      obtain ⟨d, hd', h⟩ := IsSome_elim h
      refine IsSome_some hd' ?_
      split
      · rename_i b hb
        simp only [hb] at h
        cases b <;> cases want <;> simp only [cnd] at h ⊢
        · exact exec _ (ha.setSame hb) h
        · exact skip _ (ha.setSame hb) h
        · exact skip _ (ha.setSame hb) h
        · exact exec _ (ha.setSame hb) h
      · rename_i hne
        have h' : cnd (decide (d < tm.length)) (opsV P pan lets ops Q rest (putl o.dst tm undef) w) False := by
          revert h
          split
          · rename_i b hb; exact absurd hb (hne b)
          · exact id
        exact cnd_mono h' (skip tm ha) id
theorem qOpV_mono {P : Program} {C : World → Prop} {o : Oper} {tm : List Value} {K K' : Value → Prop} (h : ∀ v, K v → K' v) (hh : qOpV P C o tm K) : qOpV P C o tm K' := by
  unfold qOpV at hh ⊢
  split
  · rename_i t ht
    simp only [ht] at hh
    exact t.mono h hh
  · rename_i ht
    simp only [ht] at hh
    split
    · rename_i t a ho
      simp only [ho] at hh
      split
      · rename_i p he
        simp only [he] at hh
        obtain ⟨ad, ha, hh⟩ := Deref_elim hh
        exact Deref_some ha (loadV_mono h (fun _ _ _ => id) (fun _ _ => id) hh)
      · rename_i hne
        revert hh
        split
        · rename_i p he; exact absurd he (hne p)
        · exact id
    · rename_i x ho
      simp only [ho] at hh
      split
      · rename_i p he
        simp only [he] at hh
        obtain ⟨ad, ha, hh⟩ := Deref_elim hh
        exact Deref_some ha (h _ hh)
      · rename_i hne
        revert hh
        split
        · rename_i p he; exact absurd he (hne p)
        · exact id
    · rename_i c ho
      simp only [ho] at hh
      split
      · rename_i s hs
        simp only [hs] at hh
        exact Shape.ex_mono (fun v hv => ⟨hv.1, h _ hv.2⟩) hh
      · rename_i hs
        simp only [hs] at hh
        exact calleeV_mono (fun f a hc => cnd_mono hc (fun hc => retEx_mono (fun v hv => ⟨hv.1, h _ hv.2⟩) hc) id) hh
    · have hh' : (match semOf tm o with
        | some s => (match isUnit o.op with
            | true => False
            | false => retEx P o.type fun v => (∀ w', C w' → s.run P w' = .ok v w') ∧ K v)
        | none => False) := by
        revert hh
        split <;> first
          | exact id
          | (rename_i ho; intro _; exfalso; simp_all; done)
          | (intro _; simp_all)
      clear hh
      split
      · rename_i s hs
        simp only [hs] at hh'
        split
        · rename_i hu
          simp only [hu] at hh'
        · rename_i hu
          simp only [hu] at hh'
          exact retEx_mono (fun v hv => ⟨hv.1, h _ hv.2⟩) hh'
      · rename_i hs
        simp only [hs] at hh'
theorem phOpsV_strong {P : Program} {C : Nat → World → Prop} {A : List Nat} {tm0 : List Value} {Q Q' : List Value → Prop} (hq : ∀ tm, Agree A tm0 tm → Q tm → Q' tm) :
    ∀ (l : List Oper) (ks : List PhK) (tm : List Value), (∀ d, d ∈ opDsts l → d ∈ A) → Agree A tm0 tm → phOpsV P C Q ks l tm → phOpsV P C Q' ks l tm := by
  intro l
  induction l with
  | nil => intro ks tm _ ha h; unfold phOpsV at h ⊢; exact hq _ ha h
  | cons o rest ih =>
    intro ks tm hA ha h
    have hd : ∀ d, o.dst = some d → d ∈ A := fun d hd => hA d (by simp [opDsts, hd])
    have hrest : ∀ d, d ∈ opDsts rest → d ∈ A := fun d hd => hA d (by unfold opDsts; split <;> simp [hd])
    cases ks with
    | nil => simp [phOpsV] at h
    | cons K ks =>
      unfold phOpsV at h ⊢
      cases K with
      | turn q =>
        obtain ⟨s, hs, h⟩ := IsSome_elim h
        refine IsSome_some hs ?_
        split
        · rename_i hu
          simp only [hu] at h
          exact ⟨h.1, ih ks _ hrest (ha.put hd _) h.2⟩
        · rename_i hu
          simp only [hu] at h
          obtain ⟨x, st, h1, h2⟩ := h
          exact ⟨x, st, h1, ih ks _ hrest (ha.put hd _) h2⟩
      | quiet lo hi => exact qOpV_mono (fun v hv => ih ks _ hrest (ha.put hd v) hv) h
theorem qOpsV_strong {P : Program} {ops : Array Oper} {A : List Nat} {tm0 : List Value} {C : World → Prop} {Q Q' : List Value → Prop} (hq : ∀ tm, Agree A tm0 tm → Q tm → Q' tm) :
    ∀ (l : List Oper) (tm : List Value), (∀ d, d ∈ opDsts l → d ∈ A) → Agree A tm0 tm → qOpsV P ops C Q l tm → qOpsV P ops C Q' l tm := by
  intro l
  induction l with
  | nil => intro tm _ ha h; exact hq _ ha h
  | cons o rest ih =>
    intro tm hA ha h
    have hd : ∀ d, o.dst = some d → d ∈ A := fun d hd => hA d (by simp [opDsts, hd])
    have hrest : ∀ d, d ∈ opDsts rest → d ∈ A := fun d hd => hA d (by unfold opDsts; split <;> simp [hd])
    have exec : ∀ tm', Agree A tm0 tm' → qOpV P C o tm' (fun v => qOpsV P ops C Q rest (putl o.dst tm' v)) → qOpV P C o tm' (fun v => qOpsV P ops C Q' rest (putl o.dst tm' v)) := fun tm' ha' h' =>
      qOpV_mono (fun v hv => ih _ hrest (ha'.put hd v) hv) h'
    have skip : ∀ tm', Agree A tm0 tm' → qOpsV P ops C Q rest (putl o.dst tm' undef) → qOpsV P ops C Q' rest (putl o.dst tm' undef) := fun tm' ha' h' => ih _ hrest (ha'.put hd _) h'
    unfold qOpsV at h ⊢
    split
    · rename_i hg
      simp only [hg] at h
      exact exec tm ha h
    · rename_i j want hg
      simp only [hg] at h
      obtain ⟨d, hd', h⟩ := IsSome_elim h
      refine IsSome_some hd' ?_
      split
      · rename_i b hb
        simp only [hb] at h
        cases b <;> cases want <;> simp only [cnd] at h ⊢
        · exact exec _ (ha.setSame hb) h
        · exact skip _ (ha.setSame hb) h
        · exact skip _ (ha.setSame hb) h
        · exact exec _ (ha.setSame hb) h
      · rename_i hne
        have h' : cnd (decide (d < tm.length)) (qOpsV P ops C Q rest (putl o.dst tm undef)) False := by
          revert h
          split
          · rename_i b hb; exact absurd hb (hne b)
          · exact id
        exact cnd_mono h' (skip tm ha) id

theorem Agree.garb {A B : List Nat} {tm0 tm : List Value} (h : Agree A tm0 tm) (hB : ∀ i, i ∈ B → i ∈ A) (g : Nat → Value) : Agree A tm0 (garbFrom g B 0 tm) := by
  refine ⟨?_, fun i hi => ?_⟩
  · have : ∀ (l : List Value) k, (garbFrom g B k l).length = l.length := by
      intro l
      induction l with
      | nil => intro k; rfl
      | cons v l ih => intro k; simp [garbFrom, ih]
    rw [this]; exact h.1
  · rw [garbFrom_get]
    have : B.elem (0 + i) = false := by
      cases hb : B.elem (0 + i) with
      | false => rfl
      | true => exact absurd (hB i (by simpa using hb)) hi
    rw [this]
    simp only [Option.map_id']
    exact h.2 i hi
theorem Agree.setSel {A : List Nat} {tm0 : List Value} : ∀ (S : Slots) (vs tm : List Value), subS S A = true → Agree A tm0 tm → Agree A tm0 (setSel S vs tm) := by
  intro S
  induction S with
  | nil => intro vs tm _ h; cases vs <;> exact h
  | cons x S ih =>
    intro vs tm hs h
    simp only [subS, List.all_cons, Bool.and_eq_true] at hs
    cases vs with
    | nil => exact h
    | cons v vs => exact ih vs _ hs.2 (Agree.put (dst := some x.1) h (fun d hd => by cases hd; simpa using hs.1) v)
theorem subS_mono {S : Slots} {A B : List Nat} (h : ∀ i, i ∈ A → i ∈ B) (hs : subS S A = true) : subS S B = true := by
  simp only [subS, List.all_eq_true] at hs ⊢
  intro x hx
  have := hs x hx
  simp at this ⊢
  exact h _ this
theorem allSel_mono {S : Slots} : ∀ {L L' : List Value → Prop}, (∀ vs, L vs → L' vs) → allSel S L → allSel S L' := by
  induction S with
  | nil => intro L L' h hh; exact h _ hh
  | cons x S ih => intro L L' h hh; exact Shape.all_mono (fun v hv => ih (fun vs => h _) hv) hh
theorem joinV_mono {S : Slots} {A B : List Nat} {tm0 tm : List Value} {J : List Value → World → Prop} {next next' : List Value → World → Prop} (hs : subS S A = true) (hB : ∀ i, i ∈ A → i ∈ B) (ha : Agree B tm0 tm)
    (h : ∀ tm' w', Agree B tm0 tm' → next tm' w' → next' tm' w') (hh : joinV S A tm J next) : joinV S A tm J next' :=
  fun g => allSel_mono (fun vs hv w' hJ => h _ _ (Agree.setSel S vs _ (subS_mono hB hs) (ha.garb hB g)) (hv w' hJ)) (hh g)
theorem joinV_elim {S : Slots} {A : List Nat} {tm tm' : List Value} {w' : World} {J : List Value → World → Prop} {next : List Value → World → Prop} (hh : joinV S A tm J next) (ha : Agree A tm tm') (hm : meetQ S J tm' w') : next tm' w' := by
  rcases cnd_cases hm with ⟨hok, hJ⟩ | ⟨_, h⟩
  · have := allSel_elim (hh fun i => tm'.getD i undef) hok w' hJ
    rwa [garb_of_agree ha, setSel_self] at this
  · exact h.elim

theorem opDsts_modify {f : Oper → Oper} (hf : ∀ o, (f o).dst = o.dst) : ∀ (l : List Oper) (j : Nat), opDsts (l.modify j f) = opDsts l := by
  intro l
  induction l with
  | nil => intro j; simp
  | cons o l ih =>
    intro j
    cases j with
    | zero => simp [opDsts, hf]
    | succ j => simp [opDsts, ih]
theorem opDsts_plusEdges (es : List (Nat × Nat)) : ∀ (ops : Array Oper), opDsts (plusEdges ops es).toList = opDsts ops.toList := by
  induction es with
  | nil => intro ops; rfl
  | cons e es ih =>
    intro ops
    rw [plusEdges, ih]
    unfold plusEdge
    rw [Array.toList_modify]
    refine opDsts_modify ?_ _ _
    intro o
    rfl
theorem mixV_strong {P : Program} {A : List Nat} {tm0 : List Value} {w : World} {K K' : List (Nat × Obj) → List Value → Prop} (hq : ∀ Fs tm, Agree A tm0 tm → K Fs tm → K' Fs tm) :
    ∀ (l : List Oper) (Fs : List (Nat × Obj)) (tm : List Value), (∀ d, d ∈ opDsts l → d ∈ A) → Agree A tm0 tm → mixV P w K l Fs tm → mixV P w K' l Fs tm := by
  intro l
  induction l with
  | nil => intro Fs tm _ ha h; exact hq _ _ ha h
  | cons o rest ih =>
    intro Fs tm hA ha h
    have hd : ∀ d, o.dst = some d → d ∈ A := fun d hd => hA d (by simp [opDsts, hd])
    have hrest : ∀ d, d ∈ opDsts rest → d ∈ A := fun d hd => hA d (by unfold opDsts; split <;> simp [hd])
    unfold mixV at h ⊢
    cases hg : o.guard with
    | some x => simp only [hg] at h
    | none =>
      simp only [hg] at h ⊢
      cases hm : makerV P tm o with
      | some m =>
        simp only [hm] at h ⊢
        exact ⟨h.1, fun k hk => ih _ _ hrest (ha.put hd _) (h.2 k hk)⟩
      | none =>
        simp only [hm] at h ⊢
        cases ht : pureT P tm o with
        | some t =>
          simp only [ht] at h ⊢
          exact t.mono (fun v hv => ih _ _ hrest (ha.put hd _) hv) h
        | none =>
          simp only [ht] at h ⊢
          split
          · rename_i t a ho
            simp only [ho] at h
            split
            · rename_i p he
              simp only [he] at h
              obtain ⟨ad, had, hL⟩ := Deref_elim h
              exact Deref_some had (loadV_mono (fun v hv => ih _ _ hrest (ha.put hd _) hv) (fun _ _ _ => id) (fun _ _ => id) hL)
            · rename_i hne
              revert h
              split
              · rename_i p he; exact absurd he (hne p)
              · exact id
          · rename_i hne
            revert h
            split
            · rename_i t a ho; exact absurd ho (hne t a)
            · exact id
theorem plainV_mono {P : Program} {C : World → Prop} {o : Oper} {tm : List Value} {K K' : Value → Prop} (h : ∀ v, K v → K' v) (hh : plainV P C o tm K) : plainV P C o tm K' := by
  unfold plainV at hh ⊢
  split
  · rename_i t ht
    simp only [ht] at hh
    exact t.mono h hh
  · rename_i ht
    simp only [ht] at hh
    split
    · rename_i t a ho
      simp only [ho] at hh
      split
      · rename_i p he
        simp only [he] at hh
        obtain ⟨ad, ha, hh⟩ := Deref_elim hh
        exact Deref_some ha (loadV_mono h (fun _ _ _ => id) (fun _ _ => id) hh)
      · rename_i hne
        revert hh
        split
        · rename_i p he; exact absurd he (hne p)
        · exact id
    · rename_i x ho
      simp only [ho] at hh
      split
      · rename_i p he
        simp only [he] at hh
        obtain ⟨ad, ha, hh⟩ := Deref_elim hh
        exact Deref_some ha (h _ hh)
      · rename_i hne
        revert hh
        split
        · rename_i p he; exact absurd he (hne p)
        · exact id
    · rename_i src dst x ho
      simp only [ho] at hh
      exact LooksV_mono (fun v hv => retEx_mono (fun u hu => ⟨hu.1, h _ hu.2⟩) hv) hh
    · rename_i hne hne2 hne3
      revert hh
      split
      · rename_i t a ho; exact absurd ho (hne t a)
      · rename_i x ho; exact absurd ho (hne2 x)
      · rename_i src dst x ho; exact absurd ho (hne3 src dst x)
      · exact id
theorem ordV_strong {P : Program} {pan : Bool} {lets : List Nat} {ops : Array Oper} {wt : List Nat} {C : World → Prop} {A : List Nat} {tm0 : List Value} {Q Q' : Exit → List Value → World → Prop} (hA : ∀ d, d ∈ opDsts ops.toList → d ∈ A) (hq : ∀ e tm w, Agree A tm0 tm → Q e tm w → Q' e tm w) :
    ∀ (l : List (Nat × Bool)) (tm : List Value) (w : World), Agree A tm0 tm → ordV P pan lets ops wt C Q l tm w → ordV P pan lets ops wt C Q' l tm w := by
  intro l
  induction l with
  | nil => intro tm w ha h; exact hq _ _ _ ha h
  | cons x r ih =>
    obtain ⟨i, pl⟩ := x
    intro tm w ha h
    unfold ordV at h ⊢
    obtain ⟨o, ho, h⟩ := IsSome_elim h
    refine IsSome_some ho ?_
    have hd : ∀ d, o.dst = some d → d ∈ A := fun d hd => hA d (by rw [mem_opDsts]; exact ⟨o, by simpa using List.mem_of_getElem? (show ops.toList[i]? = some o by simpa using ho), hd⟩)
    have exec : ∀ tm', Agree A tm0 tm' → ordStep P pan lets C Q (fun tm' w' => ordV P pan lets ops wt C Q r tm' w') o (wt.elem i) pl tm' w → ordStep P pan lets C Q' (fun tm' w' => ordV P pan lets ops wt C Q' r tm' w') o (wt.elem i) pl tm' w := by
      intro tm' ha' hs
      unfold ordStep at hs ⊢
      cases pl with
      | true =>
        cases hw : wt.elem i with
        | false => simp only [hw] at hs ⊢; exact plainV_mono (fun v hv => ih _ _ (ha'.put hd v) hv) hs
        | true => simp only [hw] at hs ⊢; exact plainV_mono (fun v hv => ih _ _ (ha'.put hd v) hv) hs
      | false =>
        cases hw : wt.elem i with
        | false => simp only [hw] at hs ⊢; exact opV_mono (fun v w' hv => ⟨hv.1, ih _ _ (ha'.put hd v) hv.2⟩) (fun c w' hc => hq _ _ _ ha' hc) hs
        | true => simp only [hw] at hs ⊢; exact opV_mono (fun v w' hv => ih _ _ (ha'.put hd v) hv) (fun c w' hc => hq _ _ _ ha' hc) hs
    have skip : ∀ tm', Agree A tm0 tm' → ordV P pan lets ops wt C Q r (putl o.dst tm' undef) w → ordV P pan lets ops wt C Q' r (putl o.dst tm' undef) w := fun tm' ha' h' => ih _ _ (ha'.put hd _) h'
    split
    · rename_i hg
      simp only [hg] at h
      exact exec tm ha h
    · rename_i j want hg
      simp only [hg] at h
      obtain ⟨d, hd', h⟩ := IsSome_elim h
      refine IsSome_some hd' ?_
      split
      · rename_i b hb
        simp only [hb] at h
        cases b <;> cases want <;> simp only [cnd] at h ⊢
        · exact exec _ (ha.setSame hb) h
        · exact skip _ (ha.setSame hb) h
        · exact skip _ (ha.setSame hb) h
        · exact exec _ (ha.setSame hb) h
      · rename_i hne
        have h' : cnd (decide (d < tm.length)) (ordV P pan lets ops wt C Q r (putl o.dst tm undef) w) False := by
          revert h
          split
          · rename_i b hb; exact absurd hb (hne b)
          · exact id
        exact cnd_mono h' (skip tm ha) id
theorem gateT_strong {P : Program} {pan : Bool} {lets : List Nat} {ops : Array Oper} {C : World → Prop} {A : List Nat} {tm0 : List Value} {Q Q' : Exit → List Value → World → Prop} {next next' : List Value → World → Prop} {i : Nat} {pl : Bool} {tm : List Value} {w : World} (hA : ∀ d, d ∈ opDsts ops.toList → d ∈ A) (hq : ∀ e tm w, Agree A tm0 tm → Q e tm w → Q' e tm w)
    (hn : ∀ tm w, Agree A tm0 tm → next tm w → next' tm w) (ha : Agree A tm0 tm) (h : gateT P pan lets ops C Q next i pl tm w) : gateT P pan lets ops C Q' next' i pl tm w := by
  unfold gateT at h ⊢
  obtain ⟨o, ho, h⟩ := IsSome_elim h
  refine IsSome_some ho ?_
  have hd : ∀ d, o.dst = some d → d ∈ A := fun d hd => hA d (by rw [mem_opDsts]; exact ⟨o, by simpa using List.mem_of_getElem? (show ops.toList[i]? = some o by simpa using ho), hd⟩)
  have exec : ∀ tm', Agree A tm0 tm' → ordStep P pan lets C Q next o false pl tm' w → ordStep P pan lets C Q' next' o false pl tm' w := by
    intro tm' ha' hs
    unfold ordStep at hs ⊢
    cases pl with
    | true => exact plainV_mono (fun v hv => hn _ _ (ha'.put hd v) hv) hs
    | false => exact opV_mono (fun v w' hv => ⟨hv.1, hn _ _ (ha'.put hd v) hv.2⟩) (fun c w' hc => hq _ _ _ ha' hc) hs
  have skip : ∀ tm', Agree A tm0 tm' → next (putl o.dst tm' undef) w → next' (putl o.dst tm' undef) w := fun tm' ha' h' => hn _ _ (ha'.put hd _) h'
  split
  · rename_i hg
    simp only [hg] at h
    exact exec tm ha h
  · rename_i j want hg
    simp only [hg] at h
    obtain ⟨d, hd', h⟩ := IsSome_elim h
    refine IsSome_some hd' ?_
    split
    · rename_i b hb
      simp only [hb] at h
      cases b <;> cases want <;> simp only [cnd] at h ⊢
      · exact exec _ (ha.setSame hb) h
      · exact skip _ (ha.setSame hb) h
      · exact skip _ (ha.setSame hb) h
      · exact exec _ (ha.setSame hb) h
    · rename_i hne
      have h' : cnd (decide (d < tm.length)) (next (putl o.dst tm undef) w) False := by
        revert h
        split
        · rename_i b hb; exact absurd hb (hne b)
        · exact id
      exact cnd_mono h' (skip tm ha) id
theorem ordT_strong {P : Program} {pan : Bool} {lets : List Nat} {ops : Array Oper} {C : World → Prop} {A : List Nat} {tm0 : List Value} {Q Q' : Exit → List Value → World → Prop} (hA : ∀ d, d ∈ opDsts ops.toList → d ∈ A) (hq : ∀ e tm w, Agree A tm0 tm → Q e tm w → Q' e tm w) :
    ∀ (t : OT) (tm : List Value) (w : World), Agree A tm0 tm → ordT P pan lets ops C Q t tm w → ordT P pan lets ops C Q' t tm w := by
  intro t
  induction t with
  | nil => intro tm w ha h; exact hq _ _ _ ha h
  | stop => intro tm w ha h; exact trivial
  | look i t ih => intro tm w ha h; exact gateT_strong hA hq ih ha h
  | alt i t r ih ihr => intro tm w ha h; exact ⟨gateT_strong hA hq ih ha h.1, ihr _ _ ha h.2⟩
theorem regV_strong {P : Program} {H : Hints} {ops : Array Oper} {draw : Bool} {tl fl : Option Nat} {es : List (Nat × Nat)} {mx : Option Nat} {A : List Nat} {tm0 : List Value} {Q Q' : Exit → List Value → World → Prop} {tm : List Value} {w : World} (hA : ∀ d, d ∈ opDsts ops.toList → d ∈ A) (ha : Agree A tm0 tm)
    (hq : ∀ e tm' w', Agree A tm0 tm' → Q e tm' w' → Q' e tm' w') (h : regV P H ops draw tl fl es mx Q tm w) : regV P H ops draw tl fl es mx Q' tm w := by
  unfold regV at h ⊢
  cases draw with
  | false => exact opsV_strong hq _ _ _ hA ha h
  | true =>
   cases mx with
   | some n =>
    have hT : ∀ d, d ∈ opDsts (ops.toList.take n) → d ∈ A := fun d hd => hA d (by rw [mem_opDsts] at hd ⊢; obtain ⟨o, ho, e⟩ := hd; exact ⟨o, List.mem_of_mem_take ho, e⟩)
    have hD : ∀ d, d ∈ opDsts (ops.toList.drop n) → d ∈ A := fun d hd => hA d (by rw [mem_opDsts] at hd ⊢; obtain ⟨o, ho, e⟩ := hd; exact ⟨o, List.mem_of_mem_drop ho, e⟩)
    cases hbl : Nat.blt 900 n with
    | true =>
      simp only [hbl] at h ⊢
      have hq' : ∀ e tm' w', Agree A tm0 tm' → normalQ Q e tm' w' → normalQ Q' e tm' w' := by
        intro e tm' w' ha' h'
        cases e with
        | normal => exact hq _ _ _ ha' h'
        | _ => exact h'
      cases hn2 : Nat.beq n 1002 with
      | true =>
       simp only [hn2] at h ⊢
       refine cnd_mono h (fun h => ?_) (fun x => x)
       obtain ⟨C, hC, h⟩ := h
       exact ⟨C, hC, fun w' hw' => ordT_strong hA hq' _ _ _ ha (h w' hw')⟩
      | false =>
      simp only [hn2] at h ⊢
      refine cnd_mono h (fun h => ?_) (fun x => x)
      cases hn : Nat.beq n 1001 with
      | true =>
        simp only [hn] at h ⊢
        obtain ⟨C, hC, h⟩ := h
        refine ⟨C, hC, fun w' hw' => ordV_strong hA ?_ _ _ _ ha (h w' hw')⟩
        intro e tm' w' ha' h'
        cases e with
        | normal => exact hq _ _ _ ha' h'
        | panic c => exact fun tm2 h2 => hq _ _ _ (ha.trans (h2.mono hA)) (h' tm2 h2)
        | _ => exact h'
      | false =>
        simp only [hn] at h ⊢
        exact fun w' hw' => ordV_strong hA hq' _ _ _ ha (h w' hw')
    | false =>
    simp only [hbl] at h ⊢
    exact cnd_mono h (fun h => mixV_strong (fun Fs tm' ha' h' w' hg => opsV_strong hq _ _ _ hD ha' (h' w' hg)) _ _ _ hT ha h) (fun x => x)
   | none =>
   cases fl with
   | some m =>
    refine cnd_mono h (fun h => ?_) (fun x => x)
    obtain ⟨om, hom, h⟩ := IsSome_elim h
    refine IsSome_some hom ?_
    have hds := opDsts_plusEdges es ops
    have hA' : ∀ d, d ∈ opDsts (plusEdges ops es).toList → d ∈ A := fun d hd => hA d (by rw [← hds]; exact hd)
    have hT : ∀ d, d ∈ opDsts ((plusEdges ops es).toList.take m) → d ∈ A := fun d hd => hA' d (by rw [mem_opDsts] at hd ⊢; obtain ⟨o, ho, e⟩ := hd; exact ⟨o, List.mem_of_mem_take ho, e⟩)
    have hD : ∀ d, d ∈ opDsts ((plusEdges ops es).toList.drop (m + 1)) → d ∈ A := fun d hd => hA' d (by rw [mem_opDsts] at hd ⊢; obtain ⟨o, ho, e⟩ := hd; exact ⟨o, List.mem_of_mem_drop ho, e⟩)
    have hM : ∀ d, om.dst = some d → d ∈ A := fun d hd => hA' d (by rw [mem_opDsts]; exact ⟨om, by simpa using List.mem_of_getElem? (show (plusEdges ops es).toList[m]? = some om by simpa using hom), hd⟩)
    have hq' : ∀ e tm' w', Agree A tm0 tm' → normalQ Q e tm' w' → normalQ Q' e tm' w' := by
      intro e tm' w' ha' h'
      cases e with
      | normal => exact hq _ _ _ ha' h'
      | _ => exact h'
    cases hent : isEnt om with
    | true =>
      simp only [hent] at h ⊢
      refine cnd_mono h (fun h => ?_) (fun x => x)
      obtain ⟨C, hcl, h⟩ := h
      exact ⟨C, hcl, phOpsV_strong (fun tm' ha' h' w' hw' => hq _ _ _ ha' (h' w' hw')) _ _ _ hA' ha h⟩
    | false =>
      simp only [hent] at h ⊢
      refine cnd_mono h (fun h => ?_) (fun x => x)
      obtain ⟨obj, hob, h⟩ := IsSome_elim h
      exact IsSome_some hob (qOpsV_strong (fun tm' ha' h' w1 h1 w2 h2 w3 h3 => opsV_strong hq' _ _ _ hD (ha'.put hM _) (h' w1 h1 w2 h2 w3 h3)) _ _ hT ha h)
   | none =>
    cases tl with
    | none => exact cnd_mono h (fun h => qOpsV_strong (fun tm' ha' h' w' hw' => hq _ _ _ ha' (h' w' hw')) _ _ hA ha h) (fun x => x)
    | some n =>
     cases es with
     | cons e es =>
      have hds := opDsts_plusEdges (e :: es) ops
      have hA' : ∀ d, d ∈ opDsts (plusEdges ops (e :: es)).toList → d ∈ A := fun d hd => hA d (by rw [← hds]; exact hd)
      have hT : ∀ d, d ∈ opDsts ((plusEdges ops (e :: es)).toList.take n) → d ∈ A := fun d hd => hA' d (by rw [mem_opDsts] at hd ⊢; obtain ⟨o, ho, e⟩ := hd; exact ⟨o, List.mem_of_mem_take ho, e⟩)
      have hD : ∀ d, d ∈ opDsts ((plusEdges ops (e :: es)).toList.drop n) → d ∈ A := fun d hd => hA' d (by rw [mem_opDsts] at hd ⊢; obtain ⟨o, ho, e⟩ := hd; exact ⟨o, List.mem_of_mem_drop ho, e⟩)
      have hq' : ∀ e tm' w', Agree A tm0 tm' → normalQ Q e tm' w' → normalQ Q' e tm' w' := by
        intro e tm' w' ha' h'
        cases e with
        | normal => exact hq _ _ _ ha' h'
        | _ => exact h'
      exact cnd_mono h (fun h => cnd_mono h (fun h => qOpsV_strong (fun tm' ha' h' w' hw' => opsV_strong hq' _ _ _ hD ha' (h' w' hw')) _ _ hT ha h) (fun x => x)) (fun x => x)
     | nil =>
      have hT : ∀ d, d ∈ opDsts (ops.toList.take n) → d ∈ A := fun d hd => hA d (by rw [mem_opDsts] at hd ⊢; obtain ⟨o, ho, e⟩ := hd; exact ⟨o, List.mem_of_mem_take ho, e⟩)
      have hD : ∀ d, d ∈ opDsts (ops.toList.drop n) → d ∈ A := fun d hd => hA d (by rw [mem_opDsts] at hd ⊢; obtain ⟨o, ho, e⟩ := hd; exact ⟨o, List.mem_of_mem_drop ho, e⟩)
      exact cnd_mono h (fun h => qOpsV_strong (fun tm' ha' h' w' hw' => opsV_strong hq _ _ _ hD ha' (h' w' hw')) _ _ hT ha h) (fun x => x)
theorem regV_wpR {P : Program} {H : Hints} {ops : Array Oper} {draw : Bool} {tl fl : Option Nat} {es : List (Nat × Nat)} {mx : Option Nat} {Q : Exit → List Value → World → Prop} {tm : List Value} {w : World} (h : regV P H ops draw tl fl es mx Q tm w) : wpR P ops draw (upD ds Q) (actD ds tm) w := by
  unfold regV at h
  cases draw with
  | false => exact wpR_list (opsV_wp _ _ _ h)
  | true =>
   cases mx with
   | some n =>
    cases hbl : Nat.blt 900 n with
    | true =>
      simp only [hbl] at h
      have out : wpR P ops true (upD ds (normalQ Q)) (actD ds tm) w → wpR P ops true (upD ds Q) (actD ds tm) w := wpR_to fun e a w h => by
        cases e with
        | normal => exact h
        | _ => exact h.2.elim
      cases hn2 : Nat.beq n 1002 with
      | true =>
       simp only [hn2] at h
       rcases cnd_cases h with ⟨hb, h⟩ | ⟨_, h⟩
       · simp only [Bool.and_eq_true] at hb
         obtain ⟨C, hC, h⟩ := h
         exact out (wp_region_ordT hb.1 hb.2 (fun c tm w h => h) hC h)
       · exact h.elim
      | false =>
      simp only [hn2] at h
      rcases cnd_cases h with ⟨hb, h⟩ | ⟨_, h⟩
      · simp only [Bool.and_eq_true] at hb
        cases hn : Nat.beq n 1001 with
        | true =>
          simp only [hn] at h
          obtain ⟨C, hC, h⟩ := h
          refine wpR_to ?_ (wp_region_ord (Q := fun e tm' w' => Agree (opDsts ops.toList) tm tm' ∧ blindQ (opDsts ops.toList) tm Q e tm' w') hb.1 hb.2 (fun c i oi v tm' w' hi h => ⟨h.1.back fun d hd => mem_opDsts.2 ⟨oi, by simpa using List.mem_of_getElem? (show ops.toList[i]? = some oi by simpa using hi), hd⟩, h.2⟩) hC fun w' hw' => ordV_strong (A := opDsts ops.toList) (tm0 := tm) (fun _ h => h) (fun e tm w ha h => ⟨ha, h⟩) _ _ _ (Agree.refl _ _) (h w' hw'))
          intro e a w' h'
          cases e with
          | normal => exact ⟨h'.1, h'.2.2⟩
          | panic c => exact ⟨h'.1, h'.2.2 _ h'.2.1⟩
          | _ => exact h'.2.2.elim
        | false =>
          simp only [hn] at h
          exact out (wp_region_ord (C := Later w) hb.1 hb.2 (fun c i oi v tm w _ h => h) (fun _ h => h) h)
      · exact h.elim
    | false =>
    simp only [hbl] at h
    rcases cnd_cases h with ⟨hb, h⟩ | ⟨_, h⟩
    · simp only [Bool.and_eq_true] at hb
      refine wp_region_mix n hb.1 hb.2 ?_
      exact mixV_wp (fun Fs tm' h' w' hg => opsV_wp _ _ _ (h' w' hg)) _ _ _ h
    · exact h.elim
   | none =>
   cases fl with
   | some m =>
    rcases cnd_cases h with ⟨hb, h⟩ | ⟨_, h⟩
    · simp only [Bool.and_eq_true] at hb
      obtain ⟨om, hom, h⟩ := IsSome_elim h
      cases hent : isEnt om with
      | true =>
        simp only [hent] at h
        rcases cnd_cases h with ⟨hb2, h⟩ | ⟨_, h⟩
        · obtain ⟨C, ⟨hC, hw⟩, h⟩ := h
          refine wpR_to (Q := upD ds (normalQ Q)) (fun e a w h => ?_) (wp_region_ph (C := C) (Qa := fun a => a.defers = ds ∧ ∀ w', C (turnersFrom 0 (plusEdges ops es).toList).length w' → Q .normal a.tmps.toList w') es hb.1 hb.2 (fun c a w h => h.2) (fun a w h => h.2) hb2 hC (fun a w hw h => ⟨h.1, h.2 w hw⟩) hw ?_)
          · cases e with
            | normal => exact h
            | _ => exact h.2.elim
          · rw [List.range_eq_range', show (plusEdges ops es).size = (plusEdges ops es).toList.length from rfl]
            exact phOpsV_seq (fun tm' h' => ⟨rfl, h'⟩) _ _ 0 _ (fun j hj => by simp) (fun j => by simp) h
        · exact h.elim
      | false =>
        simp only [hent] at h
        rcases cnd_cases h with ⟨hb2, h⟩ | ⟨_, h⟩
        · obtain ⟨obj, hob, h⟩ := IsSome_elim h
          obtain ⟨hg, hrun⟩ := laidV_run hob
          refine wpR_to (Q := upD ds (normalQ Q)) (fun e a w h => ?_) (wp_region_float es m hb.1 hb.2 (fun c a w h => h.2) (fun a w h => h.2) hb2 hom hg hrun ?_)
          · cases e with
            | normal => exact h
            | _ => exact h.2.elim
          · exact qOpsV_wp (fun tm' h' w1 h1 w2 h2 w3 h3 => by rw [put_act]; exact opsV_wp _ _ _ (h' w1 h1 w2 h2 w3 h3)) _ _ h
        · exact h.elim
    · exact h.elim
   | none =>
    cases tl with
    | none =>
      rcases cnd_cases h with ⟨hb, h⟩ | ⟨_, h⟩
      · simp only [Bool.and_eq_true] at hb
        refine wpR_quiet (C := Later w) hb.1 hb.2 ((Below.refl _ _).drew) ?_
        exact wpSober_quiet (closed_later w) _ _ (qOpsV_wp (fun tm' h' w' hw' => up_act (h' w' hw')) _ _ h)
      · exact h.elim
    | some n =>
     cases es with
     | cons e es =>
      rcases cnd_cases h with ⟨hb, h⟩ | ⟨_, h⟩
      · simp only [Bool.and_eq_true] at hb
        rcases cnd_cases h with ⟨hb2, h⟩ | ⟨_, h⟩
        · refine wpR_to (Q := upD ds (normalQ Q)) (fun e a w h => ?_) (wp_region_tail_edges (e :: es) n hb.1 hb.2 (fun c a w h => h.2) (fun a w h => h.2) hb2 ?_)
          · cases e with
            | normal => exact h
            | _ => exact h.2.elim
          · exact qOpsV_wp (fun tm' h' w1 h1 => opsV_wp _ _ _ (h' w1 h1)) _ _ h
        · exact h.elim
      · exact h.elim
     | nil =>
      rcases cnd_cases h with ⟨hb, h⟩ | ⟨_, h⟩
      · simp only [Bool.and_eq_true] at hb
        refine wp_region_quiet_tail (C := Later w) n hb.1 hb.2 ((Below.refl _ _).drew) ?_
        exact wpSober_quiet (closed_later w) _ _ (qOpsV_wp (fun tm' h' w' hw' => opsV_wp _ _ _ (h' w' hw')) _ _ h)
      · exact h.elim
theorem regV_wp {P : Program} {H : Hints} {id : Nat} {ops : Array Oper} {draw : Bool} {tl fl : Option Nat} {es : List (Nat × Nat)} {mx : Option Nat} {Q : Exit → List Value → World → Prop} {tm : List Value} {w : World} (h : regV P H ops draw tl fl es mx Q tm w) : (Code.region id ops draw).wp P (upD ds Q) (actD ds tm) w := wpR_wp (regV_wpR h)
theorem yieldV_strong {P : Program} {H : Hints} {ops : Array Oper} {draw : Bool} {j : Nat} {A : List Nat} {tm0 : List Value} {Q Q' : Exit → List Value → World → Prop} {tm : List Value} {w : World} (hA : ∀ d, d ∈ opDsts ops.toList → d ∈ A) (ha : Agree A tm0 tm)
    (hq : ∀ e tm' w', Agree A tm0 tm' → Q e tm' w' → Q' e tm' w') (h : yieldV P H ops draw j Q tm w) : yieldV P H ops draw j Q' tm w := by
  have hT : ∀ d, d ∈ opDsts (ops.toList.take j) → d ∈ A := fun d hd => hA d (by rw [mem_opDsts] at hd ⊢; obtain ⟨o, ho, e⟩ := hd; exact ⟨o, List.mem_of_mem_take ho, e⟩)
  have hD : ∀ d, d ∈ opDsts (ops.toList.drop j) → d ∈ A := fun d hd => hA d (by rw [mem_opDsts] at hd ⊢; obtain ⟨o, ho, e⟩ := hd; exact ⟨o, List.mem_of_mem_drop ho, e⟩)
  refine cnd_mono h id fun h => opsV_strong ?_ _ _ _ hT ha h
  intro e tm' w' ha' h'
  cases e with
  | normal =>
    revert h' hD
    show (∀ d, d ∈ opDsts (ops.toList.drop j) → d ∈ A) → yieldOp P H ops Q (ops.toList.drop j) tm' w' → yieldOp P H ops Q' (ops.toList.drop j) tm' w'
    generalize ops.toList.drop j = l
    intro hD h'
    cases l with
    | nil => exact h'.elim
    | cons o rest =>
      simp only [yieldOp] at h' ⊢
      split at h'
      · rename_i c hg ho
        split at h'
        · rename_i x hx
          obtain ⟨l, hv, h'⟩ := AsYield_elim h'
          simp only [hg, ho, hx, hv]
          refine ⟨rfl, rfl, YieldC_mono (fun v w1 h1 => opsV_strong hq _ _ _ (fun d hd => hD d ?_) (ha'.put (fun d hd => hD d ?_) (.bool v)) h1) h'⟩
          · rw [mem_opDsts] at hd ⊢; obtain ⟨o', ho', e'⟩ := hd; exact ⟨o', List.mem_cons_of_mem _ ho', e'⟩
          · rw [mem_opDsts]; exact ⟨o, List.mem_cons_self, hd⟩
        · exact h'.elim
      · exact h'.elim
  | _ => exact hq _ _ _ ha' h'
theorem Oper_wpWide {P : Program} {n : Nat} {o : Oper} {a : Act} {w : World} {Q : Exit → Act → World → Prop} {K K' : Act → World → Prop} (hO : ¬ LetsOut Q) (hK : ∀ a w, K a w → K' a w) (h : o.wp P a w K Q) : o.wpIn Fence.wide n P a w K' Q := by
  refine ⟨fun _ _ => trivial, ?_⟩
  unfold Oper.wp at h
  rw [show Fence.wide.round = none from rfl, Oper.semAt_none]
  have hn : (Fence.wide.depth.isSome = true → 1 ≤ n) := fun h => by cases h
  generalize (execOp a.eval o).run P w = r at *
  cases r with
  | ok x w' =>
    cases x <;> simp only [Oper.upon, Oper.uponIn] at h ⊢ <;>
      first
        | exact hK _ _ h
        | exact ⟨hn, callsIn_wide.2 (h.mono (fun e w'' he => by
            cases e with
            | returned v => exact hK _ _ he
            | panicked c => exact he
            | outgrown => exact absurd he hO))⟩
        | exact ⟨hn, fun c cs _ => let ⟨v, w1, r, s⟩ := h c cs; ⟨v, w1, hK _ _ r, (StepsIn.of_steps s).mono fun m _ => fenced_wide P m⟩⟩
  | halt x w' => cases x <;> simp only [Oper.upon, Oper.uponIn] at h ⊢ <;> exact h
theorem opsV_in {P : Program} {pan : Bool} {lets : List Nat} {n : Nat} {ops : Array Oper} {Q : Exit → List Value → World → Prop} {K : Exit → Act → World → Prop} {js : List Nat} (hO : ¬ LetsOut K) (hP : ∀ c tm w, Q (.panic c) tm w → K (.panic c) (actD ds tm) w)
    (hK : ∀ tm w, Q .normal tm w → wpOpsIn Fence.wide n P ops K js (actD ds tm) w) : ∀ (l : List Oper) (k : Nat) (tm : List Value) (w : World), (∀ i o, l[i]? = some o → ops[k + i]? = some o) →
      opsV P pan lets ops Q l tm w → wpOpsIn Fence.wide n P ops K (List.range' k l.length ++ js) (actD ds tm) w := by
  intro l
  induction l with
  | nil => intro k tm w _ h; exact hK _ _ h
  | cons o rest ih =>
    intro k tm w hl h
    have h0 : ops[k]? = some o := hl 0 o rfl
    have hr : ∀ i o', rest[i]? = some o' → ops[k + 1 + i]? = some o' := fun i o' hi => by
      have := hl (i + 1) o' (by simpa using hi)
      rwa [show k + (i + 1) = k + 1 + i by omega] at this
    have exec : ∀ tm', tm' = tm → Region.wanted o (yielded ops (actD ds tm).tmps) = true →
        opV P pan lets o tm' w (fun v w' => opsV P pan lets ops Q rest (putl o.dst tm' v) w') (fun c w' => Q (.panic c) tm' w') → wpOpsIn Fence.wide n P ops K (List.range' k (o :: rest).length ++ js) (actD ds tm) w := by
      intro tm' he hw ho
      subst he
      rw [List.length_cons, List.range'_succ, List.cons_append, wpOpsIn]
      simp only [h0, hw, if_true]
      exact Oper_wpWide hO (fun _ _ h => h) (opV_wp (Q := K) ho (fun v w' hv => ih (k + 1) _ _ hr hv) (fun c w' hc => hP _ _ _ hc))
    have skip : ∀ tm', tm' = tm → Region.wanted o (yielded ops (actD ds tm).tmps) = false → opsV P pan lets ops Q rest (putl o.dst tm' undef) w → wpOpsIn Fence.wide n P ops K (List.range' k (o :: rest).length ++ js) (actD ds tm) w := by
      intro tm' he hw ho
      subst he
      rw [List.length_cons, List.range'_succ, List.cons_append, wpOpsIn]
      simp only [h0, hw, Bool.false_eq_true, if_false, put_act]
      exact ⟨fun _ _ => trivial, ih (k + 1) _ _ hr ho⟩
    unfold opsV at h
    split at h
    · rename_i hg
      exact exec tm rfl (by simp [Region.wanted, hg]) h
    · rename_i j want hg
      obtain ⟨d, hd, h⟩ := IsSome_elim h
      have hw := wanted_guard (ds := ds) (ops := ops) hg hd (tm := tm)
      split at h
      · rename_i b hb
        have hsome : tm[d]? = some (.bool b) := by
          cases hh : tm[d]? with
          | none => simp [List.getD, hh, undef] at hb
          | some v => simp [List.getD, hh] at hb; rw [hb]
        rw [hsome] at hw
        cases b <;> cases want <;> simp only [cnd] at h
        · exact exec _ (set_same hb) (by simpa using hw) h
        · exact skip _ (set_same hb) (by simpa using hw) h
        · exact skip _ (set_same hb) (by simpa using hw) h
        · exact exec _ (set_same hb) (by simpa using hw) h
      · rename_i hne
        rcases cnd_cases h with ⟨_, h⟩ | ⟨_, h⟩
        · refine skip tm rfl ?_ h
          rw [hw]
          split
          · rename_i b hb
            exact absurd (show tm.getD d undef = .bool b by simp [List.getD, hb]) (hne b)
          · rfl
        · exact h.elim
theorem run_yieldOp {P : Program} {tm : List Value} {o : Oper} {c : Call} {x : Operand} {l : Nat} (ho : o.op = .call c) (hx : c.callee = .value x) (hv : ev tm x = .func (.yield l) #[] #[]) (w : World) :
    (execOp (ev tm) o).run P w = (Instr.yield l (c.args.map (ev tm))).run P w := by
  obtain ⟨callee, args, argTypes⟩ := c
  simp only at hx
  subst hx
  simp only [execOp, ho, resolve, hv, Deferred.ofValue, Sem.run_bind, Sem.run_pure, Result.andThen_ok, invoke]
  simp
theorem yieldV_wp {P : Program} {H : Hints} {id : Nat} {ops : Array Oper} {draw : Bool} {j : Nat} {Q : Exit → List Value → World → Prop} {tm : List Value} {w : World} (h : yieldV P H ops draw j Q tm w) : (Code.region id ops draw).wp P (upD ds Q) (actD ds tm) w := by
  rcases cnd_cases h with ⟨_, h⟩ | ⟨hd, h⟩
  · exact h.elim
  subst hd
  have hO : ¬ LetsOut (fun e a w => e ≠ .outgrown ∧ upD ds Q e a w) := fun ⟨a, w, h⟩ => h.1 rfl
  have hP : ∀ c tm w, Q (.panic c) tm w → (fun e a w => e ≠ .outgrown ∧ upD ds Q e a w) (.panic c) (actD ds tm) w := fun c tm w h => ⟨by simp, up_act h⟩
  refine (wpIn_wide (n := 1)).1 (wpIn_mono (Q := fun e a w => e ≠ .outgrown ∧ upD ds Q e a w) (wpIn_region ?_) (fun e a w h => h.2))
  have hK : ∀ tm w, yieldOp P H ops Q (ops.toList.drop j) tm w → wpOpsIn Fence.wide 1 P ops (fun e a w => e ≠ .outgrown ∧ upD ds Q e a w) (List.range' j (ops.size - j)) (actD ds tm) w := by
    intro tm w h
    cases hl : ops.toList.drop j with
    | nil => rw [hl] at h; exact h.elim
    | cons o rest =>
      rw [hl] at h
      have hlen : ops.size - j = rest.length + 1 := by
        have := congrArg List.length hl
        simpa using this
      have hget : ∀ i o', (o :: rest)[i]? = some o' → ops[j + i]? = some o' := by
        intro i o' hi
        rw [← hl, List.getElem?_drop] at hi
        simpa using hi
      rw [hlen, List.range'_succ, wpOpsIn]
      have h0 : ops[j]? = some o := hget 0 o rfl
      simp only [yieldOp] at h
      split at h
      · rename_i c hg ho
        split at h
        · rename_i x hx
          obtain ⟨l, hv, h⟩ := AsYield_elim h
          obtain ⟨fn, tmps, assign, body, hrun, hR⟩ := h
          simp only [h0, show Region.wanted o (yielded ops (actD ds tm).tmps) = true by simp [Region.wanted, hg], if_true]
          refine ⟨fun _ _ => trivial, ?_⟩
          rw [show Fence.wide.round = none from rfl, Oper.semAt_none, eval_act, run_yieldOp ho hx hv, hrun]
          refine ⟨fun h => by (cases h), RoundIn.mono (roundIn_wide hR) ?_⟩
          rintro e w' ⟨b, rfl, h'⟩
          show wpOpsIn Fence.wide 1 P ops _ (List.range' (j + 1) rest.length) ((actD ds tm).put o.dst (.bool b)) w'
          rw [put_act]
          have := opsV_in (ds := ds) (n := 1) (js := []) hO hP (fun tm w h => ⟨by simp, up_act h⟩) rest (j + 1) _ _ (fun i o' hi => by have := hget (i + 1) o' (by simpa using hi); rwa [show j + (i + 1) = j + 1 + i by omega] at this) h'
          simpa using this
        · exact h.elim
      · exact h.elim
  have := opsV_in (ds := ds) (n := 1) (Q := yieldQ P H ops Q (ops.toList.drop j)) hO (fun c tm w h => hP c tm w h) hK (ops.toList.take j) 0 tm w (fun i o hi => by rw [List.getElem?_take] at hi; split at hi <;> simpa using hi) h
  have hr : List.range ops.size = List.range' 0 (ops.toList.take j).length ++ List.range' j (ops.size - j) := by
    rw [List.length_take, List.range_eq_range']
    simp only [Array.length_toList]
    by_cases hj : j ≤ ops.size
    · have h1 := List.range'_append (s := 0) (m := j) (n := ops.size - j) (step := 1)
      simp only [Nat.zero_add, Nat.one_mul] at h1
      rw [Nat.min_eq_left hj, h1]
      congr 1
      omega
    · rw [Nat.min_eq_right (by omega), show ops.size - j = 0 by omega]
      simp
  rw [hr]
  exact this
theorem codeV_strong {P : Program} {H : Hints} (c : Code) : ∀ {A : List Nat} {tm0 : List Value} {Q Q' : Exit → List Value → World → Prop} {tm : List Value} {w : World}, (∀ d, d ∈ assigned c → d ∈ A) → Agree A tm0 tm →
    (∀ e tm' w', Agree A tm0 tm' → Q e tm' w' → Q' e tm' w') → codeV P H c Q tm w → codeV P H c Q' tm w := by
  have raw : ∀ (c : Code) {A : List Nat} {tm0 : List Value} {Q Q' : Exit → List Value → World → Prop} {tm : List Value} {w : World}, (∀ d, d ∈ assigned c → d ∈ A) → Agree A tm0 tm →
      (∀ e tm' w', Agree A tm0 tm' → Q e tm' w' → Q' e tm' w') → RawWp P c Q tm w → RawWp P c Q' tm w := by
    intro c A tm0 Q Q' tm w hA ha hq h
    exact fun ds => Code.wp_mono (fun e a w' ⟨hd, h1, h2⟩ => ⟨hd, h1, hq _ _ _ (ha.trans (h1.mono hA)) h2⟩) (h ds)
  induction c with
  | skip => intro A tm0 Q Q' tm w hA ha hq h; exact hq _ _ _ ha h
  | label l => intro A tm0 Q Q' tm w hA ha hq h; exact hq _ _ _ ha h
  | ret => intro A tm0 Q Q' tm w hA ha hq h; exact hq _ _ _ ha h
  | exit id => intro A tm0 Q Q' tm w hA ha hq h; exact hq _ _ _ ha h
  | goto l => intro A tm0 Q Q' tm w hA ha hq h; exact hq _ _ _ ha h
  | region id ops draw =>
    intro A tm0 Q Q' tm w hA ha hq h
    unfold codeV at h ⊢
    cases hr : H.raw.elem id with
    | true =>
      simp only [hr] at h ⊢
      cases hy : lookN H.yields id with
      | none => simp only [hy] at h ⊢; exact raw _ hA ha hq h
      | some j => simp only [hy] at h ⊢; exact yieldV_strong hA ha hq h
    | false =>
      simp only [hr] at h ⊢
      split
      · rename_i hl
        simp only [hl] at h
        exact regV_strong hA ha hq h
      · rename_i S hl
        simp only [hl] at h
        rcases cnd_cases h with ⟨hs, J, h1, h2⟩ | ⟨_, h⟩
        · refine cnd_true hs ⟨J, ?_, joinV_mono hs hA ha (fun tm' w' ha' h' => hq _ _ _ ha' h') h2⟩
          refine regV_strong hA ha ?_ h1
          intro e tm' w' ha' h'
          cases e with
          | normal => exact h'
          | _ => exact hq _ _ _ ha' h'
        · exact h.elim
  | seq a b iha ihb =>
    intro A tm0 Q Q' tm w hA ha hq h
    unfold codeV at h ⊢
    refine iha (fun d hd => hA d (by simp [assigned, hd])) ha (fun e tm' w' ha' h' => ?_) h
    cases e with
    | normal => exact ihb (fun d hd => hA d (by simp [assigned, hd])) ha' hq h'
    | _ => exact hq _ _ _ ha' h'
  | cond c a b iha ihb =>
    intro A tm0 Q Q' tm w hA ha hq h
    have hAa : ∀ d, d ∈ assigned a → d ∈ A := fun d hd => hA d (by simp [assigned, hd])
    have hAb : ∀ d, d ∈ assigned b → d ∈ A := fun d hd => hA d (by simp [assigned, hd])
    unfold codeV at h ⊢
    split
    · rename_i t ht
      simp only [ht] at h
      split
      · rename_i hl
        simp only [hl] at h
        exact cnd_mono h (iha hAa ha hq) (ihb hAb ha hq)
      · rename_i S hl
        simp only [hl] at h
        rcases cnd_cases h with ⟨hs, J, h1, h2⟩ | ⟨_, h⟩
        · refine cnd_true hs ⟨J, ?_, joinV_mono hs hA ha (fun tm' w' ha' h' => hq _ _ _ ha' h') h2⟩
          have hq' : ∀ e tm' w', Agree A tm0 tm' → seqQ (meetQ S J) Q e tm' w' → seqQ (meetQ S J) Q' e tm' w' := by
            intro e tm' w' ha' h'
            cases e with
            | normal => exact h'
            | _ => exact hq _ _ _ ha' h'
          exact cnd_mono h1 (iha hAa ha hq') (ihb hAb ha hq')
        · exact h.elim
    · rename_i hne
      revert h
      split
      · rename_i t ht; exact absurd ht (hne t)
      · exact id
  | block id c ih =>
    intro A tm0 Q Q' tm w hA ha hq h
    unfold codeV at h ⊢
    have hb : ∀ {Q Q' : Exit → List Value → World → Prop}, (∀ e tm' w', Agree A tm0 tm' → Q e tm' w' → Q' e tm' w') → ∀ e tm' w', Agree A tm0 tm' → blockQ id Q e tm' w' → blockQ id Q' e tm' w' := by
      intro Q Q' hq e tm' w' ha' h'
      cases e with
      | exit id' =>
        unfold blockQ at h' ⊢
        cases hi : Nat.beq id' id <;> simp only [hi] at h' ⊢ <;> exact hq _ _ _ ha' h'
      | _ => exact hq _ _ _ ha' h'
    split
    · rename_i hl
      simp only [hl] at h
      exact ih hA ha (hb hq) h
    · rename_i S hl
      simp only [hl] at h
      rcases cnd_cases h with ⟨hs, J, h1, h2⟩ | ⟨_, h⟩
      · refine cnd_true hs ⟨J, ?_, joinV_mono hs hA ha (fun tm' w' ha' h' => hq _ _ _ ha' h') h2⟩
        refine ih hA ha (hb ?_) h1
        intro e tm' w' ha' h'
        cases e with
        | normal => exact h'
        | _ => exact hq _ _ _ ha' h'
      · exact h.elim
  | loop c ih =>
    intro A tm0 Q Q' tm w hA ha hq h
    unfold codeV at h ⊢
    obtain ⟨S, hl, h⟩ := IsSome_elim h
    refine IsSome_some hl ?_
    rcases cnd_cases h with ⟨hs, I, μ, h1, h2⟩ | ⟨_, h⟩
    · refine cnd_true hs ⟨I, μ, h1, fun g => allSel_mono (fun vs hv w' hI => ?_) (h2 g)⟩
      refine ih hA (Agree.setSel S vs _ (subS_mono hA hs) (ha.garb hA g)) (fun e tm' w'' ha' h' => ?_) (hv w' hI)
      cases e with
      | normal => exact h'
      | _ => exact hq _ _ _ ha' h'
    · exact h.elim
  | scope c ih => intro A tm0 Q Q' tm w hA ha hq h; exact raw _ hA ha hq h
  | rangeFunc f ps a b iha ihb => intro A tm0 Q Q' tm w hA ha hq h; exact raw _ hA ha hq h
  | refuse s => intro A tm0 Q Q' tm w hA ha hq h; exact raw _ hA ha hq h

theorem codeV_agree {P : Program} {H : Hints} {c : Code} {Q : Exit → List Value → World → Prop} {tm : List Value} {w : World} (h : codeV P H c Q tm w) :
    codeV P H c (fun e tm' w' => Agree (assigned c) tm tm' ∧ Q e tm' w') tm w :=
  codeV_strong c (fun _ h => h) (Agree.refl _ _) (fun _ _ _ ha h => ⟨ha, h⟩) h

theorem codeV_wp {P : Program} {H : Hints} (c : Code) : ∀ {Q : Exit → List Value → World → Prop} {tm : List Value} {w : World}, codeV P H c Q tm w → c.wp P (upD ds Q) (actD ds tm) w := by
  have raw : ∀ (c : Code) {Q : Exit → List Value → World → Prop} {tm : List Value} {w : World}, RawWp P c Q tm w → c.wp P (upD ds Q) (actD ds tm) w := by
    intro c Q tm w h
    exact Code.wp_mono (fun e a w' ⟨hd, _, h2⟩ => ⟨hd, h2⟩) (h ds)
  induction c with
  | skip => intro Q tm w h; exact wp_skip (up_act h)
  | label l => intro Q tm w h; exact wp_label (up_act h)
  | ret => intro Q tm w h; exact wp_ret (up_act h)
  | exit id => intro Q tm w h; exact wp_exit (up_act h)
  | goto l => intro Q tm w h; exact wp_goto (up_act h)
  | region id ops draw =>
    intro Q tm w h
    unfold codeV at h
    cases hr : H.raw.elem id with
    | true =>
      simp only [hr] at h
      cases hy : lookN H.yields id with
      | none => simp only [hy] at h; exact raw _ h
      | some j => simp only [hy] at h; exact yieldV_wp h
    | false =>
      simp only [hr] at h
      split at h
      · exact regV_wp h
      · rename_i S hl
        rcases cnd_cases h with ⟨hs, J, h1, h2⟩ | ⟨_, h⟩
        · have h3 := regV_strong (Q' := fun e tm' w' => Agree (opDsts ops.toList) tm tm' ∧ seqQ (meetQ S J) Q e tm' w') (fun _ h => h) (Agree.refl (opDsts ops.toList) tm) (fun _ _ _ ha h => ⟨ha, h⟩) h1
          refine Code.wp_mono (fun e a' w' ⟨hd, ha, h'⟩ => ⟨hd, ?_⟩) (regV_wp h3)
          cases e with
          | normal => exact joinV_elim h2 ha h'
          | _ => exact h'
        · exact h.elim
  | seq a b iha ihb =>
    intro Q tm w h
    unfold codeV at h
    refine wp_seq (Code.wp_mono (fun e a' w' ⟨hd, h'⟩ => ?_) (iha h))
    cases e with
    | normal => rw [act_of hd]; exact ihb h'
    | _ => exact ⟨hd, h'⟩
  | cond c a b iha ihb =>
    intro Q tm w h
    unfold codeV at h
    split at h
    · rename_i t ht
      refine wp_cond (t := t) (by rw [eval_act]; exact ht) ?_
      split at h
      · cases t with
        | true => exact iha h
        | false => exact ihb h
      · rename_i S hl
        rcases cnd_cases h with ⟨hs, J, h1, h2⟩ | ⟨_, h⟩
        · have join : ∀ (x : Code), (∀ i, i ∈ assigned x → i ∈ assigned a ++ assigned b) → (∀ {Q : Exit → List Value → World → Prop} {tm : List Value} {w : World}, codeV P H x Q tm w → x.wp P (upD ds Q) (actD ds tm) w) →
              codeV P H x (seqQ (meetQ S J) Q) tm w → x.wp P (upD ds Q) (actD ds tm) w := by
            intro x hx ihx h'
            refine Code.wp_mono (fun e a' w' ⟨hd, ha, h'⟩ => ⟨hd, ?_⟩) (ihx (codeV_agree h'))
            cases e with
            | normal => exact joinV_elim h2 (ha.mono hx) h'
            | _ => exact h'
          cases t with
          | true => exact join a (fun i hi => by simp [hi]) iha h1
          | false => exact join b (fun i hi => by simp [hi]) ihb h1
        · exact h.elim
    · exact h.elim
  | block id c ih =>
    intro Q tm w h
    unfold codeV at h
    have hb : ∀ {Q : Exit → List Value → World → Prop} {e : Exit} {a' : Act} {w' : World}, upD ds (blockQ id Q) e a' w' → Exit.inBlock id (upD ds Q) e a' w' := by
      intro Q e a' w' ⟨hd, h'⟩
      cases e with
      | exit id' =>
        unfold blockQ at h'
        unfold Exit.inBlock
        by_cases hi : id' = id
        · subst hi
          simp only [show Nat.beq id' id' = true from Nat.beq_refl id'] at h'
          simp only [if_true]
          exact ⟨hd, h'⟩
        · have : Nat.beq id' id = false := by
            cases hn : Nat.beq id' id with
            | false => rfl
            | true => exact absurd (Nat.eq_of_beq_eq_true hn) hi
          simp only [this] at h'
          simp only [hi, if_false]
          exact ⟨hd, h'⟩
      | _ => exact ⟨hd, h'⟩
    split at h
    · exact wp_block (Code.wp_mono (fun e a' w' h' => hb h') (ih h))
    · rename_i S hl
      rcases cnd_cases h with ⟨hs, J, h1, h2⟩ | ⟨_, h⟩
      · have h3 : (Code.block id c).wp P (upD ds fun e tm' w' => Agree (assigned c) tm tm' ∧ seqQ (meetQ S J) Q e tm' w') (actD ds tm) w := by
          refine wp_block (Code.wp_mono (fun e a' w' h' => hb ?_) (ih (codeV_agree h1)))
          obtain ⟨hd, ha, h'⟩ := h'
          refine ⟨hd, ?_⟩
          cases e with
          | exit id' =>
            unfold blockQ at h' ⊢
            cases hi : Nat.beq id' id <;> simp only [hi] at h' ⊢ <;> exact ⟨ha, h'⟩
          | _ => exact ⟨ha, h'⟩
        refine Code.wp_mono (fun e a' w' ⟨hd, ha, h'⟩ => ⟨hd, ?_⟩) h3
        cases e with
        | normal => exact joinV_elim h2 ha h'
        | _ => exact h'
      · exact h.elim
  | loop c ih =>
    intro Q tm w h
    unfold codeV at h
    obtain ⟨S, hl, h⟩ := IsSome_elim h
    rcases cnd_cases h with ⟨hs, I, μ, h1, h2⟩ | ⟨_, h⟩
    · rcases cnd_cases h1 with ⟨hok, hI⟩ | ⟨_, h⟩
      · refine wp_loop (fun a' w' => a'.defers = ds ∧ Agree (assigned c) tm a'.tmps.toList ∧ okSel S a'.tmps.toList = true ∧ I (selL S a'.tmps.toList) w') (fun a' w' => μ (selL S a'.tmps.toList) w')
          ⟨rfl, by simpa [actD] using Agree.refl _ tm, by simpa [actD] using hok, by simpa [actD] using hI⟩ ?_
        intro a' w' ⟨hd, ha, hok', hI'⟩
        have hr := allSel_elim (h2 fun i => a'.tmps.toList.getD i undef) hok' w' hI'
        rw [garb_of_agree ha, setSel_self] at hr
        have hwp := ih (codeV_agree hr)
        rw [← act_of hd] at hwp
        refine Code.wp_mono (fun e a2 w2 ⟨hd2, ha2, h'⟩ => ?_) hwp
        cases e with
        | normal =>
          rcases cnd_cases h' with ⟨hok2, hI2, hlt⟩ | ⟨_, h'⟩
          · exact ⟨⟨hd2, ha.trans ha2, hok2, hI2⟩, hlt⟩
          · exact h'.elim
        | _ => exact ⟨hd2, h'⟩
      · exact h.elim
    · exact h.elim
  | scope c ih => intro Q tm w h; exact raw _ h
  | rangeFunc f ps a b iha ihb => intro Q tm w h; exact raw _ h
  | refuse s => intro Q tm w h; exact raw _ h

/-! ### code in a round of a range over a function -/
theorem wpIn_up {F : Fence} {n : Nat} {P : Program} {c : Code} {Q Q' : Exit → Act → World → Prop} {a : Act} {w : World} (hq : ∀ e a w, Q e a w → Q' e a w) (h : c.wpIn F n P Q a w) : c.wpIn F n P Q' a w := wpIn_mono h hq
/-- What may be walked in a round. -/
def roundB (H : Hints) : Code → Bool
  | .region id ops _ => (match H.raw.elem id with | true => false | false => noDefer ops.toList)
  | .seq a b | .cond _ a b => roundB H a && roundB H b
  | .block _ c | .loop c => roundB H c
  | .skip | .label _ | .ret | .exit _ | .goto _ => true
  | _ => false
theorem codeV_round {P : Program} {H : Hints} {l n : Nat} (c : Code) : ∀ {Q : Exit → List Value → World → Prop} {tm : List Value} {w : World}, roundB H c = true → (∀ tm w, ¬ Q .outgrown tm w) → codeV P H c Q tm w → c.wpIn (Fence.wide.inRound l) n P (upD ds Q) (actD ds tm) w := by
  have no : ∀ {Q : Exit → List Value → World → Prop}, (∀ tm w, ¬ Q .outgrown tm w) → ¬ LetsOut (upD ds Q) := fun h ⟨a, w, h'⟩ => h _ _ h'.2
  induction c with
  | skip => intro Q tm w hB hO h; exact wpIn_skip (up_act h)
  | label l => intro Q tm w hB hO h; exact wpIn_label (up_act h)
  | ret => intro Q tm w hB hO h; exact wpIn_ret (up_act h)
  | exit id => intro Q tm w hB hO h; exact wpIn_exit (up_act h)
  | goto l => intro Q tm w hB hO h; exact wpIn_goto (up_act h)
  | region id ops draw =>
    intro Q tm w hB hO h
    unfold codeV at h
    unfold roundB at hB
    cases hr : H.raw.elem id with
    | true => simp only [hr] at hB; cases hB
    | false =>
      simp only [hr] at h hB
      split at h
      · exact wpR_round hB (no hO) (regV_wpR h)
      · rename_i S hl
        rcases cnd_cases h with ⟨hs, J, h1, h2⟩ | ⟨_, h⟩
        · have h3 := regV_strong (Q' := fun e tm' w' => Agree (opDsts ops.toList) tm tm' ∧ seqQ (meetQ S J) Q e tm' w') (fun _ h => h) (Agree.refl (opDsts ops.toList) tm) (fun _ _ _ ha h => ⟨ha, h⟩) h1
          refine wpIn_up (fun e a' w' ⟨hd, ha, h'⟩ => ⟨hd, ?_⟩) (wpR_round hB (no fun _ _ h => hO _ _ h.2) (regV_wpR h3))
          cases e with
          | normal => exact joinV_elim h2 ha h'
          | _ => exact h'
        · exact h.elim
  | seq a b iha ihb =>
    intro Q tm w hB hO h
    unfold codeV at h
    simp only [roundB, Bool.and_eq_true] at hB
    refine wpIn_seq (wpIn_up (fun e a' w' ⟨hd, h'⟩ => ?_) (iha (Q := seqQ (fun tm w => codeV P H b Q tm w) Q) hB.1 (fun _ _ h => hO _ _ h) h))
    cases e with
    | normal => rw [act_of hd]; exact ihb hB.2 hO h'
    | _ => exact ⟨hd, h'⟩
  | cond c a b iha ihb =>
    intro Q tm w hB hO h
    unfold codeV at h
    simp only [roundB, Bool.and_eq_true] at hB
    split at h
    · rename_i t ht
      refine wpIn_cond (t := t) (by rw [eval_act]; exact ht) ?_
      split at h
      · cases t with
        | true => exact iha hB.1 hO h
        | false => exact ihb hB.2 hO h
      · rename_i S hl
        rcases cnd_cases h with ⟨hs, J, h1, h2⟩ | ⟨_, h⟩
        · have join : ∀ (x : Code), (∀ i, i ∈ assigned x → i ∈ assigned a ++ assigned b) → (∀ {Q : Exit → List Value → World → Prop} {tm : List Value} {w : World}, (∀ tm w, ¬ Q .outgrown tm w) → codeV P H x Q tm w → x.wpIn (Fence.wide.inRound l) n P (upD ds Q) (actD ds tm) w) →
              codeV P H x (seqQ (meetQ S J) Q) tm w → x.wpIn (Fence.wide.inRound l) n P (upD ds Q) (actD ds tm) w := by
            intro x hx ihx h'
            refine wpIn_up (fun e a' w' ⟨hd, ha, h'⟩ => ⟨hd, ?_⟩) (ihx (fun _ _ h => hO _ _ h.2) (codeV_agree h'))
            cases e with
            | normal => exact joinV_elim h2 (ha.mono hx) h'
            | _ => exact h'
          cases t with
          | true => exact join a (fun i hi => by simp [hi]) (iha hB.1) h1
          | false => exact join b (fun i hi => by simp [hi]) (ihb hB.2) h1
        · exact h.elim
    · exact h.elim
  | block id c ih =>
    intro Q tm w hB hO h
    unfold codeV at h
    simp only [roundB] at hB
    have hb : ∀ {Q : Exit → List Value → World → Prop} {e : Exit} {a' : Act} {w' : World}, upD ds (blockQ id Q) e a' w' → Exit.inBlock id (upD ds Q) e a' w' := by
      intro Q e a' w' ⟨hd, h'⟩
      cases e with
      | exit id' =>
        unfold blockQ at h'
        unfold Exit.inBlock
        by_cases hi : id' = id
        · subst hi
          simp only [show Nat.beq id' id' = true from Nat.beq_refl id'] at h'
          simp only [if_true]
          exact ⟨hd, h'⟩
        · have : Nat.beq id' id = false := by
            cases hn : Nat.beq id' id with
            | false => rfl
            | true => exact absurd (Nat.eq_of_beq_eq_true hn) hi
          simp only [this] at h'
          simp only [hi, if_false]
          exact ⟨hd, h'⟩
      | _ => exact ⟨hd, h'⟩
    split at h
    · exact wpIn_block (wpIn_up (fun e a' w' h' => hb h') (ih (Q := blockQ id Q) hB (fun _ _ h => hO _ _ h) h))
    · rename_i S hl
      rcases cnd_cases h with ⟨hs, J, h1, h2⟩ | ⟨_, h⟩
      · have h3 : (Code.block id c).wpIn (Fence.wide.inRound l) n P (upD ds fun e tm' w' => Agree (assigned c) tm tm' ∧ seqQ (meetQ S J) Q e tm' w') (actD ds tm) w := by
          refine wpIn_block (wpIn_up (fun e a' w' h' => hb ?_) (ih hB (fun _ _ h => hO _ _ h.2) (codeV_agree h1)))
          obtain ⟨hd, ha, h'⟩ := h'
          refine ⟨hd, ?_⟩
          cases e with
          | exit id' =>
            unfold blockQ at h' ⊢
            cases hi : Nat.beq id' id <;> simp only [hi] at h' ⊢ <;> exact ⟨ha, h'⟩
          | _ => exact ⟨ha, h'⟩
        refine wpIn_up (fun e a' w' ⟨hd, ha, h'⟩ => ⟨hd, ?_⟩) h3
        cases e with
        | normal => exact joinV_elim h2 ha h'
        | _ => exact h'
      · exact h.elim
  | loop c ih =>
    intro Q tm w hB hO h
    unfold codeV at h
    simp only [roundB] at hB
    obtain ⟨S, hl, h⟩ := IsSome_elim h
    rcases cnd_cases h with ⟨hs, I, μ, h1, h2⟩ | ⟨_, h⟩
    · rcases cnd_cases h1 with ⟨hok, hI⟩ | ⟨_, h⟩
      · refine wpIn_loop (fun a' w' => a'.defers = ds ∧ Agree (assigned c) tm a'.tmps.toList ∧ okSel S a'.tmps.toList = true ∧ I (selL S a'.tmps.toList) w') (fun a' w' => μ (selL S a'.tmps.toList) w')
          ⟨rfl, by simpa [actD] using Agree.refl _ tm, by simpa [actD] using hok, by simpa [actD] using hI⟩ ?_
        intro a' w' ⟨hd, ha, hok', hI'⟩
        have hr := allSel_elim (h2 fun i => a'.tmps.toList.getD i undef) hok' w' hI'
        rw [garb_of_agree ha, setSel_self] at hr
        have hwp := ih hB (fun _ _ h => hO _ _ h.2) (codeV_agree hr)
        rw [← act_of hd] at hwp
        refine wpIn_up (fun e a2 w2 ⟨hd2, ha2, h'⟩ => ?_) hwp
        cases e with
        | normal =>
          rcases cnd_cases h' with ⟨hok2, hI2, hlt⟩ | ⟨_, h'⟩
          · exact ⟨⟨hd2, ha.trans ha2, hok2, hI2⟩, hlt⟩
          · exact h'.elim
        | _ => exact ⟨hd2, h'⟩
      · exact h.elim
    · exact h.elim
  | scope c ih => intro Q tm w hB hO h; cases hB
  | rangeFunc f ps a b iha ihb => intro Q tm w hB hO h; cases hB
  | refuse s => intro Q tm w hB hO h; cases hB

/-! ### a function -/
def resV (P : Program) (w : World) (tm : List Value) : List ResultVar → (List Value → Prop) → Prop
  | [], L => L []
  | .tmp t :: r, L => resV P w tm r fun vs => L (tm.getD t undef :: vs)
  | .cell a t :: r, L => (match tm.getD a undef with
      | .pointer p => Deref p fun ad => loadV P t (CellsAt w) (fun a v => w.cell? a = some v) ad fun v => resV P w tm r fun vs => L (v :: vs)
      | _ => False)
def oneOr (vs : List Value) : Value := match vs with | [v] => v | l => .tuple l.toArray
def endQ (P : Program) (fn : Func) (R : Ending → World → Prop) : Exit → List Value → World → Prop
  | .normal, tm, w | .ret, tm, w => resV P w tm fn.results.toList fun vs => R (.returned (oneOr vs)) w
  | .panic c, _, w => R (.panicked c) w
  | _, _, _ => False
def resF (tmps : Array Value) : ResultVar → Sem Value
  | .tmp t => pure (tmps.getD t undef)
  | .cell a t => do loadVar t (← asAddr (tmps.getD a undef))
theorem results_eq (fn : Func) (tmps : Array Value) : results fn tmps = (do let vs ← fn.results.mapM (resF tmps); pure (if h : vs.size = 1 then vs[0] else .tuple vs)) := by
  unfold results
  congr 1
theorem resV_run {P : Program} {w : World} {tm : List Value} : ∀ (l : List ResultVar) {L : List Value → Prop}, resV P w tm l L →
    ∃ vs, L vs ∧ (l.mapM (resF (actD [] tm).tmps)).run P w = .ok vs w := by
  intro l
  induction l with
  | nil => intro L h; exact ⟨[], h, by simp⟩
  | cons x l ih =>
    intro L h
    cases x with
    | tmp t =>
      obtain ⟨vs, h1, h2⟩ := ih h
      refine ⟨_, h1, ?_⟩
      rw [List.mapM_cons, Sem.run_bind]
      simp only [resF, Sem.run_pure, Result.andThen_ok, Sem.run_bind]
      rw [h2]
      simp [actD]
    | cell a t =>
      unfold resV at h
      split at h
      · rename_i p he
        obtain ⟨ad, rfl, hL⟩ := Deref_elim h
        obtain ⟨v, h1, h2⟩ := loadV_run hL
        obtain ⟨vs, h3, h4⟩ := ih h1
        refine ⟨_, h3, ?_⟩
        have he' : (actD [] tm).tmps.getD a undef = .pointer (some ad) := by simpa [actD] using he
        have hx : (resF (actD [] tm).tmps (.cell a t)).run P w = .ok v w := by
          simp only [resF, he', asAddr, Sem.run_bind, Sem.run_pure, Result.andThen_ok, h2 w (fun _ h => h) (fun _ h => h)]
        rw [List.mapM_cons, Sem.run_bind, hx, Result.andThen_ok, Sem.run_bind, h4, Result.andThen_ok, Sem.run_pure]
      · exact h.elim
theorem endQ_post {P : Program} {fn : Func} {R : Ending → World → Prop} {e : Exit} {a : Act} {w : World} (h : upD [] (endQ P fn R) e a w) : bodyPost P fn R e a w := by
  obtain ⟨hd, h⟩ := h
  have fin : resV P w a.tmps.toList fn.results.toList (fun vs => R (.returned (oneOr vs)) w) → a.defers = [] ∧ ∃ v, (results fn a.tmps).run P w = .ok v w ∧ R (.returned v) w := by
    intro h
    obtain ⟨vs, h1, h2⟩ := resV_run _ h
    refine ⟨hd, oneOr vs, ?_, h1⟩
    have ha : (actD [] a.tmps.toList).tmps = a.tmps := by simp [actD]
    rw [ha] at h2
    rw [results_eq, Sem.run_bind, Array.mapM_eq_mapM_toList, Sem.run_map, h2]
    simp only [Result.andThen_ok, Sem.run_pure]
    congr 1
    cases vs with
    | nil => rfl
    | cons v vs =>
      cases vs with
      | nil => rfl
      | cons u vs => simp [oneOr]
  cases e with
  | normal => exact fin h
  | ret => exact fin h
  | panic c => exact ⟨hd, h⟩
  | exit id => exact h.elim
  | goto l => exact h.elim
  | outgrown => exact h.elim

/-- THE CONDITION of a call of function f. -/
def fnV (P : Program) (H : Hints) (f : FuncId) (args : List Value) (w : World) (R : Ending → World → Prop) : Prop :=
  IsSome P.funcs[f]? fun fn => IsSome fn.body fun c => codeV P H c (endQ P fn R) (args ++ List.replicate (fn.ntmps - args.length) undef) w
theorem calls_of_fnV {P : Program} (H : Hints) {f : FuncId} {args : List Value} {w : World} {R : Ending → World → Prop} (h : fnV P H f args w R) : Calls P f args.toArray w R := by
  obtain ⟨fn, hf, h⟩ := IsSome_elim h
  obtain ⟨c, hb, h⟩ := IsSome_elim h
  refine calls_of_wp hf hb ?_
  have := Code.wp_mono (Q' := bodyPost P fn R) (fun e a w' h' => endQ_post h') (codeV_wp (ds := []) c h)
  have he : actD [] (args ++ List.replicate (fn.ntmps - args.length) undef) = { tmps := args.toArray ++ Array.replicate (fn.ntmps - args.toArray.size) undef, defers := [] } := by
    simp [actD]
  rw [he] at this
  exact this
theorem calls_of_eq {P : Program} {H : Hints} {f : FuncId} {args : List Value} {w : World} {R : Ending → World → Prop} {X : Prop} (he : fnV P H f args w R = X) (h : X) : Calls P f args.toArray w R := calls_of_fnV H (by rw [he]; exact h)
end Go.Vc

/-
The explicit conditions of some functions of the program, printed by this repo's own program over VcTop: what is proved is that each is the condition.
Conditions: none.
-/
namespace Go.Proofs.YtcnnnlhoiodeaaaGreat
open Go Go.Vc Go.RowKit
set_option maxRecDepth 100000

/- function 33: sacristy/sacristylaw05.regions -/
abbrev law05_regions.N : FuncId := 33
def law05_regions.H : Hints := {  }
def law05_regions.vc (x'_0 : Option Addr) (x'_0n x'_0c : Nat) (x'_1 : Option Addr) (x'_1n x'_1c : Nat) (x'_2 : Option Addr) (x'_2n x'_2c : Nat) (w : World) (R : Ending → World → Prop) : Prop := ∀ w', w' = w.alloc (Obj.cells #[.slice x'_0 x'_0n x'_0c, .slice x'_1 x'_1n x'_1c, .slice x'_2 x'_2n x'_2c] 31) →
∃ (p : Option Addr) (n c : Nat),
w'.cell? (Addr.mk w.heap.size 0 none) = some (.slice p n c) ∧
∀ w'_1, w'_1 = w'.alloc (Obj.cells #[.int .u64 4096,
Value.int .u64 (IntKind.u64.wrap (IntKind.i64.wrap (IntKind.i64.wrap (4 * (↑n : Int)) + 4))),
Value.int .u8 1, .int .u64 1048576, .int .u64 256,
Value.int .u8 2, .int .u64 2097152, .int .u64 256,
Value.int .u8 3] 128) →
R (.returned (.slice (some (Addr.mk w'.heap.size 0 none)) 3 3)) w'_1
theorem law05_regions.calls {x'_0 : Option Addr} {x'_0n x'_0c : Nat} {x'_1 : Option Addr} {x'_1n x'_1c : Nat} {x'_2 : Option Addr} {x'_2n x'_2c : Nat} {w : World} {R : Ending → World → Prop} (h : law05_regions.vc x'_0 x'_0n x'_0c x'_1 x'_1n x'_1c x'_2 x'_2n x'_2c w R) : Calls Tryz.prog 33 ([.agg #[.slice x'_0 x'_0n x'_0c, .slice x'_1 x'_1n x'_1c, .slice x'_2 x'_2n x'_2c]] : List Value).toArray w R := calls_of_eq (show fnV Tryz.prog law05_regions.H 33 [.agg #[.slice x'_0 x'_0n x'_0c, .slice x'_1 x'_1n x'_1c, .slice x'_2 x'_2n x'_2c]] w R = _ from by kernel_rfl) h

/- function 35: sacristy/sacristylaw05.code -/
abbrev law05_code.N : FuncId := 35
def law05_code.H : Hints := { loops := [(4, [(3, .one .str), (4, .one (.int .i64))])] }
def law05_code.vc (l' : Option Addr) (l'n l'c : Nat) (w : World) (R : Ending → World → Prop) : Prop := ∃ (I : List Value → World → Prop) (μ : List Value → World → Nat),
I [.string (ByteArray.mk #[]), .int .i64 0] w ∧
∀ (g : Nat → Value) (s : ByteArray) (i : Int) (w' : World),
I [.string s, .int .i64 i] w' →
cnd (decide (i < (↑l'n : Int))) ((0 ≤ i ∧ i < (↑l'n : Int)) ∧
Deref l' fun a =>
∃ (n n_1 : Int) (n_2 n_3 n_4 : Int),
(w'.cell? (a.add (i.toNat * 5)) = some (.int .u8 n) ∧
w'.cell? ((a.add (i.toNat * 5)).add 1) = some (.int .u8 n_1) ∧
w'.cell? ((a.add (i.toNat * 5)).add 2) = some (.int .u8 n_2) ∧
w'.cell? ((a.add (i.toNat * 5)).add 3) = some (.int .u8 n_3) ∧
w'.cell? ((a.add (i.toNat * 5)).add 4) = some (.int .i64 n_4) ∧ True) ∧
Calls Tryz.prog 64 #[.agg #[.int .u8 n, .int .u8 n_1, .int .u8 n_2,
Value.int .u8 n_3, .int .i64 n_4]] w' fun e w'_1 =>
∃ (n n_5 : Int),
e = .returned (.tuple #[.int .u32 n, .int .i64 n_5]) ∧
cnd (n_5 != 0) ((0 ≤ i ∧ i < (↑l'n : Int)) ∧
Deref l' fun a =>
∃ (n : Int),
w'_1.cell? ((a.add (i.toNat * 5)).add 4) = some (.int .i64 n) ∧
∀ w'_2, w'_2 = w'_1.alloc (Obj.cells #[.int .u8 (IntKind.u8.wrap (IntKind.u32.wrap n)),
Value.int .u8 (IntKind.u8.wrap ((IntKind.u32.wrap n).fdiv 256)),
Value.int .u8 (IntKind.u8.wrap ((IntKind.u32.wrap n).fdiv 65536)),
Value.int .u8 (IntKind.u8.wrap ((IntKind.u32.wrap n).fdiv 16777216))] 5) →
RunsV Tryz.prog (convert 90 9 (.slice (some (Addr.mk w'_1.heap.size 0 none)) 4 4)) w'_2 fun v w'_3 =>
∃ (s_1 : ByteArray),
v = .string s_1 ∧
(↑(s.size + s_1.size) : Int) ≤ 9223372036854775807 ∧
Goes I μ [.string s, .int .i64 i] w' [.string (s ++ s_1),
Value.int .i64 (IntKind.i64.wrap (i + 1))] w'_3) (∀ w'_2, w'_2 = w'_1.alloc (Obj.cells #[.int .u8 (IntKind.u8.wrap n),
Value.int .u8 (IntKind.u8.wrap (n.fdiv 256)),
Value.int .u8 (IntKind.u8.wrap (n.fdiv 65536)),
Value.int .u8 (IntKind.u8.wrap (n.fdiv 16777216))] 5) →
RunsV Tryz.prog (convert 90 9 (.slice (some (Addr.mk w'_1.heap.size 0 none)) 4 4)) w'_2 fun v w'_3 =>
∃ (s_1 : ByteArray),
v = .string s_1 ∧
(↑(s.size + s_1.size) : Int) ≤ 9223372036854775807 ∧
Goes I μ [.string s, .int .i64 i] w' [.string (s ++ s_1),
Value.int .i64 (IntKind.i64.wrap (i + 1))] w'_3)) (R (.returned (.string s)) w')
theorem law05_code.calls {l' : Option Addr} {l'n l'c : Nat} {w : World} {R : Ending → World → Prop} (h : law05_code.vc l' l'n l'c w R) : Calls Tryz.prog 35 ([.slice l' l'n l'c] : List Value).toArray w R := calls_of_eq (show fnV Tryz.prog law05_code.H 35 [.slice l' l'n l'c] w R = _ from by kernel_rfl) h

/- function 36: sacristy/sacristylaw05.place -/
abbrev law05_place.N : FuncId := 36
def law05_place.H : Hints := {  }
def law05_place.vc (k' c'_0 c'_1 : Int) (c'_2 : Bool) (w : World) (R : Ending → World → Prop) : Prop := ∀ w', w' = w.alloc (Obj.cells #[.int .u8 c'_0, .int .u64 c'_1, .bool c'_2] 28) →
cnd (k'.tmod 2 == 0) (∃ (n : Int),
w'.cell? (Addr.mk w.heap.size 0 none) = some (.int .u8 n) ∧
R (.returned (.int .u64 (IntKind.u64.wrap (1048576 + (IntKind.u64.wrap n).tmod 256)))) w') (∃ (n : Int),
w'.cell? (Addr.mk w.heap.size 0 none) = some (.int .u8 n) ∧
R (.returned (.int .u64 (IntKind.u64.wrap (2097152 + (IntKind.u64.wrap n).tmod 256)))) w')
theorem law05_place.calls {k' c'_0 c'_1 : Int} {c'_2 : Bool} {w : World} {R : Ending → World → Prop} (h : law05_place.vc k' c'_0 c'_1 c'_2 w R) : Calls Tryz.prog 36 ([.int .i64 k', .agg #[.int .u8 c'_0, .int .u64 c'_1, .bool c'_2]] : List Value).toArray w R := calls_of_eq (show fnV Tryz.prog law05_place.H 36 [.int .i64 k', .agg #[.int .u8 c'_0, .int .u64 c'_1, .bool c'_2]] w R = _ from by kernel_rfl) h

/- function 8: sacristy/sacristylaw05.Built -/
abbrev law05_Built.N : FuncId := 8
def law05_Built.H : Hints := { loops := [(6, [(6, .one (.int .i64))]), (14, [(8, .one (.int .i64))])], mixes := [(15, 1001), (7, 1002)] }
def law05_Built.vc (x'_0 : Option Addr) (x'_0n x'_0c : Nat) (x'_1 : Option Addr) (x'_1n x'_1c : Nat) (x'_2 : Option Addr) (x'_2n x'_2c : Nat) (w : World) (R : Ending → World → Prop) : Prop := ∀ w', w' = w.alloc (Obj.cells #[.slice x'_0 x'_0n x'_0c, .slice x'_1 x'_1n x'_1c, .slice x'_2 x'_2n x'_2c] 31) →
∃ (p : Option Addr) (n c : Nat) (p_1 : Option Addr) (n_1 c_1 : Nat) (p_2 : Option Addr) (n_2 c_2 : Nat),
(w'.cell? (Addr.mk w.heap.size 0 none) = some (.slice p n c) ∧
w'.cell? (Addr.mk w.heap.size 1 none) = some (.slice p_1 n_1 c_1) ∧
w'.cell? (Addr.mk w.heap.size 2 none) = some (.slice p_2 n_2 c_2) ∧ True) ∧
Calls Tryz.prog 33 #[.agg #[.slice p n c, .slice p_1 n_1 c_1, .slice p_2 n_2 c_2]] w' fun e w' =>
∃ (p : Option Addr) (n c : Nat),
e = .returned (.slice p n c) ∧
Calls Tryz.prog 32 #[.slice p n c] w' fun e w' =>
∃ (p : Option Addr) (n : Int),
e = .returned (.tuple #[.pointer p, .int .i64 n]) ∧
cnd (n != 0) (R (.returned (.tuple #[.pointer none, .pointer none])) w') (∃ (b : Bool),
EqRuns Tryz.prog BinOp.eql 33 (Operand.tmp 18) (Operand.const (.pointer none)) (.pointer p) (.pointer none) b ∧
cnd b (R (.returned (.tuple #[.pointer none, .pointer none])) w') (∃ (p_3 : Option Addr) (n c : Nat),
w'.cell? (Addr.mk w.heap.size 0 none) = some (.slice p_3 n c) ∧
Calls Tryz.prog 35 #[.slice p_3 n c] w' fun e w' =>
∃ (s : ByteArray),
e = .returned (.string s) ∧
Calls Tryz.prog 34 #[.pointer p, .int .u64 4096,
Value.string s, .bool false] w' fun e w' =>
∃ (n : Int),
e = .returned (.int .i64 n) ∧
cnd (n != 0) (R (.returned (.tuple #[.pointer none,
Value.pointer none])) w') (∃ (I : List Value → World → Prop) (μ : List Value → World → Nat),
I [.int .i64 0] w' ∧
∀ (g : Nat → Value) (i : Int) (w' : World),
I [.int .i64 i] w' →
∃ (p_4 : Option Addr) (n c : Nat),
w'.cell? (Addr.mk w.heap.size 2 none) = some (.slice p_4 n c) ∧
cnd (decide (i < (↑n : Int))) (∃ (C : World → Prop),
(∀ w'_1, Later w' w'_1 →
C w'_1) ∧
∀ w'_1, Later w' w'_1 →
∃ (p_5 : Option Addr) (n c : Nat),
(∀ w', C w' →
w'.cell? (Addr.mk w.heap.size 2 none) = some (.slice p_5 n c)) ∧
(0 ≤ i ∧
i < (↑n : Int)) ∧
Deref p_5 fun a =>
∃ (n n_3 : Int) (b : Bool),
(∀ w', C w' →
w'.cell? (a.add (i.toNat * 3)) = some (.int .u8 n) ∧
w'.cell? ((a.add (i.toNat * 3)).add 1) = some (.int .u64 n_3) ∧
w'.cell? ((a.add (i.toNat * 3)).add 2) = some (.bool b) ∧
True) ∧
∃ (p_6 : Option Addr) (n_4 c : Nat),
(∀ w', C w' →
w'.cell? (Addr.mk w.heap.size 2 none) = some (.slice p_6 n_4 c)) ∧
(0 ≤ i ∧
i < (↑n_4 : Int)) ∧
Deref p_6 fun a =>
∃ (n_5 : Int),
(∀ w', C w' →
w'.cell? ((a.add (i.toNat * 3)).add 1) = some (.int .u64 n_5)) ∧
∃ (p_7 : Option Addr) (n_6 c : Nat),
(∀ w', C w' →
w'.cell? (Addr.mk w.heap.size 2 none) = some (.slice p_7 n_6 c)) ∧
(0 ≤ i ∧
i < (↑n_6 : Int)) ∧
Deref p_7 fun a =>
∃ (b_1 : Bool),
(∀ w', C w' →
w'.cell? ((a.add (i.toNat * 3)).add 2) = some (.bool b_1)) ∧
(Calls Tryz.prog 36 #[.int .i64 i,
Value.agg #[.int .u8 n,
Value.int .u64 n_3,
Value.bool b]] w'_1 fun e w'_2 =>
∃ (n : Int),
e = .returned (.int .u64 n) ∧
C w'_2 ∧
(∀ w'_3, w'_3 = w'_2.alloc (Obj.cells #[.int .u8 (IntKind.u8.wrap n_5)] 5) →
C w'_3 ∧
(RunsV Tryz.prog (convert 90 9 (.slice (some (Addr.mk w'_2.heap.size 0 none)) 1 1)) w'_3 fun v w'_4 =>
∃ (s : ByteArray),
v = .string s ∧
C w'_4 ∧
(Calls Tryz.prog 34 #[.pointer p,
Value.int .u64 n,
Value.string s,
Value.bool b_1] w'_4 fun e w'_5 =>
∃ (n : Int),
e = .returned (.int .i64 n) ∧
C w'_5 ∧
cnd (n != 0) (R (.returned (.tuple #[.pointer none,
Value.pointer none])) w'_5) (Goes I μ [.int .i64 i] w' [.int .i64 (IntKind.i64.wrap (i + 1))] w'_5)) ∧
True) ∧
True) ∧
True) ∧
(∀ w'_2, w'_2 = w'_1.alloc (Obj.cells #[.int .u8 (IntKind.u8.wrap n_5)] 5) →
C w'_2 ∧
(Calls Tryz.prog 36 #[.int .i64 i,
Value.agg #[.int .u8 n,
Value.int .u64 n_3,
Value.bool b]] w'_2 fun e w'_3 =>
∃ (n : Int),
e = .returned (.int .u64 n) ∧
C w'_3 ∧
(RunsV Tryz.prog (convert 90 9 (.slice (some (Addr.mk w'_1.heap.size 0 none)) 1 1)) w'_3 fun v w'_4 =>
∃ (s : ByteArray),
v = .string s ∧
C w'_4 ∧
(Calls Tryz.prog 34 #[.pointer p,
Value.int .u64 n,
Value.string s,
Value.bool b_1] w'_4 fun e w'_5 =>
∃ (n : Int),
e = .returned (.int .i64 n) ∧
C w'_5 ∧
cnd (n != 0) (R (.returned (.tuple #[.pointer none,
Value.pointer none])) w'_5) (Goes I μ [.int .i64 i] w' [.int .i64 (IntKind.i64.wrap (i + 1))] w'_5)) ∧
True) ∧
True) ∧
(RunsV Tryz.prog (convert 90 9 (.slice (some (Addr.mk w'_1.heap.size 0 none)) 1 1)) w'_2 fun v w'_3 =>
∃ (s : ByteArray),
v = .string s ∧
C w'_3 ∧
(Calls Tryz.prog 36 #[.int .i64 i,
Value.agg #[.int .u8 n,
Value.int .u64 n_3,
Value.bool b]] w'_3 fun e w'_4 =>
∃ (n : Int),
e = .returned (.int .u64 n) ∧
C w'_4 ∧
(Calls Tryz.prog 34 #[.pointer p,
Value.int .u64 n,
Value.string s,
Value.bool b_1] w'_4 fun e w'_5 =>
∃ (n : Int),
e = .returned (.int .i64 n) ∧
C w'_5 ∧
cnd (n != 0) (R (.returned (.tuple #[.pointer none,
Value.pointer none])) w'_5) (Goes I μ [.int .i64 i] w' [.int .i64 (IntKind.i64.wrap (i + 1))] w'_5)) ∧
True) ∧
True) ∧
True) ∧
True) (Calls Tryz.prog 20 #[.pointer p,
Value.int .u64 4096] w' fun e w' =>
∃ (p_5 : Option Addr) (n : Int),
e = .returned (.tuple #[.pointer p_5,
Value.int .i64 n]) ∧
cnd (n != 0) (R (.returned (.tuple #[.pointer none,
Value.pointer none])) w') (∃ (b : Bool),
EqRuns Tryz.prog BinOp.eql 32 (Operand.tmp 69) (Operand.const (.pointer none)) (.pointer p_5) (.pointer none) b ∧
cnd b (R (.returned (.tuple #[.pointer none,
Value.pointer none])) w') (∃ (I : List Value →
World →
Prop) (μ : List Value →
World →
Nat),
I [.int .i64 0] w' ∧
∀ (g : Nat →
Value) (i : Int) (w' : World),
I [.int .i64 i] w' →
∃ (p_6 : Option Addr) (n c : Nat),
w'.cell? (Addr.mk w.heap.size 1 none) = some (.slice p_6 n c) ∧
cnd (decide (i < (↑n : Int))) (∃ (C : World →
Prop),
(∀ w'_1, Later w' w'_1 →
C w'_1) ∧
∀ w'_1, Later w' w'_1 →
∃ (p : Option Addr) (n c : Nat),
(∀ w', C w' →
w'.cell? (Addr.mk w.heap.size 1 none) = some (.slice p n c)) ∧
(0 ≤ i ∧
i < (↑n : Int)) ∧
Deref p fun a =>
∃ (n : Int),
(∀ w', C w' →
w'.cell? (a.add (i.toNat * 3)) = some (.int .u8 n)) ∧
∃ (p : Option Addr) (n_3 c : Nat),
(∀ w', C w' →
w'.cell? (Addr.mk w.heap.size 1 none) = some (.slice p n_3 c)) ∧
(0 ≤ i ∧
i < (↑n_3 : Int)) ∧
Deref p fun a =>
∃ (n_4 : Int),
(∀ w', C w' →
w'.cell? ((a.add (i.toNat * 3)).add 1) = some (.int .u64 n_4)) ∧
∃ (p : Option Addr) (n_5 c : Nat),
(∀ w', C w' →
w'.cell? (Addr.mk w.heap.size 1 none) = some (.slice p n_5 c)) ∧
(0 ≤ i ∧
i < (↑n_5 : Int)) ∧
Deref p fun a =>
∃ (b : Bool),
(∀ w', C w' →
w'.cell? ((a.add (i.toNat * 3)).add 2) = some (.bool b)) ∧
Calls Tryz.prog 16 #[.pointer p_5,
Value.int .i64 (IntKind.i64.wrap (n.tmod 32)),
Value.int .u64 n_4,
Value.bool b] w'_1 fun e w'_2 =>
∃ (n : Int),
e = .returned (.int .i64 n) ∧
C w'_2 ∧
cnd (n != 0) (R (.returned (.tuple #[.pointer none,
Value.pointer none])) w'_2) (Goes I μ [.int .i64 i] w' [.int .i64 (IntKind.i64.wrap (i + 1))] w'_2)) (R (.returned (.tuple #[.pointer p_5,
Value.pointer p])) w')))))))
theorem law05_Built.calls {x'_0 : Option Addr} {x'_0n x'_0c : Nat} {x'_1 : Option Addr} {x'_1n x'_1c : Nat} {x'_2 : Option Addr} {x'_2n x'_2c : Nat} {w : World} {R : Ending → World → Prop} (h : law05_Built.vc x'_0 x'_0n x'_0c x'_1 x'_1n x'_1c x'_2 x'_2n x'_2c w R) : Calls Tryz.prog 8 ([.agg #[.slice x'_0 x'_0n x'_0c, .slice x'_1 x'_1n x'_1c, .slice x'_2 x'_2n x'_2c]] : List Value).toArray w R := calls_of_eq (show fnV Tryz.prog law05_Built.H 8 [.agg #[.slice x'_0 x'_0n x'_0c, .slice x'_1 x'_1n x'_1c, .slice x'_2 x'_2n x'_2c]] w R = _ from by kernel_rfl) h

/- function 26: sacristy/sacristylaw05.built -/
abbrev law05_built.N : FuncId := 26
/- function 21: sacristy/sacristylaw05.heavy -/
abbrev law05_heavy.N : FuncId := 21
def law05_heavy.H : Hints := {  }
def law05_heavy.vc (x'_0 : Option Addr) (x'_0n x'_0c : Nat) (x'_1 : Option Addr) (x'_1n x'_1c : Nat) (x'_2 : Option Addr) (x'_2n x'_2c : Nat) (w : World) (R : Ending → World → Prop) : Prop := ∀ w', w' = w.alloc (Obj.cells #[.slice x'_0 x'_0n x'_0c, .slice x'_1 x'_1n x'_1c, .slice x'_2 x'_2n x'_2c] 31) →
∃ (p : Option Addr) (n c : Nat),
w'.cell? (Addr.mk w.heap.size 0 none) = some (.slice p n c) ∧
cnd (decide ((↑n : Int) > 200)) (R (.returned (.bool true)) w') (∃ (p : Option Addr) (n c : Nat),
w'.cell? (Addr.mk w.heap.size 1 none) = some (.slice p n c) ∧
cnd (decide ((↑n : Int) > 100)) (R (.returned (.bool true)) w') (∃ (p : Option Addr) (n c : Nat),
w'.cell? (Addr.mk w.heap.size 2 none) = some (.slice p n c) ∧
R (.returned (.bool (decide ((↑n : Int) > 600)))) w'))
theorem law05_heavy.calls {x'_0 : Option Addr} {x'_0n x'_0c : Nat} {x'_1 : Option Addr} {x'_1n x'_1c : Nat} {x'_2 : Option Addr} {x'_2n x'_2c : Nat} {w : World} {R : Ending → World → Prop} (h : law05_heavy.vc x'_0 x'_0n x'_0c x'_1 x'_1n x'_1c x'_2 x'_2n x'_2c w R) : Calls Tryz.prog 21 ([.agg #[.slice x'_0 x'_0n x'_0c, .slice x'_1 x'_1n x'_1c, .slice x'_2 x'_2n x'_2c]] : List Value).toArray w R := calls_of_eq (show fnV Tryz.prog law05_heavy.H 21 [.agg #[.slice x'_0 x'_0n x'_0c, .slice x'_1 x'_1n x'_1c, .slice x'_2 x'_2n x'_2c]] w R = _ from by kernel_rfl) h

/- function 28: sacristy/sacristylaw05.same -/
abbrev law05_same.N : FuncId := 28
/- function 29: sacristy/sacristylaw05.turned -/
abbrev law05_turned.N : FuncId := 29
def law05_turned.H : Hints := { loops := [(4, [(6, .one (.int .i64))]), (11, [(8, .one (.int .i64))])] }
def law05_turned.vc (x'_0 : Option Addr) (x'_0n x'_0c : Nat) (x'_1 : Option Addr) (x'_1n x'_1c : Nat) (x'_2 : Option Addr) (x'_2n x'_2c : Nat) (by' : Int) (w : World) (R : Ending → World → Prop) : Prop := ∀ w', w' = w.alloc (Obj.cells #[.slice x'_0 x'_0n x'_0c, .slice x'_1 x'_1n x'_1c, .slice x'_2 x'_2n x'_2c] 31) →
∀ w'_1, w'_1 = w'.alloc (Obj.cells #[.slice none 0 0, .slice none 0 0, .slice none 0 0] 31) →
∃ (p : Option Addr) (n c : Nat),
w'_1.cell? (Addr.mk w.heap.size 0 none) = some (.slice p n c) ∧
∀ w'_2, w'_2 = w'_1.alloc (Obj.cells #[.slice none 0 0, .slice none 0 0, .slice none 0 0] 31) →
SetsAt w'_2 (Addr.mk w'_1.heap.size 0 none) 0 [.slice p n c, .slice none 0 0, .slice none 0 0] ∧
∀ w'_3, w'_3 = setCellsAt w'_2 (Addr.mk w'_1.heap.size 0 none) 0 [.slice p n c, .slice none 0 0, .slice none 0 0] →
∃ (I : List Value → World → Prop) (μ : List Value → World → Nat),
I [.int .i64 0] w'_3 ∧
∀ (g : Nat → Value) (i : Int) (w'_4 : World),
I [.int .i64 i] w'_4 →
∃ (p : Option Addr) (n c : Nat),
w'_4.cell? (Addr.mk w.heap.size 1 none) = some (.slice p n c) ∧
cnd (decide (i < (↑n : Int))) (∃ (p : Option Addr) (n c : Nat),
w'_4.cell? (Addr.mk w.heap.size 1 none) = some (.slice p n c) ∧
(0 ≤ i ∧ i < (↑n : Int)) ∧
Deref p fun a =>
∃ (n n_1 : Int) (b : Bool),
(w'_4.cell? (a.add (i.toNat * 3)) = some (.int .u8 n) ∧
w'_4.cell? ((a.add (i.toNat * 3)).add 1) = some (.int .u64 n_1) ∧
w'_4.cell? ((a.add (i.toNat * 3)).add 2) = some (.bool b) ∧
True) ∧
∀ w', w' = w'_4.alloc (Obj.cells #[.int .u8 0,
Value.int .u64 0, .bool false] 28) →
SetsAt w' (Addr.mk w'_4.heap.size 0 none) 0 [.int .u8 n,
Value.int .u64 n_1, .bool b] ∧
∀ w'_5, w'_5 = setCellsAt w' (Addr.mk w'_4.heap.size 0 none) 0 [.int .u8 n,
Value.int .u64 n_1,
Value.bool b] →
∃ (b : Bool),
w'_5.cell? (Addr.mk w'_4.heap.size 2 none) = some (.bool b) ∧
cnd b (∃ (n : Int),
w'_5.cell? (Addr.mk w'_4.heap.size 1 none) = some (.int .u64 n) ∧
((w'_5.cell? (Addr.mk w'_4.heap.size 1 none)).isSome = true ∧
w'_5.frozen? (Addr.mk w'_4.heap.size 1 none) = false) ∧
∀ w', w' = w'_5.setCell (Addr.mk w'_4.heap.size 1 none) (.int .u64 (IntKind.u64.wrap (IntKind.u64.wrap (IntKind.u64.wrap (n * 3) + by') + IntKind.u64.wrap i))) →
∃ (p : Option Addr) (n c : Nat),
w'.cell? (Addr.mk w'_1.heap.size 1 none) = some (.slice p n c) ∧
∃ (n_2 n_3 : Int) (b : Bool),
(w'.cell? (Addr.mk w'_4.heap.size 0 none) = some (.int .u8 n_2) ∧
w'.cell? (Addr.mk w'_4.heap.size 1 none) = some (.int .u64 n_3) ∧
w'.cell? (Addr.mk w'_4.heap.size 2 none) = some (.bool b) ∧
True) ∧
∀ w'_6, w'_6 = w'.alloc (Obj.cells #[.int .u8 n_2,
Value.int .u64 n_3,
Value.bool b] 28) →
RunsV Tryz.prog (Builtin.append_ #[29,
29] 29 #[.slice p n c,
Value.slice (some (Addr.mk w'.heap.size 0 none)) 1 1]) w'_6 fun v w' =>
∃ (p : Option Addr) (n c : Nat),
v = .slice p n c ∧
((w'.cell? (Addr.mk w'_1.heap.size 1 none)).isSome = true ∧
w'.frozen? (Addr.mk w'_1.heap.size 1 none) = false) ∧
∀ w'_7, w'_7 = w'.setCell (Addr.mk w'_1.heap.size 1 none) (.slice p n c) →
Goes I μ [.int .i64 i] w'_4 [.int .i64 (IntKind.i64.wrap (i + 1))] w'_7) (∃ (p : Option Addr) (n c : Nat),
w'_5.cell? (Addr.mk w'_1.heap.size 1 none) = some (.slice p n c) ∧
∃ (n_2 n_3 : Int) (b : Bool),
(w'_5.cell? (Addr.mk w'_4.heap.size 0 none) = some (.int .u8 n_2) ∧
w'_5.cell? (Addr.mk w'_4.heap.size 1 none) = some (.int .u64 n_3) ∧
w'_5.cell? (Addr.mk w'_4.heap.size 2 none) = some (.bool b) ∧
True) ∧
∀ w', w' = w'_5.alloc (Obj.cells #[.int .u8 n_2,
Value.int .u64 n_3,
Value.bool b] 28) →
RunsV Tryz.prog (Builtin.append_ #[29, 29] 29 #[.slice p n c,
Value.slice (some (Addr.mk w'_5.heap.size 0 none)) 1 1]) w' fun v w' =>
∃ (p : Option Addr) (n c : Nat),
v = .slice p n c ∧
((w'.cell? (Addr.mk w'_1.heap.size 1 none)).isSome = true ∧
w'.frozen? (Addr.mk w'_1.heap.size 1 none) = false) ∧
∀ w'_6, w'_6 = w'.setCell (Addr.mk w'_1.heap.size 1 none) (.slice p n c) →
Goes I μ [.int .i64 i] w'_4 [.int .i64 (IntKind.i64.wrap (i + 1))] w'_6)) (∃ (I : List Value → World → Prop) (μ : List Value → World → Nat),
I [.int .i64 0] w'_4 ∧
∀ (g : Nat → Value) (i : Int) (w'_5 : World),
I [.int .i64 i] w'_5 →
∃ (p : Option Addr) (n c : Nat),
w'_5.cell? (Addr.mk w.heap.size 2 none) = some (.slice p n c) ∧
cnd (decide (i < (↑n : Int))) (∃ (p : Option Addr) (n c : Nat),
w'_5.cell? (Addr.mk w.heap.size 2 none) = some (.slice p n c) ∧
(0 ≤ i ∧ i < (↑n : Int)) ∧
Deref p fun a =>
∃ (n n_1 : Int) (b : Bool),
(w'_5.cell? (a.add (i.toNat * 3)) = some (.int .u8 n) ∧
w'_5.cell? ((a.add (i.toNat * 3)).add 1) = some (.int .u64 n_1) ∧
w'_5.cell? ((a.add (i.toNat * 3)).add 2) = some (.bool b) ∧
True) ∧
∀ w', w' = w'_5.alloc (Obj.cells #[.int .u8 0,
Value.int .u64 0,
Value.bool false] 28) →
SetsAt w' (Addr.mk w'_5.heap.size 0 none) 0 [.int .u8 n,
Value.int .u64 n_1,
Value.bool b] ∧
∀ w'_6, w'_6 = setCellsAt w' (Addr.mk w'_5.heap.size 0 none) 0 [.int .u8 n,
Value.int .u64 n_1,
Value.bool b] →
∃ (b : Bool),
w'_6.cell? (Addr.mk w'_5.heap.size 2 none) = some (.bool b) ∧
cnd b (∃ (n : Int),
w'_6.cell? (Addr.mk w'_5.heap.size 1 none) = some (.int .u64 n) ∧
((w'_6.cell? (Addr.mk w'_5.heap.size 1 none)).isSome = true ∧
w'_6.frozen? (Addr.mk w'_5.heap.size 1 none) = false) ∧
∀ w', w' = w'_6.setCell (Addr.mk w'_5.heap.size 1 none) (.int .u64 (IntKind.u64.wrap (IntKind.u64.wrap (IntKind.u64.wrap (n * 3) + by') + IntKind.u64.wrap i))) →
∃ (p : Option Addr) (n c : Nat),
w'.cell? (Addr.mk w'_1.heap.size 2 none) = some (.slice p n c) ∧
∃ (n_2 n_3 : Int) (b : Bool),
(w'.cell? (Addr.mk w'_5.heap.size 0 none) = some (.int .u8 n_2) ∧
w'.cell? (Addr.mk w'_5.heap.size 1 none) = some (.int .u64 n_3) ∧
w'.cell? (Addr.mk w'_5.heap.size 2 none) = some (.bool b) ∧
True) ∧
∀ w'_7, w'_7 = w'.alloc (Obj.cells #[.int .u8 n_2,
Value.int .u64 n_3,
Value.bool b] 28) →
RunsV Tryz.prog (Builtin.append_ #[29,
29] 29 #[.slice p n c,
Value.slice (some (Addr.mk w'.heap.size 0 none)) 1 1]) w'_7 fun v w' =>
∃ (p : Option Addr) (n c : Nat),
v = .slice p n c ∧
((w'.cell? (Addr.mk w'_1.heap.size 2 none)).isSome = true ∧
w'.frozen? (Addr.mk w'_1.heap.size 2 none) = false) ∧
∀ w'_8, w'_8 = w'.setCell (Addr.mk w'_1.heap.size 2 none) (.slice p n c) →
Goes I μ [.int .i64 i] w'_5 [.int .i64 (IntKind.i64.wrap (i + 1))] w'_8) (∃ (p : Option Addr) (n c : Nat),
w'_6.cell? (Addr.mk w'_1.heap.size 2 none) = some (.slice p n c) ∧
∃ (n_2 n_3 : Int) (b : Bool),
(w'_6.cell? (Addr.mk w'_5.heap.size 0 none) = some (.int .u8 n_2) ∧
w'_6.cell? (Addr.mk w'_5.heap.size 1 none) = some (.int .u64 n_3) ∧
w'_6.cell? (Addr.mk w'_5.heap.size 2 none) = some (.bool b) ∧
True) ∧
∀ w', w' = w'_6.alloc (Obj.cells #[.int .u8 n_2,
Value.int .u64 n_3,
Value.bool b] 28) →
RunsV Tryz.prog (Builtin.append_ #[29,
29] 29 #[.slice p n c,
Value.slice (some (Addr.mk w'_6.heap.size 0 none)) 1 1]) w' fun v w' =>
∃ (p : Option Addr) (n c : Nat),
v = .slice p n c ∧
((w'.cell? (Addr.mk w'_1.heap.size 2 none)).isSome = true ∧
w'.frozen? (Addr.mk w'_1.heap.size 2 none) = false) ∧
∀ w'_7, w'_7 = w'.setCell (Addr.mk w'_1.heap.size 2 none) (.slice p n c) →
Goes I μ [.int .i64 i] w'_5 [.int .i64 (IntKind.i64.wrap (i + 1))] w'_7)) (∃ (p : Option Addr) (n c : Nat) (p_1 : Option Addr) (n_1 c_1 : Nat) (p_2 : Option Addr) (n_2 c_2 : Nat),
(w'_5.cell? (Addr.mk w'_1.heap.size 0 none) = some (.slice p n c) ∧
w'_5.cell? (Addr.mk w'_1.heap.size 1 none) = some (.slice p_1 n_1 c_1) ∧
w'_5.cell? (Addr.mk w'_1.heap.size 2 none) = some (.slice p_2 n_2 c_2) ∧
True) ∧
SetsAt w'_5 (Addr.mk w'.heap.size 0 none) 0 [.slice p n c,
Value.slice p_1 n_1 c_1,
Value.slice p_2 n_2 c_2] ∧
∀ w'_6, w'_6 = setCellsAt w'_5 (Addr.mk w'.heap.size 0 none) 0 [.slice p n c,
Value.slice p_1 n_1 c_1,
Value.slice p_2 n_2 c_2] →
∃ (p : Option Addr) (n c : Nat) (p_3 : Option Addr) (n_3 c_3 : Nat) (p_4 : Option Addr) (n_4 c_4 : Nat),
(w'_6.cell? (Addr.mk w'.heap.size 0 none) = some (.slice p n c) ∧
w'_6.cell? (Addr.mk w'.heap.size 1 none) = some (.slice p_3 n_3 c_3) ∧
w'_6.cell? (Addr.mk w'.heap.size 2 none) = some (.slice p_4 n_4 c_4) ∧
True) ∧
R (.returned (.agg #[.slice p n c,
Value.slice p_3 n_3 c_3,
Value.slice p_4 n_4 c_4])) w'_6))
theorem law05_turned.vc_eq (x'_0 : Option Addr) (x'_0n x'_0c : Nat) (x'_1 : Option Addr) (x'_1n x'_1c : Nat) (x'_2 : Option Addr) (x'_2n x'_2c : Nat) (by' : Int) (w : World) (R : Ending → World → Prop) : fnV Tryz.prog law05_turned.H 29 [.agg #[.slice x'_0 x'_0n x'_0c, .slice x'_1 x'_1n x'_1c, .slice x'_2 x'_2n x'_2c],
Value.int .u64 by'] w R = law05_turned.vc x'_0 x'_0n x'_0c x'_1 x'_1n x'_1c x'_2 x'_2n x'_2c by' w R := by kernel_rfl
theorem law05_turned.calls {x'_0 : Option Addr} {x'_0n x'_0c : Nat} {x'_1 : Option Addr} {x'_1n x'_1c : Nat} {x'_2 : Option Addr} {x'_2n x'_2c : Nat} {by' : Int} {w : World} {R : Ending → World → Prop} (h : law05_turned.vc x'_0 x'_0n x'_0c x'_1 x'_1n x'_1c x'_2 x'_2n x'_2c by' w R) : Calls Tryz.prog 29 ([.agg #[.slice x'_0 x'_0n x'_0c, .slice x'_1 x'_1n x'_1c, .slice x'_2 x'_2n x'_2c],
Value.int .u64 by'] : List Value).toArray w R := calls_of_eq (law05_turned.vc_eq x'_0 x'_0n x'_0c x'_1 x'_1n x'_1c x'_2 x'_2n x'_2c by' w R) h

/- function 31: sacristy/sacristylaw05.agree -/
abbrev law05_agree.N : FuncId := 31
def law05_agree.H : Hints := { loops := [(3, [(9, .one (.int .i64))]), (13, [(18, .one (.int .i64))]), (22, [(25, .one (.int .i64))])] }
def law05_agree.vc (c' d' : Option Addr) (m' n' : Option Addr) (w : World) (R : Ending → World → Prop) : Prop := ∃ (I : List Value → World → Prop) (μ : List Value → World → Nat),
I [.int .i64 0] w ∧
∀ (g : Nat → Value) (i : Int) (w' : World),
I [.int .i64 i] w' →
cnd (decide (i < 32)) (Calls Tryz.prog 10 #[.pointer c', .int .i64 i] w' fun e w'_1 =>
∃ (n : Int) (b : Bool) (n_1 : Int),
e = .returned (.tuple #[.int .u64 n, .bool b, .int .i64 n_1]) ∧
Calls Tryz.prog 10 #[.pointer d', .int .i64 i] w'_1 fun e w'_2 =>
∃ (n_2 : Int) (b_1 : Bool) (n_3 : Int),
e = .returned (.tuple #[.int .u64 n_2, .bool b_1, .int .i64 n_3]) ∧
cnd (!b == b_1) (R (.returned (.bool false)) w'_2) (cnd (!b) (cnd (n != n_2) (R (.returned (.bool false)) w'_2) (Goes I μ [.int .i64 i] w' [.int .i64 (IntKind.i64.wrap (i + 1))] w'_2)) (Goes I μ [.int .i64 i] w' [.int .i64 (IntKind.i64.wrap (i + 1))] w'_2))) (Calls Tryz.prog 18 #[.pointer c'] w' fun e w' =>
∃ (p : Option Addr) (n c : Nat),
e = .returned (.slice p n c) ∧
Calls Tryz.prog 18 #[.pointer d'] w' fun e w' =>
∃ (p_1 : Option Addr) (n_1 c : Nat),
e = .returned (.slice p_1 n_1 c) ∧
cnd ((↑n : Int) != (↑n_1 : Int)) (R (.returned (.bool false)) w') (∃ (I : List Value → World → Prop) (μ : List Value → World → Nat),
I [.int .i64 0] w' ∧
∀ (g : Nat → Value) (i : Int) (w' : World),
I [.int .i64 i] w' →
cnd (decide (i < (↑n : Int))) ((0 ≤ i ∧ i < (↑n : Int)) ∧
Deref p fun a =>
∃ (b : Bool),
(∀ w'_1, Later w' w'_1 →
w'_1.cell? ((a.add (i.toNat * 2)).add 1) = some (.bool b)) ∧
(0 ≤ i ∧ i < (↑n_1 : Int)) ∧
Deref p_1 fun a =>
∃ (b_1 : Bool),
(∀ w'_1, Later w' w'_1 →
w'_1.cell? ((a.add (i.toNat * 2)).add 1) = some (.bool b_1)) ∧
cnd (!b == b_1) (∀ w'_1, Later w' w'_1 →
R (.returned (.bool false)) w'_1) ((0 ≤ i ∧ i < (↑n : Int)) ∧
Deref p fun a =>
∃ (b : Bool),
(∀ w'_1, Later w' w'_1 →
w'_1.cell? ((a.add (i.toNat * 2)).add 1) = some (.bool b)) ∧
cnd (!b) ((0 ≤ i ∧ i < (↑n : Int)) ∧
Deref p fun a =>
∃ (n : Int),
(∀ w'_1, Later w' w'_1 →
w'_1.cell? (a.add (i.toNat * 2)) = some (.int .u64 n)) ∧
(0 ≤ i ∧ i < (↑n_1 : Int)) ∧
Deref p_1 fun a =>
∃ (n_2 : Int),
(∀ w'_1, Later w' w'_1 →
w'_1.cell? (a.add (i.toNat * 2)) = some (.int .u64 n_2)) ∧
∀ w'_1, Later w' w'_1 →
cnd (n != n_2) (R (.returned (.bool false)) w'_1) (Goes I μ [.int .i64 i] w' [.int .i64 (IntKind.i64.wrap (i + 1))] w'_1)) (∀ w'_1, Later w' w'_1 →
Goes I μ [.int .i64 i] w' [.int .i64 (IntKind.i64.wrap (i + 1))] w'_1))) (Calls Tryz.prog 22 #[.pointer m', .int .u64 2097152,
Value.int .i64 256] w' fun e w' =>
∃ (s : ByteArray) (p : Option Addr) (n c : Nat) (n_2 : Int),
e = .returned (.tuple #[.string s, .slice p n c,
Value.int .i64 n_2]) ∧
Calls Tryz.prog 22 #[.pointer n', .int .u64 2097152,
Value.int .i64 256] w' fun e w' =>
∃ (s_1 : ByteArray) (p_2 : Option Addr) (n_3 c : Nat) (n_4 : Int),
e = .returned (.tuple #[.string s_1,
Value.slice p_2 n_3 c,
Value.int .i64 n_4]) ∧
cnd (n_2 != 0) (R (.returned (.bool false)) w') (cnd (n_4 != 0) (R (.returned (.bool false)) w') (cnd ((↑s.size : Int) != (↑s_1.size : Int)) (R (.returned (.bool false)) w') (cnd ((↑n : Int) != (↑s.size : Int)) (R (.returned (.bool false)) w') (cnd ((↑n_3 : Int) != (↑s.size : Int)) (R (.returned (.bool false)) w') (∃ (I : List Value → World → Prop) (μ : List Value → World → Nat),
I [.int .i64 0] w' ∧
∀ (g : Nat → Value) (i : Int) (w' : World),
I [.int .i64 i] w' →
cnd (decide (i < (↑s.size : Int))) ((0 ≤ i ∧
i < (↑n : Int)) ∧
Deref p fun a =>
∃ (b : Bool),
(∀ w'_1, Later w' w'_1 →
w'_1.cell? (a.add (i.toNat * 1)) = some (.bool b)) ∧
(0 ≤ i ∧
i < (↑n_3 : Int)) ∧
Deref p_2 fun a =>
∃ (b_1 : Bool),
(∀ w'_1, Later w' w'_1 →
w'_1.cell? (a.add (i.toNat * 1)) = some (.bool b_1)) ∧
cnd (!b == b_1) (∀ w'_1, Later w' w'_1 →
R (.returned (.bool false)) w'_1) ((0 ≤ i ∧
i < (↑n : Int)) ∧
Deref p fun a =>
∃ (b : Bool),
(∀ w'_1, Later w' w'_1 →
w'_1.cell? (a.add (i.toNat * 1)) = some (.bool b)) ∧
cnd (!b) (0 ≤ i ∧
∃ (b : UInt8),
s[i.toNat]? = some b ∧
0 ≤ i ∧
∃ (b_2 : UInt8),
s_1[i.toNat]? = some b_2 ∧
∀ w'_1, Later w' w'_1 →
cnd ((↑b.toNat : Int) != (↑b_2.toNat : Int)) (R (.returned (.bool false)) w'_1) (Goes I μ [.int .i64 i] w' [.int .i64 (IntKind.i64.wrap (i + 1))] w'_1)) (∀ w'_1, Later w' w'_1 →
Goes I μ [.int .i64 i] w' [.int .i64 (IntKind.i64.wrap (i + 1))] w'_1))) (R (.returned (.bool true)) w')))))))))
theorem law05_agree.calls {c' d' : Option Addr} {m' n' : Option Addr} {w : World} {R : Ending → World → Prop} (h : law05_agree.vc c' d' m' n' w R) : Calls Tryz.prog 31 ([.pointer c', .pointer d', .pointer m', .pointer n'] : List Value).toArray w R := calls_of_eq (show fnV Tryz.prog law05_agree.H 31 [.pointer c', .pointer d', .pointer m', .pointer n'] w R = _ from by kernel_rfl) h

/- function 30: sacristy/sacristylaw05.alike -/
abbrev law05_alike.N : FuncId := 30
def law05_alike.H : Hints := { loops := [(5, [(5, .one (.int .i64))])] }
def law05_alike.vc (a' : Option Addr) (a'n a'c : Nat) (b' : Option Addr) (b'n b'c : Nat) (w : World) (R : Ending → World → Prop) : Prop := cnd ((↑a'n : Int) != (↑b'n : Int)) (R (.returned (.bool false)) w) (∃ (I : List Value → World → Prop) (μ : List Value → World → Nat),
I [.int .i64 0] w ∧
∀ (g : Nat → Value) (i : Int) (w' : World),
I [.int .i64 i] w' →
cnd (decide (i < (↑a'n : Int))) ((0 ≤ i ∧ i < (↑a'n : Int)) ∧
Deref a' fun a =>
∃ (n : Int),
(∀ w'_1, Later w' w'_1 → w'_1.cell? (a.add (i.toNat * 2)) = some (.int .u64 n)) ∧
(0 ≤ i ∧ i < (↑b'n : Int)) ∧
Deref b' fun a =>
∃ (n_1 : Int),
(∀ w'_1, Later w' w'_1 → w'_1.cell? (a.add (i.toNat * 2)) = some (.int .u64 n_1)) ∧
∀ w'_1, Later w' w'_1 →
cnd (n != n_1) (R (.returned (.bool false)) w'_1) (Goes I μ [.int .i64 i] w' [.int .i64 (IntKind.i64.wrap (i + 1))] w'_1)) (R (.returned (.bool true)) w'))
theorem law05_alike.calls {a' : Option Addr} {a'n a'c : Nat} {b' : Option Addr} {b'n b'c : Nat} {w : World} {R : Ending → World → Prop} (h : law05_alike.vc a' a'n a'c b' b'n b'c w R) : Calls Tryz.prog 30 ([.slice a' a'n a'c, .slice b' b'n b'c] : List Value).toArray w R := calls_of_eq (show fnV Tryz.prog law05_alike.H 30 [.slice a' a'n a'c, .slice b' b'n b'c] w R = _ from by kernel_rfl) h

/- function 14: sacristy/sacristylaw05.alive -/
abbrev law05_alive.N : FuncId := 14
def law05_alive.H : Hints := {  }
def law05_alive.vc (w : World) (R : Ending → World → Prop) : Prop := ∀ w', w' = w.alloc (Obj.cells #[.int .u8 15, .int .u8 10, .int .u8 0, .int .u8 0,
Value.int .i64 7, .int .u8 15, .int .u8 17, .int .u8 0,
Value.int .u8 0, .int .i64 4, .int .u8 34, .int .u8 0,
Value.int .u8 0, .int .u8 0, .int .i64 0, .int .u8 15,
Value.int .u8 17, .int .u8 0, .int .u8 0, .int .i64 0,
Value.int .u8 34, .int .u8 0, .int .u8 0, .int .u8 0,
Value.int .i64 0] 25) →
∀ w'_1, w'_1 = w'.alloc (Obj.cells #[.slice none 0 0, .slice none 0 0, .slice none 0 0] 31) →
SetsAt w'_1 (Addr.mk w'.heap.size 0 none) 0 [.slice (some (Addr.mk w.heap.size 0 none)) 5 5, .slice none 0 0, .slice none 0 0] ∧
∀ w'_2, w'_2 = setCellsAt w'_1 (Addr.mk w'.heap.size 0 none) 0 [.slice (some (Addr.mk w.heap.size 0 none)) 5 5, .slice none 0 0, .slice none 0 0] →
∃ (p : Option Addr) (n c : Nat) (p_1 : Option Addr) (n_1 c_1 : Nat) (p_2 : Option Addr) (n_2 c_2 : Nat),
(w'_2.cell? (Addr.mk w'.heap.size 0 none) = some (.slice p n c) ∧
w'_2.cell? (Addr.mk w'.heap.size 1 none) = some (.slice p_1 n_1 c_1) ∧
w'_2.cell? (Addr.mk w'.heap.size 2 none) = some (.slice p_2 n_2 c_2) ∧
True) ∧
Calls Tryz.prog 8 #[.agg #[.slice p n c, .slice p_1 n_1 c_1, .slice p_2 n_2 c_2]] w'_2 fun e w' =>
∃ (p p_3 : Option Addr),
e = .returned (.tuple #[.pointer p, .pointer p_3]) ∧
∃ (b : Bool),
EqRuns Tryz.prog BinOp.eql 32 (Operand.tmp 23) (Operand.const (.pointer none)) (.pointer p) (.pointer none) b ∧
cnd b (R (.returned (.bool false)) w') (Calls Tryz.prog 17 #[.pointer p, .int .i64 100] w' fun e w' =>
∃ (n : Int),
e = .returned (.int .i64 n) ∧
cnd (n != 0) (R (.returned (.bool false)) w') (Calls Tryz.prog 15 #[.pointer p] w' fun e w' =>
∃ (b : Bool) (n n_3 : Int),
e = .returned (.tuple #[.bool b, .int .u8 n,
Value.int .i64 n_3]) ∧
Calls Tryz.prog 18 #[.pointer p] w' fun e w' =>
∃ (p_4 : Option Addr) (n_4 c : Nat),
e = .returned (.slice p_4 n_4 c) ∧
∀ w'_3, w'_3 = w'.alloc (Obj.cells #[.int .u8 32,
Value.int .u8 0,
Value.int .u8 0,
Value.int .u8 0,
Value.int .i64 0] 25) →
Calls Tryz.prog 8 #[.agg #[.slice (some (Addr.mk w'.heap.size 0 none)) 1 1,
Value.slice none 0 0,
Value.slice none 0 0]] w'_3 fun e w' =>
∃ (p_5 p_6 : Option Addr),
e = .returned (.tuple #[.pointer p_5,
Value.pointer p_6]) ∧
∃ (b_1 : Bool),
EqRuns Tryz.prog BinOp.neq 32 (Operand.tmp 45) (Operand.const (.pointer none)) (.pointer p_5) (.pointer none) b_1 ∧
cnd b_1 (Calls Tryz.prog 17 #[.pointer p_5,
Value.int .i64 100] w' fun e w' =>
∃ (n_5 : Int),
e = .returned (.int .i64 n_5) ∧
cnd b (cnd (n == 0) (cnd (n_3 == 0) (cnd ((↑n_4 : Int) == 1) ((Int.le 0 0 ∧
0 < (↑n_4 : Int)) ∧
Deref p_4 fun a =>
∃ (n : Int) (b : Bool),
(w'.cell? a = some (.int .u64 n) ∧
w'.cell? (a.add 1) = some (.bool b) ∧
True) ∧
∃ (b_2 : Bool),
EqRuns Tryz.prog BinOp.eql 120 (Operand.tmp 66) (Operand.tmp 67) (.agg #[.int .u64 n,
Value.bool b]) (.agg #[.int .u64 7,
Value.bool false]) b_2 ∧
cnd b_2 (Calls Tryz.prog 19 #[.pointer p] w' fun e w' =>
∃ (p_7 : Option Addr) (n c : Nat),
e = .returned (.slice p_7 n c) ∧
cnd ((↑n : Int) == 5) (cnd (n_5 == 52) (Calls Tryz.prog 19 #[.pointer p_5] w' fun e w' =>
∃ (p_8 : Option Addr) (n c : Nat),
e = .returned (.slice p_8 n c) ∧
cnd ((↑n : Int) == 100) (Calls Tryz.prog 9 #[.pointer p] w' fun e w' =>
∃ (n : Int),
e = .returned (.int .i64 n) ∧
R (.returned (.bool (n == 50))) w') (R (.returned (.bool false)) w')) (R (.returned (.bool false)) w')) (R (.returned (.bool false)) w')) (R (.returned (.bool false)) w')) (R (.returned (.bool false)) w')) (R (.returned (.bool false)) w')) (R (.returned (.bool false)) w')) (R (.returned (.bool false)) w')) (cnd b (cnd (n == 0) (cnd (n_3 == 0) (cnd ((↑n_4 : Int) == 1) ((Int.le 0 0 ∧
0 < (↑n_4 : Int)) ∧
Deref p_4 fun a =>
∃ (n : Int) (b : Bool),
(w'.cell? a = some (.int .u64 n) ∧
w'.cell? (a.add 1) = some (.bool b) ∧
True) ∧
∃ (b_2 : Bool),
EqRuns Tryz.prog BinOp.eql 120 (Operand.tmp 66) (Operand.tmp 67) (.agg #[.int .u64 n,
Value.bool b]) (.agg #[.int .u64 7,
Value.bool false]) b_2 ∧
cnd b_2 (Calls Tryz.prog 19 #[.pointer p] w' fun e w' =>
∃ (p : Option Addr) (n c : Nat),
e = .returned (.slice p n c) ∧
cnd ((↑n : Int) == 5) (R (.returned (.bool false)) w') (R (.returned (.bool false)) w')) (R (.returned (.bool false)) w')) (R (.returned (.bool false)) w')) (R (.returned (.bool false)) w')) (R (.returned (.bool false)) w')) (R (.returned (.bool false)) w'))))
theorem law05_alive.calls {w : World} {R : Ending → World → Prop} (h : law05_alive.vc w R) : Calls Tryz.prog 14 ([] : List Value).toArray w R := calls_of_eq (show fnV Tryz.prog law05_alive.H 14 [] w R = _ from by kernel_rfl) h

end Go.Proofs.YtcnnnlhoiodeaaaGreat

/-
The explicit conditions of some functions of the program, printed by this repo's own program over VcTop: what is proved is that each is the condition.
Conditions: none.
-/
namespace Go.Proofs.YtcnnnlhoiodeaaaGreat
open Go Go.Vc Go.RowKit
set_option maxRecDepth 100000

/- function 122: sacristy/sacristyref02.two -/
abbrev ref02_two.N : FuncId := 122
def ref02_two.H : Hints := {  }
def ref02_two.vc (op' : Int) (w : World) (R : Ending → World → Prop) : Prop := ∀ w', w' = w.alloc (Obj.cells #[.int .u32 0, .int .u32 0, .int .u32 0, .int .i64 0] 168) →
∀ w'_1, w'_1 = w'.alloc (Obj.cells #[.int .u32 0, .int .u32 0, .int .u32 1, .int .u32 2,
Value.int .u32 3, .int .u32 4, .int .u32 5, .int .u32 5,
Value.int .u32 6, .int .u32 7, .int .u32 0, .int .u32 3,
Value.int .u32 5, .int .u32 7] 43) →
cnd (decide (op' < 1)) (SetsAt w'_1 (Addr.mk w.heap.size 0 none) 0 [.int .u32 0, .int .u32 0, .int .u32 0, .int .i64 0] ∧
∀ w', w' = setCellsAt w'_1 (Addr.mk w.heap.size 0 none) 0 [.int .u32 0, .int .u32 0, .int .u32 0,
Value.int .i64 0] →
∃ (n n_1 : Int) (n_2 n_3 : Int),
(w'.cell? (Addr.mk w.heap.size 0 none) = some (.int .u32 n) ∧
w'.cell? (Addr.mk w.heap.size 1 none) = some (.int .u32 n_1) ∧
w'.cell? (Addr.mk w.heap.size 2 none) = some (.int .u32 n_2) ∧
w'.cell? (Addr.mk w.heap.size 3 none) = some (.int .i64 n_3) ∧ True) ∧
R (.returned (.tuple #[.agg #[.int .u32 n, .int .u32 n_1, .int .u32 n_2,
Value.int .i64 n_3],
Value.bool false])) w') (cnd (decide (op' > 14)) (SetsAt w'_1 (Addr.mk w.heap.size 0 none) 0 [.int .u32 0, .int .u32 0, .int .u32 0, .int .i64 0] ∧
∀ w', w' = setCellsAt w'_1 (Addr.mk w.heap.size 0 none) 0 [.int .u32 0, .int .u32 0, .int .u32 0,
Value.int .i64 0] →
∃ (n n_1 : Int) (n_2 n_3 : Int),
(w'.cell? (Addr.mk w.heap.size 0 none) = some (.int .u32 n) ∧
w'.cell? (Addr.mk w.heap.size 1 none) = some (.int .u32 n_1) ∧
w'.cell? (Addr.mk w.heap.size 2 none) = some (.int .u32 n_2) ∧
w'.cell? (Addr.mk w.heap.size 3 none) = some (.int .i64 n_3) ∧ True) ∧
R (.returned (.tuple #[.agg #[.int .u32 n, .int .u32 n_1, .int .u32 n_2,
Value.int .i64 n_3],
Value.bool false])) w') ((0 ≤ IntKind.u8.wrap (op' - 1) ∧ IntKind.u8.wrap (op' - 1) < 14) ∧
∃ (n : Int),
w'_1.cell? ((Addr.mk w'.heap.size 0 none).add ((IntKind.u8.wrap (op' - 1)).toNat * 1)) = some (.int .u32 n) ∧
∀ w', w' = w'_1.alloc (Obj.cells #[.int .u32 0, .int .u32 0, .int .u32 0,
Value.int .i64 0] 168) →
SetsAt w' (Addr.mk w'_1.heap.size 0 none) 0 [.int .u32 51, .int .u32 n, .int .u32 0,
Value.int .i64 1] ∧
∀ w'_2, w'_2 = setCellsAt w' (Addr.mk w'_1.heap.size 0 none) 0 [.int .u32 51, .int .u32 n, .int .u32 0,
Value.int .i64 1] →
cnd (op' == 2) (((w'_2.cell? (Addr.mk w'_1.heap.size 2 none)).isSome = true ∧
w'_2.frozen? (Addr.mk w'_1.heap.size 2 none) = false) ∧
∀ w', w' = w'_2.setCell (Addr.mk w'_1.heap.size 2 none) (.int .u32 32) →
cnd (decide (op' ≥ 11)) (((w'.cell? (Addr.mk w'_1.heap.size 2 none)).isSome = true ∧
w'.frozen? (Addr.mk w'_1.heap.size 2 none) = false) ∧
∀ w'_3, w'_3 = w'.setCell (Addr.mk w'_1.heap.size 2 none) (.int .u32 1) →
∃ (n n_1 : Int) (n_2 n_3 : Int),
(w'_3.cell? (Addr.mk w'_1.heap.size 0 none) = some (.int .u32 n) ∧
w'_3.cell? (Addr.mk w'_1.heap.size 1 none) = some (.int .u32 n_1) ∧
w'_3.cell? (Addr.mk w'_1.heap.size 2 none) = some (.int .u32 n_2) ∧
w'_3.cell? (Addr.mk w'_1.heap.size 3 none) = some (.int .i64 n_3) ∧
True) ∧
SetsAt w'_3 (Addr.mk w.heap.size 0 none) 0 [.int .u32 n, .int .u32 n_1,
Value.int .u32 n_2, .int .i64 n_3] ∧
∀ w', w' = setCellsAt w'_3 (Addr.mk w.heap.size 0 none) 0 [.int .u32 n, .int .u32 n_1,
Value.int .u32 n_2,
Value.int .i64 n_3] →
∃ (n n_4 : Int) (n_5 n_6 : Int),
(w'.cell? (Addr.mk w.heap.size 0 none) = some (.int .u32 n) ∧
w'.cell? (Addr.mk w.heap.size 1 none) = some (.int .u32 n_4) ∧
w'.cell? (Addr.mk w.heap.size 2 none) = some (.int .u32 n_5) ∧
w'.cell? (Addr.mk w.heap.size 3 none) = some (.int .i64 n_6) ∧
True) ∧
R (.returned (.tuple #[.agg #[.int .u32 n,
Value.int .u32 n_4,
Value.int .u32 n_5,
Value.int .i64 n_6],
Value.bool true])) w') (∃ (n n_1 : Int) (n_2 n_3 : Int),
(w'.cell? (Addr.mk w'_1.heap.size 0 none) = some (.int .u32 n) ∧
w'.cell? (Addr.mk w'_1.heap.size 1 none) = some (.int .u32 n_1) ∧
w'.cell? (Addr.mk w'_1.heap.size 2 none) = some (.int .u32 n_2) ∧
w'.cell? (Addr.mk w'_1.heap.size 3 none) = some (.int .i64 n_3) ∧
True) ∧
SetsAt w' (Addr.mk w.heap.size 0 none) 0 [.int .u32 n, .int .u32 n_1,
Value.int .u32 n_2, .int .i64 n_3] ∧
∀ w'_3, w'_3 = setCellsAt w' (Addr.mk w.heap.size 0 none) 0 [.int .u32 n, .int .u32 n_1,
Value.int .u32 n_2, .int .i64 n_3] →
∃ (n n_4 : Int) (n_5 n_6 : Int),
(w'_3.cell? (Addr.mk w.heap.size 0 none) = some (.int .u32 n) ∧
w'_3.cell? (Addr.mk w.heap.size 1 none) = some (.int .u32 n_4) ∧
w'_3.cell? (Addr.mk w.heap.size 2 none) = some (.int .u32 n_5) ∧
w'_3.cell? (Addr.mk w.heap.size 3 none) = some (.int .i64 n_6) ∧
True) ∧
R (.returned (.tuple #[.agg #[.int .u32 n,
Value.int .u32 n_4,
Value.int .u32 n_5,
Value.int .i64 n_6],
Value.bool true])) w'_3)) (cnd (op' == 8) (((w'_2.cell? (Addr.mk w'_1.heap.size 2 none)).isSome = true ∧
w'_2.frozen? (Addr.mk w'_1.heap.size 2 none) = false) ∧
∀ w', w' = w'_2.setCell (Addr.mk w'_1.heap.size 2 none) (.int .u32 32) →
cnd (decide (op' ≥ 11)) (((w'.cell? (Addr.mk w'_1.heap.size 2 none)).isSome = true ∧
w'.frozen? (Addr.mk w'_1.heap.size 2 none) = false) ∧
∀ w'_3, w'_3 = w'.setCell (Addr.mk w'_1.heap.size 2 none) (.int .u32 1) →
∃ (n n_1 : Int) (n_2 n_3 : Int),
(w'_3.cell? (Addr.mk w'_1.heap.size 0 none) = some (.int .u32 n) ∧
w'_3.cell? (Addr.mk w'_1.heap.size 1 none) = some (.int .u32 n_1) ∧
w'_3.cell? (Addr.mk w'_1.heap.size 2 none) = some (.int .u32 n_2) ∧
w'_3.cell? (Addr.mk w'_1.heap.size 3 none) = some (.int .i64 n_3) ∧
True) ∧
SetsAt w'_3 (Addr.mk w.heap.size 0 none) 0 [.int .u32 n, .int .u32 n_1,
Value.int .u32 n_2, .int .i64 n_3] ∧
∀ w', w' = setCellsAt w'_3 (Addr.mk w.heap.size 0 none) 0 [.int .u32 n, .int .u32 n_1,
Value.int .u32 n_2,
Value.int .i64 n_3] →
∃ (n n_4 : Int) (n_5 n_6 : Int),
(w'.cell? (Addr.mk w.heap.size 0 none) = some (.int .u32 n) ∧
w'.cell? (Addr.mk w.heap.size 1 none) = some (.int .u32 n_4) ∧
w'.cell? (Addr.mk w.heap.size 2 none) = some (.int .u32 n_5) ∧
w'.cell? (Addr.mk w.heap.size 3 none) = some (.int .i64 n_6) ∧
True) ∧
R (.returned (.tuple #[.agg #[.int .u32 n,
Value.int .u32 n_4,
Value.int .u32 n_5,
Value.int .i64 n_6],
Value.bool true])) w') (∃ (n n_1 : Int) (n_2 n_3 : Int),
(w'.cell? (Addr.mk w'_1.heap.size 0 none) = some (.int .u32 n) ∧
w'.cell? (Addr.mk w'_1.heap.size 1 none) = some (.int .u32 n_1) ∧
w'.cell? (Addr.mk w'_1.heap.size 2 none) = some (.int .u32 n_2) ∧
w'.cell? (Addr.mk w'_1.heap.size 3 none) = some (.int .i64 n_3) ∧
True) ∧
SetsAt w' (Addr.mk w.heap.size 0 none) 0 [.int .u32 n, .int .u32 n_1,
Value.int .u32 n_2, .int .i64 n_3] ∧
∀ w'_3, w'_3 = setCellsAt w' (Addr.mk w.heap.size 0 none) 0 [.int .u32 n, .int .u32 n_1,
Value.int .u32 n_2, .int .i64 n_3] →
∃ (n n_4 : Int) (n_5 n_6 : Int),
(w'_3.cell? (Addr.mk w.heap.size 0 none) = some (.int .u32 n) ∧
w'_3.cell? (Addr.mk w.heap.size 1 none) = some (.int .u32 n_4) ∧
w'_3.cell? (Addr.mk w.heap.size 2 none) = some (.int .u32 n_5) ∧
w'_3.cell? (Addr.mk w.heap.size 3 none) = some (.int .i64 n_6) ∧
True) ∧
R (.returned (.tuple #[.agg #[.int .u32 n,
Value.int .u32 n_4,
Value.int .u32 n_5,
Value.int .i64 n_6],
Value.bool true])) w'_3)) (cnd (decide (op' ≥ 11)) (((w'_2.cell? (Addr.mk w'_1.heap.size 2 none)).isSome = true ∧
w'_2.frozen? (Addr.mk w'_1.heap.size 2 none) = false) ∧
∀ w', w' = w'_2.setCell (Addr.mk w'_1.heap.size 2 none) (.int .u32 1) →
∃ (n n_1 : Int) (n_2 n_3 : Int),
(w'.cell? (Addr.mk w'_1.heap.size 0 none) = some (.int .u32 n) ∧
w'.cell? (Addr.mk w'_1.heap.size 1 none) = some (.int .u32 n_1) ∧
w'.cell? (Addr.mk w'_1.heap.size 2 none) = some (.int .u32 n_2) ∧
w'.cell? (Addr.mk w'_1.heap.size 3 none) = some (.int .i64 n_3) ∧
True) ∧
SetsAt w' (Addr.mk w.heap.size 0 none) 0 [.int .u32 n, .int .u32 n_1,
Value.int .u32 n_2, .int .i64 n_3] ∧
∀ w'_3, w'_3 = setCellsAt w' (Addr.mk w.heap.size 0 none) 0 [.int .u32 n, .int .u32 n_1,
Value.int .u32 n_2, .int .i64 n_3] →
∃ (n n_4 : Int) (n_5 n_6 : Int),
(w'_3.cell? (Addr.mk w.heap.size 0 none) = some (.int .u32 n) ∧
w'_3.cell? (Addr.mk w.heap.size 1 none) = some (.int .u32 n_4) ∧
w'_3.cell? (Addr.mk w.heap.size 2 none) = some (.int .u32 n_5) ∧
w'_3.cell? (Addr.mk w.heap.size 3 none) = some (.int .i64 n_6) ∧
True) ∧
R (.returned (.tuple #[.agg #[.int .u32 n,
Value.int .u32 n_4,
Value.int .u32 n_5,
Value.int .i64 n_6],
Value.bool true])) w'_3) (∃ (n n_1 : Int) (n_2 n_3 : Int),
(w'_2.cell? (Addr.mk w'_1.heap.size 0 none) = some (.int .u32 n) ∧
w'_2.cell? (Addr.mk w'_1.heap.size 1 none) = some (.int .u32 n_1) ∧
w'_2.cell? (Addr.mk w'_1.heap.size 2 none) = some (.int .u32 n_2) ∧
w'_2.cell? (Addr.mk w'_1.heap.size 3 none) = some (.int .i64 n_3) ∧
True) ∧
SetsAt w'_2 (Addr.mk w.heap.size 0 none) 0 [.int .u32 n, .int .u32 n_1,
Value.int .u32 n_2, .int .i64 n_3] ∧
∀ w', w' = setCellsAt w'_2 (Addr.mk w.heap.size 0 none) 0 [.int .u32 n, .int .u32 n_1,
Value.int .u32 n_2, .int .i64 n_3] →
∃ (n n_4 : Int) (n_5 n_6 : Int),
(w'.cell? (Addr.mk w.heap.size 0 none) = some (.int .u32 n) ∧
w'.cell? (Addr.mk w.heap.size 1 none) = some (.int .u32 n_4) ∧
w'.cell? (Addr.mk w.heap.size 2 none) = some (.int .u32 n_5) ∧
w'.cell? (Addr.mk w.heap.size 3 none) = some (.int .i64 n_6) ∧
True) ∧
R (.returned (.tuple #[.agg #[.int .u32 n,
Value.int .u32 n_4,
Value.int .u32 n_5,
Value.int .i64 n_6],
Value.bool true])) w')))))
theorem ref02_two.calls {op' : Int} {w : World} {R : Ending → World → Prop} (h : ref02_two.vc op' w R) : Calls Tryz.prog 122 ([.int .u8 op'] : List Value).toArray w R := calls_of_eq (show fnV Tryz.prog ref02_two.H 122 [.int .u8 op'] w R = _ from by kernel_rfl) h

/- function 96: sacristy/sacristyref02.Of -/
abbrev ref02_Of.N : FuncId := 96
def ref02_Of.H : Hints := {  }
def ref02_Of.vc (op' : Int) (w : World) (R : Ending → World → Prop) : Prop := ∀ w', w' = w.alloc (Obj.cells #[.int .u32 0, .int .u32 0, .int .u32 0, .int .i64 0] 168) →
Calls Tryz.prog 122 #[.int .u8 op'] w' fun e w' =>
∃ (n n_1 : Int) (n_2 n_3 : Int) (b : Bool),
e = .returned (.tuple #[.agg #[.int .u32 n, .int .u32 n_1, .int .u32 n_2,
Value.int .i64 n_3],
Value.bool b]) ∧
∀ w'_1, w'_1 = w'.alloc (Obj.cells #[.int .u32 0, .int .u32 0, .int .u32 0,
Value.int .i64 0] 168) →
SetsAt w'_1 (Addr.mk w'.heap.size 0 none) 0 [.int .u32 n, .int .u32 n_1, .int .u32 n_2,
Value.int .i64 n_3] ∧
∀ w'_2, w'_2 = setCellsAt w'_1 (Addr.mk w'.heap.size 0 none) 0 [.int .u32 n, .int .u32 n_1, .int .u32 n_2,
Value.int .i64 n_3] →
cnd b (∃ (n n_4 : Int) (n_5 n_6 : Int),
(w'_2.cell? (Addr.mk w'.heap.size 0 none) = some (.int .u32 n) ∧
w'_2.cell? (Addr.mk w'.heap.size 1 none) = some (.int .u32 n_4) ∧
w'_2.cell? (Addr.mk w'.heap.size 2 none) = some (.int .u32 n_5) ∧
w'_2.cell? (Addr.mk w'.heap.size 3 none) = some (.int .i64 n_6) ∧
True) ∧
SetsAt w'_2 (Addr.mk w.heap.size 0 none) 0 [.int .u32 n, .int .u32 n_4,
Value.int .u32 n_5, .int .i64 n_6] ∧
∀ w', w' = setCellsAt w'_2 (Addr.mk w.heap.size 0 none) 0 [.int .u32 n, .int .u32 n_4,
Value.int .u32 n_5, .int .i64 n_6] →
∃ (n n_7 : Int) (n_8 n_9 : Int),
(w'.cell? (Addr.mk w.heap.size 0 none) = some (.int .u32 n) ∧
w'.cell? (Addr.mk w.heap.size 1 none) = some (.int .u32 n_7) ∧
w'.cell? (Addr.mk w.heap.size 2 none) = some (.int .u32 n_8) ∧
w'.cell? (Addr.mk w.heap.size 3 none) = some (.int .i64 n_9) ∧
True) ∧
R (.returned (.tuple #[.agg #[.int .u32 n, .int .u32 n_7,
Value.int .u32 n_8,
Value.int .i64 n_9],
Value.bool true])) w') (cnd (op' == 15) (SetsAt w'_2 (Addr.mk w.heap.size 0 none) 0 [.int .u32 19, .int .u32 0, .int .u32 0,
Value.int .i64 2] ∧
∀ w', w' = setCellsAt w'_2 (Addr.mk w.heap.size 0 none) 0 [.int .u32 19, .int .u32 0, .int .u32 0,
Value.int .i64 2] →
∃ (n n_4 : Int) (n_5 n_6 : Int),
(w'.cell? (Addr.mk w.heap.size 0 none) = some (.int .u32 n) ∧
w'.cell? (Addr.mk w.heap.size 1 none) = some (.int .u32 n_4) ∧
w'.cell? (Addr.mk w.heap.size 2 none) = some (.int .u32 n_5) ∧
w'.cell? (Addr.mk w.heap.size 3 none) = some (.int .i64 n_6) ∧
True) ∧
R (.returned (.tuple #[.agg #[.int .u32 n, .int .u32 n_4,
Value.int .u32 n_5, .int .i64 n_6],
Value.bool true])) w') (cnd (op' == 16) (SetsAt w'_2 (Addr.mk w.heap.size 0 none) 0 [.int .u32 19, .int .u32 3, .int .u32 0,
Value.int .i64 2] ∧
∀ w', w' = setCellsAt w'_2 (Addr.mk w.heap.size 0 none) 0 [.int .u32 19, .int .u32 3, .int .u32 0,
Value.int .i64 2] →
∃ (n n_4 : Int) (n_5 n_6 : Int),
(w'.cell? (Addr.mk w.heap.size 0 none) = some (.int .u32 n) ∧
w'.cell? (Addr.mk w.heap.size 1 none) = some (.int .u32 n_4) ∧
w'.cell? (Addr.mk w.heap.size 2 none) = some (.int .u32 n_5) ∧
w'.cell? (Addr.mk w.heap.size 3 none) = some (.int .i64 n_6) ∧
True) ∧
R (.returned (.tuple #[.agg #[.int .u32 n, .int .u32 n_4,
Value.int .u32 n_5, .int .i64 n_6],
Value.bool true])) w') (cnd (op' == 17) (SetsAt w'_2 (Addr.mk w.heap.size 0 none) 0 [.int .u32 19, .int .u32 4, .int .u32 0,
Value.int .i64 2] ∧
∀ w', w' = setCellsAt w'_2 (Addr.mk w.heap.size 0 none) 0 [.int .u32 19, .int .u32 4,
Value.int .u32 0, .int .i64 2] →
∃ (n n_4 : Int) (n_5 n_6 : Int),
(w'.cell? (Addr.mk w.heap.size 0 none) = some (.int .u32 n) ∧
w'.cell? (Addr.mk w.heap.size 1 none) = some (.int .u32 n_4) ∧
w'.cell? (Addr.mk w.heap.size 2 none) = some (.int .u32 n_5) ∧
w'.cell? (Addr.mk w.heap.size 3 none) = some (.int .i64 n_6) ∧
True) ∧
R (.returned (.tuple #[.agg #[.int .u32 n, .int .u32 n_4,
Value.int .u32 n_5, .int .i64 n_6],
Value.bool true])) w') (cnd (op' == 18) (SetsAt w'_2 (Addr.mk w.heap.size 0 none) 0 [.int .u32 19, .int .u32 6, .int .u32 0,
Value.int .i64 2] ∧
∀ w', w' = setCellsAt w'_2 (Addr.mk w.heap.size 0 none) 0 [.int .u32 19, .int .u32 6,
Value.int .u32 0, .int .i64 2] →
∃ (n n_4 : Int) (n_5 n_6 : Int),
(w'.cell? (Addr.mk w.heap.size 0 none) = some (.int .u32 n) ∧
w'.cell? (Addr.mk w.heap.size 1 none) = some (.int .u32 n_4) ∧
w'.cell? (Addr.mk w.heap.size 2 none) = some (.int .u32 n_5) ∧
w'.cell? (Addr.mk w.heap.size 3 none) = some (.int .i64 n_6) ∧
True) ∧
R (.returned (.tuple #[.agg #[.int .u32 n, .int .u32 n_4,
Value.int .u32 n_5, .int .i64 n_6],
Value.bool true])) w') (cnd (op' == 19) (SetsAt w'_2 (Addr.mk w.heap.size 0 none) 0 [.int .u32 19, .int .u32 7, .int .u32 0,
Value.int .i64 2] ∧
∀ w', w' = setCellsAt w'_2 (Addr.mk w.heap.size 0 none) 0 [.int .u32 19, .int .u32 7,
Value.int .u32 0, .int .i64 2] →
∃ (n n_4 : Int) (n_5 n_6 : Int),
(w'.cell? (Addr.mk w.heap.size 0 none) = some (.int .u32 n) ∧
w'.cell? (Addr.mk w.heap.size 1 none) = some (.int .u32 n_4) ∧
w'.cell? (Addr.mk w.heap.size 2 none) = some (.int .u32 n_5) ∧
w'.cell? (Addr.mk w.heap.size 3 none) = some (.int .i64 n_6) ∧
True) ∧
R (.returned (.tuple #[.agg #[.int .u32 n, .int .u32 n_4,
Value.int .u32 n_5,
Value.int .i64 n_6],
Value.bool true])) w') (cnd (op' == 20) (SetsAt w'_2 (Addr.mk w.heap.size 0 none) 0 [.int .u32 19, .int .u32 1,
Value.int .u32 0, .int .i64 3] ∧
∀ w', w' = setCellsAt w'_2 (Addr.mk w.heap.size 0 none) 0 [.int .u32 19, .int .u32 1,
Value.int .u32 0, .int .i64 3] →
∃ (n n_4 : Int) (n_5 n_6 : Int),
(w'.cell? (Addr.mk w.heap.size 0 none) = some (.int .u32 n) ∧
w'.cell? (Addr.mk w.heap.size 1 none) = some (.int .u32 n_4) ∧
w'.cell? (Addr.mk w.heap.size 2 none) = some (.int .u32 n_5) ∧
w'.cell? (Addr.mk w.heap.size 3 none) = some (.int .i64 n_6) ∧
True) ∧
R (.returned (.tuple #[.agg #[.int .u32 n,
Value.int .u32 n_4,
Value.int .u32 n_5,
Value.int .i64 n_6],
Value.bool true])) w') (cnd (op' == 21) (SetsAt w'_2 (Addr.mk w.heap.size 0 none) 0 [.int .u32 19, .int .u32 5,
Value.int .u32 0, .int .i64 3] ∧
∀ w', w' = setCellsAt w'_2 (Addr.mk w.heap.size 0 none) 0 [.int .u32 19, .int .u32 5,
Value.int .u32 0, .int .i64 3] →
∃ (n n_4 : Int) (n_5 n_6 : Int),
(w'.cell? (Addr.mk w.heap.size 0 none) = some (.int .u32 n) ∧
w'.cell? (Addr.mk w.heap.size 1 none) = some (.int .u32 n_4) ∧
w'.cell? (Addr.mk w.heap.size 2 none) = some (.int .u32 n_5) ∧
w'.cell? (Addr.mk w.heap.size 3 none) = some (.int .i64 n_6) ∧
True) ∧
R (.returned (.tuple #[.agg #[.int .u32 n,
Value.int .u32 n_4,
Value.int .u32 n_5,
Value.int .i64 n_6],
Value.bool true])) w') (cnd (op' == 22) (SetsAt w'_2 (Addr.mk w.heap.size 0 none) 0 [.int .u32 19, .int .u32 5,
Value.int .u32 32, .int .i64 3] ∧
∀ w', w' = setCellsAt w'_2 (Addr.mk w.heap.size 0 none) 0 [.int .u32 19, .int .u32 5,
Value.int .u32 32, .int .i64 3] →
∃ (n n_4 : Int) (n_5 n_6 : Int),
(w'.cell? (Addr.mk w.heap.size 0 none) = some (.int .u32 n) ∧
w'.cell? (Addr.mk w.heap.size 1 none) = some (.int .u32 n_4) ∧
w'.cell? (Addr.mk w.heap.size 2 none) = some (.int .u32 n_5) ∧
w'.cell? (Addr.mk w.heap.size 3 none) = some (.int .i64 n_6) ∧
True) ∧
R (.returned (.tuple #[.agg #[.int .u32 n,
Value.int .u32 n_4,
Value.int .u32 n_5,
Value.int .i64 n_6],
Value.bool true])) w') (cnd (op' == 23) (SetsAt w'_2 (Addr.mk w.heap.size 0 none) 0 [.int .u32 55, .int .u32 0,
Value.int .u32 0, .int .i64 4] ∧
∀ w', w' = setCellsAt w'_2 (Addr.mk w.heap.size 0 none) 0 [.int .u32 55, .int .u32 0,
Value.int .u32 0, .int .i64 4] →
∃ (n n_4 : Int) (n_5 n_6 : Int),
(w'.cell? (Addr.mk w.heap.size 0 none) = some (.int .u32 n) ∧
w'.cell? (Addr.mk w.heap.size 1 none) = some (.int .u32 n_4) ∧
w'.cell? (Addr.mk w.heap.size 2 none) = some (.int .u32 n_5) ∧
w'.cell? (Addr.mk w.heap.size 3 none) = some (.int .i64 n_6) ∧
True) ∧
R (.returned (.tuple #[.agg #[.int .u32 n,
Value.int .u32 n_4,
Value.int .u32 n_5,
Value.int .i64 n_6],
Value.bool true])) w') (cnd (op' == 24) (SetsAt w'_2 (Addr.mk w.heap.size 0 none) 0 [.int .u32 3, .int .u32 4,
Value.int .u32 0, .int .i64 2] ∧
∀ w', w' = setCellsAt w'_2 (Addr.mk w.heap.size 0 none) 0 [.int .u32 3, .int .u32 4,
Value.int .u32 0, .int .i64 2] →
∃ (n n_4 : Int) (n_5 n_6 : Int),
(w'.cell? (Addr.mk w.heap.size 0 none) = some (.int .u32 n) ∧
w'.cell? (Addr.mk w.heap.size 1 none) = some (.int .u32 n_4) ∧
w'.cell? (Addr.mk w.heap.size 2 none) = some (.int .u32 n_5) ∧
w'.cell? (Addr.mk w.heap.size 3 none) = some (.int .i64 n_6) ∧
True) ∧
R (.returned (.tuple #[.agg #[.int .u32 n,
Value.int .u32 n_4,
Value.int .u32 n_5,
Value.int .i64 n_6],
Value.bool true])) w') (cnd (op' == 25) (SetsAt w'_2 (Addr.mk w.heap.size 0 none) 0 [.int .u32 3, .int .u32 3,
Value.int .u32 0, .int .i64 2] ∧
∀ w', w' = setCellsAt w'_2 (Addr.mk w.heap.size 0 none) 0 [.int .u32 3, .int .u32 3,
Value.int .u32 0, .int .i64 2] →
∃ (n n_4 : Int) (n_5 n_6 : Int),
(w'.cell? (Addr.mk w.heap.size 0 none) = some (.int .u32 n) ∧
w'.cell? (Addr.mk w.heap.size 1 none) = some (.int .u32 n_4) ∧
w'.cell? (Addr.mk w.heap.size 2 none) = some (.int .u32 n_5) ∧
w'.cell? (Addr.mk w.heap.size 3 none) = some (.int .i64 n_6) ∧
True) ∧
R (.returned (.tuple #[.agg #[.int .u32 n,
Value.int .u32 n_4,
Value.int .u32 n_5,
Value.int .i64 n_6],
Value.bool true])) w') (cnd (op' == 26) (SetsAt w'_2 (Addr.mk w.heap.size 0 none) 0 [.int .u32 35, .int .u32 0,
Value.int .u32 0, .int .i64 5] ∧
∀ w', w' = setCellsAt w'_2 (Addr.mk w.heap.size 0 none) 0 [.int .u32 35, .int .u32 0,
Value.int .u32 0, .int .i64 5] →
∃ (n n_4 : Int) (n_5 n_6 : Int),
(w'.cell? (Addr.mk w.heap.size 0 none) = some (.int .u32 n) ∧
w'.cell? (Addr.mk w.heap.size 1 none) = some (.int .u32 n_4) ∧
w'.cell? (Addr.mk w.heap.size 2 none) = some (.int .u32 n_5) ∧
w'.cell? (Addr.mk w.heap.size 3 none) = some (.int .i64 n_6) ∧
True) ∧
R (.returned (.tuple #[.agg #[.int .u32 n,
Value.int .u32 n_4,
Value.int .u32 n_5,
Value.int .i64 n_6],
Value.bool true])) w') (cnd (op' == 27) (SetsAt w'_2 (Addr.mk w.heap.size 0 none) 0 [.int .u32 35, .int .u32 3,
Value.int .u32 0, .int .i64 5] ∧
∀ w', w' = setCellsAt w'_2 (Addr.mk w.heap.size 0 none) 0 [.int .u32 35, .int .u32 3,
Value.int .u32 0, .int .i64 5] →
∃ (n n_4 : Int) (n_5 n_6 : Int),
(w'.cell? (Addr.mk w.heap.size 0 none) = some (.int .u32 n) ∧
w'.cell? (Addr.mk w.heap.size 1 none) = some (.int .u32 n_4) ∧
w'.cell? (Addr.mk w.heap.size 2 none) = some (.int .u32 n_5) ∧
w'.cell? (Addr.mk w.heap.size 3 none) = some (.int .i64 n_6) ∧
True) ∧
R (.returned (.tuple #[.agg #[.int .u32 n,
Value.int .u32 n_4,
Value.int .u32 n_5,
Value.int .i64 n_6],
Value.bool true])) w') (cnd (op' == 28) (SetsAt w'_2 (Addr.mk w.heap.size 0 none) 0 [.int .u32 99, .int .u32 0,
Value.int .u32 0, .int .i64 6] ∧
∀ w', w' = setCellsAt w'_2 (Addr.mk w.heap.size 0 none) 0 [.int .u32 99, .int .u32 0,
Value.int .u32 0,
Value.int .i64 6] →
∃ (n n_4 : Int) (n_5 n_6 : Int),
(w'.cell? (Addr.mk w.heap.size 0 none) = some (.int .u32 n) ∧
w'.cell? (Addr.mk w.heap.size 1 none) = some (.int .u32 n_4) ∧
w'.cell? (Addr.mk w.heap.size 2 none) = some (.int .u32 n_5) ∧
w'.cell? (Addr.mk w.heap.size 3 none) = some (.int .i64 n_6) ∧
True) ∧
R (.returned (.tuple #[.agg #[.int .u32 n,
Value.int .u32 n_4,
Value.int .u32 n_5,
Value.int .i64 n_6],
Value.bool true])) w') (cnd (op' == 29) (SetsAt w'_2 (Addr.mk w.heap.size 0 none) 0 [.int .u32 99, .int .u32 1,
Value.int .u32 0, .int .i64 6] ∧
∀ w', w' = setCellsAt w'_2 (Addr.mk w.heap.size 0 none) 0 [.int .u32 99,
Value.int .u32 1,
Value.int .u32 0,
Value.int .i64 6] →
∃ (n n_4 : Int) (n_5 n_6 : Int),
(w'.cell? (Addr.mk w.heap.size 0 none) = some (.int .u32 n) ∧
w'.cell? (Addr.mk w.heap.size 1 none) = some (.int .u32 n_4) ∧
w'.cell? (Addr.mk w.heap.size 2 none) = some (.int .u32 n_5) ∧
w'.cell? (Addr.mk w.heap.size 3 none) = some (.int .i64 n_6) ∧
True) ∧
R (.returned (.tuple #[.agg #[.int .u32 n,
Value.int .u32 n_4,
Value.int .u32 n_5,
Value.int .i64 n_6],
Value.bool true])) w') (cnd (op' == 30) (SetsAt w'_2 (Addr.mk w.heap.size 0 none) 0 [.int .u32 99, .int .u32 6,
Value.int .u32 0, .int .i64 6] ∧
∀ w', w' = setCellsAt w'_2 (Addr.mk w.heap.size 0 none) 0 [.int .u32 99,
Value.int .u32 6,
Value.int .u32 0,
Value.int .i64 6] →
∃ (n n_4 : Int) (n_5 n_6 : Int),
(w'.cell? (Addr.mk w.heap.size 0 none) = some (.int .u32 n) ∧
w'.cell? (Addr.mk w.heap.size 1 none) = some (.int .u32 n_4) ∧
w'.cell? (Addr.mk w.heap.size 2 none) = some (.int .u32 n_5) ∧
w'.cell? (Addr.mk w.heap.size 3 none) = some (.int .i64 n_6) ∧
True) ∧
R (.returned (.tuple #[.agg #[.int .u32 n,
Value.int .u32 n_4,
Value.int .u32 n_5,
Value.int .i64 n_6],
Value.bool true])) w') (cnd (op' == 31) (SetsAt w'_2 (Addr.mk w.heap.size 0 none) 0 [.int .u32 99, .int .u32 7,
Value.int .u32 0,
Value.int .i64 6] ∧
∀ w', w' = setCellsAt w'_2 (Addr.mk w.heap.size 0 none) 0 [.int .u32 99,
Value.int .u32 7,
Value.int .u32 0,
Value.int .i64 6] →
∃ (n n_4 : Int) (n_5 n_6 : Int),
(w'.cell? (Addr.mk w.heap.size 0 none) = some (.int .u32 n) ∧
w'.cell? (Addr.mk w.heap.size 1 none) = some (.int .u32 n_4) ∧
w'.cell? (Addr.mk w.heap.size 2 none) = some (.int .u32 n_5) ∧
w'.cell? (Addr.mk w.heap.size 3 none) = some (.int .i64 n_6) ∧
True) ∧
R (.returned (.tuple #[.agg #[.int .u32 n,
Value.int .u32 n_4,
Value.int .u32 n_5,
Value.int .i64 n_6],
Value.bool true])) w') (cnd (op' == 32) (SetsAt w'_2 (Addr.mk w.heap.size 0 none) 0 [.int .u32 111,
Value.int .u32 0,
Value.int .u32 0,
Value.int .i64 7] ∧
∀ w', w' = setCellsAt w'_2 (Addr.mk w.heap.size 0 none) 0 [.int .u32 111,
Value.int .u32 0,
Value.int .u32 0,
Value.int .i64 7] →
∃ (n n_4 : Int) (n_5 n_6 : Int),
(w'.cell? (Addr.mk w.heap.size 0 none) = some (.int .u32 n) ∧
w'.cell? (Addr.mk w.heap.size 1 none) = some (.int .u32 n_4) ∧
w'.cell? (Addr.mk w.heap.size 2 none) = some (.int .u32 n_5) ∧
w'.cell? (Addr.mk w.heap.size 3 none) = some (.int .i64 n_6) ∧
True) ∧
R (.returned (.tuple #[.agg #[.int .u32 n,
Value.int .u32 n_4,
Value.int .u32 n_5,
Value.int .i64 n_6],
Value.bool true])) w') (cnd (op' == 33) (SetsAt w'_2 (Addr.mk w.heap.size 0 none) 0 [.int .u32 103,
Value.int .u32 0,
Value.int .u32 0,
Value.int .i64 2] ∧
∀ w', w' = setCellsAt w'_2 (Addr.mk w.heap.size 0 none) 0 [.int .u32 103,
Value.int .u32 0,
Value.int .u32 0,
Value.int .i64 2] →
∃ (n n_4 : Int) (n_5 n_6 : Int),
(w'.cell? (Addr.mk w.heap.size 0 none) = some (.int .u32 n) ∧
w'.cell? (Addr.mk w.heap.size 1 none) = some (.int .u32 n_4) ∧
w'.cell? (Addr.mk w.heap.size 2 none) = some (.int .u32 n_5) ∧
w'.cell? (Addr.mk w.heap.size 3 none) = some (.int .i64 n_6) ∧
True) ∧
R (.returned (.tuple #[.agg #[.int .u32 n,
Value.int .u32 n_4,
Value.int .u32 n_5,
Value.int .i64 n_6],
Value.bool true])) w') (cnd (op' == 34) (SetsAt w'_2 (Addr.mk w.heap.size 0 none) 0 [.int .u32 115,
Value.int .u32 0,
Value.int .u32 0,
Value.int .i64 8] ∧
∀ w', w' = setCellsAt w'_2 (Addr.mk w.heap.size 0 none) 0 [.int .u32 115,
Value.int .u32 0,
Value.int .u32 0,
Value.int .i64 8] →
∃ (n n_4 : Int) (n_5 n_6 : Int),
(w'.cell? (Addr.mk w.heap.size 0 none) = some (.int .u32 n) ∧
w'.cell? (Addr.mk w.heap.size 1 none) = some (.int .u32 n_4) ∧
w'.cell? (Addr.mk w.heap.size 2 none) = some (.int .u32 n_5) ∧
w'.cell? (Addr.mk w.heap.size 3 none) = some (.int .i64 n_6) ∧
True) ∧
R (.returned (.tuple #[.agg #[.int .u32 n,
Value.int .u32 n_4,
Value.int .u32 n_5,
Value.int .i64 n_6],
Value.bool true])) w') (SetsAt w'_2 (Addr.mk w.heap.size 0 none) 0 [.int .u32 0,
Value.int .u32 0,
Value.int .u32 0,
Value.int .i64 0] ∧
∀ w', w' = setCellsAt w'_2 (Addr.mk w.heap.size 0 none) 0 [.int .u32 0,
Value.int .u32 0,
Value.int .u32 0,
Value.int .i64 0] →
∃ (n n_4 : Int) (n_5 n_6 : Int),
(w'.cell? (Addr.mk w.heap.size 0 none) = some (.int .u32 n) ∧
w'.cell? (Addr.mk w.heap.size 1 none) = some (.int .u32 n_4) ∧
w'.cell? (Addr.mk w.heap.size 2 none) = some (.int .u32 n_5) ∧
w'.cell? (Addr.mk w.heap.size 3 none) = some (.int .i64 n_6) ∧
True) ∧
R (.returned (.tuple #[.agg #[.int .u32 n,
Value.int .u32 n_4,
Value.int .u32 n_5,
Value.int .i64 n_6],
Value.bool false])) w')))))))))))))))))))))
theorem ref02_Of.calls {op' : Int} {w : World} {R : Ending → World → Prop} (h : ref02_Of.vc op' w R) : Calls Tryz.prog 96 ([.int .u8 op'] : List Value).toArray w R := calls_of_eq (show fnV Tryz.prog ref02_Of.H 96 [.int .u8 op'] w R = _ from by kernel_rfl) h

/- function 130: sacristy/sacristyref02.bits -/
abbrev ref02_bits.N : FuncId := 130
def ref02_bits.H : Hints := { loops := [(4, [(9, .one (.int .u32)), (10, .one (.int .i64))])] }
def ref02_bits.vc (v' from' : Int) (to' at' : Int) (w : World) (R : Ending → World → Prop) : Prop := ∃ (I : List Value → World → Prop) (μ : List Value → World → Nat),
I [.int .u32 0, .int .i64 from'] w ∧
∀ (g : Nat → Value) (w i : Int) (w' : World),
I [.int .u32 w, .int .i64 i] w' →
cnd (decide (i ≤ to')) (cnd (decide (IntKind.u64.wrap i < 0)) False (cnd (decide (IntKind.u64.wrap (IntKind.i64.wrap (IntKind.i64.wrap (at' + i) - from')) < 0)) False (Goes I μ [.int .u32 w, .int .i64 i] w' [.int .u32 (IntKind.u32.wrap (w + IntKind.u32.wrap (IntKind.u32.wrap (((IntKind.u64.wrap v').fdiv (2 ^ min (IntKind.u64.wrap i).toNat 64)).tmod 2) * 2 ^ min (IntKind.u64.wrap (IntKind.i64.wrap (IntKind.i64.wrap (at' + i) - from'))).toNat 32))),
Value.int .i64 (IntKind.i64.wrap (i + 1))] w'))) (R (.returned (.int .u32 w)) w')
theorem ref02_bits.calls {v' from' : Int} {to' at' : Int} {w : World} {R : Ending → World → Prop} (h : ref02_bits.vc v' from' to' at' w R) : Calls Tryz.prog 130 ([.int .i64 v', .int .i64 from', .int .i64 to', .int .i64 at'] : List Value).toArray w R := calls_of_eq (show fnV Tryz.prog ref02_bits.H 130 [.int .i64 v', .int .i64 from', .int .i64 to', .int .i64 at'] w R = _ from by kernel_rfl) h

/- function 104: sacristy/sacristyref02.number -/
abbrev ref02_number.N : FuncId := 104
def ref02_number.H : Hints := {  }
def ref02_number.vc (form' v' : Int) (w : World) (R : Ending → World → Prop) : Prop := cnd (form' == 2) (Calls Tryz.prog 130 #[.int .i64 v', .int .i64 0, .int .i64 11, .int .i64 20] w fun e w' =>
∃ (n : Int), e = .returned (.int .u32 n) ∧ R (.returned (.int .u32 n)) w') (cnd (form' == 3) (Calls Tryz.prog 130 #[.int .i64 v', .int .i64 0, .int .i64 5, .int .i64 20] w fun e w' =>
∃ (n : Int), e = .returned (.int .u32 n) ∧ R (.returned (.int .u32 n)) w') (cnd (form' == 4) (Calls Tryz.prog 130 #[.int .i64 v', .int .i64 12, .int .i64 31, .int .i64 12] w fun e w' =>
∃ (n : Int), e = .returned (.int .u32 n) ∧ R (.returned (.int .u32 n)) w') (cnd (form' == 5) (Calls Tryz.prog 130 #[.int .i64 v', .int .i64 0, .int .i64 4, .int .i64 7] w fun e w' =>
∃ (n : Int),
e = .returned (.int .u32 n) ∧
Calls Tryz.prog 130 #[.int .i64 v', .int .i64 5, .int .i64 11, .int .i64 25] w' fun e w' =>
∃ (n_1 : Int),
e = .returned (.int .u32 n_1) ∧
R (.returned (.int .u32 (IntKind.u32.wrap (n + n_1)))) w') (cnd (form' == 6) (Calls Tryz.prog 130 #[.int .i64 v', .int .i64 11, .int .i64 11, .int .i64 7] w fun e w' =>
∃ (n : Int),
e = .returned (.int .u32 n) ∧
Calls Tryz.prog 130 #[.int .i64 v', .int .i64 1, .int .i64 4, .int .i64 8] w' fun e w' =>
∃ (n_1 : Int),
e = .returned (.int .u32 n_1) ∧
Calls Tryz.prog 130 #[.int .i64 v', .int .i64 5, .int .i64 10,
Value.int .i64 25] w' fun e w' =>
∃ (n_2 : Int),
e = .returned (.int .u32 n_2) ∧
Calls Tryz.prog 130 #[.int .i64 v', .int .i64 12, .int .i64 12,
Value.int .i64 31] w' fun e w' =>
∃ (n_3 : Int),
e = .returned (.int .u32 n_3) ∧
R (.returned (.int .u32 (IntKind.u32.wrap (IntKind.u32.wrap (IntKind.u32.wrap (n + n_1) + n_2) + n_3)))) w') (cnd (form' == 7) (Calls Tryz.prog 130 #[.int .i64 v', .int .i64 12, .int .i64 19, .int .i64 12] w fun e w' =>
∃ (n : Int),
e = .returned (.int .u32 n) ∧
Calls Tryz.prog 130 #[.int .i64 v', .int .i64 11, .int .i64 11,
Value.int .i64 20] w' fun e w' =>
∃ (n_1 : Int),
e = .returned (.int .u32 n_1) ∧
Calls Tryz.prog 130 #[.int .i64 v', .int .i64 1, .int .i64 10,
Value.int .i64 21] w' fun e w' =>
∃ (n_2 : Int),
e = .returned (.int .u32 n_2) ∧
Calls Tryz.prog 130 #[.int .i64 v', .int .i64 20, .int .i64 20,
Value.int .i64 31] w' fun e w' =>
∃ (n_3 : Int),
e = .returned (.int .u32 n_3) ∧
R (.returned (.int .u32 (IntKind.u32.wrap (IntKind.u32.wrap (IntKind.u32.wrap (n + n_1) + n_2) + n_3)))) w') (R (.returned (.int .u32 0)) w))))))
theorem ref02_number.calls {form' v' : Int} {w : World} {R : Ending → World → Prop} (h : ref02_number.vc form' v' w R) : Calls Tryz.prog 104 ([.int .i64 form', .int .i64 v'] : List Value).toArray w R := calls_of_eq (show fnV Tryz.prog ref02_number.H 104 [.int .i64 form', .int .i64 v'] w R = _ from by kernel_rfl) h

/- function 64: sacristy/sacristyref02.Encode -/
abbrev ref02_Encode.N : FuncId := 64
def ref02_Encode.H : Hints := {  }
def ref02_Encode.vc (x'_0 x'_1 : Int) (x'_2 x'_3 x'_4 : Int) (w : World) (R : Ending → World → Prop) : Prop := ∀ w', w' = w.alloc (Obj.cells #[.int .u8 x'_0, .int .u8 x'_1, .int .u8 x'_2, .int .u8 x'_3,
Value.int .i64 x'_4] 25) →
∃ (n : Int),
w'.cell? (Addr.mk w.heap.size 0 none) = some (.int .u8 n) ∧
Calls Tryz.prog 96 #[.int .u8 n] w' fun e w' =>
∃ (n n_1 : Int) (n_2 n_3 : Int) (b : Bool),
e = .returned (.tuple #[.agg #[.int .u32 n, .int .u32 n_1, .int .u32 n_2,
Value.int .i64 n_3],
Value.bool b]) ∧
∀ w'_1, w'_1 = w'.alloc (Obj.cells #[.int .u32 0, .int .u32 0, .int .u32 0,
Value.int .i64 0] 168) →
SetsAt w'_1 (Addr.mk w'.heap.size 0 none) 0 [.int .u32 n, .int .u32 n_1, .int .u32 n_2,
Value.int .i64 n_3] ∧
∀ w'_2, w'_2 = setCellsAt w'_1 (Addr.mk w'.heap.size 0 none) 0 [.int .u32 n, .int .u32 n_1, .int .u32 n_2,
Value.int .i64 n_3] →
cnd (!b) (R (.returned (.tuple #[.int .u32 0, .int .i64 2])) w'_2) (∃ (n : Int),
w'_2.cell? (Addr.mk w'.heap.size 3 none) = some (.int .i64 n) ∧
∃ (n_4 n_5 : Int) (n_6 n_7 n_8 : Int),
(w'_2.cell? (Addr.mk w.heap.size 0 none) = some (.int .u8 n_4) ∧
w'_2.cell? (Addr.mk w.heap.size 1 none) = some (.int .u8 n_5) ∧
w'_2.cell? (Addr.mk w.heap.size 2 none) = some (.int .u8 n_6) ∧
w'_2.cell? (Addr.mk w.heap.size 3 none) = some (.int .u8 n_7) ∧
w'_2.cell? (Addr.mk w.heap.size 4 none) = some (.int .i64 n_8) ∧
True) ∧
Calls Tryz.prog 103 #[.int .i64 n,
Value.agg #[.int .u8 n_4, .int .u8 n_5,
Value.int .u8 n_6, .int .u8 n_7,
Value.int .i64 n_8]] w'_2 fun e w'_3 =>
∃ (b : Bool),
e = .returned (.bool b) ∧
cnd (!b) (R (.returned (.tuple #[.int .u32 0, .int .i64 2])) w'_3) (∃ (n : Int),
(∀ w'_4, Later w'_3 w'_4 →
w'_4.cell? (Addr.mk w'.heap.size 0 none) = some (.int .u32 n)) ∧
∃ (n_9 : Int),
(∀ w', Later w'_3 w' →
w'.cell? (Addr.mk w.heap.size 1 none) = some (.int .u8 n_9)) ∧
∃ (n_10 : Int),
(∀ w'_4, Later w'_3 w'_4 →
w'_4.cell? (Addr.mk w'.heap.size 1 none) = some (.int .u32 n_10)) ∧
∃ (n_11 : Int),
(∀ w', Later w'_3 w' →
w'.cell? (Addr.mk w.heap.size 2 none) = some (.int .u8 n_11)) ∧
∃ (n_12 : Int),
(∀ w', Later w'_3 w' →
w'.cell? (Addr.mk w.heap.size 3 none) = some (.int .u8 n_12)) ∧
∃ (n_13 : Int),
(∀ w'_4, Later w'_3 w'_4 →
w'_4.cell? (Addr.mk w'.heap.size 2 none) = some (.int .u32 n_13)) ∧
∃ (n_14 : Int),
(∀ w'_4, Later w'_3 w'_4 →
w'_4.cell? (Addr.mk w'.heap.size 3 none) = some (.int .i64 n_14)) ∧
∃ (n_15 : Int),
(∀ w', Later w'_3 w' →
w'.cell? (Addr.mk w.heap.size 4 none) = some (.int .i64 n_15)) ∧
∃ (n_16 : Int),
(∀ w', Later w'_3 w' →
Calls Tryz.prog 104 #[.int .i64 n_14,
Value.int .i64 n_15] w' fun e w'' =>
e = .returned (.int .u32 n_16) ∧
Later w' w'') ∧
∀ w', Later w'_3 w' →
R (.returned (.tuple #[.int .u32 (IntKind.u32.wrap (IntKind.u32.wrap (IntKind.u32.wrap (IntKind.u32.wrap (IntKind.u32.wrap (IntKind.u32.wrap (n + IntKind.u32.wrap (IntKind.u32.wrap n_9 * 128)) + IntKind.u32.wrap (n_10 * 4096)) + IntKind.u32.wrap (IntKind.u32.wrap n_11 * 32768)) + IntKind.u32.wrap (IntKind.u32.wrap n_12 * 1048576)) + IntKind.u32.wrap (n_13 * 33554432)) + n_16)),
Value.int .i64 0])) w'))
theorem ref02_Encode.vc_eq (x'_0 x'_1 : Int) (x'_2 x'_3 x'_4 : Int) (w : World) (R : Ending → World → Prop) : fnV Tryz.prog ref02_Encode.H 64 [.agg #[.int .u8 x'_0, .int .u8 x'_1, .int .u8 x'_2, .int .u8 x'_3,
Value.int .i64 x'_4]] w R = ref02_Encode.vc x'_0 x'_1 x'_2 x'_3 x'_4 w R := by kernel_rfl
theorem ref02_Encode.calls {x'_0 x'_1 : Int} {x'_2 x'_3 x'_4 : Int} {w : World} {R : Ending → World → Prop} (h : ref02_Encode.vc x'_0 x'_1 x'_2 x'_3 x'_4 w R) : Calls Tryz.prog 64 ([.agg #[.int .u8 x'_0, .int .u8 x'_1, .int .u8 x'_2, .int .u8 x'_3,
Value.int .i64 x'_4]] : List Value).toArray w R := calls_of_eq (ref02_Encode.vc_eq x'_0 x'_1 x'_2 x'_3 x'_4 w R) h

end Go.Proofs.YtcnnnlhoiodeaaaGreat

/-
The explicit conditions of some functions of the program, printed by this repo's own program over VcTop: what is proved is that each is the condition.
Conditions: none.
-/
namespace Go.Proofs.YtcnnnlhoiodeaaaGreat
open Go Go.Vc Go.RowKit
set_option maxRecDepth 100000

/- function 103: sacristy/sacristyref02.named -/
abbrev ref02_named.N : FuncId := 103
def ref02_named.H : Hints := { conds := [(9095, [(95, .one .bool)])], regs := [(1, [(5, .one .bool)]), (2, [(6, .one .bool)]), (3, [(7, .one .bool)]), (4, [(93, .one .bool)])] }
def ref02_named.vc (form' x'_0 : Int) (x'_1 x'_2 : Int) (x'_3 x'_4 : Int) (w : World) (R : Ending → World → Prop) : Prop := ∀ w', w' = w.alloc (Obj.cells #[.int .u8 x'_0, .int .u8 x'_1, .int .u8 x'_2, .int .u8 x'_3,
Value.int .i64 x'_4] 25) →
∃ (J : List Value → World → Prop),
cnd (form' == 1) (J [.bool true] w') (cnd (form' == 2) (J [.bool true] w') (cnd (form' == 3) (J [.bool true] w') (cnd (form' == 4) (J [.bool true] w') (J [.bool (form' == 7)] w')))) ∧
∀ (g : Nat → Value) (rd : Bool) (w' : World),
J [.bool rd] w' →
∃ (J : List Value → World → Prop),
cnd (form' == 1) (J [.bool true] w') (cnd (form' == 2) (J [.bool true] w') (cnd (form' == 3) (J [.bool true] w') (cnd (form' == 5) (J [.bool true] w') (J [.bool (form' == 6)] w')))) ∧
∀ (g : Nat → Value) (rs1 : Bool) (w' : World),
J [.bool rs1] w' →
∃ (J : List Value → World → Prop),
cnd (form' == 1) (J [.bool true] w') (cnd (form' == 5) (J [.bool true] w') (J [.bool (form' == 6)] w')) ∧
∀ (g : Nat → Value) (rs2 : Bool) (w' : World),
J [.bool rs2] w' →
∃ (J : List Value → World → Prop),
cnd (!rd) (∃ (n : Int),
w'.cell? (Addr.mk w.heap.size 1 none) = some (.int .u8 n) ∧
cnd (n != 0) (J [.bool true] w') (cnd (!rs1) (∃ (n : Int),
w'.cell? (Addr.mk w.heap.size 2 none) = some (.int .u8 n) ∧
cnd (n != 0) (J [.bool true] w') (cnd (!rs2) (∃ (n : Int),
w'.cell? (Addr.mk w.heap.size 3 none) = some (.int .u8 n) ∧
cnd (n != 0) (J [.bool true] w') (∃ (n : Int),
w'.cell? (Addr.mk w.heap.size 1 none) = some (.int .u8 n) ∧
cnd (decide (n > 31)) (J [.bool true] w') (∃ (n : Int),
w'.cell? (Addr.mk w.heap.size 2 none) = some (.int .u8 n) ∧
cnd (decide (n > 31)) (J [.bool true] w') (∃ (n : Int),
w'.cell? (Addr.mk w.heap.size 3 none) = some (.int .u8 n) ∧
J [.bool (decide (n > 31))] w')))) (∃ (n : Int),
w'.cell? (Addr.mk w.heap.size 1 none) = some (.int .u8 n) ∧
cnd (decide (n > 31)) (J [.bool true] w') (∃ (n : Int),
w'.cell? (Addr.mk w.heap.size 2 none) = some (.int .u8 n) ∧
cnd (decide (n > 31)) (J [.bool true] w') (∃ (n : Int),
w'.cell? (Addr.mk w.heap.size 3 none) = some (.int .u8 n) ∧
J [.bool (decide (n > 31))] w'))))) (cnd (!rs2) (∃ (n : Int),
w'.cell? (Addr.mk w.heap.size 3 none) = some (.int .u8 n) ∧
cnd (n != 0) (J [.bool true] w') (∃ (n : Int),
w'.cell? (Addr.mk w.heap.size 1 none) = some (.int .u8 n) ∧
cnd (decide (n > 31)) (J [.bool true] w') (∃ (n : Int),
w'.cell? (Addr.mk w.heap.size 2 none) = some (.int .u8 n) ∧
cnd (decide (n > 31)) (J [.bool true] w') (∃ (n : Int),
w'.cell? (Addr.mk w.heap.size 3 none) = some (.int .u8 n) ∧
J [.bool (decide (n > 31))] w')))) (∃ (n : Int),
w'.cell? (Addr.mk w.heap.size 1 none) = some (.int .u8 n) ∧
cnd (decide (n > 31)) (J [.bool true] w') (∃ (n : Int),
w'.cell? (Addr.mk w.heap.size 2 none) = some (.int .u8 n) ∧
cnd (decide (n > 31)) (J [.bool true] w') (∃ (n : Int),
w'.cell? (Addr.mk w.heap.size 3 none) = some (.int .u8 n) ∧
J [.bool (decide (n > 31))] w')))))) (cnd (!rs1) (∃ (n : Int),
w'.cell? (Addr.mk w.heap.size 2 none) = some (.int .u8 n) ∧
cnd (n != 0) (J [.bool true] w') (cnd (!rs2) (∃ (n : Int),
w'.cell? (Addr.mk w.heap.size 3 none) = some (.int .u8 n) ∧
cnd (n != 0) (J [.bool true] w') (∃ (n : Int),
w'.cell? (Addr.mk w.heap.size 1 none) = some (.int .u8 n) ∧
cnd (decide (n > 31)) (J [.bool true] w') (∃ (n : Int),
w'.cell? (Addr.mk w.heap.size 2 none) = some (.int .u8 n) ∧
cnd (decide (n > 31)) (J [.bool true] w') (∃ (n : Int),
w'.cell? (Addr.mk w.heap.size 3 none) = some (.int .u8 n) ∧
J [.bool (decide (n > 31))] w')))) (∃ (n : Int),
w'.cell? (Addr.mk w.heap.size 1 none) = some (.int .u8 n) ∧
cnd (decide (n > 31)) (J [.bool true] w') (∃ (n : Int),
w'.cell? (Addr.mk w.heap.size 2 none) = some (.int .u8 n) ∧
cnd (decide (n > 31)) (J [.bool true] w') (∃ (n : Int),
w'.cell? (Addr.mk w.heap.size 3 none) = some (.int .u8 n) ∧
J [.bool (decide (n > 31))] w'))))) (cnd (!rs2) (∃ (n : Int),
w'.cell? (Addr.mk w.heap.size 3 none) = some (.int .u8 n) ∧
cnd (n != 0) (J [.bool true] w') (∃ (n : Int),
w'.cell? (Addr.mk w.heap.size 1 none) = some (.int .u8 n) ∧
cnd (decide (n > 31)) (J [.bool true] w') (∃ (n : Int),
w'.cell? (Addr.mk w.heap.size 2 none) = some (.int .u8 n) ∧
cnd (decide (n > 31)) (J [.bool true] w') (∃ (n : Int),
w'.cell? (Addr.mk w.heap.size 3 none) = some (.int .u8 n) ∧
J [.bool (decide (n > 31))] w')))) (∃ (n : Int),
w'.cell? (Addr.mk w.heap.size 1 none) = some (.int .u8 n) ∧
cnd (decide (n > 31)) (J [.bool true] w') (∃ (n : Int),
w'.cell? (Addr.mk w.heap.size 2 none) = some (.int .u8 n) ∧
cnd (decide (n > 31)) (J [.bool true] w') (∃ (n : Int),
w'.cell? (Addr.mk w.heap.size 3 none) = some (.int .u8 n) ∧
J [.bool (decide (n > 31))] w'))))) ∧
∀ (g : Nat → Value) (s93 : Bool) (w' : World),
J [.bool s93] w' →
cnd s93 (R (.returned (.bool false)) w') (∃ (J : List Value → World → Prop),
cnd (form' == 2) (J [.bool (form' == 2)] w') (J [.bool (form' == 5)] w') ∧
∀ (g : Nat → Value) (s95 : Bool) (w' : World),
J [.bool s95] w' →
cnd s95 (∃ (n : Int),
w'.cell? (Addr.mk w.heap.size 4 none) = some (.int .i64 n) ∧
Calls Tryz.prog 129 #[.int .i64 n, .int .i64 12] w' fun e w' =>
∃ (b : Bool),
e = .returned (.bool b) ∧
R (.returned (.bool b)) w') (cnd (form' == 3) (∃ (n : Int),
w'.cell? (Addr.mk w.heap.size 4 none) = some (.int .i64 n) ∧
cnd (decide (n ≥ 0)) (∃ (n : Int),
w'.cell? (Addr.mk w.heap.size 4 none) = some (.int .i64 n) ∧
R (.returned (.bool (decide (n ≤ 63)))) w') (R (.returned (.bool false)) w')) (cnd (form' == 4) (∃ (n : Int),
w'.cell? (Addr.mk w.heap.size 4 none) = some (.int .i64 n) ∧
Calls Tryz.prog 129 #[.int .i64 n, .int .i64 32] w' fun e w' =>
∃ (b : Bool),
e = .returned (.bool b) ∧
cnd b (∃ (n : Int),
w'.cell? (Addr.mk w.heap.size 4 none) = some (.int .i64 n) ∧
R (.returned (.bool (n.tmod 4096 == 0))) w') (R (.returned (.bool false)) w')) (cnd (form' == 6) (∃ (n : Int),
w'.cell? (Addr.mk w.heap.size 4 none) = some (.int .i64 n) ∧
Calls Tryz.prog 129 #[.int .i64 n, .int .i64 13] w' fun e w' =>
∃ (b : Bool),
e = .returned (.bool b) ∧
cnd b (∃ (n : Int),
w'.cell? (Addr.mk w.heap.size 4 none) = some (.int .i64 n) ∧
R (.returned (.bool (n.tmod 2 == 0))) w') (R (.returned (.bool false)) w')) (cnd (form' == 7) (∃ (n : Int),
w'.cell? (Addr.mk w.heap.size 4 none) = some (.int .i64 n) ∧
Calls Tryz.prog 129 #[.int .i64 n, .int .i64 21] w' fun e w' =>
∃ (b : Bool),
e = .returned (.bool b) ∧
cnd b (∃ (n : Int),
w'.cell? (Addr.mk w.heap.size 4 none) = some (.int .i64 n) ∧
R (.returned (.bool (n.tmod 2 == 0))) w') (R (.returned (.bool false)) w')) (∃ (n : Int),
w'.cell? (Addr.mk w.heap.size 4 none) = some (.int .i64 n) ∧
R (.returned (.bool (n == 0))) w'))))))
theorem ref02_named.vc_eq (form' x'_0 : Int) (x'_1 x'_2 : Int) (x'_3 x'_4 : Int) (w : World) (R : Ending → World → Prop) : fnV Tryz.prog ref02_named.H 103 [.int .i64 form',
Value.agg #[.int .u8 x'_0, .int .u8 x'_1, .int .u8 x'_2, .int .u8 x'_3,
Value.int .i64 x'_4]] w R = ref02_named.vc form' x'_0 x'_1 x'_2 x'_3 x'_4 w R := by kernel_rfl
theorem ref02_named.calls {form' x'_0 : Int} {x'_1 x'_2 : Int} {x'_3 x'_4 : Int} {w : World} {R : Ending → World → Prop} (h : ref02_named.vc form' x'_0 x'_1 x'_2 x'_3 x'_4 w R) : Calls Tryz.prog 103 ([.int .i64 form',
Value.agg #[.int .u8 x'_0, .int .u8 x'_1, .int .u8 x'_2, .int .u8 x'_3,
Value.int .i64 x'_4]] : List Value).toArray w R := calls_of_eq (ref02_named.vc_eq form' x'_0 x'_1 x'_2 x'_3 x'_4 w R) h

end Go.Proofs.YtcnnnlhoiodeaaaGreat

/-
The explicit conditions of some functions of the program, printed by this repo's own program over VcTop: what is proved is that each is the condition.
Conditions: none.
-/
namespace Go.Proofs.YtcnnnlhoiodeaaaGreat
open Go Go.Vc Go.RowKit
set_option maxRecDepth 100000

/- function 84: sacristy/insn.two -/
abbrev insn_two.N : FuncId := 84
def insn_two.H : Hints := {  }
def insn_two.vc (w : World) (R : Ending → World → Prop) : Prop := ∀ w', w' = w.alloc (Obj.cells #[.bool false, .bool false, .bool false, .int .i64 0, .int .i64 0,
Value.slice none 0 0] 111) →
SetsAt w' (Addr.mk w.heap.size 0 none) 0 [.bool true, .bool true, .bool true, .int .i64 0, .int .i64 0,
Value.slice none 0 0] ∧
∀ w'_1, w'_1 = setCellsAt w' (Addr.mk w.heap.size 0 none) 0 [.bool true, .bool true, .bool true, .int .i64 0, .int .i64 0,
Value.slice none 0 0] →
∃ (b b_1 b_2 : Bool) (n n_1 : Int) (p : Option Addr) (n_2 c : Nat),
(w'_1.cell? (Addr.mk w.heap.size 0 none) = some (.bool b) ∧
w'_1.cell? (Addr.mk w.heap.size 1 none) = some (.bool b_1) ∧
w'_1.cell? (Addr.mk w.heap.size 2 none) = some (.bool b_2) ∧
w'_1.cell? (Addr.mk w.heap.size 3 none) = some (.int .i64 n) ∧
w'_1.cell? (Addr.mk w.heap.size 4 none) = some (.int .i64 n_1) ∧
w'_1.cell? (Addr.mk w.heap.size 5 none) = some (.slice p n_2 c) ∧ True) ∧
R (.returned (.agg #[.bool b, .bool b_1, .bool b_2, .int .i64 n,
Value.int .i64 n_1, .slice p n_2 c])) w'_1
theorem insn_two.calls {w : World} {R : Ending → World → Prop} (h : insn_two.vc w R) : Calls Tryz.prog 84 ([] : List Value).toArray w R := calls_of_eq (show fnV Tryz.prog insn_two.H 84 [] w R = _ from by kernel_rfl) h

/- function 85: sacristy/insn.number -/
abbrev insn_number.N : FuncId := 85
def insn_number.H : Hints := {  }
def insn_number.vc (w : World) (R : Ending → World → Prop) : Prop := ∀ w', w' = w.alloc (Obj.cells #[.bool false, .bool false, .bool false, .int .i64 0, .int .i64 0,
Value.slice none 0 0] 111) →
∀ w'_1, w'_1 = w'.alloc (Obj.cells #[.int .i64 0, .int .i64 11, .int .i64 20] 160) →
SetsAt w'_1 (Addr.mk w.heap.size 0 none) 0 [.bool true, .bool true, .bool false, .int .i64 12, .int .i64 0,
Value.slice (some (Addr.mk w'.heap.size 0 none)) 1 1] ∧
∀ w'_2, w'_2 = setCellsAt w'_1 (Addr.mk w.heap.size 0 none) 0 [.bool true, .bool true, .bool false, .int .i64 12,
Value.int .i64 0, .slice (some (Addr.mk w'.heap.size 0 none)) 1 1] →
∃ (b b_1 b_2 : Bool) (n n_1 : Int) (p : Option Addr) (n_2 c : Nat),
(w'_2.cell? (Addr.mk w.heap.size 0 none) = some (.bool b) ∧
w'_2.cell? (Addr.mk w.heap.size 1 none) = some (.bool b_1) ∧
w'_2.cell? (Addr.mk w.heap.size 2 none) = some (.bool b_2) ∧
w'_2.cell? (Addr.mk w.heap.size 3 none) = some (.int .i64 n) ∧
w'_2.cell? (Addr.mk w.heap.size 4 none) = some (.int .i64 n_1) ∧
w'_2.cell? (Addr.mk w.heap.size 5 none) = some (.slice p n_2 c) ∧ True) ∧
R (.returned (.agg #[.bool b, .bool b_1, .bool b_2, .int .i64 n,
Value.int .i64 n_1, .slice p n_2 c])) w'_2
theorem insn_number.calls {w : World} {R : Ending → World → Prop} (h : insn_number.vc w R) : Calls Tryz.prog 85 ([] : List Value).toArray w R := calls_of_eq (show fnV Tryz.prog insn_number.H 85 [] w R = _ from by kernel_rfl) h

/- function 86: sacristy/insn.shift -/
abbrev insn_shift.N : FuncId := 86
def insn_shift.H : Hints := {  }
def insn_shift.vc (w : World) (R : Ending → World → Prop) : Prop := ∀ w', w' = w.alloc (Obj.cells #[.bool false, .bool false, .bool false, .int .i64 0, .int .i64 0,
Value.slice none 0 0] 111) →
∀ w'_1, w'_1 = w'.alloc (Obj.cells #[.int .i64 0, .int .i64 5, .int .i64 20] 160) →
SetsAt w'_1 (Addr.mk w.heap.size 0 none) 0 [.bool true, .bool true, .bool false, .int .i64 (-1), .int .i64 0,
Value.slice (some (Addr.mk w'.heap.size 0 none)) 1 1] ∧
∀ w'_2, w'_2 = setCellsAt w'_1 (Addr.mk w.heap.size 0 none) 0 [.bool true, .bool true, .bool false, .int .i64 (-1),
Value.int .i64 0, .slice (some (Addr.mk w'.heap.size 0 none)) 1 1] →
∃ (b b_1 b_2 : Bool) (n n_1 : Int) (p : Option Addr) (n_2 c : Nat),
(w'_2.cell? (Addr.mk w.heap.size 0 none) = some (.bool b) ∧
w'_2.cell? (Addr.mk w.heap.size 1 none) = some (.bool b_1) ∧
w'_2.cell? (Addr.mk w.heap.size 2 none) = some (.bool b_2) ∧
w'_2.cell? (Addr.mk w.heap.size 3 none) = some (.int .i64 n) ∧
w'_2.cell? (Addr.mk w.heap.size 4 none) = some (.int .i64 n_1) ∧
w'_2.cell? (Addr.mk w.heap.size 5 none) = some (.slice p n_2 c) ∧ True) ∧
R (.returned (.agg #[.bool b, .bool b_1, .bool b_2, .int .i64 n,
Value.int .i64 n_1, .slice p n_2 c])) w'_2
theorem insn_shift.calls {w : World} {R : Ending → World → Prop} (h : insn_shift.vc w R) : Calls Tryz.prog 86 ([] : List Value).toArray w R := calls_of_eq (show fnV Tryz.prog insn_shift.H 86 [] w R = _ from by kernel_rfl) h

/- function 87: sacristy/insn.large -/
abbrev insn_large.N : FuncId := 87
def insn_large.H : Hints := {  }
def insn_large.vc (w : World) (R : Ending → World → Prop) : Prop := ∀ w', w' = w.alloc (Obj.cells #[.bool false, .bool false, .bool false, .int .i64 0, .int .i64 0,
Value.slice none 0 0] 111) →
∀ w'_1, w'_1 = w'.alloc (Obj.cells #[.int .i64 12, .int .i64 31, .int .i64 12] 160) →
SetsAt w'_1 (Addr.mk w.heap.size 0 none) 0 [.bool true, .bool false, .bool false, .int .i64 32, .int .i64 4096,
Value.slice (some (Addr.mk w'.heap.size 0 none)) 1 1] ∧
∀ w'_2, w'_2 = setCellsAt w'_1 (Addr.mk w.heap.size 0 none) 0 [.bool true, .bool false, .bool false, .int .i64 32,
Value.int .i64 4096, .slice (some (Addr.mk w'.heap.size 0 none)) 1 1] →
∃ (b b_1 b_2 : Bool) (n n_1 : Int) (p : Option Addr) (n_2 c : Nat),
(w'_2.cell? (Addr.mk w.heap.size 0 none) = some (.bool b) ∧
w'_2.cell? (Addr.mk w.heap.size 1 none) = some (.bool b_1) ∧
w'_2.cell? (Addr.mk w.heap.size 2 none) = some (.bool b_2) ∧
w'_2.cell? (Addr.mk w.heap.size 3 none) = some (.int .i64 n) ∧
w'_2.cell? (Addr.mk w.heap.size 4 none) = some (.int .i64 n_1) ∧
w'_2.cell? (Addr.mk w.heap.size 5 none) = some (.slice p n_2 c) ∧ True) ∧
R (.returned (.agg #[.bool b, .bool b_1, .bool b_2, .int .i64 n,
Value.int .i64 n_1, .slice p n_2 c])) w'_2
theorem insn_large.calls {w : World} {R : Ending → World → Prop} (h : insn_large.vc w R) : Calls Tryz.prog 87 ([] : List Value).toArray w R := calls_of_eq (show fnV Tryz.prog insn_large.H 87 [] w R = _ from by kernel_rfl) h

/- function 88: sacristy/insn.store -/
abbrev insn_store.N : FuncId := 88
def insn_store.H : Hints := {  }
def insn_store.vc (w : World) (R : Ending → World → Prop) : Prop := ∀ w', w' = w.alloc (Obj.cells #[.bool false, .bool false, .bool false, .int .i64 0, .int .i64 0,
Value.slice none 0 0] 111) →
∀ w'_1, w'_1 = w'.alloc (Obj.cells #[.int .i64 0, .int .i64 4, .int .i64 7, .int .i64 5,
Value.int .i64 11, .int .i64 25] 160) →
SetsAt w'_1 (Addr.mk w.heap.size 0 none) 0 [.bool false, .bool true, .bool true, .int .i64 12, .int .i64 0,
Value.slice (some (Addr.mk w'.heap.size 0 none)) 2 2] ∧
∀ w'_2, w'_2 = setCellsAt w'_1 (Addr.mk w.heap.size 0 none) 0 [.bool false, .bool true, .bool true, .int .i64 12,
Value.int .i64 0, .slice (some (Addr.mk w'.heap.size 0 none)) 2 2] →
∃ (b b_1 b_2 : Bool) (n n_1 : Int) (p : Option Addr) (n_2 c : Nat),
(w'_2.cell? (Addr.mk w.heap.size 0 none) = some (.bool b) ∧
w'_2.cell? (Addr.mk w.heap.size 1 none) = some (.bool b_1) ∧
w'_2.cell? (Addr.mk w.heap.size 2 none) = some (.bool b_2) ∧
w'_2.cell? (Addr.mk w.heap.size 3 none) = some (.int .i64 n) ∧
w'_2.cell? (Addr.mk w.heap.size 4 none) = some (.int .i64 n_1) ∧
w'_2.cell? (Addr.mk w.heap.size 5 none) = some (.slice p n_2 c) ∧ True) ∧
R (.returned (.agg #[.bool b, .bool b_1, .bool b_2, .int .i64 n,
Value.int .i64 n_1, .slice p n_2 c])) w'_2
theorem insn_store.calls {w : World} {R : Ending → World → Prop} (h : insn_store.vc w R) : Calls Tryz.prog 88 ([] : List Value).toArray w R := calls_of_eq (show fnV Tryz.prog insn_store.H 88 [] w R = _ from by kernel_rfl) h

/- function 89: sacristy/insn.branch -/
abbrev insn_branch.N : FuncId := 89
def insn_branch.H : Hints := {  }
def insn_branch.vc (w : World) (R : Ending → World → Prop) : Prop := ∀ w', w' = w.alloc (Obj.cells #[.bool false, .bool false, .bool false, .int .i64 0, .int .i64 0,
Value.slice none 0 0] 111) →
∀ w'_1, w'_1 = w'.alloc (Obj.cells #[.int .i64 11, .int .i64 11, .int .i64 7, .int .i64 1,
Value.int .i64 4, .int .i64 8, .int .i64 5, .int .i64 10,
Value.int .i64 25, .int .i64 12, .int .i64 12, .int .i64 31] 160) →
SetsAt w'_1 (Addr.mk w.heap.size 0 none) 0 [.bool false, .bool true, .bool true, .int .i64 13, .int .i64 2,
Value.slice (some (Addr.mk w'.heap.size 0 none)) 4 4] ∧
∀ w'_2, w'_2 = setCellsAt w'_1 (Addr.mk w.heap.size 0 none) 0 [.bool false, .bool true, .bool true, .int .i64 13,
Value.int .i64 2, .slice (some (Addr.mk w'.heap.size 0 none)) 4 4] →
∃ (b b_1 b_2 : Bool) (n n_1 : Int) (p : Option Addr) (n_2 c : Nat),
(w'_2.cell? (Addr.mk w.heap.size 0 none) = some (.bool b) ∧
w'_2.cell? (Addr.mk w.heap.size 1 none) = some (.bool b_1) ∧
w'_2.cell? (Addr.mk w.heap.size 2 none) = some (.bool b_2) ∧
w'_2.cell? (Addr.mk w.heap.size 3 none) = some (.int .i64 n) ∧
w'_2.cell? (Addr.mk w.heap.size 4 none) = some (.int .i64 n_1) ∧
w'_2.cell? (Addr.mk w.heap.size 5 none) = some (.slice p n_2 c) ∧ True) ∧
R (.returned (.agg #[.bool b, .bool b_1, .bool b_2, .int .i64 n,
Value.int .i64 n_1, .slice p n_2 c])) w'_2
theorem insn_branch.calls {w : World} {R : Ending → World → Prop} (h : insn_branch.vc w R) : Calls Tryz.prog 89 ([] : List Value).toArray w R := calls_of_eq (show fnV Tryz.prog insn_branch.H 89 [] w R = _ from by kernel_rfl) h

/- function 90: sacristy/insn.jump -/
abbrev insn_jump.N : FuncId := 90
def insn_jump.H : Hints := {  }
def insn_jump.vc (w : World) (R : Ending → World → Prop) : Prop := ∀ w', w' = w.alloc (Obj.cells #[.bool false, .bool false, .bool false, .int .i64 0, .int .i64 0,
Value.slice none 0 0] 111) →
∀ w'_1, w'_1 = w'.alloc (Obj.cells #[.int .i64 12, .int .i64 19, .int .i64 12, .int .i64 11,
Value.int .i64 11, .int .i64 20, .int .i64 1, .int .i64 10,
Value.int .i64 21, .int .i64 20, .int .i64 20, .int .i64 31] 160) →
SetsAt w'_1 (Addr.mk w.heap.size 0 none) 0 [.bool true, .bool false, .bool false, .int .i64 21, .int .i64 2,
Value.slice (some (Addr.mk w'.heap.size 0 none)) 4 4] ∧
∀ w'_2, w'_2 = setCellsAt w'_1 (Addr.mk w.heap.size 0 none) 0 [.bool true, .bool false, .bool false, .int .i64 21,
Value.int .i64 2, .slice (some (Addr.mk w'.heap.size 0 none)) 4 4] →
∃ (b b_1 b_2 : Bool) (n n_1 : Int) (p : Option Addr) (n_2 c : Nat),
(w'_2.cell? (Addr.mk w.heap.size 0 none) = some (.bool b) ∧
w'_2.cell? (Addr.mk w.heap.size 1 none) = some (.bool b_1) ∧
w'_2.cell? (Addr.mk w.heap.size 2 none) = some (.bool b_2) ∧
w'_2.cell? (Addr.mk w.heap.size 3 none) = some (.int .i64 n) ∧
w'_2.cell? (Addr.mk w.heap.size 4 none) = some (.int .i64 n_1) ∧
w'_2.cell? (Addr.mk w.heap.size 5 none) = some (.slice p n_2 c) ∧ True) ∧
R (.returned (.agg #[.bool b, .bool b_1, .bool b_2, .int .i64 n,
Value.int .i64 n_1, .slice p n_2 c])) w'_2
theorem insn_jump.calls {w : World} {R : Ending → World → Prop} (h : insn_jump.vc w R) : Calls Tryz.prog 90 ([] : List Value).toArray w R := calls_of_eq (show fnV Tryz.prog insn_jump.H 90 [] w R = _ from by kernel_rfl) h

/- function 91: (sacristy/insn.form).fits -/
abbrev sacristy_insn_form_fits.N : FuncId := 91
def sacristy_insn_form_fits.H : Hints := {  }
def sacristy_insn_form_fits.vc (f'_0 f'_1 f'_2 : Bool) (f'_3 f'_4 : Int) (f'_5 : Option Addr) (f'_5n f'_5c : Nat) (x'_0 x'_1 : Int) (x'_2 x'_3 x'_4 : Int) (w : World) (R : Ending → World → Prop) : Prop := ∀ w', w' = w.alloc (Obj.cells #[.bool f'_0, .bool f'_1, .bool f'_2, .int .i64 f'_3, .int .i64 f'_4,
Value.slice f'_5 f'_5n f'_5c] 111) →
∀ w'_1, w'_1 = w'.alloc (Obj.cells #[.int .u8 x'_0, .int .u8 x'_1, .int .u8 x'_2,
Value.int .u8 x'_3, .int .i64 x'_4] 25) →
∃ (n : Int),
w'_1.cell? (Addr.mk w.heap.size 3 none) = some (.int .i64 n) ∧
cnd (decide (n < 0)) (∃ (n : Int),
w'_1.cell? (Addr.mk w'.heap.size 4 none) = some (.int .i64 n) ∧
cnd (decide (n ≥ 0)) (∃ (n : Int),
w'_1.cell? (Addr.mk w'.heap.size 4 none) = some (.int .i64 n) ∧
R (.returned (.bool (decide (n < 64)))) w'_1) (R (.returned (.bool false)) w'_1)) (∃ (n : Int),
w'_1.cell? (Addr.mk w.heap.size 3 none) = some (.int .i64 n) ∧
cnd (n == 0) (∃ (n : Int),
w'_1.cell? (Addr.mk w'.heap.size 4 none) = some (.int .i64 n) ∧
R (.returned (.bool (n == 0))) w'_1) (∃ (n : Int),
w'_1.cell? (Addr.mk w'.heap.size 4 none) = some (.int .i64 n) ∧
∃ (n_1 : Int),
w'_1.cell? (Addr.mk w.heap.size 3 none) = some (.int .i64 n_1) ∧
Calls Tryz.prog 120 #[.int .i64 n, .int .i64 n_1] w'_1 fun e w'_2 =>
∃ (b : Bool),
e = .returned (.bool b) ∧
cnd b (∃ (n : Int),
w'_2.cell? (Addr.mk w.heap.size 4 none) = some (.int .i64 n) ∧
cnd (n == 0) (R (.returned (.bool true)) w'_2) (∃ (n : Int),
w'_2.cell? (Addr.mk w'.heap.size 4 none) = some (.int .i64 n) ∧
∃ (n_2 : Int),
w'_2.cell? (Addr.mk w.heap.size 4 none) = some (.int .i64 n_2) ∧
cnd (decide (n_2 = 0)) False (R (.returned (.bool (n.tmod n_2 == 0))) w'_2))) (R (.returned (.bool false)) w'_2)))
theorem sacristy_insn_form_fits.vc_eq (f'_0 f'_1 f'_2 : Bool) (f'_3 f'_4 : Int) (f'_5 : Option Addr) (f'_5n f'_5c : Nat) (x'_0 x'_1 : Int) (x'_2 x'_3 x'_4 : Int) (w : World) (R : Ending → World → Prop) : fnV Tryz.prog sacristy_insn_form_fits.H 91 [.agg #[.bool f'_0, .bool f'_1, .bool f'_2, .int .i64 f'_3, .int .i64 f'_4,
Value.slice f'_5 f'_5n f'_5c],
Value.agg #[.int .u8 x'_0, .int .u8 x'_1, .int .u8 x'_2, .int .u8 x'_3,
Value.int .i64 x'_4]] w R = sacristy_insn_form_fits.vc f'_0 f'_1 f'_2 f'_3 f'_4 f'_5 f'_5n f'_5c x'_0 x'_1 x'_2 x'_3 x'_4 w R := by kernel_rfl
theorem sacristy_insn_form_fits.calls {f'_0 f'_1 f'_2 : Bool} {f'_3 f'_4 : Int} {f'_5 : Option Addr} {f'_5n f'_5c : Nat} {x'_0 x'_1 : Int} {x'_2 x'_3 x'_4 : Int} {w : World} {R : Ending → World → Prop} (h : sacristy_insn_form_fits.vc f'_0 f'_1 f'_2 f'_3 f'_4 f'_5 f'_5n f'_5c x'_0 x'_1 x'_2 x'_3 x'_4 w R) : Calls Tryz.prog 91 ([.agg #[.bool f'_0, .bool f'_1, .bool f'_2, .int .i64 f'_3, .int .i64 f'_4,
Value.slice f'_5 f'_5n f'_5c],
Value.agg #[.int .u8 x'_0, .int .u8 x'_1, .int .u8 x'_2, .int .u8 x'_3,
Value.int .i64 x'_4]] : List Value).toArray w R := calls_of_eq (sacristy_insn_form_fits.vc_eq f'_0 f'_1 f'_2 f'_3 f'_4 f'_5 f'_5n f'_5c x'_0 x'_1 x'_2 x'_3 x'_4 w R) h

/- function 46: sacristy/insn.laid -/
abbrev insn_laid.N : FuncId := 46
def insn_laid.H : Hints := { loops := [(3, [(4, .one (.int .u32)), (10, .one (.int .i64))])] }
def insn_laid.vc (v' : Int) (spans' : Option Addr) (spans'n spans'c : Nat) (w : World) (R : Ending → World → Prop) : Prop := ∃ (I : List Value → World → Prop) (μ : List Value → World → Nat),
I [.int .u32 0, .int .i64 0] w ∧
∀ (g : Nat → Value) (w s10 : Int) (w' : World),
I [.int .u32 w, .int .i64 s10] w' →
cnd (decide (s10 < (↑spans'n : Int))) ((0 ≤ s10 ∧ s10 < (↑spans'n : Int)) ∧
Deref spans' fun a =>
∃ (n n_1 n_2 : Int),
(w'.cell? (a.add (s10.toNat * 3)) = some (.int .i64 n) ∧
w'.cell? ((a.add (s10.toNat * 3)).add 1) = some (.int .i64 n_1) ∧
w'.cell? ((a.add (s10.toNat * 3)).add 2) = some (.int .i64 n_2) ∧ True) ∧
∀ w'_1, w'_1 = w'.alloc (Obj.cells #[.int .i64 0, .int .i64 0, .int .i64 0] 160) →
SetsAt w'_1 (Addr.mk w'.heap.size 0 none) 0 [.int .i64 n, .int .i64 n_1, .int .i64 n_2] ∧
∀ w'_2, w'_2 = setCellsAt w'_1 (Addr.mk w'.heap.size 0 none) 0 [.int .i64 n, .int .i64 n_1, .int .i64 n_2] →
∃ (n : Int),
w'_2.cell? (Addr.mk w'.heap.size 1 none) = some (.int .i64 n) ∧
∃ (n_3 : Int),
w'_2.cell? (Addr.mk w'.heap.size 0 none) = some (.int .i64 n_3) ∧
cnd (decide (IntKind.i64.wrap (IntKind.i64.wrap (n - n_3) + 1) < 0)) False (∃ (n_4 : Int),
(∀ w'_3, Later w'_2 w'_3 →
w'_3.cell? (Addr.mk w'.heap.size 0 none) = some (.int .i64 n_4)) ∧
cnd (decide (n_4 < 0)) False (∃ (n_5 : Int),
(∀ w'_3, Later w'_2 w'_3 →
w'_3.cell? (Addr.mk w'.heap.size 2 none) = some (.int .i64 n_5)) ∧
cnd (decide (n_5 < 0)) False (∀ w'_3, Later w'_2 w'_3 →
Goes I μ [.int .u32 w, .int .i64 s10] w' [.int .u32 (bits BinOp.or .u32 w (IntKind.u32.wrap (IntKind.u32.wrap (bits BinOp.and .u64 ((IntKind.u64.wrap v').fdiv (2 ^ min n_4.toNat 64)) (IntKind.u64.wrap (IntKind.u64.wrap (1 * 2 ^ min (IntKind.i64.wrap (IntKind.i64.wrap (n - n_3) + 1)).toNat 64) - 1))) * 2 ^ min n_5.toNat 32))),
Value.int .i64 (IntKind.i64.wrap (s10 + 1))] w'_3)))) (R (.returned (.int .u32 w)) w')
theorem insn_laid.calls {v' : Int} {spans' : Option Addr} {spans'n spans'c : Nat} {w : World} {R : Ending → World → Prop} (h : insn_laid.vc v' spans' spans'n spans'c w R) : Calls Tryz.prog 46 ([.int .i64 v', .slice spans' spans'n spans'c] : List Value).toArray w R := calls_of_eq (show fnV Tryz.prog insn_laid.H 46 [.int .i64 v', .slice spans' spans'n spans'c] w R = _ from by kernel_rfl) h

/- function 13: sacristy/insn.Encode -/
abbrev insn_Encode.N : FuncId := 13
def insn_Encode.H : Hints := {  }
def insn_Encode.vc (x'_0 x'_1 : Int) (x'_2 x'_3 x'_4 : Int) (w : World) (R : Ending → World → Prop) : Prop := ∀ w', w' = w.alloc (Obj.cells #[.int .u8 x'_0, .int .u8 x'_1, .int .u8 x'_2, .int .u8 x'_3,
Value.int .i64 x'_4] 25) →
Calls Tryz.prog 44 #[] w' fun e w' =>
∃ (cs : Array Value),
cs.size = 315 ∧
e = .returned (.agg cs) ∧
∀ w'_1, w'_1 = w'.alloc (Obj.cells #[.int .u32 0, .int .u32 0, .int .u32 0, .bool false,
Value.bool false, .bool false, .int .i64 0, .int .i64 0,
Value.slice none 0 0, .int .u32 0, .int .u32 0, .int .u32 0,
Value.bool false, .bool false, .bool false, .int .i64 0,
Value.int .i64 0, .slice none 0 0, .int .u32 0, .int .u32 0,
Value.int .u32 0, .bool false, .bool false, .bool false,
Value.int .i64 0, .int .i64 0, .slice none 0 0, .int .u32 0,
Value.int .u32 0, .int .u32 0, .bool false, .bool false,
Value.bool false, .int .i64 0, .int .i64 0, .slice none 0 0,
Value.int .u32 0, .int .u32 0, .int .u32 0, .bool false,
Value.bool false, .bool false, .int .i64 0, .int .i64 0,
Value.slice none 0 0, .int .u32 0, .int .u32 0, .int .u32 0,
Value.bool false, .bool false, .bool false, .int .i64 0,
Value.int .i64 0, .slice none 0 0, .int .u32 0, .int .u32 0,
Value.int .u32 0, .bool false, .bool false, .bool false,
Value.int .i64 0, .int .i64 0, .slice none 0 0, .int .u32 0,
Value.int .u32 0, .int .u32 0, .bool false, .bool false,
Value.bool false, .int .i64 0, .int .i64 0, .slice none 0 0,
Value.int .u32 0, .int .u32 0, .int .u32 0, .bool false,
Value.bool false, .bool false, .int .i64 0, .int .i64 0,
Value.slice none 0 0, .int .u32 0, .int .u32 0, .int .u32 0,
Value.bool false, .bool false, .bool false, .int .i64 0,
Value.int .i64 0, .slice none 0 0, .int .u32 0, .int .u32 0,
Value.int .u32 0, .bool false, .bool false, .bool false,
Value.int .i64 0, .int .i64 0, .slice none 0 0, .int .u32 0,
Value.int .u32 0, .int .u32 0, .bool false, .bool false,
Value.bool false, .int .i64 0, .int .i64 0, .slice none 0 0,
Value.int .u32 0, .int .u32 0, .int .u32 0, .bool false,
Value.bool false, .bool false, .int .i64 0, .int .i64 0,
Value.slice none 0 0, .int .u32 0, .int .u32 0, .int .u32 0,
Value.bool false, .bool false, .bool false, .int .i64 0,
Value.int .i64 0, .slice none 0 0, .int .u32 0, .int .u32 0,
Value.int .u32 0, .bool false, .bool false, .bool false,
Value.int .i64 0, .int .i64 0, .slice none 0 0, .int .u32 0,
Value.int .u32 0, .int .u32 0, .bool false, .bool false,
Value.bool false, .int .i64 0, .int .i64 0, .slice none 0 0,
Value.int .u32 0, .int .u32 0, .int .u32 0, .bool false,
Value.bool false, .bool false, .int .i64 0, .int .i64 0,
Value.slice none 0 0, .int .u32 0, .int .u32 0, .int .u32 0,
Value.bool false, .bool false, .bool false, .int .i64 0,
Value.int .i64 0, .slice none 0 0, .int .u32 0, .int .u32 0,
Value.int .u32 0, .bool false, .bool false, .bool false,
Value.int .i64 0, .int .i64 0, .slice none 0 0, .int .u32 0,
Value.int .u32 0, .int .u32 0, .bool false, .bool false,
Value.bool false, .int .i64 0, .int .i64 0, .slice none 0 0,
Value.int .u32 0, .int .u32 0, .int .u32 0, .bool false,
Value.bool false, .bool false, .int .i64 0, .int .i64 0,
Value.slice none 0 0, .int .u32 0, .int .u32 0, .int .u32 0,
Value.bool false, .bool false, .bool false, .int .i64 0,
Value.int .i64 0, .slice none 0 0, .int .u32 0, .int .u32 0,
Value.int .u32 0, .bool false, .bool false, .bool false,
Value.int .i64 0, .int .i64 0, .slice none 0 0, .int .u32 0,
Value.int .u32 0, .int .u32 0, .bool false, .bool false,
Value.bool false, .int .i64 0, .int .i64 0, .slice none 0 0,
Value.int .u32 0, .int .u32 0, .int .u32 0, .bool false,
Value.bool false, .bool false, .int .i64 0, .int .i64 0,
Value.slice none 0 0, .int .u32 0, .int .u32 0, .int .u32 0,
Value.bool false, .bool false, .bool false, .int .i64 0,
Value.int .i64 0, .slice none 0 0, .int .u32 0, .int .u32 0,
Value.int .u32 0, .bool false, .bool false, .bool false,
Value.int .i64 0, .int .i64 0, .slice none 0 0, .int .u32 0,
Value.int .u32 0, .int .u32 0, .bool false, .bool false,
Value.bool false, .int .i64 0, .int .i64 0, .slice none 0 0,
Value.int .u32 0, .int .u32 0, .int .u32 0, .bool false,
Value.bool false, .bool false, .int .i64 0, .int .i64 0,
Value.slice none 0 0, .int .u32 0, .int .u32 0, .int .u32 0,
Value.bool false, .bool false, .bool false, .int .i64 0,
Value.int .i64 0, .slice none 0 0, .int .u32 0, .int .u32 0,
Value.int .u32 0, .bool false, .bool false, .bool false,
Value.int .i64 0, .int .i64 0, .slice none 0 0, .int .u32 0,
Value.int .u32 0, .int .u32 0, .bool false, .bool false,
Value.bool false, .int .i64 0, .int .i64 0, .slice none 0 0,
Value.int .u32 0, .int .u32 0, .int .u32 0, .bool false,
Value.bool false, .bool false, .int .i64 0, .int .i64 0,
Value.slice none 0 0, .int .u32 0, .int .u32 0, .int .u32 0,
Value.bool false, .bool false, .bool false, .int .i64 0,
Value.int .i64 0, .slice none 0 0, .int .u32 0, .int .u32 0,
Value.int .u32 0, .bool false, .bool false, .bool false,
Value.int .i64 0, .int .i64 0, .slice none 0 0] 114) →
cnd (decide (cs.size = 315)) (SetsAt w'_1 (Addr.mk w'.heap.size 0 none) 0 cs.toList ∧
∀ w'_2, w'_2 = setCellsAt w'_1 (Addr.mk w'.heap.size 0 none) 0 cs.toList →
∃ (n : Int),
(∀ w', Later w'_2 w' → w'.cell? (Addr.mk w.heap.size 0 none) = some (.int .u8 n)) ∧
cnd (decide (IntKind.i64.wrap n ≥ 35)) (∀ w', Later w'_2 w' →
R (.returned (.tuple #[.int .u32 0, .int .i64 2])) w') (∃ (n : Int),
(∀ w', Later w'_2 w' →
w'.cell? (Addr.mk w.heap.size 0 none) = some (.int .u8 n)) ∧
(0 ≤ n ∧ n < 35) ∧
∃ (n_1 : Int),
(∀ w'_3, Later w'_2 w'_3 →
w'_3.cell? ((Addr.mk w'.heap.size 0 none).add (n.toNat * 9)) = some (.int .u32 n_1)) ∧
cnd (n_1 == 0) (∀ w', Later w'_2 w' →
R (.returned (.tuple #[.int .u32 0, .int .i64 2])) w') (∃ (n : Int),
(∀ w', Later w'_2 w' →
w'.cell? (Addr.mk w.heap.size 0 none) = some (.int .u8 n)) ∧
(0 ≤ n ∧ n < 35) ∧
∃ (b b_1 b_2 : Bool) (n_2 n_3 : Int) (p : Option Addr) (n_4 c : Nat),
(∀ w'_3, Later w'_2 w'_3 →
w'_3.cell? (((Addr.mk w'.heap.size 0 none).add (n.toNat * 9)).add 3) = some (.bool b) ∧
w'_3.cell? ((((Addr.mk w'.heap.size 0 none).add (n.toNat * 9)).add 3).add 1) = some (.bool b_1) ∧
w'_3.cell? ((((Addr.mk w'.heap.size 0 none).add (n.toNat * 9)).add 3).add 2) = some (.bool b_2) ∧
w'_3.cell? ((((Addr.mk w'.heap.size 0 none).add (n.toNat * 9)).add 3).add 3) = some (.int .i64 n_2) ∧
w'_3.cell? ((((Addr.mk w'.heap.size 0 none).add (n.toNat * 9)).add 3).add 4) = some (.int .i64 n_3) ∧
w'_3.cell? ((((Addr.mk w'.heap.size 0 none).add (n.toNat * 9)).add 3).add 5) = some (.slice p n_4 c) ∧
True) ∧
∃ (n n_5 : Int) (n_6 n_7 n_8 : Int),
(∀ w', Later w'_2 w' →
w'.cell? (Addr.mk w.heap.size 0 none) = some (.int .u8 n) ∧
w'.cell? (Addr.mk w.heap.size 1 none) = some (.int .u8 n_5) ∧
w'.cell? (Addr.mk w.heap.size 2 none) = some (.int .u8 n_6) ∧
w'.cell? (Addr.mk w.heap.size 3 none) = some (.int .u8 n_7) ∧
w'.cell? (Addr.mk w.heap.size 4 none) = some (.int .i64 n_8) ∧
True) ∧
∃ (b_3 : Bool),
(∀ w', Later w'_2 w' →
Calls Tryz.prog 45 #[.agg #[.bool b,
Value.bool b_1,
Value.bool b_2,
Value.int .i64 n_2,
Value.int .i64 n_3,
Value.slice p n_4 c],
Value.agg #[.int .u8 n,
Value.int .u8 n_5,
Value.int .u8 n_6,
Value.int .u8 n_7,
Value.int .i64 n_8]] w' fun e w'' =>
e = .returned (.bool b_3) ∧
Later w' w'') ∧
∀ w'_3, Later w'_2 w'_3 →
cnd (!b_3) (R (.returned (.tuple #[.int .u32 0,
Value.int .i64 2])) w'_3) (∃ (n : Int),
w'_3.cell? (Addr.mk w.heap.size 0 none) = some (.int .u8 n) ∧
(0 ≤ n ∧ n < 35) ∧
∃ (n_9 n_10 n_11 : Int) (b b_4 b_5 : Bool) (n_12 n_13 : Int) (p : Option Addr) (n_14 c : Nat),
(w'_3.cell? ((Addr.mk w'.heap.size 0 none).add (n.toNat * 9)) = some (.int .u32 n_9) ∧
w'_3.cell? (((Addr.mk w'.heap.size 0 none).add (n.toNat * 9)).add 1) = some (.int .u32 n_10) ∧
w'_3.cell? (((Addr.mk w'.heap.size 0 none).add (n.toNat * 9)).add 2) = some (.int .u32 n_11) ∧
w'_3.cell? (((Addr.mk w'.heap.size 0 none).add (n.toNat * 9)).add 3) = some (.bool b) ∧
w'_3.cell? (((Addr.mk w'.heap.size 0 none).add (n.toNat * 9)).add 4) = some (.bool b_4) ∧
w'_3.cell? (((Addr.mk w'.heap.size 0 none).add (n.toNat * 9)).add 5) = some (.bool b_5) ∧
w'_3.cell? (((Addr.mk w'.heap.size 0 none).add (n.toNat * 9)).add 6) = some (.int .i64 n_12) ∧
w'_3.cell? (((Addr.mk w'.heap.size 0 none).add (n.toNat * 9)).add 7) = some (.int .i64 n_13) ∧
w'_3.cell? (((Addr.mk w'.heap.size 0 none).add (n.toNat * 9)).add 8) = some (.slice p n_14 c) ∧
True) ∧
∀ w', w' = w'_3.alloc (Obj.cells #[.int .u32 0,
Value.int .u32 0,
Value.int .u32 0,
Value.bool false,
Value.bool false,
Value.bool false,
Value.int .i64 0,
Value.int .i64 0,
Value.slice none 0 0] 113) →
SetsAt w' (Addr.mk w'_3.heap.size 0 none) 0 [.int .u32 n_9,
Value.int .u32 n_10,
Value.int .u32 n_11,
Value.bool b,
Value.bool b_4,
Value.bool b_5,
Value.int .i64 n_12,
Value.int .i64 n_13,
Value.slice p n_14 c] ∧
∀ w'_4, w'_4 = setCellsAt w' (Addr.mk w'_3.heap.size 0 none) 0 [.int .u32 n_9,
Value.int .u32 n_10,
Value.int .u32 n_11,
Value.bool b,
Value.bool b_4,
Value.bool b_5,
Value.int .i64 n_12,
Value.int .i64 n_13,
Value.slice p n_14 c] →
∃ (n : Int),
w'_4.cell? (Addr.mk w.heap.size 1 none) = some (.int .u8 n) ∧
∃ (n_15 : Int),
w'_4.cell? (Addr.mk w.heap.size 2 none) = some (.int .u8 n_15) ∧
∃ (n_16 : Int),
w'_4.cell? (Addr.mk w.heap.size 3 none) = some (.int .u8 n_16) ∧
∃ (n_17 : Int),
(∀ w', Later w'_4 w' →
w'.cell? (Addr.mk w'_3.heap.size 0 none) = some (.int .u32 n_17)) ∧
∃ (n_18 : Int),
(∀ w', Later w'_4 w' →
w'.cell? (Addr.mk w'_3.heap.size 1 none) = some (.int .u32 n_18)) ∧
∃ (n_19 : Int),
(∀ w', Later w'_4 w' →
w'.cell? (Addr.mk w'_3.heap.size 2 none) = some (.int .u32 n_19)) ∧
∃ (n_20 : Int),
(∀ w', Later w'_4 w' →
w'.cell? (Addr.mk w.heap.size 4 none) = some (.int .i64 n_20)) ∧
∃ (p : Option Addr) (n_21 c : Nat),
(∀ w', Later w'_4 w' →
w'.cell? (Addr.mk w'_3.heap.size 8 none) = some (.slice p n_21 c)) ∧
∃ (n_22 : Int),
(∀ w', Later w'_4 w' →
Calls Tryz.prog 46 #[.int .i64 n_20,
Value.slice p n_21 c] w' fun e w'' =>
e = .returned (.int .u32 n_22) ∧
Later w' w'') ∧
∀ w', Later w'_4 w' →
R (.returned (.tuple #[.int .u32 (bits BinOp.or .u32 (bits BinOp.or .u32 (bits BinOp.or .u32 (bits BinOp.or .u32 n_17 (IntKind.u32.wrap (n_18 * 4096))) (IntKind.u32.wrap (n_19 * 33554432))) (bits BinOp.or .u32 (bits BinOp.or .u32 (IntKind.u32.wrap (IntKind.u32.wrap n * 128)) (IntKind.u32.wrap (IntKind.u32.wrap n_15 * 32768))) (IntKind.u32.wrap (IntKind.u32.wrap n_16 * 1048576)))) n_22),
Value.int .i64 0])) w')))) False
theorem insn_Encode.vc_eq (x'_0 x'_1 : Int) (x'_2 x'_3 x'_4 : Int) (w : World) (R : Ending → World → Prop) : fnV Tryz.prog insn_Encode.H 13 [.agg #[.int .u8 x'_0, .int .u8 x'_1, .int .u8 x'_2, .int .u8 x'_3,
Value.int .i64 x'_4]] w R = insn_Encode.vc x'_0 x'_1 x'_2 x'_3 x'_4 w R := by kernel_rfl
theorem insn_Encode.calls {x'_0 x'_1 : Int} {x'_2 x'_3 x'_4 : Int} {w : World} {R : Ending → World → Prop} (h : insn_Encode.vc x'_0 x'_1 x'_2 x'_3 x'_4 w R) : Calls Tryz.prog 13 ([.agg #[.int .u8 x'_0, .int .u8 x'_1, .int .u8 x'_2, .int .u8 x'_3,
Value.int .i64 x'_4]] : List Value).toArray w R := calls_of_eq (insn_Encode.vc_eq x'_0 x'_1 x'_2 x'_3 x'_4 w R) h

end Go.Proofs.YtcnnnlhoiodeaaaGreat

/-
Small laws for the conditions that VcTop makes: worlds that go on, new blocks, wraps.
Conditions: none; all is proved over any program.
-/
namespace Go.Vc
open Go.RowKit

/-! ### worlds that go on -/
theorem Later.refl (w : World) : Later w w := Below.refl _ _
theorem Later.trans {a b c : World} (h : Later a b) (k : Later b c) : Later a c := Below.trans h (Below.mono k h.size)
theorem Later.size {a b : World} (h : Later a b) : a.heap.size ≤ b.heap.size := Below.size h
theorem Later.alloc {a b : World} (h : Later a b) (o : Obj) : Later a (b.alloc o) := Below.alloc h h.size o
theorem Later.alloc' (w : World) (o : Obj) : Later w (w.alloc o) := (Later.refl w).alloc o
theorem Later.setCell {a b : World} (h : Later a b) {p : Addr} (hp : a.heap.size ≤ p.block) (v : Value) : Later a (b.setCell p v) := Below.setCell h hp v
theorem Later.cell {a b : World} (h : Later a b) {p : Addr} (hp : p.block < a.heap.size) : b.cell? p = a.cell? p := Below.cell h hp
theorem Later.cell_some {a b : World} (h : Later a b) {p : Addr} {v : Value} (hv : a.cell? p = some v) : b.cell? p = some v := by
  rw [h.cell (World.block_lt_of_cell? a p hv)]; exact hv
theorem Later.block {a b : World} (h : Later a b) {k : Nat} (hk : k < a.heap.size) : b.heap[k]? = a.heap[k]? := Below.block h k hk
/-! ### a new block -/
theorem setCell_alloc (w : World) (cs : Array Value) (t : TypeId) (fr : Nat × Nat) (k : Nat) (v : Value) : (w.alloc (.cells cs t fr)).setCell ⟨w.heap.size, k, none⟩ v = w.alloc (.cells (cs.setIfInBounds k v) t fr) := by
  simp only [World.alloc, World.setCell]
  congr 1
  apply Array.ext_getElem?
  intro i
  rw [Array.getElem?_modify, Array.getElem?_push, Array.getElem?_push]
  by_cases hi : i = w.heap.size
  · subst hi; simp
  · have : ¬ w.heap.size = i := fun h => hi h.symm
    simp [hi, this]
theorem add_block (b o k : Nat) : (Addr.mk b o none).add k = Addr.mk b (o + k) none := by
  unfold Addr.add
  split
  · rename_i h; subst h; rfl
  · rfl
theorem setCellsAt_alloc (w : World) (t : TypeId) (fr : Nat × Nat) : ∀ (l : List Value) (cs : List Value) (i : Nat), i + l.length ≤ cs.length →
    setCellsAt (w.alloc (.cells cs.toArray t fr)) ⟨w.heap.size, 0, none⟩ i l = w.alloc (.cells (cs.take i ++ l ++ cs.drop (i + l.length)).toArray t fr) := by
  intro l
  induction l with
  | nil => intro cs i h; simp [setCellsAt]
  | cons v l ih =>
    intro cs i h
    simp only [List.length_cons] at h
    simp only [setCellsAt, add_block, Nat.zero_add]
    rw [setCell_alloc]
    rw [show (cs.toArray.setIfInBounds i v) = (cs.set i v).toArray by simp]
    rw [ih _ _ (by simp; omega)]
    congr 3
    rw [List.length_cons]
    have h1 : (cs.set i v).take (i + 1) = cs.take i ++ [v] := by
      rw [List.take_add_one]
      rw [List.take_set_of_le (Nat.le_refl _)]
      simp [List.getElem?_set, show i < cs.length by omega]
    have h2 : (cs.set i v).drop (i + 1 + l.length) = cs.drop (i + (l.length + 1)) := by
      rw [List.drop_set_of_lt (by omega)]
      congr 1; omega
    rw [h1, h2]
    simp
theorem setCellsAt_new (w : World) (t : TypeId) (fr : Nat × Nat) {l : List Value} {cs : Array Value} (h : l.length = cs.size) :
    setCellsAt (w.alloc (.cells cs t fr)) ⟨w.heap.size, 0, none⟩ 0 l = w.alloc (.cells l.toArray t fr) := by
  have := setCellsAt_alloc w t fr l cs.toList 0 (by simp; omega)
  simp only [Array.toArray_toList] at this
  rw [this]
  have hd : List.drop (0 + l.length) cs.toList = [] := List.drop_eq_nil_of_le (by simp; omega)
  rw [hd]
  simp
theorem cell_new (w : World) (cs : Array Value) (t : TypeId) (fr : Nat × Nat) (k : Nat) : (w.alloc (.cells cs t fr)).cell? ⟨w.heap.size, k, none⟩ = cs[k]? := by
  simp only [World.alloc, World.cell?, Array.getElem?_push_size]
  rfl
theorem frozen_new (w : World) (cs : Array Value) (t : TypeId) (k : Nat) : (w.alloc (.cells cs t)).frozen? ⟨w.heap.size, k, none⟩ = false := by
  simp only [World.alloc, World.frozen?, Array.getElem?_push_size]
  simp
theorem SetsAt_new (w : World) (t : TypeId) {cs : Array Value} : ∀ (l : List Value) (i : Nat), i + l.length ≤ cs.size → (∀ v, v ∈ l → v.oneCell' = true) → SetsAt (w.alloc (.cells cs t)) ⟨w.heap.size, 0, none⟩ i l := by
  intro l
  induction l with
  | nil => intro i h ho; trivial
  | cons v l ih =>
    intro i h ho
    simp only [List.length_cons] at h
    refine cnd_true (ho v (by simp)) ⟨⟨?_, ?_⟩, ih (i + 1) (by omega) (fun v hv => ho v (by simp [hv]))⟩
    · rw [add_block, cell_new]; simp; omega
    · rw [add_block, frozen_new]
theorem CellsAt_new (w : World) (t : TypeId) (fr : Nat × Nat) (cs : Array Value) : ∀ (l : List Value) (i : Nat), (∀ k v, l[k]? = some v → cs[i + k]? = some v) → CellsAt (w.alloc (.cells cs t fr)) ⟨w.heap.size, 0, none⟩ i l := by
  intro l
  induction l with
  | nil => intro i h; trivial
  | cons v l ih =>
    intro i h
    refine ⟨?_, ih (i + 1) (fun k u hk => ?_)⟩
    · rw [add_block, cell_new]
      have := h 0 v rfl
      simpa using this
    · have := h (k + 1) u (by simpa using hk)
      rwa [show i + 1 + k = i + (k + 1) by omega]
theorem CellsAt_new' (w : World) (t : TypeId) (fr : Nat × Nat) (cs : Array Value) : CellsAt (w.alloc (.cells cs t fr)) ⟨w.heap.size, 0, none⟩ 0 cs.toList :=
  CellsAt_new w t fr cs cs.toList 0 (fun k v h => by simpa using h)

/-! ### bytes as a string -/
def strOf (ns : List Int) : ByteArray := ⟨(ns.map fun n => UInt8.ofNat n.toNat).toArray⟩
theorem foldl_push (ns : List Int) : ∀ (s : ByteArray), ns.foldl (fun r n => r.push (UInt8.ofNat n.toNat)) s = ⟨s.data ++ (ns.map fun n => UInt8.ofNat n.toNat).toArray⟩ := by
  induction ns with
  | nil => intro s; simp
  | cons n ns ih =>
    intro s
    simp only [List.foldl_cons, ih, List.map_cons]
    congr 1
    apply Array.ext'
    simp [ByteArray.push]
theorem runs_bytes_string {P : Program} {w : World} {src dst e : TypeId} {a : Addr} {ns : List Int} {l c : Nat} {K : Value → World → Prop} (hs : P.underlying src = some (.slice e)) (he : P.underlying e = some (.int .u8)) (hd : P.underlying dst = some .string)
    (hl : l = ns.length) (h : CellsAt w a 0 (ns.map (Value.int .u8))) (hK : K (.string (strOf ns)) w) : RunsV P (convert src dst (.slice (some a) l c)) w K := by
  subst hl
  refine RunsV_of ?_ hK
  rw [run_convert_bytes_string w src dst e (some a) ns.length c hs he hd, run_bytesToString w a ns.length c ns (run_loadCells h (by simp)), foldl_push]
  simp [strOf]

/-! ### wraps -/
theorem wrap_u64 (x : Int) : IntKind.u64.wrap x = x % 18446744073709551616 := by simp [IntKind.wrap, IntKind.bits, IntKind.signed]
theorem wrap_u32 (x : Int) : IntKind.u32.wrap x = x % 4294967296 := by simp [IntKind.wrap, IntKind.bits, IntKind.signed]
theorem wrap_u8 (x : Int) : IntKind.u8.wrap x = x % 256 := by simp [IntKind.wrap, IntKind.bits, IntKind.signed]
theorem wrap_i64 (x : Int) : IntKind.i64.wrap x = if x % 18446744073709551616 ≥ 9223372036854775808 then x % 18446744073709551616 - 18446744073709551616 else x % 18446744073709551616 := by
  simp [IntKind.wrap, IntKind.bits, IntKind.signed]
theorem u64_in {x : Int} (h0 : 0 ≤ x) (h1 : x < 18446744073709551616) : IntKind.u64.wrap x = x := by rw [wrap_u64]; omega
theorem u32_in {x : Int} (h0 : 0 ≤ x) (h1 : x < 4294967296) : IntKind.u32.wrap x = x := by rw [wrap_u32]; omega
theorem u8_in {x : Int} (h0 : 0 ≤ x) (h1 : x < 256) : IntKind.u8.wrap x = x := by rw [wrap_u8]; omega
theorem i64_in {x : Int} (h0 : -9223372036854775808 ≤ x) (h1 : x < 9223372036854775808) : IntKind.i64.wrap x = x := by rw [wrap_i64]; split <;> omega
end Go.Vc

/-
Plain laws of the machine's numbers: bits as natural numbers' bits, a product's higher half.
Conditions: the numbers are of their kind.
-/
namespace Go.Vc
open Go.RowKit

theorem ofInt_nat (n a : Nat) (h : a < 2 ^ n) : (BitVec.ofInt n (a : Int)).toNat = a := by
  rw [BitVec.ofInt_natCast, BitVec.toNat_ofNat, Nat.mod_eq_of_lt h]
theorem bits_and_u64 (a b : Nat) (ha : a < 18446744073709551616) (hb : b < 18446744073709551616) : bits .and .u64 (a : Int) (b : Int) = ((a &&& b : Nat) : Int) := by
  simp only [bits]
  rw [BitVec.toNat_and]
  rw [ofInt_nat _ a (by simpa [IntKind.bits] using ha), ofInt_nat _ b (by simpa [IntKind.bits] using hb), wrap_u64]
  have : a &&& b ≤ a := Nat.and_le_left
  omega
theorem bits_or_u64 (a b : Nat) (ha : a < 18446744073709551616) (hb : b < 18446744073709551616) : bits .or .u64 (a : Int) (b : Int) = ((a ||| b : Nat) : Int) := by
  simp only [bits]
  rw [BitVec.toNat_or]
  rw [ofInt_nat _ a (by simpa [IntKind.bits] using ha), ofInt_nat _ b (by simpa [IntKind.bits] using hb), wrap_u64]
  have : a ||| b < 2 ^ 64 := Nat.or_lt_two_pow (by simpa using ha) (by simpa using hb)
  omega
theorem bits_xor_u64 (a b : Nat) (ha : a < 18446744073709551616) (hb : b < 18446744073709551616) : bits .xor .u64 (a : Int) (b : Int) = ((a ^^^ b : Nat) : Int) := by
  simp only [bits]
  rw [BitVec.toNat_xor]
  rw [ofInt_nat _ a (by simpa [IntKind.bits] using ha), ofInt_nat _ b (by simpa [IntKind.bits] using hb), wrap_u64]
  have : a ^^^ b < 2 ^ 64 := Nat.xor_lt_two_pow (by simpa using ha) (by simpa using hb)
  omega
theorem bits_and_u32 (a b : Nat) (ha : a < 4294967296) (hb : b < 4294967296) : bits .and .u32 (a : Int) (b : Int) = ((a &&& b : Nat) : Int) := by
  simp only [bits]
  rw [BitVec.toNat_and]
  rw [ofInt_nat _ a (by simpa [IntKind.bits] using ha), ofInt_nat _ b (by simpa [IntKind.bits] using hb), wrap_u32]
  have : a &&& b ≤ a := Nat.and_le_left
  omega
theorem bits_or_u32 (a b : Nat) (ha : a < 4294967296) (hb : b < 4294967296) : bits .or .u32 (a : Int) (b : Int) = ((a ||| b : Nat) : Int) := by
  simp only [bits]
  rw [BitVec.toNat_or]
  rw [ofInt_nat _ a (by simpa [IntKind.bits] using ha), ofInt_nat _ b (by simpa [IntKind.bits] using hb), wrap_u32]
  have : a ||| b < 2 ^ 32 := Nat.or_lt_two_pow (by simpa using ha) (by simpa using hb)
  omega
theorem low32_and (a : Nat) (ha : a < 18446744073709551616) : bits .and .u64 (a : Int) 4294967295 = (a : Int) % 4294967296 := by
  have := bits_and_u64 a 4294967295 ha (by decide)
  rw [show ((4294967295 : Nat) : Int) = 4294967295 from rfl] at this
  rw [this, show (4294967295 : Nat) = 2 ^ 32 - 1 from rfl, Nat.and_two_pow_sub_one_eq_mod]
  omega
theorem split_prod (x1 x0 y1 y0 : Int) : (x1 * 4294967296 + x0) * (y1 * 4294967296 + y0) = x1 * y1 * 18446744073709551616 + (x1 * y0 + x0 * y1) * 4294967296 + x0 * y0 := by
  simp only [Int.add_mul, Int.mul_add]
  have e1 : x1 * 4294967296 * (y1 * 4294967296) = x1 * y1 * 18446744073709551616 := by
    rw [Int.mul_assoc, Int.mul_comm 4294967296, Int.mul_assoc y1, ← Int.mul_assoc]; rfl
  have e2 : x1 * 4294967296 * y0 = x1 * y0 * 4294967296 := by rw [Int.mul_assoc, Int.mul_comm 4294967296, ← Int.mul_assoc]
  have e3 : x0 * (y1 * 4294967296) = x0 * y1 * 4294967296 := by rw [← Int.mul_assoc]
  omega
theorem half_le {a b : Int} (ha0 : 0 ≤ a) (ha : a ≤ 4294967295) (hb0 : 0 ≤ b) (hb : b ≤ 4294967295) : 0 ≤ a * b ∧ a * b ≤ 18446744065119617025 := by
  refine ⟨Int.mul_nonneg ha0 hb0, ?_⟩
  have h1 : a * b ≤ 4294967295 * b := Int.mul_le_mul_of_nonneg_right ha hb0
  omega
/-- What the library's text reckons is the higher half. -/
theorem mul_hi (x y : Int) (hx0 : 0 ≤ x) (hx : x < 18446744073709551616) (hy0 : 0 ≤ y) (hy : y < 18446744073709551616) :
    (((x / 4294967296 * (y / 4294967296)) % 18446744073709551616 + (((x / 4294967296 * (y % 4294967296)) % 18446744073709551616 + ((x % 4294967296 * (y % 4294967296)) % 18446744073709551616) / 4294967296) % 18446744073709551616) / 4294967296) % 18446744073709551616 +
      (((((x / 4294967296 * (y % 4294967296)) % 18446744073709551616 + ((x % 4294967296 * (y % 4294967296)) % 18446744073709551616) / 4294967296) % 18446744073709551616) % 4294967296 + (x % 4294967296 * (y / 4294967296)) % 18446744073709551616) % 18446744073709551616) / 4294967296) % 18446744073709551616 = x * y / 18446744073709551616 := by
  have ex : x = x / 4294967296 * 4294967296 + x % 4294967296 := by omega
  have ey : y = y / 4294967296 * 4294967296 + y % 4294967296 := by omega
  have e := split_prod (x / 4294967296) (x % 4294967296) (y / 4294967296) (y % 4294967296)
  rw [← ex, ← ey] at e
  have b1 := half_le (a := x / 4294967296) (b := y / 4294967296) (by omega) (by omega) (by omega) (by omega)
  have b2 := half_le (a := x / 4294967296) (b := y % 4294967296) (by omega) (by omega) (by omega) (by omega)
  have b3 := half_le (a := x % 4294967296) (b := y / 4294967296) (by omega) (by omega) (by omega) (by omega)
  have b4 := half_le (a := x % 4294967296) (b := y % 4294967296) (by omega) (by omega) (by omega) (by omega)
  rw [e]
  generalize x / 4294967296 * (y / 4294967296) = p at *
  generalize x / 4294967296 * (y % 4294967296) = q at *
  generalize x % 4294967296 * (y / 4294967296) = r at *
  generalize x % 4294967296 * (y % 4294967296) = s at *
  clear e ex ey
  omega
end Go.Vc

/-
Words that all contracts share: a call that comes to a value, numbers.
Conditions: each theorem's hypotheses.
-/
namespace Go.Proofs.YtcnnnlhoiodeaaaGreat
open Go Go.Vc Go.RowKit
set_option maxRecDepth 100000

/-- A call that comes to a value and turns nothing old. -/
def Gives (v : Value) (w : World) (e : Ending) (w' : World) : Prop := e = .returned v ∧ Later w w'
abbrev fnv (f : FuncId) : Value := .func (.func f) #[] #[]
abbrev u64v (a : Int) : Value := .int .u64 a
abbrev i64v (a : Int) : Value := .int .i64 a
abbrev okv : Value := .int .i64 0
abbrev pairv (a b : Value) : Value := .tuple #[a, b]

theorem tmod_nn {a : Int} (b : Int) (h : 0 ≤ a) : a.tmod b = a % b := Int.tmod_eq_emod_of_nonneg h
theorem fdiv_nn (a : Int) {b : Int} (h : 0 ≤ b) : a.fdiv b = a / b := Int.fdiv_eq_ediv_of_nonneg a h
theorem tdiv_nn {a : Int} (b : Int) (h : 0 ≤ a) : a.tdiv b = a / b := Int.tdiv_eq_ediv_of_nonneg h
theorem two_pow_pos (n : Nat) : (0 : Int) < 2 ^ n := Int.pow_pos (by decide)

theorem i64_down (k : Nat) (h : k < 64) : IntKind.i64.wrap ((((k + 1 : Nat) : Int) - 1) - 1) = (k : Int) - 1 := by
  rw [i64_in (by omega) (by omega)]; omega
theorem bit_of (x : Int) (h : 0 ≤ x) (k : Nat) : (x.fdiv (2 ^ k)).tmod 2 = x / 2 ^ k % 2 := by
  rw [fdiv_nn _ (Int.le_of_lt (two_pow_pos _)), tmod_nn _ (Int.ediv_nonneg h (Int.le_of_lt (two_pow_pos _)))]
end Go.Proofs.YtcnnnlhoiodeaaaGreat

/-
Slices that the call owns: grown by 'append', read and written, over the kit's own laws of such rows.
Conditions: each theorem's hypotheses; nothing is asked of a program but closed facts of its types.
-/
namespace Go.Vc
open Go.RowKit

/-- What is asked of a slice's type and of its elements' type: closed facts. -/
structure RowTy (P : Program) (t e : TypeId) (size bytes : Nat) : Prop where
  under : P.underlying t = some (.slice e)
  info : ∃ i z, P.info? e = some i ∧ i.zero = some z ∧ i.size = size ∧ i.bytes = bytes ∧ z.cells.size = size
  pos : 0 < size
theorem RowTy.of {P : Program} {t e : TypeId} {size bytes : Nat} (z : Value) (hu : P.underlying t = some (.slice e)) (hi : (P.info? e).map (fun i => (i.zero, i.size, i.bytes)) = some (some z, size, bytes)) (hz : z.cells.size = size) (hp : 0 < size) : RowTy P t e size bytes := by
  refine ⟨hu, ?_, hp⟩
  cases h : P.info? e with
  | none => rw [h] at hi; cases hi
  | some i =>
    rw [h] at hi
    simp only [Option.map_some, Option.some.injEq, Prod.mk.injEq] at hi
    exact ⟨i, z, rfl, hi.1, hi.2.1, hi.2.2, hz⟩
theorem CellsAt_get {w : World} {a : Addr} : ∀ {l : List Value} {i : Nat}, CellsAt w a i l → ∀ j u, l[j]? = some u → w.cell? (a.add (i + j)) = some u := by
  intro l
  induction l with
  | nil => intro i h j u hj; simp at hj
  | cons v l ih =>
    intro i h j u hj
    cases j with
    | zero => simp at hj; subst hj; exact h.1
    | succ j =>
      have := ih h.2 j u (by simpa using hj)
      rwa [show i + 1 + j = i + (j + 1) by omega] at this
theorem CellsAt_of_get {w : World} {a : Addr} : ∀ {l : List Value} {i : Nat}, (∀ j u, l[j]? = some u → w.cell? (a.add (i + j)) = some u) → CellsAt w a i l := by
  intro l
  induction l with
  | nil => intro i h; trivial
  | cons v l ih =>
    intro i h
    refine ⟨h 0 v rfl, ih fun j u hj => ?_⟩
    have := h (j + 1) u (by simpa using hj)
    rwa [show i + 1 + j = i + (j + 1) by omega]
/-- A slice that was made since w0: n elements, of these cells. -/
abbrev OwnS (w0 w : World) (e : TypeId) (size : Nat) (v : Value) (n : Nat) (xs : List Value) : Prop := w.ownsRow w0.heap.size e size v n xs
theorem OwnS.alloc {w0 w : World} {e : TypeId} {size : Nat} {v : Value} {n : Nat} {xs : List Value} (h : OwnS w0 w e size v n xs) (o : Obj) : OwnS w0 (w.alloc o) e size v n xs := World.ownsRow.alloc h o
theorem OwnS.len {w0 w : World} {e : TypeId} {size : Nat} {b : Option Addr} {bn bc n : Nat} {xs : List Value} (h : OwnS w0 w e size (.slice b bn bc) n xs) : bn = n := by
  obtain ⟨_, h | ⟨g, cap, cur, h, _⟩⟩ := h
  · cases h.1; exact h.2.symm
  · cases h; rfl
theorem OwnS.later {w0 w w' : World} {e : TypeId} {size : Nat} {v : Value} {n : Nat} {xs : List Value} (h : OwnS w0 w e size v n xs) (hl : Later w w') : OwnS w0 w' e size v n xs := by
  obtain ⟨h1, h | ⟨g, cap, cur, h2, h3, h4, h5⟩⟩ := h
  · exact ⟨h1, .inl h⟩
  · refine ⟨h1, .inr ⟨g, cap, cur, h2, h3, ?_, h5⟩⟩
    have hg : g < w.heap.size := (Array.getElem?_eq_some_iff.1 h4).1
    rw [hl.block hg]; exact h4
theorem OwnS.cells {w0 w : World} {e : TypeId} {size : Nat} {a : Addr} {bn bc n : Nat} {xs : List Value} (h : OwnS w0 w e size (.slice (some a) bn bc) n xs) : CellsAt w a 0 xs := by
  have := World.ownsRow.cells h (g := a.block) rfl
  obtain ⟨_, h | ⟨g, cap, cur, h2, _⟩⟩ := h
  · cases h.1
  · cases h2
    exact CellsAt_of_get fun j u hj => by rw [Nat.zero_add]; exact this j u hj
/-- One more block is grown: what is appended is a new row's, or the old one's. -/
theorem RunsV_append {P : Program} {w0 w : World} {t e : TypeId} {size bytes : Nat} (ty : TypeId) (hT : RowTy P t e size bytes) {b : Option Addr} {bn bc n : Nat} {xs : List Value} (hown : OwnS w0 w e size (.slice b bn bc) n xs) (hl : Later w0 w)
    {a : Addr} {m c : Nat} {news : List Value} (hlen : news.length = m * size) (hnews : CellsAt w a 0 news) (h1 : ∀ u ∈ news, u.oneCell' = true) (h63 : n + m ≤ maxLen) (hbytes : (n + m) * bytes ≤ 140737488355328)
    {K : Value → World → Prop}
    (hK : ∀ b' bn' bc' w', OwnS w0 w' e size (.slice b' bn' bc') (n + m) (xs ++ news) → Later w0 w' → w.grownBy w' (Value.slice b bn bc).ownBlock → K (.slice b' bn' bc') w') :
    RunsV P (Builtin.append_ #[t, t] ty #[.slice b bn bc, .slice (some a) m c]) w K := by
  obtain ⟨i, z, hi, hz, hs, hby, hzs⟩ := hT.info
  obtain ⟨v', w', hr, ho, hg, _⟩ := run_append_own (P := P) w w0.heap.size t ty e i z size bytes hT.under hi hz hs hby hzs hT.pos _ n xs hown a m c news hlen (fun j u hj => by have := CellsAt_get hnews j u hj; rwa [Nat.zero_add] at this) h1 h63 hbytes hl.size
  refine RunsV_of hr ?_
  have hlt := World.ownsRow.lt hown
  have hb : Later w0 w' := Below.grown hl hg hl.size (fun k hk => (hlt k hk).1)
  obtain ⟨hx, h | ⟨g, cap, cur, h2, h3⟩⟩ := ho
  · obtain ⟨rfl, hn⟩ := h
    exact hK _ _ _ _ ⟨hx, .inl ⟨rfl, hn⟩⟩ hb hg
  · subst h2
    exact hK _ _ _ _ ⟨hx, .inr ⟨g, cap, cur, rfl, h3⟩⟩ hb hg
theorem strOf_size (ns : List Int) : (strOf ns).size = ns.length := by simp [strOf, ByteArray.size]
/-- The text of an own slice of bytes. -/
theorem RunsV_own_string {P : Program} {w0 w : World} {src dst e : TypeId} {b : Option Addr} {bn bc n : Nat} {ns : List Int} {K : Value → World → Prop} (hs : P.underlying src = some (.slice e)) (he : P.underlying e = some (.int .u8)) (hd : P.underlying dst = some .string)
    (hown : OwnS w0 w e 1 (.slice b bn bc) n (ns.map (Value.int .u8))) (hn : 0 < n) (hK : K (.string (strOf ns)) w) : RunsV P (convert src dst (.slice b bn bc)) w K := by
  have hb := hown.len
  have hln : ns.length = n := by have := hown.1; simpa using this
  cases b with
  | none =>
    obtain ⟨_, h | ⟨g, cap, cur, h2, _⟩⟩ := hown
    · omega
    · cases h2
  | some a => exact runs_bytes_string hs he hd (by omega) hown.cells hK
end Go.Vc

/-
The call's own blocks, tracked through the worlds: what each holds, that nothing old is turned.
Conditions: each theorem's hypotheses; nothing is asked of a program.
-/
namespace Go.Vc
open Go.RowKit

/-- A block has these cells. -/
def Has (w : World) (b : Nat) (cs : List Value) : Prop := ∃ t, w.heap[b]? = some (.cells cs.toArray t)
theorem Has.cell {w : World} {b : Nat} {cs : List Value} (h : Has w b cs) {i : Nat} {v : Value} (hv : cs[i]? = some v) : w.cell? ⟨b, i, none⟩ = some v := by
  obtain ⟨t, h⟩ := h
  simp only [World.cell?, h]
  simpa using hv
theorem Has.frozen {w : World} {b : Nat} {cs : List Value} (h : Has w b cs) (i : Nat) : w.frozen? ⟨b, i, none⟩ = false := by
  obtain ⟨t, h⟩ := h
  simp [World.frozen?, h]
theorem Has.lt {w : World} {b : Nat} {cs : List Value} (h : Has w b cs) : b < w.heap.size := by
  obtain ⟨t, h⟩ := h
  exact (Array.getElem?_eq_some_iff.1 h).1
theorem Has.later {w w' : World} {b : Nat} {cs : List Value} (h : Has w b cs) (hl : Later w w') : Has w' b cs := by
  have hb := h.lt
  obtain ⟨t, h⟩ := h
  exact ⟨t, by rw [hl.block hb]; exact h⟩
theorem Has.new (w : World) (cs : List Value) (t : TypeId) : Has (w.alloc (.cells cs.toArray t)) w.heap.size cs := ⟨t, heap_alloc_new w _⟩
theorem Has.set {w : World} {b : Nat} {cs : List Value} (h : Has w b cs) (i : Nat) (v : Value) : Has (w.setCell ⟨b, i, none⟩ v) b (cs.set i v) := by
  obtain ⟨t, h⟩ := h
  refine ⟨t, ?_⟩
  simp [World.setCell, Array.getElem?_modify, h]
theorem Has.set_other {w : World} {b b' : Nat} {cs : List Value} (h : Has w b cs) (hb : b ≠ b') (i : Nat) (v : Value) : Has (w.setCell ⟨b', i, none⟩ v) b cs := by
  obtain ⟨t, h⟩ := h
  refine ⟨t, ?_⟩
  have : ¬ b' = b := fun h => hb h.symm
  simp [World.setCell, Array.getElem?_modify, h, this]
theorem Has.kept {w w' : World} {b : Nat} {cs : List Value} (h : Has w b cs) (e : w'.heap[b]? = w.heap[b]?) : Has w' b cs := by
  obtain ⟨t, h⟩ := h
  exact ⟨t, e.trans h⟩
abbrev Blk := Nat × List Value
/-- What is tracked: blocks made since w0, all unlike, and that nothing older is turned. -/
def Trk (w0 w : World) (L : List Blk) : Prop := Later w0 w ∧ (∀ x ∈ L, w0.heap.size ≤ x.1 ∧ Has w x.1 x.2) ∧ (L.map (·.1)).Nodup
theorem Trk.start (w : World) : Trk w w [] := ⟨Later.refl _, by simp, by simp⟩
theorem Trk.here {w0 w : World} (h : Later w0 w) : Trk w0 w [] := ⟨h, by simp, by simp⟩
theorem Trk.to {w0 w : World} {L : List Blk} (h : Trk w0 w L) : Later w0 w := h.1
theorem Trk.alloc {w0 w w' : World} {L : List Blk} (h : Trk w0 w L) {cs : List Value} {t : TypeId} (e : w' = w.alloc (.cells cs.toArray t)) : Trk w0 w' (L ++ [(w.heap.size, cs)]) := by
  subst e
  refine ⟨h.1.alloc _, ?_, ?_⟩
  · intro x hx
    rcases List.mem_append.1 hx with hx | hx
    · exact ⟨(h.2.1 x hx).1, (h.2.1 x hx).2.later (Later.alloc' _ _)⟩
    · obtain rfl : x = (w.heap.size, cs) := by simpa using hx
      exact ⟨h.1.size, Has.new _ _ _⟩
  · rw [List.map_append, List.nodup_append]
    refine ⟨h.2.2, by simp, ?_⟩
    intro a ha b hb
    obtain ⟨x, hx, rfl⟩ := List.mem_map.1 ha
    have := (h.2.1 x hx).2.lt
    simp at hb
    omega
theorem Trk.later {w0 w w' : World} {L : List Blk} (h : Trk w0 w L) (hl : Later w w') : Trk w0 w' L :=
  ⟨h.1.trans hl, fun x hx => ⟨(h.2.1 x hx).1, (h.2.1 x hx).2.later hl⟩, h.2.2⟩
theorem Trk.has {w0 w : World} {L : List Blk} (h : Trk w0 w L) (k : Nat) {b : Nat} {cs : List Value} (hk : L[k]? = some (b, cs)) : Has w b cs := (h.2.1 _ (List.mem_of_getElem? hk)).2
theorem Trk.cell {w0 w : World} {L : List Blk} (h : Trk w0 w L) (k : Nat) {b i : Nat} {cs : List Value} {v : Value} (hk : L[k]? = some (b, cs)) (hv : cs[i]? = some v) : w.cell? ⟨b, i, none⟩ = some v := (h.has k hk).cell hv
theorem Trk.setCell {w0 w : World} {L : List Blk} (h : Trk w0 w L) (k : Nat) {b i : Nat} {cs : List Value} (v : Value) (hk : L[k]? = some (b, cs)) : Trk w0 (w.setCell ⟨b, i, none⟩ v) (L.set k (b, cs.set i v)) := by
  have hm := h.2.1 _ (List.mem_of_getElem? hk)
  refine ⟨h.1.setCell hm.1 v, ?_, ?_⟩
  · intro x hx
    obtain ⟨j, hj⟩ := List.getElem?_of_mem hx
    rw [List.getElem?_set] at hj
    have hkl : k < L.length := (List.getElem?_eq_some_iff.1 hk).1
    by_cases hjk : k = j
    · subst hjk
      rw [if_pos rfl, if_pos hkl] at hj
      obtain rfl := Option.some.inj hj
      exact ⟨hm.1, hm.2.set i v⟩
    · rw [if_neg hjk] at hj
      have hx' := h.2.1 _ (List.mem_of_getElem? hj)
      refine ⟨hx'.1, hx'.2.set_other ?_ i v⟩
      intro e
      have h1 : (L.map (·.1))[j]? = some b := by rw [List.getElem?_map, hj]; simpa using e
      have h2 : (L.map (·.1))[k]? = some b := by rw [List.getElem?_map, hk]; rfl
      have hjl : j < (L.map (·.1)).length := (List.getElem?_eq_some_iff.1 h1).1
      exact hjk ((List.getElem?_inj hjl h.2.2).1 (h1.trans h2.symm)).symm
  · have e : (L.set k (b, cs.set i v)).map (·.1) = L.map (·.1) := by
      rw [List.map_set]
      apply List.ext_getElem?
      intro j
      rw [List.getElem?_set]
      by_cases hjk : k = j
      · subst hjk
        rw [if_pos rfl, List.getElem?_map, hk, if_pos (by simpa using (List.getElem?_eq_some_iff.1 hk).1)]
        rfl
      · simp [hjk]
    rw [e]; exact h.2.2
/-- One cell is written. -/
theorem Trk.set1 {w0 w : World} {L : List Blk} (h : Trk w0 w L) (k : Nat) {b i : Nat} {cs : List Value} {v : Value} (hk : L[k]? = some (b, cs)) (hi : i < cs.length) {K : World → Prop} (hK : ∀ w', Trk w0 w' (L.set k (b, cs.set i v)) → K w') :
    ((w.cell? ⟨b, i, none⟩).isSome = true ∧ w.frozen? ⟨b, i, none⟩ = false) ∧ ∀ w', w' = w.setCell ⟨b, i, none⟩ v → K w' := by
  refine ⟨⟨?_, (h.has k hk).frozen i⟩, fun w' e => hK _ (e ▸ h.setCell k v hk)⟩
  obtain ⟨u, hu⟩ : ∃ u, cs[i]? = some u := ⟨_, List.getElem?_eq_getElem hi⟩
  rw [h.cell k hk hu]; rfl
theorem Has.sets {w : World} {b : Nat} {cs : List Value} (h : Has w b cs) : ∀ (l : List Value) (i : Nat), i + l.length ≤ cs.length → (∀ v ∈ l, v.oneCell' = true) → SetsAt w ⟨b, 0, none⟩ i l := by
  intro l
  induction l with
  | nil => intro i hi ho; trivial
  | cons v l ih =>
    intro i hi ho
    simp only [List.length_cons] at hi
    obtain ⟨u, hu⟩ : ∃ u, cs[i]? = some u := ⟨_, List.getElem?_eq_getElem (by omega)⟩
    refine cnd_true (ho v (by simp)) ⟨⟨?_, ?_⟩, ih (i + 1) (by omega) (fun u hu => ho u (by simp [hu]))⟩
    · rw [add_block, Nat.zero_add, h.cell hu]; rfl
    · rw [add_block, Nat.zero_add]; exact h.frozen i
theorem Trk.setMany {w0 : World} {k b : Nat} : ∀ (l : List Value) (i : Nat) (w : World) (L : List Blk) (cs : List Value), Trk w0 w L → L[k]? = some (b, cs) → i + l.length ≤ cs.length →
    Trk w0 (setCellsAt w ⟨b, 0, none⟩ i l) (L.set k (b, cs.take i ++ l ++ cs.drop (i + l.length))) := by
  intro l
  induction l with
  | nil =>
    intro i w L cs h hk hi
    have e : L.set k (b, cs.take i ++ [] ++ cs.drop (i + ([] : List Value).length)) = L := by
      simp only [List.length_nil, Nat.add_zero, List.append_nil, List.take_append_drop]
      apply List.ext_getElem?
      intro j
      rw [List.getElem?_set]
      by_cases hj : k = j
      · subst hj; rw [if_pos rfl, hk, if_pos (List.getElem?_eq_some_iff.1 hk).1]
      · rw [if_neg hj]
    rw [e]; exact h
  | cons v l ih =>
    intro i w L cs h hk hi
    simp only [List.length_cons] at hi
    have hkl : k < L.length := (List.getElem?_eq_some_iff.1 hk).1
    have h1 := h.setCell k (i := i) v hk
    have hk1 : (L.set k (b, cs.set i v))[k]? = some (b, cs.set i v) := by rw [List.getElem?_set]; simp [hkl]
    have l2 := ih (i + 1) _ _ _ h1 hk1 (by simp; omega)
    rw [List.set_set] at l2
    have e1 : (cs.set i v).take (i + 1) = cs.take i ++ [v] := by
      rw [List.take_add_one, List.take_set_of_le (Nat.le_refl _)]
      simp [List.getElem?_set, show i < cs.length by omega]
    have e2 : (cs.set i v).drop (i + 1 + l.length) = cs.drop (i + (l.length + 1)) := by
      rw [List.drop_set_of_lt (by omega)]
      congr 1; omega
    rw [e1, e2] at l2
    simp only [setCellsAt, add_block, Nat.zero_add, List.length_cons]
    simpa using l2
/-- A whole block is written. -/
theorem Trk.setAll {w0 w : World} {L : List Blk} (h : Trk w0 w L) (k : Nat) {b : Nat} {cs l : List Value} (hk : L[k]? = some (b, cs)) (hl : l.length = cs.length) (ho : ∀ v ∈ l, v.oneCell' = true) {K : World → Prop} (hK : ∀ w', Trk w0 w' (L.set k (b, l)) → K w') :
    SetsAt w ⟨b, 0, none⟩ 0 l ∧ ∀ w', w' = setCellsAt w ⟨b, 0, none⟩ 0 l → K w' := by
  refine ⟨(h.has k hk).sets l 0 (by omega) ho, fun w' e => hK _ ?_⟩
  have := Trk.setMany (k := k) l 0 w L cs h hk (by omega)
  rw [List.drop_of_length_le (by omega)] at this
  simpa [e] using this
theorem Trk.front {w0 w : World} {L M : List Blk} (h : Trk w0 w (L ++ M)) : Trk w0 w L :=
  ⟨h.1, fun x hx => h.2.1 x (List.mem_append_left _ hx), by have := h.2.2; rw [List.map_append, List.nodup_append] at this; exact this.1⟩
theorem Has.same {w : World} {b : Nat} {cs ds : List Value} (h : Has w b cs) (k : Has w b ds) : cs = ds := by
  obtain ⟨t, h⟩ := h
  obtain ⟨u, k⟩ := k
  rw [h] at k
  simp only [Option.some.injEq, Obj.cells.injEq] at k
  simpa using k.1
theorem Has.setsOther {w : World} {b b' : Nat} {cs : List Value} (h : Has w b cs) (hb : b ≠ b') : ∀ (l : List Value) (i : Nat), Has (setCellsAt w ⟨b', 0, none⟩ i l) b cs := by
  intro l
  induction l generalizing w with
  | nil => intro i; exact h
  | cons v l ih =>
    intro i
    refine ih ?_ (i + 1)
    rw [add_block]
    exact h.set_other hb _ v
theorem Has.cellsAt {w : World} {b : Nat} {cs : List Value} (h : Has w b cs) : ∀ (l : List Value) (i : Nat), (∀ j v, l[j]? = some v → cs[i + j]? = some v) → CellsAt w ⟨b, 0, none⟩ i l := by
  intro l
  induction l with
  | nil => intro i _; trivial
  | cons v l ih =>
    intro i hl
    refine ⟨?_, ih (i + 1) fun j u hj => ?_⟩
    · rw [add_block, Nat.zero_add]
      exact h.cell (hl 0 v rfl)
    · have := hl (j + 1) u (by simpa using hj)
      rwa [show i + 1 + j = i + (j + 1) by omega]
theorem OwnS.weak {w0 w1 w : World} {e : TypeId} {size : Nat} {v : Value} {n : Nat} {xs : List Value} (h : OwnS w1 w e size v n xs) (hl : w0.heap.size ≤ w1.heap.size) : OwnS w0 w e size v n xs := by
  obtain ⟨h1, h | ⟨g, cap, cur, h2, h3, h4⟩⟩ := h
  · exact ⟨h1, .inl h⟩
  · exact ⟨h1, .inr ⟨g, cap, cur, h2, Nat.le_trans hl h3, h4⟩⟩
end Go.Vc
