/-
A generator of verification conditions over the model, last part: code and loops, and the call of a function from its condition.
Conditions: none; all is proved over any program.
-/
import Derived.Test.YtngkifnknlginaaVcWp
import Derived.Test.YtngkifnknlginaaVcTail
import Derived.Test.YtngkifnknlginaaVcOrd
import Derived.RangeFuncSeq
import Derived.RangeFuncBound
namespace Go.Vc
open Go.RowKit
set_option linter.unusedSimpArgs false
set_option linter.unnecessarySimpa false
set_option linter.unusedVariables false
variable {ds : List Deferred}

/-! ### what code assigns -/
def opDsts : List Oper → List Nat
  | [] => []
  | o :: l => (match o.dst with | some d => d :: opDsts l | none => opDsts l)
theorem mem_opDsts {d : Nat} : ∀ {l : List Oper}, d ∈ opDsts l ↔ ∃ o ∈ l, o.dst = some d := by
  intro l
  induction l with
  | nil => simp [opDsts]
  | cons o l ih =>
    unfold opDsts
    cases h : o.dst with
    | none => simp [h, ih]
    | some e => simp [h, ih, eq_comm]
def assigned : Code → List Nat
  | .region _ ops _ => opDsts ops.toList
  | .seq a b => assigned a ++ assigned b
  | .cond _ a b => assigned a ++ assigned b
  | .block _ c => assigned c
  | .loop c => assigned c
  | .scope c => assigned c
  | .rangeFunc _ ps a b => ps.toList ++ assigned a ++ assigned b
  | _ => []
def Agree (A : List Nat) (tm tm' : List Value) : Prop := tm'.length = tm.length ∧ ∀ i, i ∉ A → tm'[i]? = tm[i]?
theorem Agree.refl (A : List Nat) (tm : List Value) : Agree A tm tm := ⟨rfl, fun _ _ => rfl⟩
theorem Agree.trans {A : List Nat} {a b c : List Value} (h : Agree A a b) (k : Agree A b c) : Agree A a c := ⟨k.1.trans h.1, fun i hi => (k.2 i hi).trans (h.2 i hi)⟩
theorem Agree.mono {A B : List Nat} {a b : List Value} (h : Agree A a b) (hs : ∀ i, i ∈ A → i ∈ B) : Agree B a b := ⟨h.1, fun i hi => h.2 i fun hA => hi (hs i hA)⟩
theorem Agree.put {A : List Nat} {a b : List Value} (h : Agree A a b) {dst : Option Tmp} (hd : ∀ d, dst = some d → d ∈ A) (v : Value) : Agree A a (putl dst b v) := by
  cases dst with
  | none => exact h
  | some d =>
    refine ⟨by simp [putl, h.1], fun i hi => ?_⟩
    have hne : d ≠ i := fun e => hi (e ▸ hd d rfl)
    simp only [putl]
    rw [List.getElem?_set_ne hne]
    exact h.2 i hi
theorem Agree.setSame {A : List Nat} {a b : List Value} (h : Agree A a b) {d : Nat} {v : Value} (he : b.getD d undef = v) : Agree A a (b.set d v) := by rw [set_same he]; exact h

/-! ### the slots that a relation speaks of -/
def selL : Slots → List Value → List Value
  | [], _ => []
  | x :: l, tm => tm.getD x.1 undef :: selL l tm
def okSel : Slots → List Value → Bool
  | [], _ => true
  | x :: l, tm => x.2.ok (tm.getD x.1 undef) && okSel l tm
def allSel : Slots → (List Value → Prop) → Prop
  | [], L => L []
  | x :: l, L => x.2.all fun v => allSel l fun vs => L (v :: vs)
def setSel : Slots → List Value → List Value → List Value
  | x :: l, v :: vs, tm => setSel l vs (tm.set x.1 v)
  | _, _, tm => tm
def garbFrom (g : Nat → Value) (A : List Nat) : Nat → List Value → List Value
  | _, [] => []
  | i, v :: r => (match A.elem i with | true => g i | false => v) :: garbFrom g A (i + 1) r
theorem allSel_elim {l : Slots} : ∀ {L : List Value → Prop}, allSel l L → ∀ {tm : List Value}, okSel l tm = true → L (selL l tm) := by
  induction l with
  | nil => intro L h tm _; exact h
  | cons x l ih =>
    intro L h tm hok
    simp only [okSel, Bool.and_eq_true] at hok
    exact ih (Shape.all_elim h hok.1) hok.2
theorem setSel_self : ∀ (l : Slots) (tm : List Value), setSel l (selL l tm) tm = tm := by
  intro l
  induction l with
  | nil => intro tm; rfl
  | cons x l ih =>
    intro tm
    simp only [selL, setSel]
    rw [set_same rfl]
    exact ih tm
theorem garbFrom_get (g : Nat → Value) (A : List Nat) : ∀ (tm : List Value) (k i : Nat), (garbFrom g A k tm)[i]? = (tm[i]?).map fun v => match A.elem (k + i) with | true => g (k + i) | false => v := by
  intro tm
  induction tm with
  | nil => intro k i; simp [garbFrom]
  | cons v tm ih =>
    intro k i
    cases i with
    | zero => simp [garbFrom]
    | succ i => simp only [garbFrom, List.getElem?_cons_succ, ih]; rw [show k + 1 + i = k + (i + 1) by omega]
theorem garb_of_agree {A : List Nat} {tm tm' : List Value} (h : Agree A tm tm') : garbFrom (fun i => tm'.getD i undef) A 0 tm = tm' := by
  apply List.ext_getElem?
  intro i
  rw [garbFrom_get]
  simp only [Nat.zero_add]
  cases hA : A.elem i with
  | true =>
    simp only
    by_cases hl : i < tm.length
    · have hl' : i < tm'.length := by rw [h.1]; exact hl
      simp [List.getElem?_eq_getElem hl, List.getElem?_eq_getElem hl', List.getD]
    · have hl' : ¬ i < tm'.length := by rw [h.1]; exact hl
      simp [List.getElem?_eq_none (Nat.le_of_not_lt hl), List.getElem?_eq_none (Nat.le_of_not_lt hl')]
  | false =>
    simp only [Option.map_id']
    exact (h.2 i (by simpa using hA)).symm

/-! ### code -/
def firstRegion : Code → Nat
  | .region id _ _ => id + 1
  | .seq a b => (match firstRegion a with | 0 => firstRegion b | n => n)
  | .cond _ a b => (match firstRegion a with | 0 => firstRegion b | n => n)
  | .block _ c => firstRegion c
  | .loop c => firstRegion c
  | _ => 0
/-- Which 'if' it is: what it asks, and the first region in it. -/
def condKey (k : Nat) (a b : Code) : Nat := k + 1000 * (match firstRegion a with | 0 => firstRegion b | n => n)
def look (l : List (Nat × Slots)) (k : Nat) : Option Slots :=
  match l with
  | [] => none
  | x :: r => (match Nat.beq x.1 k with | true => some x.2 | false => look r k)
def seqQ (next : List Value → World → Prop) (Q : Exit → List Value → World → Prop) : Exit → List Value → World → Prop
  | .normal, tm, w => next tm w
  | e, tm, w => Q e tm w
def blockQ (id : Nat) (Q : Exit → List Value → World → Prop) : Exit → List Value → World → Prop
  | .exit id', tm, w => (match Nat.beq id' id with | true => Q .normal tm w | false => Q (.exit id') tm w)
  | e, tm, w => Q e tm w
/-- Go on behind a place where ways meet, from what J says of some slots; what else was assigned is of no account. -/
def subS (S : Slots) (A : List Nat) : Bool := S.all fun x => A.elem x.1
def joinV (S : Slots) (A : List Nat) (tm : List Value) (J : List Value → World → Prop) (next : List Value → World → Prop) : Prop :=
  ∀ (g : Nat → Value), allSel S fun vs => ∀ w', J vs w' → next (setSel S vs (garbFrom g A 0 tm)) w'
def meetQ (S : Slots) (J : List Value → World → Prop) (tm : List Value) (w : World) : Prop := cnd (okSel S tm) (J (selL S tm) w) False
def RawWp (P : Program) (c : Code) (Q : Exit → List Value → World → Prop) (tm : List Value) (w : World) : Prop := ∀ ds, c.wp P (upD ds fun e tm' w' => Agree (assigned c) tm tm' ∧ Q e tm' w') (actD ds tm) w

/-- A round ends where the relation holds, and nearer to the end. -/
def Goes (I : List Value → World → Prop) (μ : List Value → World → Nat) (vs : List Value) (w : World) (vs2 : List Value) (w2 : World) : Prop := I vs2 w2 ∧ μ vs2 w2 < μ vs w
def lookN (l : List (Nat × Nat)) (k : Nat) : Option Nat :=
  match l with
  | [] => none
  | x :: r => (match Nat.beq x.1 k with | true => some x.2 | false => lookN r k)
/-- What an operation that lays a block asks, has, and lays. -/
structure Made where
  need : Prop
  val : Nat → Value
  obj : Obj
def makerV (P : Program) (tm : List Value) (o : Oper) : Option Made :=
  match o.op with
  | .alloc e => (match P.info? e with
    | some i => (match i.zero with | some z => some ⟨True, fun k => .pointer (some ⟨k, 0, none⟩), .cells z.cells e⟩ | none => none)
    | none => none)
  | .box e x => some ⟨True, fun k => .pointer (some ⟨k, 0, none⟩), .cells (ev tm x).cells e⟩
  | .makeMap _ none => some ⟨True, fun k => .map (some k), .map #[] 0⟩
  | .makeSlice t l c => (match P.underlying t, ev tm l, ev tm c with
    | some (.slice e), .int _ n, .int _ m => (match P.info? e with
      | some i => (match i.zero with
        | some z => some ⟨0 ≤ n ∧ m = n ∧ n ≤ 16777216 ∧ i.bytes ≤ 1024 ∧ i.size = z.cells.size ∧ 0 < z.cells.size, fun k => .slice (some ⟨k, 0, none⟩) n.toNat n.toNat, .cells (repL z.cells.toList n.toNat).toArray e⟩
        | none => none)
      | none => none)
    | _, _, _ => none)
  | _ => none
theorem run_makeSlice_eq {P : Program} {t e : TypeId} {i : TypeInfo} {z : Value} {k k' : IntKind} {n : Int} {w : World} (ht : P.underlying t = some (.slice e)) (hi : P.info? e = some i) (hz : i.zero = some z) (h0 : 0 ≤ n) (h1 : n ≤ 16777216) (hb : i.bytes ≤ 1024) (hs : i.size = z.cells.size) (hp : 0 < z.cells.size) :
    ∃ w', (Instr.makeSlice t (.int k n) (.int k' n)).run P w = .ok (.slice (some ⟨w.heap.size, 0, none⟩) n.toNat n.toNat) w' ∧ Later w w' ∧ w'.heap[w.heap.size]? = some (.cells (repL z.cells.toList n.toNat).toArray e) := by
  have hsz : cellsT P e = some i.size := by simp [cellsT, hi]
  have hwr : IntKind.i64.wrap n = n := by
    simp only [IntKind.wrap, IntKind.bits, IntKind.signed]
    simp
    omega
  have hmul : (i.bytes : Int) * n ≤ 1024 * 16777216 := Int.le_trans (Int.mul_le_mul_of_nonneg_right (show (i.bytes : Int) ≤ 1024 by omega) h0) (Int.mul_le_mul_of_nonneg_left h1 (by omega))
  have hb1 : ¬ (281474976710656 : Int) < (i.bytes : Int) * n := by omega
  have hn0 : ¬ n < 0 := by omega
  refine ⟨w.alloc (.cells (repL z.cells.toList n.toNat).toArray e), ?_, Below.alloc (Below.refl _ _) (Nat.le_refl _) _, heap_alloc_new w _⟩
  have hcells : (Array.range (n.toNat * i.size)).map ((if n.toNat * i.size = 0 then (#[] : Array Value) else z.cells)[· % (if n.toNat * i.size = 0 then (#[] : Array Value) else z.cells).size]!) = (repL z.cells.toList n.toNat).toArray := by
    by_cases hz0 : n.toNat * i.size = 0
    · rw [if_pos hz0, hz0]
      have : n.toNat = 0 := by
        rcases Nat.mul_eq_zero.1 hz0 with h | h
        · exact h
        · omega
      rw [this]
      simp [repL]
    · rw [if_neg hz0, hs]
      exact repL_range z.cells n.toNat
  have e1 : (Instr.makeSlice t (.int k n) (.int k' n)).run P w = ((if n.toNat * i.size = 0 then pure #[] else do pure (← zeroValue e).cells : Sem (Array Value)).run P w).andThen fun zero w => ((do let a ← newRow e ((Array.range (n.toNat * i.size)).map (zero[· % zero.size]!)); pure (.slice (some a) n.toNat n.toNat) : Sem Value)).run P w := by
    simp [Instr.makeSlice, run_underlying ht, asInt, asIntOf, typeInfo, hi, hwr, hb1, hn0, sizeOf]
    split
    · rfl
    · rw [run_zeroValue hi hz]
      rfl
  rw [e1]
  have e2 : (if n.toNat * i.size = 0 then pure #[] else do pure (← zeroValue e).cells : Sem (Array Value)).run P w = .ok (if n.toNat * i.size = 0 then #[] else z.cells) w := by
    split
    · rfl
    · simp [run_zeroValue hi hz]
  rw [e2, Result.andThen_ok, hcells]
  simp [newRow]
theorem makerV_sound {P : Program} {tm : List Value} {o : Oper} {m : Made} {w0 : World} (h : makerV P tm o = some m) (hn : m.need) : Maker P o (actD ds tm) w0 m.val m.obj := by
  intro w hw
  rw [eval_act]
  unfold makerV at h
  split at h
  · rename_i e ho
    split at h
    · rename_i i hi
      split at h
      · rename_i z hz
        obtain rfl := Option.some.inj h
        exact ⟨w.alloc (.cells z.cells e), by simp [execOp, ho, Instr.alloc, run_zeroValue hi hz, newVar, newRow], Below.alloc (Below.refl _ _) (Nat.le_refl _) _, heap_alloc_new w _⟩
      · cases h
    · cases h
  · rename_i e x ho
    obtain rfl := Option.some.inj h
    exact ⟨w.alloc (.cells (ev tm x).cells e), by simp [execOp, ho, Instr.box, newVar, newRow], Below.alloc (Below.refl _ _) (Nat.le_refl _) _, heap_alloc_new w _⟩
  · rename_i t ho
    obtain rfl := Option.some.inj h
    exact ⟨w.alloc (.map #[] 0), by simp [execOp, ho, Instr.makeMap, newObj]; rfl, Below.alloc (Below.refl _ _) (Nat.le_refl _) _, heap_alloc_new w _⟩
  · rename_i t l c ho
    split at h
    · rename_i e k n k' m hu hl hc
      split at h
      · rename_i i hi
        split at h
        · rename_i z hz
          obtain rfl := Option.some.inj h
          obtain ⟨h0, rfl, h1, hb, hs, hp⟩ := hn
          obtain ⟨w', h2, h3, h4⟩ := run_makeSlice_eq (w := w) (k := k) (k' := k') hu hi hz h0 h1 hb hs hp
          exact ⟨w', by simp [execOp, ho, hl, hc, h2], h3, h4⟩
        · cases h
      · cases h
    · cases h
  · cases h
def mixV (P : Program) (w : World) (K : List (Nat × Obj) → List Value → Prop) : List Oper → List (Nat × Obj) → List Value → Prop
  | [], Fs, tm => K Fs tm
  | o :: rest, Fs, tm => (match o.guard with
    | some _ => False
    | none => (match makerV P tm o with
      | some m => m.need ∧ ∀ k : Nat, w.heap.size ≤ k → mixV P w K rest ((k, m.obj) :: Fs) (putl o.dst tm (m.val k))
      | none => (match pureT P tm o with
        | some t => t.run fun v => mixV P w K rest Fs (putl o.dst tm v)
        | none => (match o.op with
          | .load t a => (match ev tm a with
            | .pointer p => Deref p fun ad => loadV P t (fun a i l => ∀ w', Later w w' → CellsAt w' a i l) (fun a v => ∀ w', Later w w' → w'.cell? a = some v) ad fun v => mixV P w K rest Fs (putl o.dst tm v)
            | _ => False)
          | _ => False))))
theorem mixV_wp {P : Program} {ops : Array Oper} {w : World} {K : List (Nat × Obj) → List Value → Prop} {Q : List (Nat × Obj) → Act → Prop} (hQ : ∀ Fs tm, K Fs tm → Q Fs (actD ds tm)) : ∀ (l : List Oper) (Fs : List (Nat × Obj)) (tm : List Value), mixV P w K l Fs tm → wpMix P ops w Q l Fs (actD ds tm) := by
  intro l
  induction l with
  | nil => intro Fs tm h; exact hQ _ _ h
  | cons o rest ih =>
    intro Fs tm h
    unfold mixV at h
    cases hg : o.guard with
    | some x => simp only [hg] at h
    | none =>
      simp only [hg] at h
      refine ⟨hg, ?_⟩
      cases hm : makerV P tm o with
      | some m =>
        simp only [hm] at h
        exact .make m.val m.obj (makerV_sound hm h.1) fun k hk => by rw [put_act]; exact ih _ _ (h.2 k hk)
      | none =>
        simp only [hm] at h
        cases ht : pureT P tm o with
        | some t =>
          simp only [ht] at h
          obtain ⟨v, h1, h2⟩ := pureT_sound ht h
          exact .plain v (fun w' _ => by rw [eval_act]; exact h2 w') (by rw [put_act]; exact ih _ _ h1)
        | none =>
          simp only [ht] at h
          split at h
          · rename_i t a ho
            split at h
            · rename_i p he
              obtain ⟨ad, rfl, hL⟩ := Deref_elim h
              obtain ⟨v, h1, h2⟩ := loadV_run hL
              refine .plain v (fun w' hw' => ?_) (by rw [put_act]; exact ih _ _ h1)
              rw [eval_act]
              simp only [execOp, ho, he, Instr.loadAt, Instr.sureAddr, Sem.run_bind, Sem.run_pure, Result.andThen_ok, h2 w' (fun _ h => h w' hw') (fun _ h => h w' hw')]
            · exact h.elim
          · exact h.elim
/-- What an operation that lays a block lays. -/
def laidV (P : Program) (o : Oper) : Option Obj :=
  match o.guard, o.op with
  | none, .alloc e => (match P.info? e with | some i => (i.zero).map fun z => .cells z.cells e | none => none)
  | _, _ => none
theorem laidV_run {P : Program} {o : Oper} {obj : Obj} (h : laidV P o = some obj) : o.guard = none ∧ ∀ (a : Act) w, (execOp a.eval o).run P w = .ok (.value (ptrv w.heap.size)) (w.alloc obj) := by
  unfold laidV at h
  split at h
  · rename_i e hg ho
    split at h
    · rename_i i hi
      obtain ⟨z, hz, rfl⟩ := Option.map_eq_some_iff.1 h
      exact ⟨hg, fun a w => by simp [execOp, ho, Instr.alloc, run_zeroValue hi hz, newVar, newRow, ptrv]⟩
    · cases h
  · cases h
def normalQ (Q : Exit → List Value → World → Prop) : Exit → List Value → World → Prop
  | .normal, tm, w => Q .normal tm w
  | _, _, _ => False
def edgesOf (l : List (Nat × List (Nat × Nat))) (k : Nat) : List (Nat × Nat) :=
  match l with
  | [] => []
  | x :: r => (match Nat.beq x.1 k with | true => x.2 | false => edgesOf r k)
/-- An operation that turns a map's entry up. -/
def isEnt (o : Oper) : Bool := match o.op with | .mapEntry _ _ _ => true | _ => false
def turnB (o : Oper) : Bool := match o.op with | .mapEntry _ _ _ => true | .entryStore _ _ _ _ => true | .mapUpdate _ _ _ _ => true | _ => false
/-- Which operations turn the world. -/
def turnersFrom : Nat → List Oper → List Nat
  | _, [] => []
  | i, o :: l => (match turnB o with | true => i :: turnersFrom (i + 1) l | false => turnersFrom (i + 1) l)
def placeOf (i : Nat) : Nat → List Nat → Option Nat
  | _, [] => none
  | q, t :: l => (match Nat.beq t i with | true => some q | false => placeOf i (q + 1) l)
def loOf (ops : Array Oper) (i : Nat) : Nat → Nat → List Nat → Nat
  | _, acc, [] => acc
  | q, acc, t :: l => (match waitsFor .any ops i t with | true => loOf ops i (q + 1) (q + 1) l | false => loOf ops i (q + 1) acc l)
def hiOf (ops : Array Oper) (i : Nat) : Nat → List Nat → Nat
  | q, [] => q
  | q, t :: l => (match waitsFor .any ops t i with | true => q | false => hiOf ops i (q + 1) l)
def phKsFrom (ops : Array Oper) (T : List Nat) : Nat → List Oper → List PhK
  | _, [] => []
  | i, _ :: l => (match placeOf i 0 T with | some q => PhK.turn q | none => PhK.quiet (loOf ops i 0 0 T) (hiOf ops i 0 T)) :: phKsFrom ops T (i + 1) l
def phOpsV (P : Program) (C : Nat → World → Prop) (Q : List Value → Prop) : List PhK → List Oper → List Value → Prop
  | _, [], tm => Q tm
  | [], _ :: _, _ => False
  | k :: ks, o :: rest, tm => (match k with
    | .turn q => IsSome (semOf tm o) fun s => (match isUnit o.op with
        | true => (∀ w, C q w → ∃ w', s.run P w = .ok undef w' ∧ C (q + 1) w') ∧ phOpsV P C Q ks rest (putl o.dst tm undef)
        | false => ∃ (x : Value) (st : Int), (∀ w, C q w → ∃ w', s.run P w = .ok (.tuple #[x, goInt st]) w' ∧ C (q + 1) w') ∧ phOpsV P C Q ks rest (putl o.dst tm (.tuple #[x, goInt st])))
    | .quiet lo hi => qOpV P (PhC C lo hi) o tm fun v => phOpsV P C Q ks rest (putl o.dst tm v))
def entV (P : Program) (ops : Array Oper) (Q : Exit → List Value → World → Prop) (tm : List Value) (w : World) : Prop :=
  cnd (phB .any ops (phKsFrom ops (turnersFrom 0 ops.toList) 0 ops.toList) (turnersFrom 0 ops.toList).length) (∃ C : Nat → World → Prop, ((∀ p, Closed (C p)) ∧ C 0 w) ∧
    phOpsV P C (fun tm' => ∀ w', C (turnersFrom 0 ops.toList).length w' → Q .normal tm' w') (phKsFrom ops (turnersFrom 0 ops.toList) 0 ops.toList) ops.toList tm) False
theorem phOpsV_seq {P : Program} {C : Nat → World → Prop} {ops : Array Oper} {all : List PhK} {Q : List Value → Prop} {Qa : Act → Prop} (hQ : ∀ tm, Q tm → Qa (actD ds tm)) : ∀ (l : List Oper) (ks : List PhK) (i : Nat) (tm : List Value),
    (∀ j, j < l.length → l[j]? = ops[i + j]?) → (∀ j, ks[j]? = all[i + j]?) → phOpsV P C Q ks l tm → phSeq P C ops all Qa (List.range' i l.length) (actD ds tm) := by
  intro l
  induction l with
  | nil =>
    intro ks i tm _ _ h
    unfold phOpsV at h
    exact hQ _ h
  | cons o l ih =>
    intro ks i tm hl hk h
    cases ks with
    | nil => simp [phOpsV] at h
    | cons K ks =>
      have h0 : ops[i]? = some o := by simpa using (hl 0 (by simp)).symm
      have hk0 : all[i]? = some K := by simpa using (hk 0).symm
      have hl' : ∀ j, j < l.length → l[j]? = ops[i + 1 + j]? := fun j hj => by
        have := hl (j + 1) (by simp; omega)
        simpa [Nat.add_assoc, Nat.add_comm 1 j] using this
      have hk' : ∀ j, ks[j]? = all[i + 1 + j]? := fun j => by
        have := hk (j + 1)
        simpa [Nat.add_assoc, Nat.add_comm 1 j] using this
      unfold phOpsV at h
      rw [List.length_cons, List.range'_succ]
      cases K with
      | turn q =>
        obtain ⟨s, hs, h⟩ := IsSome_elim h
        split at h
        · rename_i hu
          obtain ⟨h1, h2⟩ := h
          refine ⟨o, _, undef, h0, hk0, fun w hw => ?_, by rw [put_act]; exact ih ks (i + 1) _ hl' hk' h2⟩
          obtain ⟨w', hr, hc⟩ := h1 w hw
          have := (semOf_run hs hr).1
          rw [hu] at this
          exact ⟨w', .inr ⟨by rw [eval_act]; exact this, rfl⟩, hc⟩
        · rename_i hu
          obtain ⟨x, st, h1, h2⟩ := h
          refine ⟨o, _, _, h0, hk0, fun w hw => ?_, by rw [put_act]; exact ih ks (i + 1) _ hl' hk' h2⟩
          obtain ⟨w', hr, hc⟩ := h1 w hw
          have := (semOf_run hs hr).1
          rw [hu] at this
          exact ⟨w', .inl (by rw [eval_act]; exact this), hc⟩
      | quiet lo hi =>
        obtain ⟨v, h1, h2⟩ := qOpV_sober (next := fun a => phSeq P C ops all Qa (List.range' (i + 1) l.length) a) h fun v hv => ih ks (i + 1) _ hl' hk' hv
        exact ⟨o, _, v, h0, hk0, h1, h2⟩
def floatV (P : Program) (H : Hints) (ops : Array Oper) (m : Nat) (Q : Exit → List Value → World → Prop) (tm : List Value) (w : World) : Prop :=
  IsSome ops[m]? fun om => (match isEnt om with | true => entV P ops Q tm w | false => cnd (Region.lexTailB .any ops (m + 1)) (IsSome (laidV P om) fun obj => qOpsV P ops (Later w) (fun tm' => ∀ w1, Later w w1 → ∀ w2, w2 = w1.alloc obj → ∀ w3, Later w2 w3 → opsV P H.pan H.lets ops (normalQ Q) (ops.toList.drop (m + 1)) (putl om.dst tm' (.pointer (some ⟨w1.heap.size, 0, none⟩))) w3) (ops.toList.take m) tm) False)
def tailsV (P : Program) (H : Hints) (ops : Array Oper) (n : Nat) (Q : Exit → List Value → World → Prop) (tm : List Value) (w : World) : Prop :=
  cnd (Region.lexTailB .any ops n) (qOpsV P ops (Later w) (fun tm' => ∀ w', Later w w' → opsV P H.pan H.lets ops (normalQ Q) (ops.toList.drop n) tm' w') (ops.toList.take n) tm) False
def regV (P : Program) (H : Hints) (ops : Array Oper) (draw : Bool) (tl : Option Nat) (fl : Option Nat) (es : List (Nat × Nat)) (mx : Option Nat) (Q : Exit → List Value → World → Prop) (tm : List Value) (w : World) : Prop :=
  match draw with
  | false => opsV P H.pan H.lets ops Q ops.toList tm w
  | true => match mx with
   | some n => (match Nat.blt 900 n with
    | true => cnd (P.follows .mixedOrders && ordOk ops (ordOf ops ops.size (Array.replicate ops.size false))) (match Nat.beq n 1001 with
      | true => ∃ C : World → Prop, (∀ w', Later w w' → C w') ∧ ∀ w', Later w w' → ordV P H.pan H.lets ops (wtOf ops (ordOf ops ops.size (Array.replicate ops.size false))) C (normalQ Q) (ordOf ops ops.size (Array.replicate ops.size false)) tm w'
      | false => ∀ w', Later w w' → ordV P H.pan H.lets ops (wtOf ops (ordOf ops ops.size (Array.replicate ops.size false))) (Later w) (normalQ Q) (ordOf ops ops.size (Array.replicate ops.size false)) tm w') False
    | false => cnd (P.follows .mixedOrders && Region.lexTailB .any ops n) (mixV P w (fun Fs tm' => ∀ w', Good w Fs w' → opsV P H.pan H.lets ops Q (ops.toList.drop n) tm' w') (ops.toList.take n) [] tm) False)
   | none => match fl with
   | some m => cnd (P.follows .mixedOrders && edgesB .any ops es) (floatV P H (plusEdges ops es) m Q tm w) False
   | none => match tl with
    | none => cnd (P.follows .mixedOrders && Region.lexB .any ops) (qOpsV P ops (Later w) (fun tm' => ∀ w', Later w w' → Q .normal tm' w') ops.toList tm) False
    | some n => match es with
     | [] => cnd (P.follows .mixedOrders && Region.lexTailB .any ops n) (qOpsV P ops (Later w) (fun tm' => ∀ w', Later w w' → opsV P H.pan H.lets ops Q (ops.toList.drop n) tm' w') (ops.toList.take n) tm) False
     | e :: es => cnd (P.follows .mixedOrders && edgesB .any ops (e :: es)) (tailsV P H (plusEdges ops (e :: es)) n Q tm w) False
/-! ### a region that yields, in the function that is ranged over -/
def YieldC (P : Program) (l : Nat) (args : Array Value) (w : World) (K : Bool → World → Prop) : Prop :=
  YieldAt Fence.wide 0 P l args w fun e w' => ∃ b : Bool, e = .returned (.bool b) ∧ K b w'
theorem YieldC_mono {P : Program} {l : Nat} {args : Array Value} {w : World} {K K' : Bool → World → Prop} (h : ∀ v w, K v w → K' v w) (hh : YieldC P l args w K) : YieldC P l args w K' :=
  YieldAt.mono hh fun e w' ⟨b, h1, h2⟩ => ⟨b, h1, h _ _ h2⟩
theorem roundIn_wide {n m : Nat} {P : Program} {l : Nat} {f : FuncId} {tmps : Array Value} {assign body : Code} {w : World} {R : Ending → World → Prop} (h : RoundIn Fence.wide n P l f tmps assign body w R) : RoundIn Fence.wide m P l f tmps assign body w R :=
  ⟨h.1, fun c cs _ => h.2 c cs (room_wide _)⟩
def yieldOp (P : Program) (H : Hints) (ops : Array Oper) (Q : Exit → List Value → World → Prop) : List Oper → List Value → World → Prop
  | [], _, _ => False
  | o :: rest, tm, w => (match o.guard, o.op with
    | none, .call c => (match c.callee with
      | .value x => AsYield (ev tm x) fun l => YieldC P l (c.args.map (ev tm)) w fun b w' => opsV P H.pan H.lets ops Q rest (putl o.dst tm (.bool b)) w'
      | _ => False)
    | _, _ => False)
def yieldQ (P : Program) (H : Hints) (ops : Array Oper) (Q : Exit → List Value → World → Prop) (l : List Oper) : Exit → List Value → World → Prop
  | .normal, tm, w => yieldOp P H ops Q l tm w
  | e, tm, w => Q e tm w
def yieldV (P : Program) (H : Hints) (ops : Array Oper) (draw : Bool) (j : Nat) (Q : Exit → List Value → World → Prop) (tm : List Value) (w : World) : Prop :=
  cnd draw False (opsV P H.pan H.lets ops (yieldQ P H ops Q (ops.toList.drop j)) (ops.toList.take j) tm w)
def codeV (P : Program) (H : Hints) : Code → (Exit → List Value → World → Prop) → List Value → World → Prop
  | .skip, Q, tm, w => Q .normal tm w
  | .label _, Q, tm, w => Q .normal tm w
  | .ret, Q, tm, w => Q .ret tm w
  | .exit id, Q, tm, w => Q (.exit id) tm w
  | .goto l, Q, tm, w => Q (.goto l) tm w
  | .region id ops draw, Q, tm, w => (match H.raw.elem id with
      | true => (match lookN H.yields id with
        | some j => yieldV P H ops draw j Q tm w
        | none => RawWp P (.region id ops draw) Q tm w)
      | false => (match look H.regs id with
        | none => regV P H ops draw (lookN H.tails id) (lookN H.floats id) (edgesOf H.edges id) (lookN H.mixes id) Q tm w
        | some S => cnd (subS S (opDsts ops.toList)) (∃ J : List Value → World → Prop, regV P H ops draw (lookN H.tails id) (lookN H.floats id) (edgesOf H.edges id) (lookN H.mixes id) (seqQ (meetQ S J) Q) tm w ∧ joinV S (opDsts ops.toList) tm J fun tm' w' => Q .normal tm' w') False))
  | .seq a b, Q, tm, w => codeV P H a (seqQ (fun tm w => codeV P H b Q tm w) Q) tm w
  | .cond c a b, Q, tm, w => (match ev tm c with
      | .bool t => (match (match c with | .tmp k => look H.conds (condKey k a b) | _ => none) with
          | none => cnd t (codeV P H a Q tm w) (codeV P H b Q tm w)
          | some S => cnd (subS S (assigned a ++ assigned b)) (∃ J : List Value → World → Prop, cnd t (codeV P H a (seqQ (meetQ S J) Q) tm w) (codeV P H b (seqQ (meetQ S J) Q) tm w) ∧ joinV S (assigned a ++ assigned b) tm J fun tm' w' => Q .normal tm' w') False)
      | _ => False)
  | .block id c, Q, tm, w => (match look H.blocks id with
      | none => codeV P H c (blockQ id Q) tm w
      | some S => cnd (subS S (assigned c)) (∃ J : List Value → World → Prop, codeV P H c (blockQ id (seqQ (meetQ S J) Q)) tm w ∧ joinV S (assigned c) tm J fun tm' w' => Q .normal tm' w') False)
  | .loop c, Q, tm, w => IsSome (look H.loops (firstRegion c)) fun S => cnd (subS S (assigned c)) (∃ (I : List Value → World → Prop) (μ : List Value → World → Nat), meetQ S I tm w ∧
      ∀ (g : Nat → Value), allSel S fun vs => ∀ w', I vs w' → codeV P H c (seqQ (fun tm2 w2 => cnd (okSel S tm2) (Goes I μ vs w' (selL S tm2) w2) False) Q) (setSel S vs (garbFrom g (assigned c) 0 tm)) w') False
  | c, Q, tm, w => RawWp P c Q tm w

theorem opsV_strong {P : Program} {pan : Bool} {lets : List Nat} {ops : Array Oper} {A : List Nat} {tm0 : List Value} {Q Q' : Exit → List Value → World → Prop} (hq : ∀ e tm w, Agree A tm0 tm → Q e tm w → Q' e tm w) :
    ∀ (l : List Oper) (tm : List Value) (w : World), (∀ d, d ∈ opDsts l → d ∈ A) → Agree A tm0 tm → opsV P pan lets ops Q l tm w → opsV P pan lets ops Q' l tm w := by
  intro l
  induction l with
  | nil => intro tm w _ ha h; exact hq _ _ _ ha h
  | cons o rest ih =>
    intro tm w hA ha h
    have hd : ∀ d, o.dst = some d → d ∈ A := fun d hd => hA d (by simp [opDsts, hd])
    have hrest : ∀ d, d ∈ opDsts rest → d ∈ A := fun d hd => hA d (by unfold opDsts; split <;> simp [hd])
    have exec : ∀ tm', Agree A tm0 tm' → opV P pan lets o tm' w (fun v w' => opsV P pan lets ops Q rest (putl o.dst tm' v) w') (fun c w' => Q (.panic c) tm' w') →
        opV P pan lets o tm' w (fun v w' => opsV P pan lets ops Q' rest (putl o.dst tm' v) w') (fun c w' => Q' (.panic c) tm' w') := fun tm' ha' h' =>
      opV_mono (fun v w' hv => ih _ _ hrest (ha'.put hd v) hv) (fun c w' hc => hq _ _ _ ha' hc) h'
    have skip : ∀ tm', Agree A tm0 tm' → opsV P pan lets ops Q rest (putl o.dst tm' undef) w → opsV P pan lets ops Q' rest (putl o.dst tm' undef) w := fun tm' ha' h' => ih _ _ hrest (ha'.put hd _) h'
    unfold opsV at h ⊢
    split
    · rename_i hg
      simp only [hg] at h
      exact exec tm ha h
    · rename_i j want hg
      simp only [hg] at h
      obtain ⟨d, hd', h⟩ := IsSome_elim h
      refine IsSome_some hd' ?_
      split
      · rename_i b hb
        simp only [hb] at h
        cases b <;> cases want <;> simp only [cnd] at h ⊢
        · exact exec _ (ha.setSame hb) h
        · exact skip _ (ha.setSame hb) h
        · exact skip _ (ha.setSame hb) h
        · exact exec _ (ha.setSame hb) h
      · rename_i hne
        have h' : cnd (decide (d < tm.length)) (opsV P pan lets ops Q rest (putl o.dst tm undef) w) False := by
          revert h
          split
          · rename_i b hb; exact absurd hb (hne b)
          · exact id
        exact cnd_mono h' (skip tm ha) id
theorem qOpV_mono {P : Program} {C : World → Prop} {o : Oper} {tm : List Value} {K K' : Value → Prop} (h : ∀ v, K v → K' v) (hh : qOpV P C o tm K) : qOpV P C o tm K' := by
  unfold qOpV at hh ⊢
  split
  · rename_i t ht
    simp only [ht] at hh
    exact t.mono h hh
  · rename_i ht
    simp only [ht] at hh
    split
    · rename_i t a ho
      simp only [ho] at hh
      split
      · rename_i p he
        simp only [he] at hh
        obtain ⟨ad, ha, hh⟩ := Deref_elim hh
        exact Deref_some ha (loadV_mono h (fun _ _ _ => id) (fun _ _ => id) hh)
      · rename_i hne
        revert hh
        split
        · rename_i p he; exact absurd he (hne p)
        · exact id
    · rename_i x ho
      simp only [ho] at hh
      split
      · rename_i p he
        simp only [he] at hh
        obtain ⟨ad, ha, hh⟩ := Deref_elim hh
        exact Deref_some ha (h _ hh)
      · rename_i hne
        revert hh
        split
        · rename_i p he; exact absurd he (hne p)
        · exact id
    · rename_i c ho
      simp only [ho] at hh
      split
      · rename_i s hs
        simp only [hs] at hh
        exact Shape.ex_mono (fun v hv => ⟨hv.1, h _ hv.2⟩) hh
      · rename_i hs
        simp only [hs] at hh
        exact calleeV_mono (fun f a hc => cnd_mono hc (fun hc => retEx_mono (fun v hv => ⟨hv.1, h _ hv.2⟩) hc) id) hh
    · have hh' : (match semOf tm o with
        | some s => (match isUnit o.op with
            | true => False
            | false => retEx P o.type fun v => (∀ w', C w' → s.run P w' = .ok v w') ∧ K v)
        | none => False) := by
        revert hh
        split <;> first
          | exact id
          | (rename_i ho; intro _; exfalso; simp_all; done)
          | (intro _; simp_all)
      clear hh
      split
      · rename_i s hs
        simp only [hs] at hh'
        split
        · rename_i hu
          simp only [hu] at hh'
        · rename_i hu
          simp only [hu] at hh'
          exact retEx_mono (fun v hv => ⟨hv.1, h _ hv.2⟩) hh'
      · rename_i hs
        simp only [hs] at hh'
theorem phOpsV_strong {P : Program} {C : Nat → World → Prop} {A : List Nat} {tm0 : List Value} {Q Q' : List Value → Prop} (hq : ∀ tm, Agree A tm0 tm → Q tm → Q' tm) :
    ∀ (l : List Oper) (ks : List PhK) (tm : List Value), (∀ d, d ∈ opDsts l → d ∈ A) → Agree A tm0 tm → phOpsV P C Q ks l tm → phOpsV P C Q' ks l tm := by
  intro l
  induction l with
  | nil => intro ks tm _ ha h; unfold phOpsV at h ⊢; exact hq _ ha h
  | cons o rest ih =>
    intro ks tm hA ha h
    have hd : ∀ d, o.dst = some d → d ∈ A := fun d hd => hA d (by simp [opDsts, hd])
    have hrest : ∀ d, d ∈ opDsts rest → d ∈ A := fun d hd => hA d (by unfold opDsts; split <;> simp [hd])
    cases ks with
    | nil => simp [phOpsV] at h
    | cons K ks =>
      unfold phOpsV at h ⊢
      cases K with
      | turn q =>
        obtain ⟨s, hs, h⟩ := IsSome_elim h
        refine IsSome_some hs ?_
        split
        · rename_i hu
          simp only [hu] at h
          exact ⟨h.1, ih ks _ hrest (ha.put hd _) h.2⟩
        · rename_i hu
          simp only [hu] at h
          obtain ⟨x, st, h1, h2⟩ := h
          exact ⟨x, st, h1, ih ks _ hrest (ha.put hd _) h2⟩
      | quiet lo hi => exact qOpV_mono (fun v hv => ih ks _ hrest (ha.put hd v) hv) h
theorem qOpsV_strong {P : Program} {ops : Array Oper} {A : List Nat} {tm0 : List Value} {C : World → Prop} {Q Q' : List Value → Prop} (hq : ∀ tm, Agree A tm0 tm → Q tm → Q' tm) :
    ∀ (l : List Oper) (tm : List Value), (∀ d, d ∈ opDsts l → d ∈ A) → Agree A tm0 tm → qOpsV P ops C Q l tm → qOpsV P ops C Q' l tm := by
  intro l
  induction l with
  | nil => intro tm _ ha h; exact hq _ ha h
  | cons o rest ih =>
    intro tm hA ha h
    have hd : ∀ d, o.dst = some d → d ∈ A := fun d hd => hA d (by simp [opDsts, hd])
    have hrest : ∀ d, d ∈ opDsts rest → d ∈ A := fun d hd => hA d (by unfold opDsts; split <;> simp [hd])
    have exec : ∀ tm', Agree A tm0 tm' → qOpV P C o tm' (fun v => qOpsV P ops C Q rest (putl o.dst tm' v)) → qOpV P C o tm' (fun v => qOpsV P ops C Q' rest (putl o.dst tm' v)) := fun tm' ha' h' =>
      qOpV_mono (fun v hv => ih _ hrest (ha'.put hd v) hv) h'
    have skip : ∀ tm', Agree A tm0 tm' → qOpsV P ops C Q rest (putl o.dst tm' undef) → qOpsV P ops C Q' rest (putl o.dst tm' undef) := fun tm' ha' h' => ih _ hrest (ha'.put hd _) h'
    unfold qOpsV at h ⊢
    split
    · rename_i hg
      simp only [hg] at h
      exact exec tm ha h
    · rename_i j want hg
      simp only [hg] at h
      obtain ⟨d, hd', h⟩ := IsSome_elim h
      refine IsSome_some hd' ?_
      split
      · rename_i b hb
        simp only [hb] at h
        cases b <;> cases want <;> simp only [cnd] at h ⊢
        · exact exec _ (ha.setSame hb) h
        · exact skip _ (ha.setSame hb) h
        · exact skip _ (ha.setSame hb) h
        · exact exec _ (ha.setSame hb) h
      · rename_i hne
        have h' : cnd (decide (d < tm.length)) (qOpsV P ops C Q rest (putl o.dst tm undef)) False := by
          revert h
          split
          · rename_i b hb; exact absurd hb (hne b)
          · exact id
        exact cnd_mono h' (skip tm ha) id

theorem Agree.garb {A B : List Nat} {tm0 tm : List Value} (h : Agree A tm0 tm) (hB : ∀ i, i ∈ B → i ∈ A) (g : Nat → Value) : Agree A tm0 (garbFrom g B 0 tm) := by
  refine ⟨?_, fun i hi => ?_⟩
  · have : ∀ (l : List Value) k, (garbFrom g B k l).length = l.length := by
      intro l
      induction l with
      | nil => intro k; rfl
      | cons v l ih => intro k; simp [garbFrom, ih]
    rw [this]; exact h.1
  · rw [garbFrom_get]
    have : B.elem (0 + i) = false := by
      cases hb : B.elem (0 + i) with
      | false => rfl
      | true => exact absurd (hB i (by simpa using hb)) hi
    rw [this]
    simp only [Option.map_id']
    exact h.2 i hi
theorem Agree.setSel {A : List Nat} {tm0 : List Value} : ∀ (S : Slots) (vs tm : List Value), subS S A = true → Agree A tm0 tm → Agree A tm0 (setSel S vs tm) := by
  intro S
  induction S with
  | nil => intro vs tm _ h; cases vs <;> exact h
  | cons x S ih =>
    intro vs tm hs h
    simp only [subS, List.all_cons, Bool.and_eq_true] at hs
    cases vs with
    | nil => exact h
    | cons v vs => exact ih vs _ hs.2 (Agree.put (dst := some x.1) h (fun d hd => by cases hd; simpa using hs.1) v)
theorem subS_mono {S : Slots} {A B : List Nat} (h : ∀ i, i ∈ A → i ∈ B) (hs : subS S A = true) : subS S B = true := by
  simp only [subS, List.all_eq_true] at hs ⊢
  intro x hx
  have := hs x hx
  simp at this ⊢
  exact h _ this
theorem allSel_mono {S : Slots} : ∀ {L L' : List Value → Prop}, (∀ vs, L vs → L' vs) → allSel S L → allSel S L' := by
  induction S with
  | nil => intro L L' h hh; exact h _ hh
  | cons x S ih => intro L L' h hh; exact Shape.all_mono (fun v hv => ih (fun vs => h _) hv) hh
theorem joinV_mono {S : Slots} {A B : List Nat} {tm0 tm : List Value} {J : List Value → World → Prop} {next next' : List Value → World → Prop} (hs : subS S A = true) (hB : ∀ i, i ∈ A → i ∈ B) (ha : Agree B tm0 tm)
    (h : ∀ tm' w', Agree B tm0 tm' → next tm' w' → next' tm' w') (hh : joinV S A tm J next) : joinV S A tm J next' :=
  fun g => allSel_mono (fun vs hv w' hJ => h _ _ (Agree.setSel S vs _ (subS_mono hB hs) (ha.garb hB g)) (hv w' hJ)) (hh g)
theorem joinV_elim {S : Slots} {A : List Nat} {tm tm' : List Value} {w' : World} {J : List Value → World → Prop} {next : List Value → World → Prop} (hh : joinV S A tm J next) (ha : Agree A tm tm') (hm : meetQ S J tm' w') : next tm' w' := by
  rcases cnd_cases hm with ⟨hok, hJ⟩ | ⟨_, h⟩
  · have := allSel_elim (hh fun i => tm'.getD i undef) hok w' hJ
    rwa [garb_of_agree ha, setSel_self] at this
  · exact h.elim

theorem opDsts_modify {f : Oper → Oper} (hf : ∀ o, (f o).dst = o.dst) : ∀ (l : List Oper) (j : Nat), opDsts (l.modify j f) = opDsts l := by
  intro l
  induction l with
  | nil => intro j; simp
  | cons o l ih =>
    intro j
    cases j with
    | zero => simp [opDsts, hf]
    | succ j => simp [opDsts, ih]
theorem opDsts_plusEdges (es : List (Nat × Nat)) : ∀ (ops : Array Oper), opDsts (plusEdges ops es).toList = opDsts ops.toList := by
  induction es with
  | nil => intro ops; rfl
  | cons e es ih =>
    intro ops
    rw [plusEdges, ih]
    unfold plusEdge
    rw [Array.toList_modify]
    refine opDsts_modify ?_ _ _
    intro o
    rfl
theorem mixV_strong {P : Program} {A : List Nat} {tm0 : List Value} {w : World} {K K' : List (Nat × Obj) → List Value → Prop} (hq : ∀ Fs tm, Agree A tm0 tm → K Fs tm → K' Fs tm) :
    ∀ (l : List Oper) (Fs : List (Nat × Obj)) (tm : List Value), (∀ d, d ∈ opDsts l → d ∈ A) → Agree A tm0 tm → mixV P w K l Fs tm → mixV P w K' l Fs tm := by
  intro l
  induction l with
  | nil => intro Fs tm _ ha h; exact hq _ _ ha h
  | cons o rest ih =>
    intro Fs tm hA ha h
    have hd : ∀ d, o.dst = some d → d ∈ A := fun d hd => hA d (by simp [opDsts, hd])
    have hrest : ∀ d, d ∈ opDsts rest → d ∈ A := fun d hd => hA d (by unfold opDsts; split <;> simp [hd])
    unfold mixV at h ⊢
    cases hg : o.guard with
    | some x => simp only [hg] at h
    | none =>
      simp only [hg] at h ⊢
      cases hm : makerV P tm o with
      | some m =>
        simp only [hm] at h ⊢
        exact ⟨h.1, fun k hk => ih _ _ hrest (ha.put hd _) (h.2 k hk)⟩
      | none =>
        simp only [hm] at h ⊢
        cases ht : pureT P tm o with
        | some t =>
          simp only [ht] at h ⊢
          exact t.mono (fun v hv => ih _ _ hrest (ha.put hd _) hv) h
        | none =>
          simp only [ht] at h ⊢
          split
          · rename_i t a ho
            simp only [ho] at h
            split
            · rename_i p he
              simp only [he] at h
              obtain ⟨ad, had, hL⟩ := Deref_elim h
              exact Deref_some had (loadV_mono (fun v hv => ih _ _ hrest (ha.put hd _) hv) (fun _ _ _ => id) (fun _ _ => id) hL)
            · rename_i hne
              revert h
              split
              · rename_i p he; exact absurd he (hne p)
              · exact id
          · rename_i hne
            revert h
            split
            · rename_i t a ho; exact absurd ho (hne t a)
            · exact id
theorem plainV_mono {P : Program} {C : World → Prop} {o : Oper} {tm : List Value} {K K' : Value → Prop} (h : ∀ v, K v → K' v) (hh : plainV P C o tm K) : plainV P C o tm K' := by
  unfold plainV at hh ⊢
  split
  · rename_i t ht
    simp only [ht] at hh
    exact t.mono h hh
  · rename_i ht
    simp only [ht] at hh
    split
    · rename_i t a ho
      simp only [ho] at hh
      split
      · rename_i p he
        simp only [he] at hh
        obtain ⟨ad, ha, hh⟩ := Deref_elim hh
        exact Deref_some ha (loadV_mono h (fun _ _ _ => id) (fun _ _ => id) hh)
      · rename_i hne
        revert hh
        split
        · rename_i p he; exact absurd he (hne p)
        · exact id
    · rename_i x ho
      simp only [ho] at hh
      split
      · rename_i p he
        simp only [he] at hh
        obtain ⟨ad, ha, hh⟩ := Deref_elim hh
        exact Deref_some ha (h _ hh)
      · rename_i hne
        revert hh
        split
        · rename_i p he; exact absurd he (hne p)
        · exact id
    · rename_i src dst x ho
      simp only [ho] at hh
      exact LooksV_mono (fun v hv => retEx_mono (fun u hu => ⟨hu.1, h _ hu.2⟩) hv) hh
    · rename_i hne hne2 hne3
      revert hh
      split
      · rename_i t a ho; exact absurd ho (hne t a)
      · rename_i x ho; exact absurd ho (hne2 x)
      · rename_i src dst x ho; exact absurd ho (hne3 src dst x)
      · exact id
theorem ordV_strong {P : Program} {pan : Bool} {lets : List Nat} {ops : Array Oper} {wt : List Nat} {C : World → Prop} {A : List Nat} {tm0 : List Value} {Q Q' : Exit → List Value → World → Prop} (hA : ∀ d, d ∈ opDsts ops.toList → d ∈ A) (hq : ∀ e tm w, Agree A tm0 tm → Q e tm w → Q' e tm w) :
    ∀ (l : List (Nat × Bool)) (tm : List Value) (w : World), Agree A tm0 tm → ordV P pan lets ops wt C Q l tm w → ordV P pan lets ops wt C Q' l tm w := by
  intro l
  induction l with
  | nil => intro tm w ha h; exact hq _ _ _ ha h
  | cons x r ih =>
    obtain ⟨i, pl⟩ := x
    intro tm w ha h
    unfold ordV at h ⊢
    obtain ⟨o, ho, h⟩ := IsSome_elim h
    refine IsSome_some ho ?_
    have hd : ∀ d, o.dst = some d → d ∈ A := fun d hd => hA d (by rw [mem_opDsts]; exact ⟨o, by simpa using List.mem_of_getElem? (show ops.toList[i]? = some o by simpa using ho), hd⟩)
    have exec : ∀ tm', Agree A tm0 tm' → ordStep P pan lets C Q (fun tm' w' => ordV P pan lets ops wt C Q r tm' w') o (wt.elem i) pl tm' w → ordStep P pan lets C Q' (fun tm' w' => ordV P pan lets ops wt C Q' r tm' w') o (wt.elem i) pl tm' w := by
      intro tm' ha' hs
      unfold ordStep at hs ⊢
      cases pl with
      | true =>
        cases hw : wt.elem i with
        | false => simp only [hw] at hs ⊢; exact plainV_mono (fun v hv => ih _ _ (ha'.put hd v) hv) hs
        | true => simp only [hw] at hs ⊢; exact plainV_mono (fun v hv => ih _ _ (ha'.put hd v) hv) hs
      | false =>
        cases hw : wt.elem i with
        | false => simp only [hw] at hs ⊢; exact opV_mono (fun v w' hv => ⟨hv.1, ih _ _ (ha'.put hd v) hv.2⟩) (fun c w' hc => hq _ _ _ ha' hc) hs
        | true => simp only [hw] at hs ⊢; exact opV_mono (fun v w' hv => ih _ _ (ha'.put hd v) hv) (fun c w' hc => hq _ _ _ ha' hc) hs
    have skip : ∀ tm', Agree A tm0 tm' → ordV P pan lets ops wt C Q r (putl o.dst tm' undef) w → ordV P pan lets ops wt C Q' r (putl o.dst tm' undef) w := fun tm' ha' h' => ih _ _ (ha'.put hd _) h'
    split
    · rename_i hg
      simp only [hg] at h
      exact exec tm ha h
    · rename_i j want hg
      simp only [hg] at h
      obtain ⟨d, hd', h⟩ := IsSome_elim h
      refine IsSome_some hd' ?_
      split
      · rename_i b hb
        simp only [hb] at h
        cases b <;> cases want <;> simp only [cnd] at h ⊢
        · exact exec _ (ha.setSame hb) h
        · exact skip _ (ha.setSame hb) h
        · exact skip _ (ha.setSame hb) h
        · exact exec _ (ha.setSame hb) h
      · rename_i hne
        have h' : cnd (decide (d < tm.length)) (ordV P pan lets ops wt C Q r (putl o.dst tm undef) w) False := by
          revert h
          split
          · rename_i b hb; exact absurd hb (hne b)
          · exact id
        exact cnd_mono h' (skip tm ha) id
theorem regV_strong {P : Program} {H : Hints} {ops : Array Oper} {draw : Bool} {tl fl : Option Nat} {es : List (Nat × Nat)} {mx : Option Nat} {A : List Nat} {tm0 : List Value} {Q Q' : Exit → List Value → World → Prop} {tm : List Value} {w : World} (hA : ∀ d, d ∈ opDsts ops.toList → d ∈ A) (ha : Agree A tm0 tm)
    (hq : ∀ e tm' w', Agree A tm0 tm' → Q e tm' w' → Q' e tm' w') (h : regV P H ops draw tl fl es mx Q tm w) : regV P H ops draw tl fl es mx Q' tm w := by
  unfold regV at h ⊢
  cases draw with
  | false => exact opsV_strong hq _ _ _ hA ha h
  | true =>
   cases mx with
   | some n =>
    have hT : ∀ d, d ∈ opDsts (ops.toList.take n) → d ∈ A := fun d hd => hA d (by rw [mem_opDsts] at hd ⊢; obtain ⟨o, ho, e⟩ := hd; exact ⟨o, List.mem_of_mem_take ho, e⟩)
    have hD : ∀ d, d ∈ opDsts (ops.toList.drop n) → d ∈ A := fun d hd => hA d (by rw [mem_opDsts] at hd ⊢; obtain ⟨o, ho, e⟩ := hd; exact ⟨o, List.mem_of_mem_drop ho, e⟩)
    cases hbl : Nat.blt 900 n with
    | true =>
      simp only [hbl] at h ⊢
      have hq' : ∀ e tm' w', Agree A tm0 tm' → normalQ Q e tm' w' → normalQ Q' e tm' w' := by
        intro e tm' w' ha' h'
        cases e with
        | normal => exact hq _ _ _ ha' h'
        | _ => exact h'
      refine cnd_mono h (fun h => ?_) (fun x => x)
      cases hn : Nat.beq n 1001 with
      | true =>
        simp only [hn] at h ⊢
        obtain ⟨C, hC, h⟩ := h
        exact ⟨C, hC, fun w' hw' => ordV_strong hA hq' _ _ _ ha (h w' hw')⟩
      | false =>
        simp only [hn] at h ⊢
        exact fun w' hw' => ordV_strong hA hq' _ _ _ ha (h w' hw')
    | false =>
    simp only [hbl] at h ⊢
    exact cnd_mono h (fun h => mixV_strong (fun Fs tm' ha' h' w' hg => opsV_strong hq _ _ _ hD ha' (h' w' hg)) _ _ _ hT ha h) (fun x => x)
   | none =>
   cases fl with
   | some m =>
    refine cnd_mono h (fun h => ?_) (fun x => x)
    obtain ⟨om, hom, h⟩ := IsSome_elim h
    refine IsSome_some hom ?_
    have hds := opDsts_plusEdges es ops
    have hA' : ∀ d, d ∈ opDsts (plusEdges ops es).toList → d ∈ A := fun d hd => hA d (by rw [← hds]; exact hd)
    have hT : ∀ d, d ∈ opDsts ((plusEdges ops es).toList.take m) → d ∈ A := fun d hd => hA' d (by rw [mem_opDsts] at hd ⊢; obtain ⟨o, ho, e⟩ := hd; exact ⟨o, List.mem_of_mem_take ho, e⟩)
    have hD : ∀ d, d ∈ opDsts ((plusEdges ops es).toList.drop (m + 1)) → d ∈ A := fun d hd => hA' d (by rw [mem_opDsts] at hd ⊢; obtain ⟨o, ho, e⟩ := hd; exact ⟨o, List.mem_of_mem_drop ho, e⟩)
    have hM : ∀ d, om.dst = some d → d ∈ A := fun d hd => hA' d (by rw [mem_opDsts]; exact ⟨om, by simpa using List.mem_of_getElem? (show (plusEdges ops es).toList[m]? = some om by simpa using hom), hd⟩)
    have hq' : ∀ e tm' w', Agree A tm0 tm' → normalQ Q e tm' w' → normalQ Q' e tm' w' := by
      intro e tm' w' ha' h'
      cases e with
      | normal => exact hq _ _ _ ha' h'
      | _ => exact h'
    cases hent : isEnt om with
    | true =>
      simp only [hent] at h ⊢
      refine cnd_mono h (fun h => ?_) (fun x => x)
      obtain ⟨C, hcl, h⟩ := h
      exact ⟨C, hcl, phOpsV_strong (fun tm' ha' h' w' hw' => hq _ _ _ ha' (h' w' hw')) _ _ _ hA' ha h⟩
    | false =>
      simp only [hent] at h ⊢
      refine cnd_mono h (fun h => ?_) (fun x => x)
      obtain ⟨obj, hob, h⟩ := IsSome_elim h
      exact IsSome_some hob (qOpsV_strong (fun tm' ha' h' w1 h1 w2 h2 w3 h3 => opsV_strong hq' _ _ _ hD (ha'.put hM _) (h' w1 h1 w2 h2 w3 h3)) _ _ hT ha h)
   | none =>
    cases tl with
    | none => exact cnd_mono h (fun h => qOpsV_strong (fun tm' ha' h' w' hw' => hq _ _ _ ha' (h' w' hw')) _ _ hA ha h) (fun x => x)
    | some n =>
     cases es with
     | cons e es =>
      have hds := opDsts_plusEdges (e :: es) ops
      have hA' : ∀ d, d ∈ opDsts (plusEdges ops (e :: es)).toList → d ∈ A := fun d hd => hA d (by rw [← hds]; exact hd)
      have hT : ∀ d, d ∈ opDsts ((plusEdges ops (e :: es)).toList.take n) → d ∈ A := fun d hd => hA' d (by rw [mem_opDsts] at hd ⊢; obtain ⟨o, ho, e⟩ := hd; exact ⟨o, List.mem_of_mem_take ho, e⟩)
      have hD : ∀ d, d ∈ opDsts ((plusEdges ops (e :: es)).toList.drop n) → d ∈ A := fun d hd => hA' d (by rw [mem_opDsts] at hd ⊢; obtain ⟨o, ho, e⟩ := hd; exact ⟨o, List.mem_of_mem_drop ho, e⟩)
      have hq' : ∀ e tm' w', Agree A tm0 tm' → normalQ Q e tm' w' → normalQ Q' e tm' w' := by
        intro e tm' w' ha' h'
        cases e with
        | normal => exact hq _ _ _ ha' h'
        | _ => exact h'
      exact cnd_mono h (fun h => cnd_mono h (fun h => qOpsV_strong (fun tm' ha' h' w' hw' => opsV_strong hq' _ _ _ hD ha' (h' w' hw')) _ _ hT ha h) (fun x => x)) (fun x => x)
     | nil =>
      have hT : ∀ d, d ∈ opDsts (ops.toList.take n) → d ∈ A := fun d hd => hA d (by rw [mem_opDsts] at hd ⊢; obtain ⟨o, ho, e⟩ := hd; exact ⟨o, List.mem_of_mem_take ho, e⟩)
      have hD : ∀ d, d ∈ opDsts (ops.toList.drop n) → d ∈ A := fun d hd => hA d (by rw [mem_opDsts] at hd ⊢; obtain ⟨o, ho, e⟩ := hd; exact ⟨o, List.mem_of_mem_drop ho, e⟩)
      exact cnd_mono h (fun h => qOpsV_strong (fun tm' ha' h' w' hw' => opsV_strong hq _ _ _ hD ha' (h' w' hw')) _ _ hT ha h) (fun x => x)
theorem regV_wpR {P : Program} {H : Hints} {ops : Array Oper} {draw : Bool} {tl fl : Option Nat} {es : List (Nat × Nat)} {mx : Option Nat} {Q : Exit → List Value → World → Prop} {tm : List Value} {w : World} (h : regV P H ops draw tl fl es mx Q tm w) : wpR P ops draw (upD ds Q) (actD ds tm) w := by
  unfold regV at h
  cases draw with
  | false => exact wpR_list (opsV_wp _ _ _ h)
  | true =>
   cases mx with
   | some n =>
    cases hbl : Nat.blt 900 n with
    | true =>
      simp only [hbl] at h
      rcases cnd_cases h with ⟨hb, h⟩ | ⟨_, h⟩
      · simp only [Bool.and_eq_true] at hb
        have out : wpR P ops true (upD ds (normalQ Q)) (actD ds tm) w → wpR P ops true (upD ds Q) (actD ds tm) w := wpR_to fun e a w h => by
          cases e with
          | normal => exact h
          | _ => exact h.2.elim
        cases hn : Nat.beq n 1001 with
        | true =>
          simp only [hn] at h
          obtain ⟨C, hC, h⟩ := h
          exact out (wp_region_ord hb.1 hb.2 (fun c tm w h => h) hC h)
        | false =>
          simp only [hn] at h
          exact out (wp_region_ord (C := Later w) hb.1 hb.2 (fun c tm w h => h) (fun _ h => h) h)
      · exact h.elim
    | false =>
    simp only [hbl] at h
    rcases cnd_cases h with ⟨hb, h⟩ | ⟨_, h⟩
    · simp only [Bool.and_eq_true] at hb
      refine wp_region_mix n hb.1 hb.2 ?_
      exact mixV_wp (fun Fs tm' h' w' hg => opsV_wp _ _ _ (h' w' hg)) _ _ _ h
    · exact h.elim
   | none =>
   cases fl with
   | some m =>
    rcases cnd_cases h with ⟨hb, h⟩ | ⟨_, h⟩
    · simp only [Bool.and_eq_true] at hb
      obtain ⟨om, hom, h⟩ := IsSome_elim h
      cases hent : isEnt om with
      | true =>
        simp only [hent] at h
        rcases cnd_cases h with ⟨hb2, h⟩ | ⟨_, h⟩
        · obtain ⟨C, ⟨hC, hw⟩, h⟩ := h
          refine wpR_to (Q := upD ds (normalQ Q)) (fun e a w h => ?_) (wp_region_ph (C := C) (Qa := fun a => a.defers = ds ∧ ∀ w', C (turnersFrom 0 (plusEdges ops es).toList).length w' → Q .normal a.tmps.toList w') es hb.1 hb.2 (fun c a w h => h.2) (fun a w h => h.2) hb2 hC (fun a w hw h => ⟨h.1, h.2 w hw⟩) hw ?_)
          · cases e with
            | normal => exact h
            | _ => exact h.2.elim
          · rw [List.range_eq_range', show (plusEdges ops es).size = (plusEdges ops es).toList.length from rfl]
            exact phOpsV_seq (fun tm' h' => ⟨rfl, h'⟩) _ _ 0 _ (fun j hj => by simp) (fun j => by simp) h
        · exact h.elim
      | false =>
        simp only [hent] at h
        rcases cnd_cases h with ⟨hb2, h⟩ | ⟨_, h⟩
        · obtain ⟨obj, hob, h⟩ := IsSome_elim h
          obtain ⟨hg, hrun⟩ := laidV_run hob
          refine wpR_to (Q := upD ds (normalQ Q)) (fun e a w h => ?_) (wp_region_float es m hb.1 hb.2 (fun c a w h => h.2) (fun a w h => h.2) hb2 hom hg hrun ?_)
          · cases e with
            | normal => exact h
            | _ => exact h.2.elim
          · exact qOpsV_wp (fun tm' h' w1 h1 w2 h2 w3 h3 => by rw [put_act]; exact opsV_wp _ _ _ (h' w1 h1 w2 h2 w3 h3)) _ _ h
        · exact h.elim
    · exact h.elim
   | none =>
    cases tl with
    | none =>
      rcases cnd_cases h with ⟨hb, h⟩ | ⟨_, h⟩
      · simp only [Bool.and_eq_true] at hb
        refine wpR_quiet (C := Later w) hb.1 hb.2 ((Below.refl _ _).drew) ?_
        exact wpSober_quiet (closed_later w) _ _ (qOpsV_wp (fun tm' h' w' hw' => up_act (h' w' hw')) _ _ h)
      · exact h.elim
    | some n =>
     cases es with
     | cons e es =>
      rcases cnd_cases h with ⟨hb, h⟩ | ⟨_, h⟩
      · simp only [Bool.and_eq_true] at hb
        rcases cnd_cases h with ⟨hb2, h⟩ | ⟨_, h⟩
        · refine wpR_to (Q := upD ds (normalQ Q)) (fun e a w h => ?_) (wp_region_tail_edges (e :: es) n hb.1 hb.2 (fun c a w h => h.2) (fun a w h => h.2) hb2 ?_)
          · cases e with
            | normal => exact h
            | _ => exact h.2.elim
          · exact qOpsV_wp (fun tm' h' w1 h1 => opsV_wp _ _ _ (h' w1 h1)) _ _ h
        · exact h.elim
      · exact h.elim
     | nil =>
      rcases cnd_cases h with ⟨hb, h⟩ | ⟨_, h⟩
      · simp only [Bool.and_eq_true] at hb
        refine wp_region_quiet_tail (C := Later w) n hb.1 hb.2 ((Below.refl _ _).drew) ?_
        exact wpSober_quiet (closed_later w) _ _ (qOpsV_wp (fun tm' h' w' hw' => opsV_wp _ _ _ (h' w' hw')) _ _ h)
      · exact h.elim
theorem regV_wp {P : Program} {H : Hints} {id : Nat} {ops : Array Oper} {draw : Bool} {tl fl : Option Nat} {es : List (Nat × Nat)} {mx : Option Nat} {Q : Exit → List Value → World → Prop} {tm : List Value} {w : World} (h : regV P H ops draw tl fl es mx Q tm w) : (Code.region id ops draw).wp P (upD ds Q) (actD ds tm) w := wpR_wp (regV_wpR h)
theorem yieldV_strong {P : Program} {H : Hints} {ops : Array Oper} {draw : Bool} {j : Nat} {A : List Nat} {tm0 : List Value} {Q Q' : Exit → List Value → World → Prop} {tm : List Value} {w : World} (hA : ∀ d, d ∈ opDsts ops.toList → d ∈ A) (ha : Agree A tm0 tm)
    (hq : ∀ e tm' w', Agree A tm0 tm' → Q e tm' w' → Q' e tm' w') (h : yieldV P H ops draw j Q tm w) : yieldV P H ops draw j Q' tm w := by
  have hT : ∀ d, d ∈ opDsts (ops.toList.take j) → d ∈ A := fun d hd => hA d (by rw [mem_opDsts] at hd ⊢; obtain ⟨o, ho, e⟩ := hd; exact ⟨o, List.mem_of_mem_take ho, e⟩)
  have hD : ∀ d, d ∈ opDsts (ops.toList.drop j) → d ∈ A := fun d hd => hA d (by rw [mem_opDsts] at hd ⊢; obtain ⟨o, ho, e⟩ := hd; exact ⟨o, List.mem_of_mem_drop ho, e⟩)
  refine cnd_mono h id fun h => opsV_strong ?_ _ _ _ hT ha h
  intro e tm' w' ha' h'
  cases e with
  | normal =>
    revert h' hD
    show (∀ d, d ∈ opDsts (ops.toList.drop j) → d ∈ A) → yieldOp P H ops Q (ops.toList.drop j) tm' w' → yieldOp P H ops Q' (ops.toList.drop j) tm' w'
    generalize ops.toList.drop j = l
    intro hD h'
    cases l with
    | nil => exact h'.elim
    | cons o rest =>
      simp only [yieldOp] at h' ⊢
      split at h'
      · rename_i c hg ho
        split at h'
        · rename_i x hx
          obtain ⟨l, hv, h'⟩ := AsYield_elim h'
          simp only [hg, ho, hx, hv]
          refine ⟨rfl, rfl, YieldC_mono (fun v w1 h1 => opsV_strong hq _ _ _ (fun d hd => hD d ?_) (ha'.put (fun d hd => hD d ?_) (.bool v)) h1) h'⟩
          · rw [mem_opDsts] at hd ⊢; obtain ⟨o', ho', e'⟩ := hd; exact ⟨o', List.mem_cons_of_mem _ ho', e'⟩
          · rw [mem_opDsts]; exact ⟨o, List.mem_cons_self, hd⟩
        · exact h'.elim
      · exact h'.elim
  | _ => exact hq _ _ _ ha' h'
theorem Oper_wpWide {P : Program} {n : Nat} {o : Oper} {a : Act} {w : World} {Q : Exit → Act → World → Prop} {K K' : Act → World → Prop} (hO : ¬ LetsOut Q) (hK : ∀ a w, K a w → K' a w) (h : o.wp P a w K Q) : o.wpIn Fence.wide n P a w K' Q := by
  refine ⟨fun _ _ => trivial, ?_⟩
  unfold Oper.wp at h
  rw [show Fence.wide.round = none from rfl, Oper.semAt_none]
  have hn : (Fence.wide.depth.isSome = true → 1 ≤ n) := fun h => by cases h
  generalize (execOp a.eval o).run P w = r at *
  cases r with
  | ok x w' =>
    cases x <;> simp only [Oper.upon, Oper.uponIn] at h ⊢ <;>
      first
        | exact hK _ _ h
        | exact ⟨hn, callsIn_wide.2 (h.mono (fun e w'' he => by
            cases e with
            | returned v => exact hK _ _ he
            | panicked c => exact he
            | outgrown => exact absurd he hO))⟩
        | exact ⟨hn, fun c cs _ => let ⟨v, w1, r, s⟩ := h c cs; ⟨v, w1, hK _ _ r, (StepsIn.of_steps s).mono fun m _ => fenced_wide P m⟩⟩
  | halt x w' => cases x <;> simp only [Oper.upon, Oper.uponIn] at h ⊢ <;> exact h
theorem opsV_in {P : Program} {pan : Bool} {lets : List Nat} {n : Nat} {ops : Array Oper} {Q : Exit → List Value → World → Prop} {K : Exit → Act → World → Prop} {js : List Nat} (hO : ¬ LetsOut K) (hP : ∀ c tm w, Q (.panic c) tm w → K (.panic c) (actD ds tm) w)
    (hK : ∀ tm w, Q .normal tm w → wpOpsIn Fence.wide n P ops K js (actD ds tm) w) : ∀ (l : List Oper) (k : Nat) (tm : List Value) (w : World), (∀ i o, l[i]? = some o → ops[k + i]? = some o) →
      opsV P pan lets ops Q l tm w → wpOpsIn Fence.wide n P ops K (List.range' k l.length ++ js) (actD ds tm) w := by
  intro l
  induction l with
  | nil => intro k tm w _ h; exact hK _ _ h
  | cons o rest ih =>
    intro k tm w hl h
    have h0 : ops[k]? = some o := hl 0 o rfl
    have hr : ∀ i o', rest[i]? = some o' → ops[k + 1 + i]? = some o' := fun i o' hi => by
      have := hl (i + 1) o' (by simpa using hi)
      rwa [show k + (i + 1) = k + 1 + i by omega] at this
    have exec : ∀ tm', tm' = tm → Region.wanted o (yielded ops (actD ds tm).tmps) = true →
        opV P pan lets o tm' w (fun v w' => opsV P pan lets ops Q rest (putl o.dst tm' v) w') (fun c w' => Q (.panic c) tm' w') → wpOpsIn Fence.wide n P ops K (List.range' k (o :: rest).length ++ js) (actD ds tm) w := by
      intro tm' he hw ho
      subst he
      rw [List.length_cons, List.range'_succ, List.cons_append, wpOpsIn]
      simp only [h0, hw, if_true]
      exact Oper_wpWide hO (fun _ _ h => h) (opV_wp (Q := K) ho (fun v w' hv => ih (k + 1) _ _ hr hv) (fun c w' hc => hP _ _ _ hc))
    have skip : ∀ tm', tm' = tm → Region.wanted o (yielded ops (actD ds tm).tmps) = false → opsV P pan lets ops Q rest (putl o.dst tm' undef) w → wpOpsIn Fence.wide n P ops K (List.range' k (o :: rest).length ++ js) (actD ds tm) w := by
      intro tm' he hw ho
      subst he
      rw [List.length_cons, List.range'_succ, List.cons_append, wpOpsIn]
      simp only [h0, hw, Bool.false_eq_true, if_false, put_act]
      exact ⟨fun _ _ => trivial, ih (k + 1) _ _ hr ho⟩
    unfold opsV at h
    split at h
    · rename_i hg
      exact exec tm rfl (by simp [Region.wanted, hg]) h
    · rename_i j want hg
      obtain ⟨d, hd, h⟩ := IsSome_elim h
      have hw := wanted_guard (ds := ds) (ops := ops) hg hd (tm := tm)
      split at h
      · rename_i b hb
        have hsome : tm[d]? = some (.bool b) := by
          cases hh : tm[d]? with
          | none => simp [List.getD, hh, undef] at hb
          | some v => simp [List.getD, hh] at hb; rw [hb]
        rw [hsome] at hw
        cases b <;> cases want <;> simp only [cnd] at h
        · exact exec _ (set_same hb) (by simpa using hw) h
        · exact skip _ (set_same hb) (by simpa using hw) h
        · exact skip _ (set_same hb) (by simpa using hw) h
        · exact exec _ (set_same hb) (by simpa using hw) h
      · rename_i hne
        rcases cnd_cases h with ⟨_, h⟩ | ⟨_, h⟩
        · refine skip tm rfl ?_ h
          rw [hw]
          split
          · rename_i b hb
            exact absurd (show tm.getD d undef = .bool b by simp [List.getD, hb]) (hne b)
          · rfl
        · exact h.elim
theorem run_yieldOp {P : Program} {tm : List Value} {o : Oper} {c : Call} {x : Operand} {l : Nat} (ho : o.op = .call c) (hx : c.callee = .value x) (hv : ev tm x = .func (.yield l) #[] #[]) (w : World) :
    (execOp (ev tm) o).run P w = (Instr.yield l (c.args.map (ev tm))).run P w := by
  obtain ⟨callee, args, argTypes⟩ := c
  simp only at hx
  subst hx
  simp only [execOp, ho, resolve, hv, Deferred.ofValue, Sem.run_bind, Sem.run_pure, Result.andThen_ok, invoke]
  simp
theorem yieldV_wp {P : Program} {H : Hints} {id : Nat} {ops : Array Oper} {draw : Bool} {j : Nat} {Q : Exit → List Value → World → Prop} {tm : List Value} {w : World} (h : yieldV P H ops draw j Q tm w) : (Code.region id ops draw).wp P (upD ds Q) (actD ds tm) w := by
  rcases cnd_cases h with ⟨_, h⟩ | ⟨hd, h⟩
  · exact h.elim
  subst hd
  have hO : ¬ LetsOut (fun e a w => e ≠ .outgrown ∧ upD ds Q e a w) := fun ⟨a, w, h⟩ => h.1 rfl
  have hP : ∀ c tm w, Q (.panic c) tm w → (fun e a w => e ≠ .outgrown ∧ upD ds Q e a w) (.panic c) (actD ds tm) w := fun c tm w h => ⟨by simp, up_act h⟩
  refine (wpIn_wide (n := 1)).1 (wpIn_mono (Q := fun e a w => e ≠ .outgrown ∧ upD ds Q e a w) (wpIn_region ?_) (fun e a w h => h.2))
  have hK : ∀ tm w, yieldOp P H ops Q (ops.toList.drop j) tm w → wpOpsIn Fence.wide 1 P ops (fun e a w => e ≠ .outgrown ∧ upD ds Q e a w) (List.range' j (ops.size - j)) (actD ds tm) w := by
    intro tm w h
    cases hl : ops.toList.drop j with
    | nil => rw [hl] at h; exact h.elim
    | cons o rest =>
      rw [hl] at h
      have hlen : ops.size - j = rest.length + 1 := by
        have := congrArg List.length hl
        simpa using this
      have hget : ∀ i o', (o :: rest)[i]? = some o' → ops[j + i]? = some o' := by
        intro i o' hi
        rw [← hl, List.getElem?_drop] at hi
        simpa using hi
      rw [hlen, List.range'_succ, wpOpsIn]
      have h0 : ops[j]? = some o := hget 0 o rfl
      simp only [yieldOp] at h
      split at h
      · rename_i c hg ho
        split at h
        · rename_i x hx
          obtain ⟨l, hv, h⟩ := AsYield_elim h
          obtain ⟨fn, tmps, assign, body, hrun, hR⟩ := h
          simp only [h0, show Region.wanted o (yielded ops (actD ds tm).tmps) = true by simp [Region.wanted, hg], if_true]
          refine ⟨fun _ _ => trivial, ?_⟩
          rw [show Fence.wide.round = none from rfl, Oper.semAt_none, eval_act, run_yieldOp ho hx hv, hrun]
          refine ⟨fun h => by (cases h), RoundIn.mono (roundIn_wide hR) ?_⟩
          rintro e w' ⟨b, rfl, h'⟩
          show wpOpsIn Fence.wide 1 P ops _ (List.range' (j + 1) rest.length) ((actD ds tm).put o.dst (.bool b)) w'
          rw [put_act]
          have := opsV_in (ds := ds) (n := 1) (js := []) hO hP (fun tm w h => ⟨by simp, up_act h⟩) rest (j + 1) _ _ (fun i o' hi => by have := hget (i + 1) o' (by simpa using hi); rwa [show j + (i + 1) = j + 1 + i by omega] at this) h'
          simpa using this
        · exact h.elim
      · exact h.elim
  have := opsV_in (ds := ds) (n := 1) (Q := yieldQ P H ops Q (ops.toList.drop j)) hO (fun c tm w h => hP c tm w h) hK (ops.toList.take j) 0 tm w (fun i o hi => by rw [List.getElem?_take] at hi; split at hi <;> simpa using hi) h
  have hr : List.range ops.size = List.range' 0 (ops.toList.take j).length ++ List.range' j (ops.size - j) := by
    rw [List.length_take, List.range_eq_range']
    simp only [Array.length_toList]
    by_cases hj : j ≤ ops.size
    · have h1 := List.range'_append (s := 0) (m := j) (n := ops.size - j) (step := 1)
      simp only [Nat.zero_add, Nat.one_mul] at h1
      rw [Nat.min_eq_left hj, h1]
      congr 1
      omega
    · rw [Nat.min_eq_right (by omega), show ops.size - j = 0 by omega]
      simp
  rw [hr]
  exact this
theorem codeV_strong {P : Program} {H : Hints} (c : Code) : ∀ {A : List Nat} {tm0 : List Value} {Q Q' : Exit → List Value → World → Prop} {tm : List Value} {w : World}, (∀ d, d ∈ assigned c → d ∈ A) → Agree A tm0 tm →
    (∀ e tm' w', Agree A tm0 tm' → Q e tm' w' → Q' e tm' w') → codeV P H c Q tm w → codeV P H c Q' tm w := by
  have raw : ∀ (c : Code) {A : List Nat} {tm0 : List Value} {Q Q' : Exit → List Value → World → Prop} {tm : List Value} {w : World}, (∀ d, d ∈ assigned c → d ∈ A) → Agree A tm0 tm →
      (∀ e tm' w', Agree A tm0 tm' → Q e tm' w' → Q' e tm' w') → RawWp P c Q tm w → RawWp P c Q' tm w := by
    intro c A tm0 Q Q' tm w hA ha hq h
    exact fun ds => Code.wp_mono (fun e a w' ⟨hd, h1, h2⟩ => ⟨hd, h1, hq _ _ _ (ha.trans (h1.mono hA)) h2⟩) (h ds)
  induction c with
  | skip => intro A tm0 Q Q' tm w hA ha hq h; exact hq _ _ _ ha h
  | label l => intro A tm0 Q Q' tm w hA ha hq h; exact hq _ _ _ ha h
  | ret => intro A tm0 Q Q' tm w hA ha hq h; exact hq _ _ _ ha h
  | exit id => intro A tm0 Q Q' tm w hA ha hq h; exact hq _ _ _ ha h
  | goto l => intro A tm0 Q Q' tm w hA ha hq h; exact hq _ _ _ ha h
  | region id ops draw =>
    intro A tm0 Q Q' tm w hA ha hq h
    unfold codeV at h ⊢
    cases hr : H.raw.elem id with
    | true =>
      simp only [hr] at h ⊢
      cases hy : lookN H.yields id with
      | none => simp only [hy] at h ⊢; exact raw _ hA ha hq h
      | some j => simp only [hy] at h ⊢; exact yieldV_strong hA ha hq h
    | false =>
      simp only [hr] at h ⊢
      split
      · rename_i hl
        simp only [hl] at h
        exact regV_strong hA ha hq h
      · rename_i S hl
        simp only [hl] at h
        rcases cnd_cases h with ⟨hs, J, h1, h2⟩ | ⟨_, h⟩
        · refine cnd_true hs ⟨J, ?_, joinV_mono hs hA ha (fun tm' w' ha' h' => hq _ _ _ ha' h') h2⟩
          refine regV_strong hA ha ?_ h1
          intro e tm' w' ha' h'
          cases e with
          | normal => exact h'
          | _ => exact hq _ _ _ ha' h'
        · exact h.elim
  | seq a b iha ihb =>
    intro A tm0 Q Q' tm w hA ha hq h
    unfold codeV at h ⊢
    refine iha (fun d hd => hA d (by simp [assigned, hd])) ha (fun e tm' w' ha' h' => ?_) h
    cases e with
    | normal => exact ihb (fun d hd => hA d (by simp [assigned, hd])) ha' hq h'
    | _ => exact hq _ _ _ ha' h'
  | cond c a b iha ihb =>
    intro A tm0 Q Q' tm w hA ha hq h
    have hAa : ∀ d, d ∈ assigned a → d ∈ A := fun d hd => hA d (by simp [assigned, hd])
    have hAb : ∀ d, d ∈ assigned b → d ∈ A := fun d hd => hA d (by simp [assigned, hd])
    unfold codeV at h ⊢
    split
    · rename_i t ht
      simp only [ht] at h
      split
      · rename_i hl
        simp only [hl] at h
        exact cnd_mono h (iha hAa ha hq) (ihb hAb ha hq)
      · rename_i S hl
        simp only [hl] at h
        rcases cnd_cases h with ⟨hs, J, h1, h2⟩ | ⟨_, h⟩
        · refine cnd_true hs ⟨J, ?_, joinV_mono hs hA ha (fun tm' w' ha' h' => hq _ _ _ ha' h') h2⟩
          have hq' : ∀ e tm' w', Agree A tm0 tm' → seqQ (meetQ S J) Q e tm' w' → seqQ (meetQ S J) Q' e tm' w' := by
            intro e tm' w' ha' h'
            cases e with
            | normal => exact h'
            | _ => exact hq _ _ _ ha' h'
          exact cnd_mono h1 (iha hAa ha hq') (ihb hAb ha hq')
        · exact h.elim
    · rename_i hne
      revert h
      split
      · rename_i t ht; exact absurd ht (hne t)
      · exact id
  | block id c ih =>
    intro A tm0 Q Q' tm w hA ha hq h
    unfold codeV at h ⊢
    have hb : ∀ {Q Q' : Exit → List Value → World → Prop}, (∀ e tm' w', Agree A tm0 tm' → Q e tm' w' → Q' e tm' w') → ∀ e tm' w', Agree A tm0 tm' → blockQ id Q e tm' w' → blockQ id Q' e tm' w' := by
      intro Q Q' hq e tm' w' ha' h'
      cases e with
      | exit id' =>
        unfold blockQ at h' ⊢
        cases hi : Nat.beq id' id <;> simp only [hi] at h' ⊢ <;> exact hq _ _ _ ha' h'
      | _ => exact hq _ _ _ ha' h'
    split
    · rename_i hl
      simp only [hl] at h
      exact ih hA ha (hb hq) h
    · rename_i S hl
      simp only [hl] at h
      rcases cnd_cases h with ⟨hs, J, h1, h2⟩ | ⟨_, h⟩
      · refine cnd_true hs ⟨J, ?_, joinV_mono hs hA ha (fun tm' w' ha' h' => hq _ _ _ ha' h') h2⟩
        refine ih hA ha (hb ?_) h1
        intro e tm' w' ha' h'
        cases e with
        | normal => exact h'
        | _ => exact hq _ _ _ ha' h'
      · exact h.elim
  | loop c ih =>
    intro A tm0 Q Q' tm w hA ha hq h
    unfold codeV at h ⊢
    obtain ⟨S, hl, h⟩ := IsSome_elim h
    refine IsSome_some hl ?_
    rcases cnd_cases h with ⟨hs, I, μ, h1, h2⟩ | ⟨_, h⟩
    · refine cnd_true hs ⟨I, μ, h1, fun g => allSel_mono (fun vs hv w' hI => ?_) (h2 g)⟩
      refine ih hA (Agree.setSel S vs _ (subS_mono hA hs) (ha.garb hA g)) (fun e tm' w'' ha' h' => ?_) (hv w' hI)
      cases e with
      | normal => exact h'
      | _ => exact hq _ _ _ ha' h'
    · exact h.elim
  | scope c ih => intro A tm0 Q Q' tm w hA ha hq h; exact raw _ hA ha hq h
  | rangeFunc f ps a b iha ihb => intro A tm0 Q Q' tm w hA ha hq h; exact raw _ hA ha hq h
  | refuse s => intro A tm0 Q Q' tm w hA ha hq h; exact raw _ hA ha hq h

theorem codeV_agree {P : Program} {H : Hints} {c : Code} {Q : Exit → List Value → World → Prop} {tm : List Value} {w : World} (h : codeV P H c Q tm w) :
    codeV P H c (fun e tm' w' => Agree (assigned c) tm tm' ∧ Q e tm' w') tm w :=
  codeV_strong c (fun _ h => h) (Agree.refl _ _) (fun _ _ _ ha h => ⟨ha, h⟩) h

theorem codeV_wp {P : Program} {H : Hints} (c : Code) : ∀ {Q : Exit → List Value → World → Prop} {tm : List Value} {w : World}, codeV P H c Q tm w → c.wp P (upD ds Q) (actD ds tm) w := by
  have raw : ∀ (c : Code) {Q : Exit → List Value → World → Prop} {tm : List Value} {w : World}, RawWp P c Q tm w → c.wp P (upD ds Q) (actD ds tm) w := by
    intro c Q tm w h
    exact Code.wp_mono (fun e a w' ⟨hd, _, h2⟩ => ⟨hd, h2⟩) (h ds)
  induction c with
  | skip => intro Q tm w h; exact wp_skip (up_act h)
  | label l => intro Q tm w h; exact wp_label (up_act h)
  | ret => intro Q tm w h; exact wp_ret (up_act h)
  | exit id => intro Q tm w h; exact wp_exit (up_act h)
  | goto l => intro Q tm w h; exact wp_goto (up_act h)
  | region id ops draw =>
    intro Q tm w h
    unfold codeV at h
    cases hr : H.raw.elem id with
    | true =>
      simp only [hr] at h
      cases hy : lookN H.yields id with
      | none => simp only [hy] at h; exact raw _ h
      | some j => simp only [hy] at h; exact yieldV_wp h
    | false =>
      simp only [hr] at h
      split at h
      · exact regV_wp h
      · rename_i S hl
        rcases cnd_cases h with ⟨hs, J, h1, h2⟩ | ⟨_, h⟩
        · have h3 := regV_strong (Q' := fun e tm' w' => Agree (opDsts ops.toList) tm tm' ∧ seqQ (meetQ S J) Q e tm' w') (fun _ h => h) (Agree.refl (opDsts ops.toList) tm) (fun _ _ _ ha h => ⟨ha, h⟩) h1
          refine Code.wp_mono (fun e a' w' ⟨hd, ha, h'⟩ => ⟨hd, ?_⟩) (regV_wp h3)
          cases e with
          | normal => exact joinV_elim h2 ha h'
          | _ => exact h'
        · exact h.elim
  | seq a b iha ihb =>
    intro Q tm w h
    unfold codeV at h
    refine wp_seq (Code.wp_mono (fun e a' w' ⟨hd, h'⟩ => ?_) (iha h))
    cases e with
    | normal => rw [act_of hd]; exact ihb h'
    | _ => exact ⟨hd, h'⟩
  | cond c a b iha ihb =>
    intro Q tm w h
    unfold codeV at h
    split at h
    · rename_i t ht
      refine wp_cond (t := t) (by rw [eval_act]; exact ht) ?_
      split at h
      · cases t with
        | true => exact iha h
        | false => exact ihb h
      · rename_i S hl
        rcases cnd_cases h with ⟨hs, J, h1, h2⟩ | ⟨_, h⟩
        · have join : ∀ (x : Code), (∀ i, i ∈ assigned x → i ∈ assigned a ++ assigned b) → (∀ {Q : Exit → List Value → World → Prop} {tm : List Value} {w : World}, codeV P H x Q tm w → x.wp P (upD ds Q) (actD ds tm) w) →
              codeV P H x (seqQ (meetQ S J) Q) tm w → x.wp P (upD ds Q) (actD ds tm) w := by
            intro x hx ihx h'
            refine Code.wp_mono (fun e a' w' ⟨hd, ha, h'⟩ => ⟨hd, ?_⟩) (ihx (codeV_agree h'))
            cases e with
            | normal => exact joinV_elim h2 (ha.mono hx) h'
            | _ => exact h'
          cases t with
          | true => exact join a (fun i hi => by simp [hi]) iha h1
          | false => exact join b (fun i hi => by simp [hi]) ihb h1
        · exact h.elim
    · exact h.elim
  | block id c ih =>
    intro Q tm w h
    unfold codeV at h
    have hb : ∀ {Q : Exit → List Value → World → Prop} {e : Exit} {a' : Act} {w' : World}, upD ds (blockQ id Q) e a' w' → Exit.inBlock id (upD ds Q) e a' w' := by
      intro Q e a' w' ⟨hd, h'⟩
      cases e with
      | exit id' =>
        unfold blockQ at h'
        unfold Exit.inBlock
        by_cases hi : id' = id
        · subst hi
          simp only [show Nat.beq id' id' = true from Nat.beq_refl id'] at h'
          simp only [if_true]
          exact ⟨hd, h'⟩
        · have : Nat.beq id' id = false := by
            cases hn : Nat.beq id' id with
            | false => rfl
            | true => exact absurd (Nat.eq_of_beq_eq_true hn) hi
          simp only [this] at h'
          simp only [hi, if_false]
          exact ⟨hd, h'⟩
      | _ => exact ⟨hd, h'⟩
    split at h
    · exact wp_block (Code.wp_mono (fun e a' w' h' => hb h') (ih h))
    · rename_i S hl
      rcases cnd_cases h with ⟨hs, J, h1, h2⟩ | ⟨_, h⟩
      · have h3 : (Code.block id c).wp P (upD ds fun e tm' w' => Agree (assigned c) tm tm' ∧ seqQ (meetQ S J) Q e tm' w') (actD ds tm) w := by
          refine wp_block (Code.wp_mono (fun e a' w' h' => hb ?_) (ih (codeV_agree h1)))
          obtain ⟨hd, ha, h'⟩ := h'
          refine ⟨hd, ?_⟩
          cases e with
          | exit id' =>
            unfold blockQ at h' ⊢
            cases hi : Nat.beq id' id <;> simp only [hi] at h' ⊢ <;> exact ⟨ha, h'⟩
          | _ => exact ⟨ha, h'⟩
        refine Code.wp_mono (fun e a' w' ⟨hd, ha, h'⟩ => ⟨hd, ?_⟩) h3
        cases e with
        | normal => exact joinV_elim h2 ha h'
        | _ => exact h'
      · exact h.elim
  | loop c ih =>
    intro Q tm w h
    unfold codeV at h
    obtain ⟨S, hl, h⟩ := IsSome_elim h
    rcases cnd_cases h with ⟨hs, I, μ, h1, h2⟩ | ⟨_, h⟩
    · rcases cnd_cases h1 with ⟨hok, hI⟩ | ⟨_, h⟩
      · refine wp_loop (fun a' w' => a'.defers = ds ∧ Agree (assigned c) tm a'.tmps.toList ∧ okSel S a'.tmps.toList = true ∧ I (selL S a'.tmps.toList) w') (fun a' w' => μ (selL S a'.tmps.toList) w')
          ⟨rfl, by simpa [actD] using Agree.refl _ tm, by simpa [actD] using hok, by simpa [actD] using hI⟩ ?_
        intro a' w' ⟨hd, ha, hok', hI'⟩
        have hr := allSel_elim (h2 fun i => a'.tmps.toList.getD i undef) hok' w' hI'
        rw [garb_of_agree ha, setSel_self] at hr
        have hwp := ih (codeV_agree hr)
        rw [← act_of hd] at hwp
        refine Code.wp_mono (fun e a2 w2 ⟨hd2, ha2, h'⟩ => ?_) hwp
        cases e with
        | normal =>
          rcases cnd_cases h' with ⟨hok2, hI2, hlt⟩ | ⟨_, h'⟩
          · exact ⟨⟨hd2, ha.trans ha2, hok2, hI2⟩, hlt⟩
          · exact h'.elim
        | _ => exact ⟨hd2, h'⟩
      · exact h.elim
    · exact h.elim
  | scope c ih => intro Q tm w h; exact raw _ h
  | rangeFunc f ps a b iha ihb => intro Q tm w h; exact raw _ h
  | refuse s => intro Q tm w h; exact raw _ h

/-! ### code in a round of a range over a function -/
theorem wpIn_up {F : Fence} {n : Nat} {P : Program} {c : Code} {Q Q' : Exit → Act → World → Prop} {a : Act} {w : World} (hq : ∀ e a w, Q e a w → Q' e a w) (h : c.wpIn F n P Q a w) : c.wpIn F n P Q' a w := wpIn_mono h hq
/-- What may be walked in a round. -/
def roundB (H : Hints) : Code → Bool
  | .region id ops _ => (match H.raw.elem id with | true => false | false => noDefer ops.toList)
  | .seq a b | .cond _ a b => roundB H a && roundB H b
  | .block _ c | .loop c => roundB H c
  | .skip | .label _ | .ret | .exit _ | .goto _ => true
  | _ => false
theorem codeV_round {P : Program} {H : Hints} {l n : Nat} (c : Code) : ∀ {Q : Exit → List Value → World → Prop} {tm : List Value} {w : World}, roundB H c = true → (∀ tm w, ¬ Q .outgrown tm w) → codeV P H c Q tm w → c.wpIn (Fence.wide.inRound l) n P (upD ds Q) (actD ds tm) w := by
  have no : ∀ {Q : Exit → List Value → World → Prop}, (∀ tm w, ¬ Q .outgrown tm w) → ¬ LetsOut (upD ds Q) := fun h ⟨a, w, h'⟩ => h _ _ h'.2
  induction c with
  | skip => intro Q tm w hB hO h; exact wpIn_skip (up_act h)
  | label l => intro Q tm w hB hO h; exact wpIn_label (up_act h)
  | ret => intro Q tm w hB hO h; exact wpIn_ret (up_act h)
  | exit id => intro Q tm w hB hO h; exact wpIn_exit (up_act h)
  | goto l => intro Q tm w hB hO h; exact wpIn_goto (up_act h)
  | region id ops draw =>
    intro Q tm w hB hO h
    unfold codeV at h
    unfold roundB at hB
    cases hr : H.raw.elem id with
    | true => simp only [hr] at hB; cases hB
    | false =>
      simp only [hr] at h hB
      split at h
      · exact wpR_round hB (no hO) (regV_wpR h)
      · rename_i S hl
        rcases cnd_cases h with ⟨hs, J, h1, h2⟩ | ⟨_, h⟩
        · have h3 := regV_strong (Q' := fun e tm' w' => Agree (opDsts ops.toList) tm tm' ∧ seqQ (meetQ S J) Q e tm' w') (fun _ h => h) (Agree.refl (opDsts ops.toList) tm) (fun _ _ _ ha h => ⟨ha, h⟩) h1
          refine wpIn_up (fun e a' w' ⟨hd, ha, h'⟩ => ⟨hd, ?_⟩) (wpR_round hB (no fun _ _ h => hO _ _ h.2) (regV_wpR h3))
          cases e with
          | normal => exact joinV_elim h2 ha h'
          | _ => exact h'
        · exact h.elim
  | seq a b iha ihb =>
    intro Q tm w hB hO h
    unfold codeV at h
    simp only [roundB, Bool.and_eq_true] at hB
    refine wpIn_seq (wpIn_up (fun e a' w' ⟨hd, h'⟩ => ?_) (iha (Q := seqQ (fun tm w => codeV P H b Q tm w) Q) hB.1 (fun _ _ h => hO _ _ h) h))
    cases e with
    | normal => rw [act_of hd]; exact ihb hB.2 hO h'
    | _ => exact ⟨hd, h'⟩
  | cond c a b iha ihb =>
    intro Q tm w hB hO h
    unfold codeV at h
    simp only [roundB, Bool.and_eq_true] at hB
    split at h
    · rename_i t ht
      refine wpIn_cond (t := t) (by rw [eval_act]; exact ht) ?_
      split at h
      · cases t with
        | true => exact iha hB.1 hO h
        | false => exact ihb hB.2 hO h
      · rename_i S hl
        rcases cnd_cases h with ⟨hs, J, h1, h2⟩ | ⟨_, h⟩
        · have join : ∀ (x : Code), (∀ i, i ∈ assigned x → i ∈ assigned a ++ assigned b) → (∀ {Q : Exit → List Value → World → Prop} {tm : List Value} {w : World}, (∀ tm w, ¬ Q .outgrown tm w) → codeV P H x Q tm w → x.wpIn (Fence.wide.inRound l) n P (upD ds Q) (actD ds tm) w) →
              codeV P H x (seqQ (meetQ S J) Q) tm w → x.wpIn (Fence.wide.inRound l) n P (upD ds Q) (actD ds tm) w := by
            intro x hx ihx h'
            refine wpIn_up (fun e a' w' ⟨hd, ha, h'⟩ => ⟨hd, ?_⟩) (ihx (fun _ _ h => hO _ _ h.2) (codeV_agree h'))
            cases e with
            | normal => exact joinV_elim h2 (ha.mono hx) h'
            | _ => exact h'
          cases t with
          | true => exact join a (fun i hi => by simp [hi]) (iha hB.1) h1
          | false => exact join b (fun i hi => by simp [hi]) (ihb hB.2) h1
        · exact h.elim
    · exact h.elim
  | block id c ih =>
    intro Q tm w hB hO h
    unfold codeV at h
    simp only [roundB] at hB
    have hb : ∀ {Q : Exit → List Value → World → Prop} {e : Exit} {a' : Act} {w' : World}, upD ds (blockQ id Q) e a' w' → Exit.inBlock id (upD ds Q) e a' w' := by
      intro Q e a' w' ⟨hd, h'⟩
      cases e with
      | exit id' =>
        unfold blockQ at h'
        unfold Exit.inBlock
        by_cases hi : id' = id
        · subst hi
          simp only [show Nat.beq id' id' = true from Nat.beq_refl id'] at h'
          simp only [if_true]
          exact ⟨hd, h'⟩
        · have : Nat.beq id' id = false := by
            cases hn : Nat.beq id' id with
            | false => rfl
            | true => exact absurd (Nat.eq_of_beq_eq_true hn) hi
          simp only [this] at h'
          simp only [hi, if_false]
          exact ⟨hd, h'⟩
      | _ => exact ⟨hd, h'⟩
    split at h
    · exact wpIn_block (wpIn_up (fun e a' w' h' => hb h') (ih (Q := blockQ id Q) hB (fun _ _ h => hO _ _ h) h))
    · rename_i S hl
      rcases cnd_cases h with ⟨hs, J, h1, h2⟩ | ⟨_, h⟩
      · have h3 : (Code.block id c).wpIn (Fence.wide.inRound l) n P (upD ds fun e tm' w' => Agree (assigned c) tm tm' ∧ seqQ (meetQ S J) Q e tm' w') (actD ds tm) w := by
          refine wpIn_block (wpIn_up (fun e a' w' h' => hb ?_) (ih hB (fun _ _ h => hO _ _ h.2) (codeV_agree h1)))
          obtain ⟨hd, ha, h'⟩ := h'
          refine ⟨hd, ?_⟩
          cases e with
          | exit id' =>
            unfold blockQ at h' ⊢
            cases hi : Nat.beq id' id <;> simp only [hi] at h' ⊢ <;> exact ⟨ha, h'⟩
          | _ => exact ⟨ha, h'⟩
        refine wpIn_up (fun e a' w' ⟨hd, ha, h'⟩ => ⟨hd, ?_⟩) h3
        cases e with
        | normal => exact joinV_elim h2 ha h'
        | _ => exact h'
      · exact h.elim
  | loop c ih =>
    intro Q tm w hB hO h
    unfold codeV at h
    simp only [roundB] at hB
    obtain ⟨S, hl, h⟩ := IsSome_elim h
    rcases cnd_cases h with ⟨hs, I, μ, h1, h2⟩ | ⟨_, h⟩
    · rcases cnd_cases h1 with ⟨hok, hI⟩ | ⟨_, h⟩
      · refine wpIn_loop (fun a' w' => a'.defers = ds ∧ Agree (assigned c) tm a'.tmps.toList ∧ okSel S a'.tmps.toList = true ∧ I (selL S a'.tmps.toList) w') (fun a' w' => μ (selL S a'.tmps.toList) w')
          ⟨rfl, by simpa [actD] using Agree.refl _ tm, by simpa [actD] using hok, by simpa [actD] using hI⟩ ?_
        intro a' w' ⟨hd, ha, hok', hI'⟩
        have hr := allSel_elim (h2 fun i => a'.tmps.toList.getD i undef) hok' w' hI'
        rw [garb_of_agree ha, setSel_self] at hr
        have hwp := ih hB (fun _ _ h => hO _ _ h.2) (codeV_agree hr)
        rw [← act_of hd] at hwp
        refine wpIn_up (fun e a2 w2 ⟨hd2, ha2, h'⟩ => ?_) hwp
        cases e with
        | normal =>
          rcases cnd_cases h' with ⟨hok2, hI2, hlt⟩ | ⟨_, h'⟩
          · exact ⟨⟨hd2, ha.trans ha2, hok2, hI2⟩, hlt⟩
          · exact h'.elim
        | _ => exact ⟨hd2, h'⟩
      · exact h.elim
    · exact h.elim
  | scope c ih => intro Q tm w hB hO h; cases hB
  | rangeFunc f ps a b iha ihb => intro Q tm w hB hO h; cases hB
  | refuse s => intro Q tm w hB hO h; cases hB

/-! ### a function -/
def resV (P : Program) (w : World) (tm : List Value) : List ResultVar → (List Value → Prop) → Prop
  | [], L => L []
  | .tmp t :: r, L => resV P w tm r fun vs => L (tm.getD t undef :: vs)
  | .cell a t :: r, L => (match tm.getD a undef with
      | .pointer p => Deref p fun ad => loadV P t (CellsAt w) (fun a v => w.cell? a = some v) ad fun v => resV P w tm r fun vs => L (v :: vs)
      | _ => False)
def oneOr (vs : List Value) : Value := match vs with | [v] => v | l => .tuple l.toArray
def endQ (P : Program) (fn : Func) (R : Ending → World → Prop) : Exit → List Value → World → Prop
  | .normal, tm, w | .ret, tm, w => resV P w tm fn.results.toList fun vs => R (.returned (oneOr vs)) w
  | .panic c, _, w => R (.panicked c) w
  | _, _, _ => False
def resF (tmps : Array Value) : ResultVar → Sem Value
  | .tmp t => pure (tmps.getD t undef)
  | .cell a t => do loadVar t (← asAddr (tmps.getD a undef))
theorem results_eq (fn : Func) (tmps : Array Value) : results fn tmps = (do let vs ← fn.results.mapM (resF tmps); pure (if h : vs.size = 1 then vs[0] else .tuple vs)) := by
  unfold results
  congr 1
theorem resV_run {P : Program} {w : World} {tm : List Value} : ∀ (l : List ResultVar) {L : List Value → Prop}, resV P w tm l L →
    ∃ vs, L vs ∧ (l.mapM (resF (actD [] tm).tmps)).run P w = .ok vs w := by
  intro l
  induction l with
  | nil => intro L h; exact ⟨[], h, by simp⟩
  | cons x l ih =>
    intro L h
    cases x with
    | tmp t =>
      obtain ⟨vs, h1, h2⟩ := ih h
      refine ⟨_, h1, ?_⟩
      rw [List.mapM_cons, Sem.run_bind]
      simp only [resF, Sem.run_pure, Result.andThen_ok, Sem.run_bind]
      rw [h2]
      simp [actD]
    | cell a t =>
      unfold resV at h
      split at h
      · rename_i p he
        obtain ⟨ad, rfl, hL⟩ := Deref_elim h
        obtain ⟨v, h1, h2⟩ := loadV_run hL
        obtain ⟨vs, h3, h4⟩ := ih h1
        refine ⟨_, h3, ?_⟩
        have he' : (actD [] tm).tmps.getD a undef = .pointer (some ad) := by simpa [actD] using he
        have hx : (resF (actD [] tm).tmps (.cell a t)).run P w = .ok v w := by
          simp only [resF, he', asAddr, Sem.run_bind, Sem.run_pure, Result.andThen_ok, h2 w (fun _ h => h) (fun _ h => h)]
        rw [List.mapM_cons, Sem.run_bind, hx, Result.andThen_ok, Sem.run_bind, h4, Result.andThen_ok, Sem.run_pure]
      · exact h.elim
theorem endQ_post {P : Program} {fn : Func} {R : Ending → World → Prop} {e : Exit} {a : Act} {w : World} (h : upD [] (endQ P fn R) e a w) : bodyPost P fn R e a w := by
  obtain ⟨hd, h⟩ := h
  have fin : resV P w a.tmps.toList fn.results.toList (fun vs => R (.returned (oneOr vs)) w) → a.defers = [] ∧ ∃ v, (results fn a.tmps).run P w = .ok v w ∧ R (.returned v) w := by
    intro h
    obtain ⟨vs, h1, h2⟩ := resV_run _ h
    refine ⟨hd, oneOr vs, ?_, h1⟩
    have ha : (actD [] a.tmps.toList).tmps = a.tmps := by simp [actD]
    rw [ha] at h2
    rw [results_eq, Sem.run_bind, Array.mapM_eq_mapM_toList, Sem.run_map, h2]
    simp only [Result.andThen_ok, Sem.run_pure]
    congr 1
    cases vs with
    | nil => rfl
    | cons v vs =>
      cases vs with
      | nil => rfl
      | cons u vs => simp [oneOr]
  cases e with
  | normal => exact fin h
  | ret => exact fin h
  | panic c => exact ⟨hd, h⟩
  | exit id => exact h.elim
  | goto l => exact h.elim
  | outgrown => exact h.elim

/-- THE CONDITION of a call of function f. -/
def fnV (P : Program) (H : Hints) (f : FuncId) (args : List Value) (w : World) (R : Ending → World → Prop) : Prop :=
  IsSome P.funcs[f]? fun fn => IsSome fn.body fun c => codeV P H c (endQ P fn R) (args ++ List.replicate (fn.ntmps - args.length) undef) w
theorem calls_of_fnV {P : Program} (H : Hints) {f : FuncId} {args : List Value} {w : World} {R : Ending → World → Prop} (h : fnV P H f args w R) : Calls P f args.toArray w R := by
  obtain ⟨fn, hf, h⟩ := IsSome_elim h
  obtain ⟨c, hb, h⟩ := IsSome_elim h
  refine calls_of_wp hf hb ?_
  have := Code.wp_mono (Q' := bodyPost P fn R) (fun e a w' h' => endQ_post h') (codeV_wp (ds := []) c h)
  have he : actD [] (args ++ List.replicate (fn.ntmps - args.length) undef) = { tmps := args.toArray ++ Array.replicate (fn.ntmps - args.toArray.size) undef, defers := [] } := by
    simp [actD]
  rw [he] at this
  exact this
theorem calls_of_eq {P : Program} {H : Hints} {f : FuncId} {args : List Value} {w : World} {R : Ending → World → Prop} {X : Prop} (he : fnV P H f args w R = X) (h : X) : Calls P f args.toArray w R := calls_of_fnV H (by rw [he]; exact h)
end Go.Vc
