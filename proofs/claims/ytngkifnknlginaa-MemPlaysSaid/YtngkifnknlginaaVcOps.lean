/-
A generator of verification conditions over the model, second part: all operations without memory, with their soundness.
Conditions: none; all is proved over any program.
-/
import Derived.Test.YtngkifnknlginaaVcPure
namespace Go.Vc
open Go.RowKit
set_option linter.unusedSimpArgs false
set_option linter.unnecessarySimpa false
set_option linter.unusedVariables false

/-! ### comparisons of other kinds, bools, strings -/
def EqRuns (P : Program) (op : BinOp) (t : TypeId) (xo yo : Operand) (x y : Value) (b : Bool) : Prop :=
  ∀ w, (do eqGuard op t xo yo x y; binOp op t x y : Sem Value).run P w = .ok (.bool b) w
def boolT (op : BinOp) (x y : Value) : PT :=
  match x, y with
  | .bool a, .bool b =>
    match op with
    | .eql => .ret (.bool (a == b))
    | .neq => .ret (.bool (!(a == b)))
    | _ => .fail
  | _, _ => .fail
def strT (op : BinOp) (x y : Value) : PT :=
  match x, y with
  | .string a, .string b =>
    match op with
    | .eql => .ret (.bool (a.toList == b.toList))
    | .neq => .ret (.bool (!(a.toList == b.toList)))
    | .add => .need (((a.size + b.size : Nat) : Int) ≤ 9223372036854775807) (.ret (.string (a ++ b)))
    | .lss => .ret (.bool (Op.bytesLess a.toList b.toList))
    | .leq => .ret (.bool (Op.bytesLess a.toList b.toList || a.toList == b.toList))
    | .gtr => .ret (.bool !(Op.bytesLess a.toList b.toList || a.toList == b.toList))
    | .geq => .ret (.bool !(Op.bytesLess a.toList b.toList))
    | _ => .fail
  | _, _ => .fail
def binT (P : Program) (op : BinOp) (t : TypeId) (xo yo : Operand) (x y : Value) : PT :=
  match P.underlying t with
  | some (.int _) => intT op x y
  | some .bool => boolT op x y
  | some .string => strT op x y
  | _ => match op with
    | .eql | .neq => .exBool (EqRuns P op t xo yo x y)
    | _ => .fail

theorem run_equalIn_bool {P : Program} {t : TypeId} (hu : P.underlying t = some .bool) (d : Nat) (a b : Bool) (w : World) :
    (Op.equalIn (d + 1) t (.bool a) (.bool b)).run P w = .ok (a == b) w := by
  simp only [Op.equalIn, Sem.run_bind, run_underlying hu, Result.andThen_ok, Sem.run_pure]
theorem binT_sound (P : Program) (op : BinOp) (t : TypeId) (xo yo : Operand) (x y : Value) :
    (binT P op t xo yo x y).sound P (do eqGuard op t xo yo x y; binOp op t x y) := by
  unfold binT
  split
  · exact intT_sound P op t xo yo x y
  · rename_i hu
    unfold boolT
    split
    · split
      · exact sound_ret fun w => by
          simp only [eqGuard_at_bool, binOp, Op.equal, Op.maxDepth, Sem.run_bind, Sem.run_pure, Result.andThen_ok, run_equalIn_bool hu]
      · exact sound_ret fun w => by
          simp only [eqGuard_at_bool, binOp, Op.equal, Op.maxDepth, Sem.run_bind, Sem.run_pure, Result.andThen_ok, run_equalIn_bool hu]
      · exact sound_fail
    · exact sound_fail
  · unfold strT
    split
    · rename_i a b
      split
      case h_3 =>
        refine sound_need fun h => sound_ret fun w => ?_
        have h' : ¬ ((a.size : Int) + (b.size : Int) > 9223372036854775807) := by omega
        simp [eqGuard_at_string, binOp, Op.stringOp, h']
      all_goals first
        | exact sound_fail
        | exact sound_ret fun w => by simp [eqGuard_at_string, binOp, Op.stringOp]
    · exact sound_fail
  · split <;> first | exact sound_fail | exact sound_exBool fun b hb w => hb w

/-! ### one operand -/
def unT (op : UnOp) (x : Value) : PT :=
  match op, x with
  | .neg, .int k n => .ret (.int k (k.wrap (0 - n)))
  | .xor, .int k n => .ret (.int k (bits .xor k (if k.signed then -1 else k.max) n))
  | .not, .bool b => .ret (.bool !b)
  | _, _ => .fail
theorem unT_sound (P : Program) (op : UnOp) (x : Value) : (unT op x).sound P (Op.unary op x) := by
  unfold unT
  split <;> first | exact sound_fail | exact sound_ret fun w => by simp [Op.unary, Op.intArith, Op.intBits, bits]

def convT (P : Program) (src dst : TypeId) (x : Value) : Option PT :=
  match P.underlying src, P.underlying dst with
  | some (.int _), some (.int k) => some (match x with | .int _ n => .ret (.int k (k.wrap n)) | _ => .fail)
  | some .string, some .string => some (match x with | .string s => .ret (.string s) | _ => .fail)
  | _, _ => none
theorem convT_sound {P : Program} {src dst : TypeId} {x : Value} {t : PT} (h : convT P src dst x = some t) : t.sound P (convert src dst x) := by
  unfold convT at h
  split at h
  · rename_i h1 h2
    obtain rfl := Option.some.inj h
    split
    · exact sound_ret fun w => by simp [convert, run_underlying h1, run_underlying h2, Conv.intToInt]
    · exact sound_fail
  · rename_i h1 h2
    obtain rfl := Option.some.inj h
    split
    · exact sound_ret fun w => by simp [convert, run_underlying h1, run_underlying h2]
    · exact sound_fail
  · cases h

def extractT (x : Value) (i : Nat) : PT :=
  match x with
  | .tuple vs => .opt vs[i]? .ret
  | _ => .fail
theorem extractT_sound (P : Program) (x : Value) (i : Nat) : (extractT x i).sound P (Instr.extract x i) := by
  unfold extractT
  split
  · exact sound_opt fun a ha => sound_ret fun w => by simp [Instr.extract, ha]
  · exact sound_fail

theorem run_typeInfo {P : Program} {t : TypeId} {i : TypeInfo} (h : P.info? t = some i) (w : World) : (typeInfo t).run P w = .ok i w := by
  simp [typeInfo, h]
theorem run_sizeOf {P : Program} {t : TypeId} {n : Nat} (h : cellsT P t = some n) (w : World) : (sizeOf t).run P w = .ok n w := by
  unfold cellsT at h
  obtain ⟨i, hi, rfl⟩ := Option.map_eq_some_iff.1 h
  simp [sizeOf, run_typeInfo hi]
theorem run_isAgg {P : Program} {t : TypeId} {d : TypeDesc} (h : P.underlying t = some d) (w : World) : (isAgg t).run P w = .ok (isAggT P t) w := by
  simp only [isAgg, Sem.run_bind, run_underlying h, Result.andThen_ok, isAggT, h]
  cases d <;> rfl

def fieldAddrT (P : Program) (s : TypeId) (x : Value) (f : Nat) : PT :=
  match P.underlying s, x with
  | some (.struct fields), .pointer p => .opt fields[f]? fun fl => .deref p fun a =>
      (match cellsT P fl.type with
       | some (n + 1) => .ret (.pointer (some (a.add fl.offset)))
       | _ => .fail)
  | _, _ => .fail
theorem fieldAddrT_sound (P : Program) (s : TypeId) (x : Value) (f : Nat) : (fieldAddrT P s x f).sound P (Instr.fieldAt s x f) := by
  unfold fieldAddrT
  split
  · rename_i fields p hu
    refine sound_opt fun fl hf => sound_deref fun a ha => ?_
    split
    · rename_i n hn
      subst ha
      exact sound_ret fun w => by simp [Instr.fieldAt, run_underlying hu, hf, Instr.sureAddr, fieldPlace, run_sizeOf hn]
    · exact sound_fail
  · exact sound_fail

/-- A part of an array or a struct that is at hand. -/
def partT (P : Program) (t : TypeId) (cs : Array Value) (off : Nat) : PT :=
  match P.underlying t with
  | some _ => (match isAggT P t with
      | true => (match cellsT P t with | some n => .ret (.agg (cs.extract off (off + n))) | none => .fail)
      | false => .opt cs[off]? .ret)
  | none => .fail
theorem partT_sound (P : Program) (t : TypeId) (cs : Array Value) (off : Nat) : (partT P t cs off).sound P (part t cs off) := by
  unfold partT
  split
  · rename_i d hu
    split
    · rename_i ha
      split
      · rename_i n hn
        exact sound_ret fun w => by simp [part, run_isAgg hu, ha, run_sizeOf hn]
      · exact sound_fail
    · rename_i ha
      exact sound_opt fun v hv => sound_ret fun w => by simp [part, run_isAgg hu, ha, hv]
  · exact sound_fail
def fieldT (P : Program) (t : TypeId) (x : Value) (f : Nat) : PT :=
  match P.underlying t, x with
  | some (.struct fields), .agg cs => .opt fields[f]? fun fl => partT P fl.type cs fl.offset
  | _, _ => .fail
theorem fieldT_sound (P : Program) (t : TypeId) (x : Value) (f : Nat) : (fieldT P t x f).sound P (Instr.field t x f) := by
  unfold fieldT
  split
  · rename_i fields cs hu
    refine sound_opt fun fl hf => ?_
    intro K hK
    obtain ⟨v, h1, h2⟩ := partT_sound P fl.type cs fl.offset K hK
    exact ⟨v, h1, fun w => by simp [Instr.field, run_underlying hu, hf, asAgg, h2]⟩
  · exact sound_fail

def indexAddrT (P : Program) (t : TypeId) (x i : Value) : PT :=
  match P.underlying t, x, i with
  | some (.slice e), .slice A n _, .int _ i => .need (0 ≤ i ∧ i < n) (.deref A fun a =>
      (match cellsT P e with | some s => .ret (.pointer (some (a.add (i.toNat * s)))) | none => .fail))
  | some (.array n e), .pointer p, .int _ i => .need (0 ≤ i ∧ i < n) (.deref p fun a =>
      (match cellsT P e with | some s => .ret (.pointer (some (a.add (i.toNat * s)))) | none => .fail))
  | _, _, _ => .fail
theorem indexAddrT_sound (P : Program) (t : TypeId) (x i : Value) : (indexAddrT P t x i).sound P (Instr.indexAt t x i) := by
  unfold indexAddrT
  split
  · rename_i e A n _ k i hu
    refine sound_need fun hi => sound_deref fun a ha => ?_
    split
    · rename_i s hs
      subst ha
      exact sound_ret fun w => by simp [Instr.indexAt, run_underlying hu, asIntOf, hi, run_sizeOf hs]
    · exact sound_fail
  · rename_i n e p k i hu
    refine sound_need fun hi => sound_deref fun a ha => ?_
    split
    · rename_i s hs
      subst ha
      exact sound_ret fun w => by simp [Instr.indexAt, run_underlying hu, asIntOf, Instr.sureAddr, hi, run_sizeOf hs]
    · exact sound_fail
  · exact sound_fail

def elemT (P : Program) (e : TypeId) (cs : Array Value) (i : Int) : PT :=
  match cellsT P e, P.underlying e, isAggT P e with
  | some s, some _, false => .exShape (typeShape P e) (fun v => cs[i.toNat * s]? = some v)
  | some s, some _, true => .exShape (typeShape P e) (fun v => Value.agg (cs.extract (i.toNat * s) (i.toNat * s + s)) = v)
  | _, _, _ => .fail
def indexT (P : Program) (t : TypeId) (x i : Value) : PT :=
  match P.underlying t, x, i with
  | some .string, .string s, .int _ i => .need (0 ≤ i) (.exByte fun b => s[i.toNat]? = some b)
  | some (.array n e), .agg cs, .int _ i => .need (0 ≤ i ∧ i < n) (elemT P e cs i)
  | _, _, _ => .fail
theorem indexT_sound (P : Program) (t : TypeId) (x i : Value) : (indexT P t x i).sound P (Instr.index t x i) := by
  unfold indexT
  split
  · rename_i s k i hu
    refine sound_need fun hi => sound_exByte fun b hb w => ?_
    simp [Instr.index, run_underlying hu, asIntOf, hi, hb]
  · rename_i n e cs k i hu
    refine sound_need fun hi => ?_
    unfold elemT
    split
    · rename_i s d hs hd ha
      refine sound_exShape fun v _ hv w => ?_
      simp [Instr.index, run_underlying hu, asIntOf, hi, run_sizeOf hs, part, run_isAgg hd, ha, hv]
    · rename_i s d hs hd ha
      refine sound_exShape fun v _ hv w => ?_
      simp [Instr.index, run_underlying hu, asIntOf, hi, run_sizeOf hs, part, run_isAgg hd, ha, hv]
    · exact sound_fail
  · exact sound_fail

/-! ### slices of slices, strings, arrays -/
def reslice (A : Option Addr) (l m size : Nat) : Option Addr := if m = l then A else A.map (·.add (l * size))
def boundT (v : Option Value) (y : Nat) (dflt : Nat) (f : Nat → PT) : PT :=
  match v with
  | none => f dflt
  | some (.int _ i) => .need (0 ≤ i ∧ i ≤ y) (f i.toNat)
  | _ => .fail
def boundsT (len cap : Nat) (lo hi mx : Option Value) (f : Nat → Nat → Nat → PT) : PT :=
  boundT mx cap cap fun m => (match hi, mx with
    | none, some _ => .fail
    | none, none => boundT lo len 0 fun l => f l len m
    | some h, _ => boundT (some h) m 0 fun h => boundT lo h 0 fun l => f l h m)
theorem run_bound (P : Program) (k : IntKind) (i : Int) (y : Nat) (code : BoundsCode) (w : World) (h : 0 ≤ i ∧ i ≤ y) :
    (Instr.sliceBound (.int k i) y code).run P w = .ok i.toNat w := by simp [Instr.sliceBound, asIntOf, h]
theorem boundsT_sound (P : Program) (isSlice : Bool) (len cap : Nat) (lo hi mx : Option Value) (f : Nat → Nat → Nat → PT) (s : Nat × Nat × Nat → Sem Value)
    (h : ∀ l h m, (f l h m).sound P (s (l, h, m))) : (boundsT len cap lo hi mx f).sound P (do let r ← Instr.sliceBounds isSlice len cap lo hi mx; s r) := by
  intro K hK
  -- the bounds one by one
  have key : ∃ l h' m, (f l h' m).run K ∧ ∀ w, (Instr.sliceBounds isSlice len cap lo hi mx).run P w = .ok (l, h', m) w := by
    unfold boundsT boundT at hK
    cases mx with
    | none =>
      simp only at hK
      cases hi with
      | none =>
        simp only at hK
        cases lo with
        | none => exact ⟨_, _, _, hK, fun w => by simp [Instr.sliceBounds]⟩
        | some x =>
          cases x <;> simp only [PT.fail] at hK
          rename_i k i
          obtain ⟨h1, hK⟩ := hK
          exact ⟨_, _, _, hK, fun w => by simp [Instr.sliceBounds, run_bound P k i _ _ w h1]⟩
      | some x =>
        cases x <;> simp only [PT.fail, boundT] at hK
        rename_i k i
        obtain ⟨h1, hK⟩ := hK
        cases lo with
        | none => exact ⟨_, _, _, hK, fun w => by simp [Instr.sliceBounds, run_bound P k i _ _ w h1]⟩
        | some y =>
          cases y <;> simp only [PT.fail] at hK
          rename_i k' j
          obtain ⟨h2, hK⟩ := hK
          exact ⟨_, _, _, hK, fun w => by simp [Instr.sliceBounds, run_bound P k i _ _ w h1, run_bound P k' j _ _ w h2]⟩
    | some z =>
      cases z <;> simp only [PT.fail] at hK
      rename_i kz iz
      obtain ⟨h0, hK⟩ := hK
      cases hi with
      | none => simp only [PT.fail] at hK
      | some x =>
        cases x <;> simp only [PT.fail, boundT] at hK
        rename_i k i
        obtain ⟨h1, hK⟩ := hK
        cases lo with
        | none => exact ⟨_, _, _, hK, fun w => by simp [Instr.sliceBounds, run_bound P kz iz _ _ w h0, run_bound P k i _ _ w h1]⟩
        | some y =>
          cases y <;> simp only [PT.fail] at hK
          rename_i k' j
          obtain ⟨h2, hK⟩ := hK
          exact ⟨_, _, _, hK, fun w => by simp [Instr.sliceBounds, run_bound P kz iz _ _ w h0, run_bound P k i _ _ w h1, run_bound P k' j _ _ w h2]⟩
  obtain ⟨l, h', m, hf, hr⟩ := key
  obtain ⟨v, h1, h2⟩ := h l h' m K hf
  exact ⟨v, h1, fun w => by simp [hr, h2]⟩

def sliceT (P : Program) (t : TypeId) (x : Value) (lo hi mx : Option Value) : PT :=
  match P.underlying t, x with
  | some .string, .string s => (match mx with | none => boundsT s.size s.size lo hi none fun l h _ => .ret (.string (s.extract l h)) | some _ => .fail)
  | some (.slice e), .slice A n c => (match cellsT P e with
      | some z => boundsT n c lo hi mx fun l h m => .ret (.slice (reslice A l m z) (h - l) (m - l))
      | none => .fail)
  | some (.array n e), .pointer p => .deref p fun a => (match cellsT P e with
      | some z => boundsT n n lo hi mx fun l h m => .ret (.slice (reslice (some a) l m z) (h - l) (m - l))
      | none => .fail)
  | _, _ => .fail
theorem sliceT_sound (P : Program) (t : TypeId) (x : Value) (lo hi mx : Option Value) : (sliceT P t x lo hi mx).sound P (Instr.sliceAt t x lo hi mx) := by
  unfold sliceT
  split
  · rename_i s hu
    split
    · have hb := boundsT_sound P false s.size s.size lo hi none (fun l h _ => .ret (.string (s.extract l h))) (fun r => pure (.string (s.extract r.1 r.2.1))) (fun l h m => sound_ret fun w => rfl)
      intro K hK
      obtain ⟨v, h1, h2⟩ := hb K hK
      refine ⟨v, h1, fun w => ?_⟩
      rw [← h2 w]
      simp [Instr.sliceAt, Instr.slice, run_underlying hu]
    · exact sound_fail
  · rename_i e A n c hu
    split
    · rename_i z hz
      have hb := boundsT_sound P true n c lo hi mx (fun l h m => .ret (.slice (reslice A l m z) (h - l) (m - l))) (fun r => pure (.slice (reslice A r.1 r.2.2 z) (r.2.1 - r.1) (r.2.2 - r.1))) (fun l h m => sound_ret fun w => rfl)
      intro K hK
      obtain ⟨v, h1, h2⟩ := hb K hK
      refine ⟨v, h1, fun w => ?_⟩
      rw [← h2 w]
      simp only [Instr.sliceAt, Instr.slice, Sem.run_bind, run_underlying hu, Result.andThen_ok]
      congr 1
      funext r w'
      obtain ⟨l, h, m⟩ := r
      simp [run_sizeOf hz, reslice]
    · exact sound_fail
  · rename_i n e p hu
    refine sound_deref fun a ha => ?_
    subst ha
    split
    · rename_i z hz
      have hb := boundsT_sound P false n n lo hi mx (fun l h m => .ret (.slice (reslice (some a) l m z) (h - l) (m - l))) (fun r => pure (.slice (reslice (some a) r.1 r.2.2 z) (r.2.1 - r.1) (r.2.2 - r.1))) (fun l h m => sound_ret fun w => rfl)
      intro K hK
      obtain ⟨v, h1, h2⟩ := hb K hK
      refine ⟨v, h1, fun w => ?_⟩
      rw [← h2 w]
      simp only [Instr.sliceAt, Instr.sureAddr, Sem.run_bind, Sem.run_pure, run_underlying hu, Result.andThen_ok]
      congr 1
      funext r w'
      obtain ⟨l, h, m⟩ := r
      simp only [Sem.run_bind, run_sizeOf hz, Result.andThen_ok, Sem.run_pure, reslice, Option.map_some]
      split <;> rfl
    · exact sound_fail
  · exact sound_fail

/-! ### builtins without memory -/
def lenT (P : Program) (t : TypeId) (x : Value) : Option PT :=
  match P.underlying t with
  | some .string => some (match x with | .string s => .ret (.int .i64 s.size) | _ => .fail)
  | some (.array n _) => some (.ret (.int .i64 n))
  | some (.slice _) => some (match x with | .slice _ n _ => .ret (.int .i64 n) | _ => .fail)
  | _ => none
theorem lenT_sound {P : Program} {t ty : TypeId} {x : Value} {T : PT} (h : lenT P t x = some T) : T.sound P (Builtin.len_ #[t] ty #[x]) := by
  unfold lenT at h
  split at h
  · rename_i hu
    obtain rfl := Option.some.inj h
    split
    · exact sound_ret fun w => by simp [Builtin.len_, run_underlying hu, goInt]
    · exact sound_fail
  · rename_i hu
    obtain rfl := Option.some.inj h
    exact sound_ret fun w => by simp [Builtin.len_, run_underlying hu, goInt]
  · rename_i hu
    obtain rfl := Option.some.inj h
    split
    · exact sound_ret fun w => by simp [Builtin.len_, run_underlying hu, goInt]
    · exact sound_fail
  · cases h
def foldInts (f : Int → Int → Int) : Value → List Value → PT
  | v, [] => .ret v
  | .int k a, .int _ b :: r => foldInts f (.int k (f a b)) r
  | _, _ => .fail
def gomin (a b : Int) : Int := if b < a then b else a
def gomax (a b : Int) : Int := if b > a then b else a
theorem foldInts_sound {P : Program} {f : Int → Int → Int} {m2 : Value → Value → Sem Value} (hm : ∀ k a k' b w, (m2 (.int k a) (.int k' b)).run P w = .ok (.int k (f a b)) w) :
    ∀ (r : List Value) (v : Value), (foldInts f v r).sound P (r.foldlM m2 v) := by
  intro r
  induction r with
  | nil => intro v; exact sound_ret fun w => by simp
  | cons y r ih =>
    intro v
    unfold foldInts
    split
    · rename_i h; cases h
    · rename_i k a k' b r' h
      obtain ⟨rfl, rfl⟩ := List.cons.inj h
      intro K hK
      obtain ⟨v, h1, h2⟩ := ih _ K hK
      exact ⟨v, h1, fun w => by simp [hm, h2]⟩
    · exact sound_fail
theorem run_min2 (P : Program) (k : IntKind) (a : Int) (k' : IntKind) (b : Int) (w : World) : (Builtin.min2 (.int k a) (.int k' b)).run P w = .ok (.int k (gomin a b)) w := by
  simp [Builtin.min2, gomin]
theorem run_max2 (P : Program) (k : IntKind) (a : Int) (k' : IntKind) (b : Int) (w : World) : (Builtin.max2 (.int k a) (.int k' b)).run P w = .ok (.int k (gomax a b)) w := by
  simp [Builtin.max2, gomax]

/-! ### what is built -/
theorem run_mapM_list {P : Program} {α β : Type} {f : α → Sem β} {g : α → β} (h : ∀ x w, (f x).run P w = .ok (g x) w) : ∀ (l : List α) (w : World), (l.mapM f).run P w = .ok (l.map g) w := by
  intro l
  induction l with
  | nil => intro w; simp
  | cons x l ih => intro w; simp [List.mapM_cons, h, ih]
def partPlace (P : Program) (fields : Array Field) (i : Nat) : Option (Nat × Nat) := (fields[i]?).bind fun f => (cellsT P f.type).map fun n => (f.offset, n)
def overlay : List Value → Nat → List Value → List Value
  | [], _, _ => []
  | c :: cs, 0, [] => c :: cs
  | c :: cs, 0, v :: vs => v :: overlay cs 0 vs
  | c :: cs, off + 1, vs => c :: overlay cs off vs
def fillL (place : Nat → Option (Nat × Nat)) : List Value → List (Nat × Value) → Option (List Value)
  | cells, [] => some cells
  | cells, (i, v) :: rest =>
    match place i with
    | none => none
    | some (off, size) => cond (Nat.beq v.cells.toList.length size && Nat.ble (off + v.cells.toList.length) cells.length) (fillL place (overlay cells off v.cells.toList) rest) none
theorem overlay_length : ∀ (cs : List Value) (off : Nat) (vs : List Value), (overlay cs off vs).length = cs.length := by
  intro cs
  induction cs with
  | nil => intro off vs; simp [overlay]
  | cons c cs ih =>
    intro off vs
    cases off with
    | zero => cases vs <;> simp [overlay, ih]
    | succ off => simp [overlay, ih]
theorem overlay_get : ∀ (cs : List Value) (off : Nat) (vs : List Value) (k : Nat), off + vs.length ≤ cs.length → (overlay cs off vs)[k]? = if off ≤ k ∧ k < off + vs.length then vs[k - off]? else cs[k]? := by
  intro cs
  induction cs with
  | nil => intro off vs k h; simp only [List.length_nil] at h; have : vs = [] := List.eq_nil_of_length_eq_zero (by omega); subst this; simp [overlay]
  | cons c cs ih =>
    intro off vs k h
    cases off with
    | zero =>
      cases vs with
      | nil => simp [overlay]
      | cons v vs =>
        cases k with
        | zero => simp [overlay]
        | succ k =>
          simp only [overlay, List.getElem?_cons_succ]
          rw [ih 0 vs k (by simp at h; omega)]
          simp
    | succ off =>
      cases k with
      | zero => simp [overlay]
      | succ k =>
        simp only [overlay, List.getElem?_cons_succ]
        rw [ih off vs k (by simp at h; omega)]
        simp [Nat.add_right_comm]
theorem foldl_overlay (off : Nat) : ∀ (vs : List Value) (j : Nat) (cs : Array Value) (k : Nat), off + j + vs.length ≤ cs.size →
    ((vs.zipIdx j).foldl (fun (cs : Array Value) (x : Value × Nat) => cs.setIfInBounds (off + x.2) x.1) cs).size = cs.size ∧
    ((vs.zipIdx j).foldl (fun (cs : Array Value) (x : Value × Nat) => cs.setIfInBounds (off + x.2) x.1) cs)[k]? = if off + j ≤ k ∧ k < off + j + vs.length then vs[k - (off + j)]? else cs[k]? := by
  intro vs
  induction vs with
  | nil => intro j cs k h; simp; omega
  | cons v vs ih =>
    intro j cs k h
    simp only [List.zipIdx_cons, List.foldl_cons]
    have h' : off + (j + 1) + vs.length ≤ (cs.setIfInBounds (off + j) v).size := by simp at h ⊢; omega
    obtain ⟨h1, h2⟩ := ih (j + 1) (cs.setIfInBounds (off + j) v) k h'
    refine ⟨by rw [h1]; simp, ?_⟩
    rw [h2, Array.getElem?_setIfInBounds]
    simp only [List.length_cons] at h ⊢
    by_cases hk : off + j = k
    · subst hk
      rw [if_neg (by omega), if_pos rfl, if_pos (by omega), if_pos (by omega)]
      simp
    · by_cases hin : off + (j + 1) ≤ k ∧ k < off + (j + 1) + vs.length
      · rw [if_pos hin, if_pos (by omega)]
        rw [show k - (off + j) = (k - (off + (j + 1))) + 1 by omega, List.getElem?_cons_succ]
      · rw [if_neg hin, if_neg hk, if_neg (by omega)]
theorem fillL_fill {place : Nat → Option (Nat × Nat)} : ∀ (parts : List (Nat × Value)) (cells : List Value) {cs : List Value}, fillL place cells parts = some cs → Instr.fill place cells.toArray parts = some cs.toArray := by
  intro parts
  induction parts with
  | nil => intro cells cs h; simp only [fillL, Option.some.injEq] at h; subst h; rfl
  | cons p parts ih =>
    intro cells cs h
    obtain ⟨i, v⟩ := p
    unfold fillL at h
    unfold Instr.fill
    split at h
    · cases h
    · rename_i off size hp
      rw [hp]
      simp only
      cases hc : (Nat.beq v.cells.toList.length size && Nat.ble (off + v.cells.toList.length) cells.length) with
      | false => rw [hc] at h; cases h
      | true =>
        rw [hc] at h
        simp only [cond_true] at h
        simp only [Bool.and_eq_true] at hc
        have h1 : v.cells.size = size := by simpa using Nat.eq_of_beq_eq_true hc.1
        have h2 : off + v.cells.size ≤ cells.length := by simpa using Nat.le_of_ble_eq_true hc.2
        have hcond : (v.cells.size ≠ size || off + v.cells.size > cells.toArray.size) = false := by simp [h1]; omega
        rw [if_neg (by rw [hcond]; decide)]
        have he : (v.cells.zipIdx.foldl (fun cs (c, j) => cs.setIfInBounds (off + j) c) cells.toArray) = (overlay cells off v.cells.toList).toArray := by
          rw [← Array.foldl_toList]
          rw [Array.toList_zipIdx]
          apply Array.ext_getElem?
          intro k
          have := (foldl_overlay off v.cells.toList 0 cells.toArray k (by simpa using h2)).2
          rw [this]
          simp only [Nat.add_zero, List.getElem?_toArray]
          rw [overlay_get _ _ _ _ (by simpa using h2)]
        rw [he]
        exact ih _ h
/-- The same, cell by cell. -/
def cellOf (place : Nat → Option (Nat × Nat)) (k : Nat) : Value → List (Nat × Value) → Value
  | c, [] => c
  | c, (i, v) :: rest => cellOf place k (match place i with
      | some (off, size) => cond (Nat.ble off k && Nat.blt k (off + size)) (v.cells.toList.getD (k - off) c) c
      | none => c) rest
def fillFrom (place : Nat → Option (Nat × Nat)) (parts : List (Nat × Value)) : Nat → List Value → List Value
  | _, [] => []
  | k, c :: cs => cellOf place k c parts :: fillFrom place parts (k + 1) cs
def partsOk (place : Nat → Option (Nat × Nat)) (n : Nat) : List (Nat × Value) → Bool
  | [] => true
  | (i, v) :: rest => (match place i with | some (off, size) => Nat.beq v.cells.toList.length size && Nat.ble (off + size) n | none => false) && partsOk place n rest
theorem fillFrom_get (place : Nat → Option (Nat × Nat)) (parts : List (Nat × Value)) : ∀ (cs : List Value) (k i : Nat), (fillFrom place parts k cs)[i]? = (cs[i]?).map fun c => cellOf place (k + i) c parts := by
  intro cs
  induction cs with
  | nil => intro k i; simp [fillFrom]
  | cons c cs ih =>
    intro k i
    cases i with
    | zero => simp [fillFrom]
    | succ i => simp only [fillFrom, List.getElem?_cons_succ, ih]; rw [show k + 1 + i = k + (i + 1) by omega]
theorem fillFrom_fillL {place : Nat → Option (Nat × Nat)} : ∀ (parts : List (Nat × Value)) (cells : List Value), partsOk place cells.length parts = true → fillL place cells parts = some (fillFrom place parts 0 cells) := by
  intro parts
  induction parts with
  | nil =>
    intro cells _
    simp only [fillL, Option.some.injEq]
    apply List.ext_getElem?
    intro i
    rw [fillFrom_get]
    simp [cellOf]
  | cons p parts ih =>
    intro cells h
    obtain ⟨i, v⟩ := p
    unfold partsOk at h
    unfold fillL
    cases hp : place i with
    | none => simp [hp] at h
    | some os =>
      obtain ⟨off, size⟩ := os
      simp only [hp, Bool.and_eq_true] at h
      obtain ⟨⟨h1, h2⟩, h3⟩ := h
      have e1 : v.cells.toList.length = size := Nat.eq_of_beq_eq_true h1
      have e2 : off + size ≤ cells.length := Nat.le_of_ble_eq_true h2
      have hc : (Nat.beq v.cells.toList.length size && Nat.ble (off + v.cells.toList.length) cells.length) = true := by
        rw [h1, e1, h2]; rfl
      simp only [hc, cond_true]
      rw [ih _ (by rw [overlay_length]; exact h3)]
      congr 1
      apply List.ext_getElem?
      intro k
      rw [fillFrom_get, fillFrom_get, overlay_get _ _ _ _ (by omega)]
      by_cases hk : off ≤ k ∧ k < off + v.cells.toList.length
      · rw [if_pos hk]
        have hkl : k < cells.length := by omega
        rw [List.getElem?_eq_getElem hkl]
        have hkv : k - off < v.cells.toList.length := by omega
        rw [List.getElem?_eq_getElem hkv]
        simp only [Option.map_some, cellOf, hp, Nat.zero_add]
        have hb : (Nat.ble off k && Nat.blt k (off + size)) = true := by
          rw [Bool.and_eq_true]
          exact ⟨Nat.ble_eq_true_of_le hk.1, Nat.ble_eq_true_of_le (by omega)⟩
        rw [hb]
        simp only [cond_true, List.getD]
        rw [List.getElem?_eq_getElem hkv]
        rfl
      · rw [if_neg hk]
        simp only [cellOf, hp, Nat.zero_add]
        have hb : (Nat.ble off k && Nat.blt k (off + size)) = false := by
          cases hx : (Nat.ble off k && Nat.blt k (off + size)) with
          | false => rfl
          | true =>
            rw [Bool.and_eq_true] at hx
            have := Nat.le_of_ble_eq_true hx.1
            have := Nat.le_of_ble_eq_true hx.2
            exact absurd ⟨by omega, by omega⟩ hk
        rw [hb]
        rfl
def buildT (P : Program) (t : TypeId) (parts : List (Nat × Value)) : PT :=
  match P.info? t, P.underlying t with
  | some i, some (.struct fields) => .opt i.zero fun z => .cnd (fields.toList.all fun f : Field => (cellsT P f.type).isSome)
      (.cnd (partsOk (partPlace P fields) z.cells.toList.length parts) (.ret (.agg (fillFrom (partPlace P fields) parts 0 z.cells.toList).toArray)) .fail) .fail
  | some i, some (.array _ e) => .opt i.zero fun z => .opt (cellsT P e) fun n =>
      .cnd (partsOk (fun i => some (i * n, n)) z.cells.toList.length parts) (.ret (.agg (fillFrom (fun i => some (i * n, n)) parts 0 z.cells.toList).toArray)) .fail
  | _, _ => .fail
theorem run_zeroValue {P : Program} {t : TypeId} {i : TypeInfo} {z : Value} (h : P.info? t = some i) (hz : i.zero = some z) (w : World) : (zeroValue t).run P w = .ok z w := by
  simp [zeroValue, run_typeInfo h, hz]
theorem run_places {P : Program} {fields : Array Field} (h : (fields.toList.all fun f : Field => (cellsT P f.type).isSome) = true) (w : World) :
    ∃ pl : Array (Nat × Nat), (fields.mapM (fun f : Field => do pure (f.offset, ← sizeOf f.type)) : Sem (Array (Nat × Nat))).run P w = .ok pl w ∧ (fun i => pl[i]?) = partPlace P fields := by
  have key : ∀ (l : List Field), (l.all fun f : Field => (cellsT P f.type).isSome) = true → ∃ pl : List (Nat × Nat), ∀ w, (l.mapM (fun f : Field => do pure (f.offset, ← sizeOf f.type)) : Sem (List (Nat × Nat))).run P w = .ok pl w ∧
      ∀ i : Nat, pl[i]? = (l[i]?).bind fun f : Field => (cellsT P f.type).map fun n => (f.offset, n) := by
    intro l
    induction l with
    | nil => intro _; exact ⟨[], fun w => ⟨by simp, fun i => by simp⟩⟩
    | cons f l ih =>
      intro h
      simp only [List.all_cons, Bool.and_eq_true] at h
      obtain ⟨pl, hpl⟩ := ih h.2
      obtain ⟨n, hn⟩ := Option.isSome_iff_exists.1 h.1
      refine ⟨(f.offset, n) :: pl, fun w => ⟨?_, ?_⟩⟩
      · rw [List.mapM_cons, Sem.run_bind, Sem.run_bind, run_sizeOf hn, Result.andThen_ok, Sem.run_pure, Result.andThen_ok, Sem.run_bind, (hpl w).1, Result.andThen_ok, Sem.run_pure]
      · intro i
        cases i with
        | zero => simp [hn]
        | succ i => simpa using (hpl w).2 i
  obtain ⟨pl, hpl⟩ := key fields.toList h
  refine ⟨pl.toArray, ?_, ?_⟩
  · rw [Array.mapM_eq_mapM_toList, Sem.run_map, (hpl w).1]
    rfl
  · funext i
    have := (hpl w).2 i
    simpa [partPlace] using this
theorem buildT_sound (P : Program) (t : TypeId) (parts : Array (Nat × Value)) : (buildT P t parts.toList).sound P (Instr.build t parts) := by
  unfold buildT
  split
  · rename_i i fields hi hu
    refine sound_opt fun z hz => sound_cnd (fun hall => sound_cnd (fun hok => sound_ret fun w => ?_) (fun _ => sound_fail)) (fun _ => sound_fail)
    obtain ⟨pl, h1, h2⟩ := run_places hall w
    have hcs := fillL_fill _ _ (fillFrom_fillL _ _ hok)
    simp only [Array.toArray_toList] at hcs
    simp only [Instr.build, Sem.run_bind, run_zeroValue hi hz, Result.andThen_ok, run_underlying hu, h1, h2, hcs, Sem.run_pure]
  · rename_i i n e hi hu
    refine sound_opt fun z hz => sound_opt fun n hn => sound_cnd (fun hok => sound_ret fun w => ?_) (fun _ => sound_fail)
    have hcs := fillL_fill _ _ (fillFrom_fillL _ _ hok)
    simp only [Array.toArray_toList] at hcs
    simp only [Instr.build, Sem.run_bind, run_zeroValue hi hz, Result.andThen_ok, run_underlying hu, run_sizeOf hn, hcs, Sem.run_pure]
  · exact sound_fail

/-! ### all of them -/
def pureT (P : Program) (tm : List Value) (o : Oper) : Option PT :=
  match o.op with
  | .move x | .assign x => some (.ret (ev tm x))
  | .pick c a b => some (match ev tm c with | .bool t => .cnd t (.ret (ev tm a)) (.ret (ev tm b)) | _ => .fail)
  | .build t parts => some (buildT P t (parts.toList.map fun (i, x) => (i, ev tm x)))
  | .binOp op t x y _ => some (binT P op t x y (ev tm x) (ev tm y))
  | .unOp op _ x => some (unT op (ev tm x))
  | .convert src dst x => convT P src dst (ev tm x)
  | .makeInterface t x => some (match P.underlying t with | some (.interface _) => .fail | some _ => .ret (.iface t (ev tm x)) | none => .fail)
  | .makeFunc fn first captured => some (.ret (.func fn (first.map (ev tm)) (captured.map (ev tm))))
  | .slice t x lo hi mx => some (sliceT P t (ev tm x) (lo.map (ev tm)) (hi.map (ev tm)) (mx.map (ev tm)))
  | .fieldAddr s x f => some (fieldAddrT P s (ev tm x) f)
  | .field t x f => some (fieldT P t (ev tm x) f)
  | .indexAddr t x i => some (indexAddrT P t (ev tm x) (ev tm i))
  | .index t x i => some (indexT P t (ev tm x) (ev tm i))
  | .extract t i => some (extractT (ev tm t) i)
  | .call c => (match c.callee with
    | .builtin .len => (match c.argTypes.toList, c.args.toList with
        | [t], [x] => lenT P t (ev tm x)
        | _, _ => none)
    | .builtin .min => some (match (c.args.map (ev tm)).toList with | x :: r => foldInts gomin x r | [] => .fail)
    | .builtin .max => some (match (c.args.map (ev tm)).toList with | x :: r => foldInts gomax x r | [] => .fail)
    | _ => none)
  | _ => none

def okVal (P : Program) (o : Oper) (tm : List Value) (v : Value) : Prop := ∀ w, (execOp (ev tm) o).run P w = .ok (.value v) w
theorem pureT_sound {P : Program} {tm : List Value} {o : Oper} {t : PT} (h : pureT P tm o = some t) {K : Value → Prop} (hK : t.run K) : ∃ v, K v ∧ okVal P o tm v := by
  have lift : ∀ (s : Sem Value), t.sound P s → (∀ w, (execOp (ev tm) o).run P w = (s.run P w).andThen fun v w' => .ok (.value v) w') → ∃ v, K v ∧ okVal P o tm v := by
    intro s hs he
    obtain ⟨v, h1, h2⟩ := hs K hK
    exact ⟨v, h1, fun w => by rw [he, h2]; rfl⟩
  unfold pureT at h
  cases ho : o.op <;> simp only [ho] at h <;> try (cases h; done)
  case move x => obtain rfl := Option.some.inj h; exact ⟨_, hK, fun w => by simp [execOp, ho]⟩
  case assign x => obtain rfl := Option.some.inj h; exact ⟨_, hK, fun w => by simp [execOp, ho]⟩
  case pick c a b =>
    obtain rfl := Option.some.inj h
    cases hc : ev tm c <;> simp only [hc] at hK <;> try exact hK.elim
    rename_i t
    rcases cnd_cases hK with ⟨hb, hK⟩ | ⟨hb, hK⟩
    · exact ⟨_, hK, fun w => by simp [execOp, ho, hc, asBool, hb]⟩
    · exact ⟨_, hK, fun w => by simp [execOp, ho, hc, asBool, hb]⟩
  case build ty parts => obtain rfl := Option.some.inj h; exact lift _ (by have := buildT_sound P ty (parts.map fun (i, x) => (i, ev tm x)); simpa using this) fun w => by simp [execOp, ho]
  case binOp op ty x y yt => obtain rfl := Option.some.inj h; exact lift _ (binT_sound P _ _ _ _ _ _) fun w => by simp only [execOp, ho]; exact Sem.run_bind P w _ _
  case unOp op ty x => obtain rfl := Option.some.inj h; exact lift _ (unT_sound P _ _) fun w => by simp [execOp, ho]
  case convert s d x => exact lift _ (convT_sound h) fun w => by simp [execOp, ho]
  case makeInterface ty x =>
    obtain rfl := Option.some.inj h
    cases hu : P.underlying ty with
    | none => simp only [hu] at hK; exact hK.elim
    | some d =>
      cases d <;> simp only [hu] at hK <;> first
        | exact hK.elim
        | exact ⟨_, hK, fun w => by simp [execOp, ho, Instr.makeInterface, run_underlying hu]⟩
  case makeFunc fn a b => obtain rfl := Option.some.inj h; exact ⟨_, hK, fun w => by simp [execOp, ho, Instr.makeFunc]⟩
  case slice ty x lo hi mx => obtain rfl := Option.some.inj h; exact lift _ (sliceT_sound P _ _ _ _ _) fun w => by simp [execOp, ho]
  case fieldAddr s x f => obtain rfl := Option.some.inj h; exact lift _ (fieldAddrT_sound P _ _ _) fun w => by simp [execOp, ho]
  case field ty x f => obtain rfl := Option.some.inj h; exact lift _ (fieldT_sound P _ _ _) fun w => by simp [execOp, ho]
  case indexAddr ty x i => obtain rfl := Option.some.inj h; exact lift _ (indexAddrT_sound P _ _ _) fun w => by simp [execOp, ho]
  case index ty x i => obtain rfl := Option.some.inj h; exact lift _ (indexT_sound P _ _ _) fun w => by simp [execOp, ho]
  case extract x i => obtain rfl := Option.some.inj h; exact lift _ (extractT_sound P _ _) fun w => by simp [execOp, ho]
  case call c =>
    obtain ⟨callee, args, argTypes⟩ := c
    cases callee <;> simp only at h <;> try (cases h; done)
    rename_i b
    cases b <;> simp only at h <;> try (cases h; done)
    case len =>
      split at h
      · rename_i ty x h1 h2
        obtain rfl : argTypes = #[ty] := by apply Array.ext'; simpa using h1
        obtain rfl : args = #[x] := by apply Array.ext'; simpa using h2
        exact lift _ (lenT_sound (ty := o.type) h) fun w => by simp [execOp, ho, resolve, invoke, builtin]
      · cases h
    case max =>
      obtain rfl := Option.some.inj h
      cases hl : (args.map (ev tm)).toList with
      | nil => simp only [hl] at hK; exact hK.elim
      | cons x r =>
        simp only [hl] at hK
        obtain ⟨v, h1, h2⟩ := foldInts_sound (run_max2 P) r x K hK
        exact ⟨v, h1, fun w => by simp only [execOp, ho, resolve, invoke, builtin, Sem.run_bind, Sem.run_pure, Result.andThen_ok, Builtin.max_, hl, h2]⟩
    case min =>
      obtain rfl := Option.some.inj h
      cases hl : (args.map (ev tm)).toList with
      | nil => simp only [hl] at hK; exact hK.elim
      | cons x r =>
        simp only [hl] at hK
        obtain ⟨v, h1, h2⟩ := foldInts_sound (run_min2 P) r x K hK
        exact ⟨v, h1, fun w => by simp only [execOp, ho, resolve, invoke, builtin, Sem.run_bind, Sem.run_pure, Result.andThen_ok, Builtin.min_, hl, h2]⟩
