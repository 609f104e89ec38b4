/-
Texts of this claim, merged: VcPure, VcOps, VcCode, VcReg, VcTail, VcWp, VcOrd, VcOrdT.
Conditions: each theorem's own.
-/
import Derived.WalkKit
import Derived.Deep.Quiet
import Derived.KernelRfl
import Derived.StillTail
import Derived.Below
import Derived.OrdersHeld
import Derived.OrdersIn
import Derived.ControlIn
import Derived.RangeFuncCalls
set_option linter.unusedSimpArgs false
set_option linter.unnecessarySimpa false
set_option linter.unusedVariables false
set_option linter.unusedSectionVars false

/-
A generator of verification conditions over the model, first part: operations whose value does not depend on memory, with their soundness.
Conditions: none; all is proved over any program.
-/
namespace Go.Vc
open Go.RowKit

/-! ### words of the formulas -/

/-- Two ways, by a Bool. -/
def cnd (b : Bool) (A B : Prop) : Prop := match b with | true => A | false => B
theorem cnd_of {b : Bool} {A B : Prop} (h1 : b = true → A) (h0 : b = false → B) : cnd b A B := by
  cases b
  · exact h0 rfl
  · exact h1 rfl
theorem cnd_true {b : Bool} {A B : Prop} (h : b = true) (h1 : A) : cnd b A B := by subst h; exact h1
theorem cnd_false {b : Bool} {A B : Prop} (h : b = false) (h1 : B) : cnd b A B := by subst h; exact h1
theorem cnd_mono {b : Bool} {A B A' B' : Prop} (h : cnd b A B) (h1 : A → A') (h0 : B → B') : cnd b A' B' := by
  cases b
  · exact h0 h
  · exact h1 h
theorem cnd_cases {b : Bool} {A B : Prop} (h : cnd b A B) : (b = true ∧ A) ∨ (b = false ∧ B) := by
  cases b
  · exact .inr ⟨rfl, h⟩
  · exact .inl ⟨rfl, h⟩

/-- The address behind a pointer that is not nil. -/
def Deref (p : Option Addr) (L : Addr → Prop) : Prop := match p with | some a => L a | none => False
theorem Deref_some {p : Option Addr} {L : Addr → Prop} {a : Addr} (h : p = some a) (hL : L a) : Deref p L := by subst h; exact hL
theorem Deref_elim {p : Option Addr} {L : Addr → Prop} (h : Deref p L) : ∃ a, p = some a ∧ L a := by
  cases p with
  | none => exact h.elim
  | some a => exact ⟨a, rfl, h⟩

/-- A function value that is a function of the program. -/
def AsFn (v : Value) (L : FuncId → Array Value → Array Value → Prop) : Prop := match v with | .func (.func f) fi ca => L f fi ca | _ => False
theorem AsFn_elim {v : Value} {L : FuncId → Array Value → Array Value → Prop} (h : AsFn v L) : ∃ f fi ca, v = .func (.func f) fi ca ∧ L f fi ca := by
  unfold AsFn at h
  split at h
  · exact ⟨_, _, _, rfl, h⟩
  · exact h.elim

/-- A value that is the body of a range over a function. -/
def AsYield (v : Value) (L : Nat → Prop) : Prop := match v with | .func (.yield l) fi ca => fi = #[] ∧ ca = #[] ∧ L l | _ => False
theorem AsYield_elim {v : Value} {L : Nat → Prop} (h : AsYield v L) : ∃ l, v = .func (.yield l) #[] #[] ∧ L l := by
  unfold AsYield at h
  split at h
  · obtain ⟨rfl, rfl, h⟩ := h
    exact ⟨_, rfl, h⟩
  · exact h.elim
/-- What is there, if anything is. -/
def IsSome {α : Type} (o : Option α) (L : α → Prop) : Prop := match o with | some a => L a | none => False
theorem IsSome_elim {α : Type} {o : Option α} {L : α → Prop} (h : IsSome o L) : ∃ a, o = some a ∧ L a := by
  cases o with
  | none => exact h.elim
  | some a => exact ⟨a, rfl, h⟩
theorem IsSome_some {α : Type} {o : Option α} {L : α → Prop} {a : α} (h : o = some a) (hL : L a) : IsSome o L := by subst h; exact hL

/-! ### shapes of values -/
inductive Sh where
  | int (k : IntKind) | bool | str | ptr | slice | map | any
inductive Shape where
  | one (s : Sh) | agg (l : List Sh) | big (n : Nat)

def Sh.ok : Sh → Value → Bool
  | .int k, .int k' _ => decide (k = k')
  | .bool, .bool _ => true
  | .str, .string _ => true
  | .ptr, .pointer _ => true
  | .slice, .slice .. => true
  | .map, .map _ => true
  | .any, _ => true
  | _, _ => false
def Sh.all : Sh → (Value → Prop) → Prop
  | .int k, L => ∀ n : Int, L (.int k n)
  | .bool, L => ∀ b : Bool, L (.bool b)
  | .str, L => ∀ s : ByteArray, L (.string s)
  | .ptr, L => ∀ p : Option Addr, L (.pointer p)
  | .slice, L => ∀ (p : Option Addr) (n c : Nat), L (.slice p n c)
  | .map, L => ∀ r : Option Nat, L (.map r)
  | .any, L => ∀ v : Value, L v
def Sh.ex : Sh → (Value → Prop) → Prop
  | .int k, L => ∃ n : Int, L (.int k n)
  | .bool, L => ∃ b : Bool, L (.bool b)
  | .str, L => ∃ s : ByteArray, L (.string s)
  | .ptr, L => ∃ p : Option Addr, L (.pointer p)
  | .slice, L => ∃ (p : Option Addr) (n c : Nat), L (.slice p n c)
  | .map, L => ∃ r : Option Nat, L (.map r)
  | .any, L => ∃ v : Value, L v
theorem Sh.all_elim {s : Sh} {L : Value → Prop} (h : s.all L) {v : Value} (hv : s.ok v = true) : L v := by
  cases s <;> cases v <;> simp [Sh.ok] at hv <;> first | (subst hv; exact h _) | exact h _ | exact h _ _ _
theorem Sh.ex_elim {s : Sh} {L : Value → Prop} (h : s.ex L) : ∃ v, s.ok v = true ∧ L v := by
  cases s <;> simp only [Sh.ex] at h
  case int k => obtain ⟨n, h⟩ := h; exact ⟨_, by simp [Sh.ok], h⟩
  case slice => obtain ⟨p, n, c, h⟩ := h; exact ⟨_, rfl, h⟩
  case any => obtain ⟨v, h⟩ := h; exact ⟨v, rfl, h⟩
  all_goals (obtain ⟨n, h⟩ := h; exact ⟨_, rfl, h⟩)
theorem Sh.ex_mono {s : Sh} {L L' : Value → Prop} (h : ∀ v, L v → L' v) (hh : s.ex L) : s.ex L' := by
  cases s <;> simp only [Sh.ex] at hh ⊢
  case slice => obtain ⟨p, n, c, hh⟩ := hh; exact ⟨p, n, c, h _ hh⟩
  all_goals (obtain ⟨n, hh⟩ := hh; exact ⟨n, h _ hh⟩)
theorem Sh.all_mono {s : Sh} {L L' : Value → Prop} (h : ∀ v, L v → L' v) (hh : s.all L) : s.all L' := by
  cases s <;> simp only [Sh.all] at hh ⊢ <;> intros <;> exact h _ (hh ..)

def okL : List Sh → List Value → Bool
  | [], [] => true
  | s :: l, v :: vs => s.ok v && okL l vs
  | _, _ => false
def allL : List Sh → (List Value → Prop) → Prop
  | [], L => L []
  | s :: l, L => s.all fun v => allL l fun vs => L (v :: vs)
def exL : List Sh → (List Value → Prop) → Prop
  | [], L => L []
  | s :: l, L => s.ex fun v => exL l fun vs => L (v :: vs)
theorem allL_elim {l : List Sh} : ∀ {L : List Value → Prop}, allL l L → ∀ {vs : List Value}, okL l vs = true → L vs := by
  induction l with
  | nil => intro L h vs hv; cases vs <;> simp [okL] at hv; exact h
  | cons s l ih =>
    intro L h vs hv
    cases vs with
    | nil => simp [okL] at hv
    | cons v vs =>
      simp only [okL, Bool.and_eq_true] at hv
      exact ih (Sh.all_elim h hv.1) hv.2
theorem exL_elim {l : List Sh} : ∀ {L : List Value → Prop}, exL l L → ∃ vs, okL l vs = true ∧ L vs := by
  induction l with
  | nil => intro L h; exact ⟨[], rfl, h⟩
  | cons s l ih =>
    intro L h
    obtain ⟨v, hv, h⟩ := Sh.ex_elim h
    obtain ⟨vs, hvs, h⟩ := ih h
    exact ⟨v :: vs, by simp [okL, hv, hvs], h⟩
theorem exL_mono {l : List Sh} : ∀ {L L' : List Value → Prop}, (∀ vs, L vs → L' vs) → exL l L → exL l L' := by
  induction l with
  | nil => intro L L' h hh; exact h _ hh
  | cons s l ih => intro L L' h hh; exact Sh.ex_mono (fun v hv => ih (fun vs hvs => h _ hvs) hv) hh
theorem allL_mono {l : List Sh} : ∀ {L L' : List Value → Prop}, (∀ vs, L vs → L' vs) → allL l L → allL l L' := by
  induction l with
  | nil => intro L L' h hh; exact h _ hh
  | cons s l ih => intro L L' h hh; exact Sh.all_mono (fun v hv => ih (fun vs hvs => h _ hvs) hv) hh
theorem okL_length {l : List Sh} : ∀ {vs : List Value}, okL l vs = true → vs.length = l.length := by
  induction l with
  | nil => intro vs h; cases vs <;> simp [okL] at h ⊢
  | cons s l ih =>
    intro vs h
    cases vs with
    | nil => simp [okL] at h
    | cons v vs => simp only [okL, Bool.and_eq_true] at h; simp [ih h.2]

def Shape.ok : Shape → Value → Bool
  | .one s, v => s.ok v
  | .agg l, .agg cs => okL l cs.toList
  | .big n, .agg cs => decide (cs.size = n)
  | _, _ => false
def Shape.all : Shape → (Value → Prop) → Prop
  | .one s, L => s.all L
  | .agg l, L => allL l fun vs => L (.agg vs.toArray)
  | .big n, L => ∀ cs : Array Value, cs.size = n → L (.agg cs)
def Shape.ex : Shape → (Value → Prop) → Prop
  | .one s, L => s.ex L
  | .agg l, L => exL l fun vs => L (.agg vs.toArray)
  | .big n, L => ∃ cs : Array Value, cs.size = n ∧ L (.agg cs)
theorem Shape.all_elim {s : Shape} {L : Value → Prop} (h : s.all L) {v : Value} (hv : s.ok v = true) : L v := by
  cases s with
  | one s => exact Sh.all_elim h hv
  | agg l =>
    cases v <;> simp [Shape.ok] at hv
    rename_i cs
    have := allL_elim h hv
    simpa using this
  | big n =>
    cases v <;> simp [Shape.ok] at hv
    exact h _ hv
theorem Shape.ex_elim {s : Shape} {L : Value → Prop} (h : s.ex L) : ∃ v, s.ok v = true ∧ L v := by
  cases s with
  | one s => exact Sh.ex_elim h
  | agg l => obtain ⟨vs, h1, h2⟩ := exL_elim h; exact ⟨_, by simpa [Shape.ok] using h1, h2⟩
  | big n => obtain ⟨cs, h1, h2⟩ := h; exact ⟨_, by simpa [Shape.ok] using h1, h2⟩
theorem Shape.ex_mono {s : Shape} {L L' : Value → Prop} (h : ∀ v, L v → L' v) (hh : s.ex L) : s.ex L' := by
  cases s with
  | one s => exact Sh.ex_mono h hh
  | agg l => exact exL_mono (fun vs => h _) hh
  | big n => obtain ⟨cs, h1, h2⟩ := hh; exact ⟨cs, h1, h _ h2⟩
theorem Shape.all_mono {s : Shape} {L L' : Value → Prop} (h : ∀ v, L v → L' v) (hh : s.all L) : s.all L' := by
  cases s with
  | one s => exact Sh.all_mono h hh
  | agg l => exact allL_mono (fun vs => h _) hh
  | big n => exact fun cs h1 => h _ (hh cs h1)

def exS : List Shape → (List Value → Prop) → Prop
  | [], L => L []
  | s :: l, L => s.ex fun v => exS l fun vs => L (v :: vs)
theorem exS_elim {l : List Shape} : ∀ {L : List Value → Prop}, exS l L → ∃ vs, L vs := by
  induction l with
  | nil => intro L h; exact ⟨[], h⟩
  | cons s l ih =>
    intro L h
    obtain ⟨v, _, h⟩ := Shape.ex_elim h
    obtain ⟨vs, h⟩ := ih h
    exact ⟨v :: vs, h⟩
theorem exS_mono {l : List Shape} : ∀ {L L' : List Value → Prop}, (∀ vs, L vs → L' vs) → exS l L → exS l L' := by
  induction l with
  | nil => intro L L' h hh; exact h _ hh
  | cons s l ih => intro L L' h hh; exact Shape.ex_mono (fun v hv => ih (fun vs hvs => h _ hvs) hv) hh

def shOf : Value → Sh
  | .int k _ => .int k
  | .bool _ => .bool
  | .string _ => .str
  | .pointer _ => .ptr
  | .slice .. => .slice
  | .map _ => .map
  | _ => .any
def shapeOf (few : Bool) : Value → Shape
  | .agg cs => cond (few && Nat.ble cs.size 40) (.agg (cs.toList.map shOf)) (.big cs.size)
  | v => .one (shOf v)
/-- Structs are told cell by cell, arrays as a whole. -/
def fewT (P : Program) (t : TypeId) : Bool := match P.underlying t with | some (.array _ _) => false | _ => true
/-- The shape of a type's values. -/
def typeShape (P : Program) (t : TypeId) : Shape :=
  match P.info? t with
  | some i => (match i.zero with | some v => shapeOf (fewT P t) v | none => .one .any)
  | none => .one .any
/-- What comes back of a call: one value, or a tuple. -/
def retEx (P : Program) (t : TypeId) (L : Value → Prop) : Prop :=
  match P.underlying t with
  | some (.tuple ts) => exS (ts.toList.map (typeShape P)) fun vs => L (.tuple vs.toArray)
  | _ => (typeShape P t).ex L
theorem retEx_elim {P : Program} {t : TypeId} {L : Value → Prop} (h : retEx P t L) : ∃ v, L v := by
  unfold retEx at h
  split at h
  · obtain ⟨vs, h⟩ := exS_elim h; exact ⟨_, h⟩
  · obtain ⟨v, _, h⟩ := Shape.ex_elim h; exact ⟨v, h⟩
theorem retEx_mono {P : Program} {t : TypeId} {L L' : Value → Prop} (h : ∀ v, L v → L' v) (hh : retEx P t L) : retEx P t L' := by
  unfold retEx at hh ⊢
  split
  · rename_i ts he
    simp only [he] at hh
    exact exS_mono (fun vs => h _) hh
  · rename_i he
    have : (typeShape P t).ex L := by
      revert hh
      split
      · rename_i ts' he'; exact absurd he' (he ts')
      · exact id
    exact Shape.ex_mono h this

/-! ### transformers of a value alone -/
structure PT where
  run : (Value → Prop) → Prop
  mono : ∀ {K K' : Value → Prop}, (∀ v, K v → K' v) → run K → run K'
def PT.ret (v : Value) : PT := ⟨fun K => K v, fun h => h v⟩
def PT.fail : PT := ⟨fun _ => False, fun _ h => h⟩
def PT.cnd (b : Bool) (x y : PT) : PT := ⟨fun K => Go.Vc.cnd b (x.run K) (y.run K), fun h hh => cnd_mono hh (x.mono h) (y.mono h)⟩
def PT.need (p : Prop) (x : PT) : PT := ⟨fun K => p ∧ x.run K, fun h hh => ⟨hh.1, x.mono h hh.2⟩⟩
def PT.deref (p : Option Addr) (f : Addr → PT) : PT :=
  ⟨fun K => Deref p fun a => (f a).run K, fun h hh => by cases p with | none => exact hh | some a => exact (f a).mono h hh⟩
def PT.opt {α : Type} (o : Option α) (f : α → PT) : PT :=
  ⟨fun K => IsSome o fun a => (f a).run K, fun h hh => by cases o with | none => exact hh | some a => exact (f a).mono h hh⟩
def PT.exBool (p : Bool → Prop) : PT := ⟨fun K => ∃ b : Bool, p b ∧ K (.bool b), fun h ⟨b, h1, h2⟩ => ⟨b, h1, h _ h2⟩⟩
def PT.exByte (p : UInt8 → Prop) : PT := ⟨fun K => ∃ b : UInt8, p b ∧ K (.int .u8 b.toNat), fun h ⟨b, h1, h2⟩ => ⟨b, h1, h _ h2⟩⟩
def PT.exShape (s : Shape) (p : Value → Prop) : PT := ⟨fun K => s.ex fun v => p v ∧ K v, fun h hh => Shape.ex_mono (fun v hv => ⟨hv.1, h v hv.2⟩) hh⟩

/-- What a transformer owes to a computation: a value that meets the post, whatever the world. -/
def PT.sound (P : Program) (t : PT) (s : Sem Value) : Prop := ∀ K, t.run K → ∃ v, K v ∧ ∀ w, s.run P w = .ok v w

def ev (tm : List Value) : Operand → Value
  | .tmp t => tm.getD t undef
  | .const v => v
  | .global g => .pointer (some ⟨g, 0, none⟩)
  | .func f => .func (.func f) #[] #[]

def isAggT (P : Program) (t : TypeId) : Bool := match P.underlying t with | some (.struct _) | some (.array _ _) => true | _ => false
def cellsT (P : Program) (t : TypeId) : Option Nat := (P.info? t).map (·.size)

/-! ### integers -/
def intT (op : BinOp) (x y : Value) : PT :=
  match x, y with
  | .int k a, .int k' b =>
    match op with
    | .shl => .cnd (decide (b < 0)) .fail (.ret (.int k (k.wrap (a * 2 ^ (min b.toNat k.bits)))))
    | .shr => .cnd (decide (b < 0)) .fail (.ret (.int k (a.fdiv (2 ^ (min b.toNat k.bits)))))
    | .add => .cnd (decide (k = k')) (.ret (.int k (k.wrap (a + b)))) .fail
    | .sub => .cnd (decide (k = k')) (.ret (.int k (k.wrap (a - b)))) .fail
    | .mul => .cnd (decide (k = k')) (.ret (.int k (k.wrap (a * b)))) .fail
    | .quo => .cnd (decide (k = k')) (.cnd (decide (b = 0)) .fail (.ret (.int k (k.wrap (a.tdiv b))))) .fail
    | .rem => .cnd (decide (k = k')) (.cnd (decide (b = 0)) .fail (.ret (.int k (a.tmod b)))) .fail
    | .and => .cnd (decide (k = k')) (.ret (.int k (bits .and k a b))) .fail
    | .or => .cnd (decide (k = k')) (.ret (.int k (bits .or k a b))) .fail
    | .xor => .cnd (decide (k = k')) (.ret (.int k (bits .xor k a b))) .fail
    | .andNot => .cnd (decide (k = k')) (.ret (.int k (bits .andNot k a b))) .fail
    | .eql => .cnd (decide (k = k')) (.ret (.bool (a == b))) .fail
    | .neq => .cnd (decide (k = k')) (.ret (.bool (a != b))) .fail
    | .lss => .cnd (decide (k = k')) (.ret (.bool (decide (a < b)))) .fail
    | .leq => .cnd (decide (k = k')) (.ret (.bool (decide (a ≤ b)))) .fail
    | .gtr => .cnd (decide (k = k')) (.ret (.bool (decide (a > b)))) .fail
    | .geq => .cnd (decide (k = k')) (.ret (.bool (decide (a ≥ b)))) .fail
  | _, _ => .fail

theorem sound_ret {P : Program} {v : Value} {s : Sem Value} (h : ∀ w, s.run P w = .ok v w) : (PT.ret v).sound P s := fun _ hK => ⟨v, hK, h⟩
theorem sound_fail {P : Program} {s : Sem Value} : PT.fail.sound P s := fun _ hK => hK.elim
theorem sound_cnd {P : Program} {b : Bool} {x y : PT} {s : Sem Value} (h1 : b = true → x.sound P s) (h0 : b = false → y.sound P s) : (PT.cnd b x y).sound P s := by
  intro K hK
  rcases cnd_cases hK with ⟨hb, h⟩ | ⟨hb, h⟩
  · exact h1 hb K h
  · exact h0 hb K h
theorem sound_need {P : Program} {p : Prop} {x : PT} {s : Sem Value} (h : p → x.sound P s) : (PT.need p x).sound P s := fun K hK => h hK.1 K hK.2
theorem sound_deref {P : Program} {p : Option Addr} {f : Addr → PT} {s : Sem Value} (h : ∀ a, p = some a → (f a).sound P s) : (PT.deref p f).sound P s := by
  intro K hK
  obtain ⟨a, ha, hK⟩ := Deref_elim hK
  exact h a ha K hK
theorem sound_opt {P : Program} {α : Type} {o : Option α} {f : α → PT} {s : Sem Value} (h : ∀ a, o = some a → (f a).sound P s) : (PT.opt o f).sound P s := by
  intro K hK
  obtain ⟨a, ha, hK⟩ := IsSome_elim hK
  exact h a ha K hK
theorem sound_exBool {P : Program} {p : Bool → Prop} {s : Sem Value} (h : ∀ b, p b → ∀ w, s.run P w = .ok (.bool b) w) : (PT.exBool p).sound P s := by
  intro K ⟨b, h1, h2⟩
  exact ⟨_, h2, h b h1⟩
theorem sound_exByte {P : Program} {p : UInt8 → Prop} {s : Sem Value} (h : ∀ b, p b → ∀ w, s.run P w = .ok (.int .u8 b.toNat) w) : (PT.exByte p).sound P s := by
  intro K ⟨b, h1, h2⟩
  exact ⟨_, h2, h b h1⟩
theorem sound_exShape {P : Program} {sh : Shape} {p : Value → Prop} {s : Sem Value} (h : ∀ v, sh.ok v = true → p v → ∀ w, s.run P w = .ok v w) : (PT.exShape sh p).sound P s := by
  intro K hK
  obtain ⟨v, hv, h1, h2⟩ := Shape.ex_elim hK
  exact ⟨v, h2, h v hv h1⟩

theorem eqGuard_int (P : Program) (op : BinOp) (t : TypeId) (x y : Operand) (k : IntKind) (a : Int) (v : Value) (w : World) : (eqGuard op t x y (.int k a) v).run P w = .ok () w := by
  rw [eqGuard_at_int]; rfl

theorem intT_sound (P : Program) (op : BinOp) (t : TypeId) (xo yo : Operand) (x y : Value) :
    (intT op x y).sound P (do eqGuard op t xo yo x y; binOp op t x y) := by
  unfold intT
  split
  · rename_i k a k' b
    have hg : ∀ (s : Sem Value) w, (do eqGuard op t xo yo (.int k a) (.int k' b); s : Sem Value).run P w = s.run P w := fun s w => by simp [eqGuard_int]
    split <;>
      first
      | (refine sound_cnd (fun _ => sound_fail) (fun h => sound_ret fun w => ?_)
         rw [hg]
         have h := of_decide_eq_false h
         simp [binOp, Op.shift, h])
      | (refine sound_cnd (fun h => ?_) (fun _ => sound_fail)
         obtain rfl := of_decide_eq_true h
         first
         | (refine sound_ret fun w => ?_
            rw [hg]
            simp [binOp, Op.intArith, Op.intBits, Op.intCmp, bits])
         | (refine sound_cnd (fun _ => sound_fail) (fun h => sound_ret fun w => ?_)
            rw [hg]
            have h := of_decide_eq_false h
            simp [binOp, Op.intDiv, h]))
  · exact sound_fail
end Go.Vc

/-
A generator of verification conditions over the model, second part: all operations without memory, with their soundness.
Conditions: none; all is proved over any program.
-/
namespace Go.Vc
open Go.RowKit

/-! ### comparisons of other kinds, bools, strings -/
def EqRuns (P : Program) (op : BinOp) (t : TypeId) (xo yo : Operand) (x y : Value) (b : Bool) : Prop :=
  ∀ w, (do eqGuard op t xo yo x y; binOp op t x y : Sem Value).run P w = .ok (.bool b) w
def boolT (op : BinOp) (x y : Value) : PT :=
  match x, y with
  | .bool a, .bool b =>
    match op with
    | .eql => .ret (.bool (a == b))
    | .neq => .ret (.bool (!(a == b)))
    | _ => .fail
  | _, _ => .fail
def strT (op : BinOp) (x y : Value) : PT :=
  match x, y with
  | .string a, .string b =>
    match op with
    | .eql => .ret (.bool (a.toList == b.toList))
    | .neq => .ret (.bool (!(a.toList == b.toList)))
    | .add => .need (((a.size + b.size : Nat) : Int) ≤ 9223372036854775807) (.ret (.string (a ++ b)))
    | .lss => .ret (.bool (Op.bytesLess a.toList b.toList))
    | .leq => .ret (.bool (Op.bytesLess a.toList b.toList || a.toList == b.toList))
    | .gtr => .ret (.bool !(Op.bytesLess a.toList b.toList || a.toList == b.toList))
    | .geq => .ret (.bool !(Op.bytesLess a.toList b.toList))
    | _ => .fail
  | _, _ => .fail
def binT (P : Program) (op : BinOp) (t : TypeId) (xo yo : Operand) (x y : Value) : PT :=
  match P.underlying t with
  | some (.int _) => intT op x y
  | some .bool => boolT op x y
  | some .string => strT op x y
  | _ => match op with
    | .eql | .neq => .exBool (EqRuns P op t xo yo x y)
    | _ => .fail

theorem run_equalIn_bool {P : Program} {t : TypeId} (hu : P.underlying t = some .bool) (d : Nat) (a b : Bool) (w : World) :
    (Op.equalIn (d + 1) t (.bool a) (.bool b)).run P w = .ok (a == b) w := by
  simp only [Op.equalIn, Sem.run_bind, run_underlying hu, Result.andThen_ok, Sem.run_pure]
theorem binT_sound (P : Program) (op : BinOp) (t : TypeId) (xo yo : Operand) (x y : Value) :
    (binT P op t xo yo x y).sound P (do eqGuard op t xo yo x y; binOp op t x y) := by
  unfold binT
  split
  · exact intT_sound P op t xo yo x y
  · rename_i hu
    unfold boolT
    split
    · split
      · exact sound_ret fun w => by
          simp only [eqGuard_at_bool, binOp, Op.equal, Op.maxDepth, Sem.run_bind, Sem.run_pure, Result.andThen_ok, run_equalIn_bool hu]
      · exact sound_ret fun w => by
          simp only [eqGuard_at_bool, binOp, Op.equal, Op.maxDepth, Sem.run_bind, Sem.run_pure, Result.andThen_ok, run_equalIn_bool hu]
      · exact sound_fail
    · exact sound_fail
  · unfold strT
    split
    · rename_i a b
      split
      case h_3 =>
        refine sound_need fun h => sound_ret fun w => ?_
        have h' : ¬ ((a.size : Int) + (b.size : Int) > 9223372036854775807) := by omega
        simp [eqGuard_at_string, binOp, Op.stringOp, h']
      all_goals first
        | exact sound_fail
        | exact sound_ret fun w => by simp [eqGuard_at_string, binOp, Op.stringOp]
    · exact sound_fail
  · split <;> first | exact sound_fail | exact sound_exBool fun b hb w => hb w

/-! ### one operand -/
def unT (op : UnOp) (x : Value) : PT :=
  match op, x with
  | .neg, .int k n => .ret (.int k (k.wrap (0 - n)))
  | .xor, .int k n => .ret (.int k (bits .xor k (if k.signed then -1 else k.max) n))
  | .not, .bool b => .ret (.bool !b)
  | _, _ => .fail
theorem unT_sound (P : Program) (op : UnOp) (x : Value) : (unT op x).sound P (Op.unary op x) := by
  unfold unT
  split <;> first | exact sound_fail | exact sound_ret fun w => by simp [Op.unary, Op.intArith, Op.intBits, bits]

def convT (P : Program) (src dst : TypeId) (x : Value) : Option PT :=
  match P.underlying src, P.underlying dst with
  | some (.int _), some (.int k) => some (match x with | .int _ n => .ret (.int k (k.wrap n)) | _ => .fail)
  | some .string, some .string => some (match x with | .string s => .ret (.string s) | _ => .fail)
  | _, _ => none
theorem convT_sound {P : Program} {src dst : TypeId} {x : Value} {t : PT} (h : convT P src dst x = some t) : t.sound P (convert src dst x) := by
  unfold convT at h
  split at h
  · rename_i h1 h2
    obtain rfl := Option.some.inj h
    split
    · exact sound_ret fun w => by simp [convert, run_underlying h1, run_underlying h2, Conv.intToInt]
    · exact sound_fail
  · rename_i h1 h2
    obtain rfl := Option.some.inj h
    split
    · exact sound_ret fun w => by simp [convert, run_underlying h1, run_underlying h2]
    · exact sound_fail
  · cases h

def extractT (x : Value) (i : Nat) : PT :=
  match x with
  | .tuple vs => .opt vs[i]? .ret
  | _ => .fail
theorem extractT_sound (P : Program) (x : Value) (i : Nat) : (extractT x i).sound P (Instr.extract x i) := by
  unfold extractT
  split
  · exact sound_opt fun a ha => sound_ret fun w => by simp [Instr.extract, ha]
  · exact sound_fail

theorem run_typeInfo {P : Program} {t : TypeId} {i : TypeInfo} (h : P.info? t = some i) (w : World) : (typeInfo t).run P w = .ok i w := by
  simp [typeInfo, h]
theorem run_sizeOf {P : Program} {t : TypeId} {n : Nat} (h : cellsT P t = some n) (w : World) : (sizeOf t).run P w = .ok n w := by
  unfold cellsT at h
  obtain ⟨i, hi, rfl⟩ := Option.map_eq_some_iff.1 h
  simp [sizeOf, run_typeInfo hi]
theorem run_isAgg {P : Program} {t : TypeId} {d : TypeDesc} (h : P.underlying t = some d) (w : World) : (isAgg t).run P w = .ok (isAggT P t) w := by
  simp only [isAgg, Sem.run_bind, run_underlying h, Result.andThen_ok, isAggT, h]
  cases d <;> rfl

def fieldAddrT (P : Program) (s : TypeId) (x : Value) (f : Nat) : PT :=
  match P.underlying s, x with
  | some (.struct fields), .pointer p => .opt fields[f]? fun fl => .deref p fun a =>
      (match cellsT P fl.type with
       | some (n + 1) => .ret (.pointer (some (a.add fl.offset)))
       | _ => .fail)
  | _, _ => .fail
theorem fieldAddrT_sound (P : Program) (s : TypeId) (x : Value) (f : Nat) : (fieldAddrT P s x f).sound P (Instr.fieldAt s x f) := by
  unfold fieldAddrT
  split
  · rename_i fields p hu
    refine sound_opt fun fl hf => sound_deref fun a ha => ?_
    split
    · rename_i n hn
      subst ha
      exact sound_ret fun w => by simp [Instr.fieldAt, run_underlying hu, hf, Instr.sureAddr, fieldPlace, run_sizeOf hn]
    · exact sound_fail
  · exact sound_fail

/-- A part of an array or a struct that is at hand. -/
def partT (P : Program) (t : TypeId) (cs : Array Value) (off : Nat) : PT :=
  match P.underlying t with
  | some _ => (match isAggT P t with
      | true => (match cellsT P t with | some n => .ret (.agg (cs.extract off (off + n))) | none => .fail)
      | false => .opt cs[off]? .ret)
  | none => .fail
theorem partT_sound (P : Program) (t : TypeId) (cs : Array Value) (off : Nat) : (partT P t cs off).sound P (part t cs off) := by
  unfold partT
  split
  · rename_i d hu
    split
    · rename_i ha
      split
      · rename_i n hn
        exact sound_ret fun w => by simp [part, run_isAgg hu, ha, run_sizeOf hn]
      · exact sound_fail
    · rename_i ha
      exact sound_opt fun v hv => sound_ret fun w => by simp [part, run_isAgg hu, ha, hv]
  · exact sound_fail
def fieldT (P : Program) (t : TypeId) (x : Value) (f : Nat) : PT :=
  match P.underlying t, x with
  | some (.struct fields), .agg cs => .opt fields[f]? fun fl => partT P fl.type cs fl.offset
  | _, _ => .fail
theorem fieldT_sound (P : Program) (t : TypeId) (x : Value) (f : Nat) : (fieldT P t x f).sound P (Instr.field t x f) := by
  unfold fieldT
  split
  · rename_i fields cs hu
    refine sound_opt fun fl hf => ?_
    intro K hK
    obtain ⟨v, h1, h2⟩ := partT_sound P fl.type cs fl.offset K hK
    exact ⟨v, h1, fun w => by simp [Instr.field, run_underlying hu, hf, asAgg, h2]⟩
  · exact sound_fail

def indexAddrT (P : Program) (t : TypeId) (x i : Value) : PT :=
  match P.underlying t, x, i with
  | some (.slice e), .slice A n _, .int _ i => .need (0 ≤ i ∧ i < n) (.deref A fun a =>
      (match cellsT P e with | some s => .ret (.pointer (some (a.add (i.toNat * s)))) | none => .fail))
  | some (.array n e), .pointer p, .int _ i => .need (0 ≤ i ∧ i < n) (.deref p fun a =>
      (match cellsT P e with | some s => .ret (.pointer (some (a.add (i.toNat * s)))) | none => .fail))
  | _, _, _ => .fail
theorem indexAddrT_sound (P : Program) (t : TypeId) (x i : Value) : (indexAddrT P t x i).sound P (Instr.indexAt t x i) := by
  unfold indexAddrT
  split
  · rename_i e A n _ k i hu
    refine sound_need fun hi => sound_deref fun a ha => ?_
    split
    · rename_i s hs
      subst ha
      exact sound_ret fun w => by simp [Instr.indexAt, run_underlying hu, asIntOf, hi, run_sizeOf hs]
    · exact sound_fail
  · rename_i n e p k i hu
    refine sound_need fun hi => sound_deref fun a ha => ?_
    split
    · rename_i s hs
      subst ha
      exact sound_ret fun w => by simp [Instr.indexAt, run_underlying hu, asIntOf, Instr.sureAddr, hi, run_sizeOf hs]
    · exact sound_fail
  · exact sound_fail

def elemT (P : Program) (e : TypeId) (cs : Array Value) (i : Int) : PT :=
  match cellsT P e, P.underlying e, isAggT P e with
  | some s, some _, false => .exShape (typeShape P e) (fun v => cs[i.toNat * s]? = some v)
  | some s, some _, true => .exShape (typeShape P e) (fun v => Value.agg (cs.extract (i.toNat * s) (i.toNat * s + s)) = v)
  | _, _, _ => .fail
def indexT (P : Program) (t : TypeId) (x i : Value) : PT :=
  match P.underlying t, x, i with
  | some .string, .string s, .int _ i => .need (0 ≤ i) (.exByte fun b => s[i.toNat]? = some b)
  | some (.array n e), .agg cs, .int _ i => .need (0 ≤ i ∧ i < n) (elemT P e cs i)
  | _, _, _ => .fail
theorem indexT_sound (P : Program) (t : TypeId) (x i : Value) : (indexT P t x i).sound P (Instr.index t x i) := by
  unfold indexT
  split
  · rename_i s k i hu
    refine sound_need fun hi => sound_exByte fun b hb w => ?_
    simp [Instr.index, run_underlying hu, asIntOf, hi, hb]
  · rename_i n e cs k i hu
    refine sound_need fun hi => ?_
    unfold elemT
    split
    · rename_i s d hs hd ha
      refine sound_exShape fun v _ hv w => ?_
      simp [Instr.index, run_underlying hu, asIntOf, hi, run_sizeOf hs, part, run_isAgg hd, ha, hv]
    · rename_i s d hs hd ha
      refine sound_exShape fun v _ hv w => ?_
      simp [Instr.index, run_underlying hu, asIntOf, hi, run_sizeOf hs, part, run_isAgg hd, ha, hv]
    · exact sound_fail
  · exact sound_fail

/-! ### slices of slices, strings, arrays -/
def reslice (A : Option Addr) (l m size : Nat) : Option Addr := if m = l then A else A.map (·.add (l * size))
def boundT (v : Option Value) (y : Nat) (dflt : Nat) (f : Nat → PT) : PT :=
  match v with
  | none => f dflt
  | some (.int _ i) => .need (0 ≤ i ∧ i ≤ y) (f i.toNat)
  | _ => .fail
def boundsT (len cap : Nat) (lo hi mx : Option Value) (f : Nat → Nat → Nat → PT) : PT :=
  boundT mx cap cap fun m => (match hi, mx with
    | none, some _ => .fail
    | none, none => boundT lo len 0 fun l => f l len m
    | some h, _ => boundT (some h) m 0 fun h => boundT lo h 0 fun l => f l h m)
theorem run_bound (P : Program) (k : IntKind) (i : Int) (y : Nat) (code : BoundsCode) (w : World) (h : 0 ≤ i ∧ i ≤ y) :
    (Instr.sliceBound (.int k i) y code).run P w = .ok i.toNat w := by simp [Instr.sliceBound, asIntOf, h]
theorem boundsT_sound (P : Program) (isSlice : Bool) (len cap : Nat) (lo hi mx : Option Value) (f : Nat → Nat → Nat → PT) (s : Nat × Nat × Nat → Sem Value)
    (h : ∀ l h m, (f l h m).sound P (s (l, h, m))) : (boundsT len cap lo hi mx f).sound P (do let r ← Instr.sliceBounds isSlice len cap lo hi mx; s r) := by
  intro K hK
  -- the bounds one by one
  have key : ∃ l h' m, (f l h' m).run K ∧ ∀ w, (Instr.sliceBounds isSlice len cap lo hi mx).run P w = .ok (l, h', m) w := by
    unfold boundsT boundT at hK
    cases mx with
    | none =>
      simp only at hK
      cases hi with
      | none =>
        simp only at hK
        cases lo with
        | none => exact ⟨_, _, _, hK, fun w => by simp [Instr.sliceBounds]⟩
        | some x =>
          cases x <;> simp only [PT.fail] at hK
          rename_i k i
          obtain ⟨h1, hK⟩ := hK
          exact ⟨_, _, _, hK, fun w => by simp [Instr.sliceBounds, run_bound P k i _ _ w h1]⟩
      | some x =>
        cases x <;> simp only [PT.fail, boundT] at hK
        rename_i k i
        obtain ⟨h1, hK⟩ := hK
        cases lo with
        | none => exact ⟨_, _, _, hK, fun w => by simp [Instr.sliceBounds, run_bound P k i _ _ w h1]⟩
        | some y =>
          cases y <;> simp only [PT.fail] at hK
          rename_i k' j
          obtain ⟨h2, hK⟩ := hK
          exact ⟨_, _, _, hK, fun w => by simp [Instr.sliceBounds, run_bound P k i _ _ w h1, run_bound P k' j _ _ w h2]⟩
    | some z =>
      cases z <;> simp only [PT.fail] at hK
      rename_i kz iz
      obtain ⟨h0, hK⟩ := hK
      cases hi with
      | none => simp only [PT.fail] at hK
      | some x =>
        cases x <;> simp only [PT.fail, boundT] at hK
        rename_i k i
        obtain ⟨h1, hK⟩ := hK
        cases lo with
        | none => exact ⟨_, _, _, hK, fun w => by simp [Instr.sliceBounds, run_bound P kz iz _ _ w h0, run_bound P k i _ _ w h1]⟩
        | some y =>
          cases y <;> simp only [PT.fail] at hK
          rename_i k' j
          obtain ⟨h2, hK⟩ := hK
          exact ⟨_, _, _, hK, fun w => by simp [Instr.sliceBounds, run_bound P kz iz _ _ w h0, run_bound P k i _ _ w h1, run_bound P k' j _ _ w h2]⟩
  obtain ⟨l, h', m, hf, hr⟩ := key
  obtain ⟨v, h1, h2⟩ := h l h' m K hf
  exact ⟨v, h1, fun w => by simp [hr, h2]⟩

def sliceT (P : Program) (t : TypeId) (x : Value) (lo hi mx : Option Value) : PT :=
  match P.underlying t, x with
  | some .string, .string s => (match mx with | none => boundsT s.size s.size lo hi none fun l h _ => .ret (.string (s.extract l h)) | some _ => .fail)
  | some (.slice e), .slice A n c => (match cellsT P e with
      | some z => boundsT n c lo hi mx fun l h m => .ret (.slice (reslice A l m z) (h - l) (m - l))
      | none => .fail)
  | some (.array n e), .pointer p => .deref p fun a => (match cellsT P e with
      | some z => boundsT n n lo hi mx fun l h m => .ret (.slice (reslice (some a) l m z) (h - l) (m - l))
      | none => .fail)
  | _, _ => .fail
theorem sliceT_sound (P : Program) (t : TypeId) (x : Value) (lo hi mx : Option Value) : (sliceT P t x lo hi mx).sound P (Instr.sliceAt t x lo hi mx) := by
  unfold sliceT
  split
  · rename_i s hu
    split
    · have hb := boundsT_sound P false s.size s.size lo hi none (fun l h _ => .ret (.string (s.extract l h))) (fun r => pure (.string (s.extract r.1 r.2.1))) (fun l h m => sound_ret fun w => rfl)
      intro K hK
      obtain ⟨v, h1, h2⟩ := hb K hK
      refine ⟨v, h1, fun w => ?_⟩
      rw [← h2 w]
      simp [Instr.sliceAt, Instr.slice, run_underlying hu]
    · exact sound_fail
  · rename_i e A n c hu
    split
    · rename_i z hz
      have hb := boundsT_sound P true n c lo hi mx (fun l h m => .ret (.slice (reslice A l m z) (h - l) (m - l))) (fun r => pure (.slice (reslice A r.1 r.2.2 z) (r.2.1 - r.1) (r.2.2 - r.1))) (fun l h m => sound_ret fun w => rfl)
      intro K hK
      obtain ⟨v, h1, h2⟩ := hb K hK
      refine ⟨v, h1, fun w => ?_⟩
      rw [← h2 w]
      simp only [Instr.sliceAt, Instr.slice, Sem.run_bind, run_underlying hu, Result.andThen_ok]
      congr 1
      funext r w'
      obtain ⟨l, h, m⟩ := r
      simp [run_sizeOf hz, reslice]
    · exact sound_fail
  · rename_i n e p hu
    refine sound_deref fun a ha => ?_
    subst ha
    split
    · rename_i z hz
      have hb := boundsT_sound P false n n lo hi mx (fun l h m => .ret (.slice (reslice (some a) l m z) (h - l) (m - l))) (fun r => pure (.slice (reslice (some a) r.1 r.2.2 z) (r.2.1 - r.1) (r.2.2 - r.1))) (fun l h m => sound_ret fun w => rfl)
      intro K hK
      obtain ⟨v, h1, h2⟩ := hb K hK
      refine ⟨v, h1, fun w => ?_⟩
      rw [← h2 w]
      simp only [Instr.sliceAt, Instr.sureAddr, Sem.run_bind, Sem.run_pure, run_underlying hu, Result.andThen_ok]
      congr 1
      funext r w'
      obtain ⟨l, h, m⟩ := r
      simp only [Sem.run_bind, run_sizeOf hz, Result.andThen_ok, Sem.run_pure, reslice, Option.map_some]
      split <;> rfl
    · exact sound_fail
  · exact sound_fail

/-! ### builtins without memory -/
def lenT (P : Program) (t : TypeId) (x : Value) : Option PT :=
  match P.underlying t with
  | some .string => some (match x with | .string s => .ret (.int .i64 s.size) | _ => .fail)
  | some (.array n _) => some (.ret (.int .i64 n))
  | some (.slice _) => some (match x with | .slice _ n _ => .ret (.int .i64 n) | _ => .fail)
  | _ => none
theorem lenT_sound {P : Program} {t ty : TypeId} {x : Value} {T : PT} (h : lenT P t x = some T) : T.sound P (Builtin.len_ #[t] ty #[x]) := by
  unfold lenT at h
  split at h
  · rename_i hu
    obtain rfl := Option.some.inj h
    split
    · exact sound_ret fun w => by simp [Builtin.len_, run_underlying hu, goInt]
    · exact sound_fail
  · rename_i hu
    obtain rfl := Option.some.inj h
    exact sound_ret fun w => by simp [Builtin.len_, run_underlying hu, goInt]
  · rename_i hu
    obtain rfl := Option.some.inj h
    split
    · exact sound_ret fun w => by simp [Builtin.len_, run_underlying hu, goInt]
    · exact sound_fail
  · cases h
def foldInts (f : Int → Int → Int) : Value → List Value → PT
  | v, [] => .ret v
  | .int k a, .int _ b :: r => foldInts f (.int k (f a b)) r
  | _, _ => .fail
def gomin (a b : Int) : Int := if b < a then b else a
def gomax (a b : Int) : Int := if b > a then b else a
theorem foldInts_sound {P : Program} {f : Int → Int → Int} {m2 : Value → Value → Sem Value} (hm : ∀ k a k' b w, (m2 (.int k a) (.int k' b)).run P w = .ok (.int k (f a b)) w) :
    ∀ (r : List Value) (v : Value), (foldInts f v r).sound P (r.foldlM m2 v) := by
  intro r
  induction r with
  | nil => intro v; exact sound_ret fun w => by simp
  | cons y r ih =>
    intro v
    unfold foldInts
    split
    · rename_i h; cases h
    · rename_i k a k' b r' h
      obtain ⟨rfl, rfl⟩ := List.cons.inj h
      intro K hK
      obtain ⟨v, h1, h2⟩ := ih _ K hK
      exact ⟨v, h1, fun w => by simp [hm, h2]⟩
    · exact sound_fail
theorem run_min2 (P : Program) (k : IntKind) (a : Int) (k' : IntKind) (b : Int) (w : World) : (Builtin.min2 (.int k a) (.int k' b)).run P w = .ok (.int k (gomin a b)) w := by
  simp [Builtin.min2, gomin]
theorem run_max2 (P : Program) (k : IntKind) (a : Int) (k' : IntKind) (b : Int) (w : World) : (Builtin.max2 (.int k a) (.int k' b)).run P w = .ok (.int k (gomax a b)) w := by
  simp [Builtin.max2, gomax]

/-! ### what is built -/
theorem run_mapM_list {P : Program} {α β : Type} {f : α → Sem β} {g : α → β} (h : ∀ x w, (f x).run P w = .ok (g x) w) : ∀ (l : List α) (w : World), (l.mapM f).run P w = .ok (l.map g) w := by
  intro l
  induction l with
  | nil => intro w; simp
  | cons x l ih => intro w; simp [List.mapM_cons, h, ih]
def partPlace (P : Program) (fields : Array Field) (i : Nat) : Option (Nat × Nat) := (fields[i]?).bind fun f => (cellsT P f.type).map fun n => (f.offset, n)
def overlay : List Value → Nat → List Value → List Value
  | [], _, _ => []
  | c :: cs, 0, [] => c :: cs
  | c :: cs, 0, v :: vs => v :: overlay cs 0 vs
  | c :: cs, off + 1, vs => c :: overlay cs off vs
def fillL (place : Nat → Option (Nat × Nat)) : List Value → List (Nat × Value) → Option (List Value)
  | cells, [] => some cells
  | cells, (i, v) :: rest =>
    match place i with
    | none => none
    | some (off, size) => cond (Nat.beq v.cells.toList.length size && Nat.ble (off + v.cells.toList.length) cells.length) (fillL place (overlay cells off v.cells.toList) rest) none
theorem overlay_length : ∀ (cs : List Value) (off : Nat) (vs : List Value), (overlay cs off vs).length = cs.length := by
  intro cs
  induction cs with
  | nil => intro off vs; simp [overlay]
  | cons c cs ih =>
    intro off vs
    cases off with
    | zero => cases vs <;> simp [overlay, ih]
    | succ off => simp [overlay, ih]
theorem overlay_get : ∀ (cs : List Value) (off : Nat) (vs : List Value) (k : Nat), off + vs.length ≤ cs.length → (overlay cs off vs)[k]? = if off ≤ k ∧ k < off + vs.length then vs[k - off]? else cs[k]? := by
  intro cs
  induction cs with
  | nil => intro off vs k h; simp only [List.length_nil] at h; have : vs = [] := List.eq_nil_of_length_eq_zero (by omega); subst this; simp [overlay]
  | cons c cs ih =>
    intro off vs k h
    cases off with
    | zero =>
      cases vs with
      | nil => simp [overlay]
      | cons v vs =>
        cases k with
        | zero => simp [overlay]
        | succ k =>
          simp only [overlay, List.getElem?_cons_succ]
          rw [ih 0 vs k (by simp at h; omega)]
          simp
    | succ off =>
      cases k with
      | zero => simp [overlay]
      | succ k =>
        simp only [overlay, List.getElem?_cons_succ]
        rw [ih off vs k (by simp at h; omega)]
        simp [Nat.add_right_comm]
theorem foldl_overlay (off : Nat) : ∀ (vs : List Value) (j : Nat) (cs : Array Value) (k : Nat), off + j + vs.length ≤ cs.size →
    ((vs.zipIdx j).foldl (fun (cs : Array Value) (x : Value × Nat) => cs.setIfInBounds (off + x.2) x.1) cs).size = cs.size ∧
    ((vs.zipIdx j).foldl (fun (cs : Array Value) (x : Value × Nat) => cs.setIfInBounds (off + x.2) x.1) cs)[k]? = if off + j ≤ k ∧ k < off + j + vs.length then vs[k - (off + j)]? else cs[k]? := by
  intro vs
  induction vs with
  | nil => intro j cs k h; simp; omega
  | cons v vs ih =>
    intro j cs k h
    simp only [List.zipIdx_cons, List.foldl_cons]
    have h' : off + (j + 1) + vs.length ≤ (cs.setIfInBounds (off + j) v).size := by simp at h ⊢; omega
    obtain ⟨h1, h2⟩ := ih (j + 1) (cs.setIfInBounds (off + j) v) k h'
    refine ⟨by rw [h1]; simp, ?_⟩
    rw [h2, Array.getElem?_setIfInBounds]
    simp only [List.length_cons] at h ⊢
    by_cases hk : off + j = k
    · subst hk
      rw [if_neg (by omega), if_pos rfl, if_pos (by omega), if_pos (by omega)]
      simp
    · by_cases hin : off + (j + 1) ≤ k ∧ k < off + (j + 1) + vs.length
      · rw [if_pos hin, if_pos (by omega)]
        rw [show k - (off + j) = (k - (off + (j + 1))) + 1 by omega, List.getElem?_cons_succ]
      · rw [if_neg hin, if_neg hk, if_neg (by omega)]
theorem fillL_fill {place : Nat → Option (Nat × Nat)} : ∀ (parts : List (Nat × Value)) (cells : List Value) {cs : List Value}, fillL place cells parts = some cs → Instr.fill place cells.toArray parts = some cs.toArray := by
  intro parts
  induction parts with
  | nil => intro cells cs h; simp only [fillL, Option.some.injEq] at h; subst h; rfl
  | cons p parts ih =>
    intro cells cs h
    obtain ⟨i, v⟩ := p
    unfold fillL at h
    unfold Instr.fill
    split at h
    · cases h
    · rename_i off size hp
      rw [hp]
      simp only
      cases hc : (Nat.beq v.cells.toList.length size && Nat.ble (off + v.cells.toList.length) cells.length) with
      | false => rw [hc] at h; cases h
      | true =>
        rw [hc] at h
        simp only [cond_true] at h
        simp only [Bool.and_eq_true] at hc
        have h1 : v.cells.size = size := by simpa using Nat.eq_of_beq_eq_true hc.1
        have h2 : off + v.cells.size ≤ cells.length := by simpa using Nat.le_of_ble_eq_true hc.2
        have hcond : (v.cells.size ≠ size || off + v.cells.size > cells.toArray.size) = false := by simp [h1]; omega
        rw [if_neg (by rw [hcond]; decide)]
        have he : (v.cells.zipIdx.foldl (fun cs (c, j) => cs.setIfInBounds (off + j) c) cells.toArray) = (overlay cells off v.cells.toList).toArray := by
          rw [← Array.foldl_toList]
          rw [Array.toList_zipIdx]
          apply Array.ext_getElem?
          intro k
          have := (foldl_overlay off v.cells.toList 0 cells.toArray k (by simpa using h2)).2
          rw [this]
          simp only [Nat.add_zero, List.getElem?_toArray]
          rw [overlay_get _ _ _ _ (by simpa using h2)]
        rw [he]
        exact ih _ h
/-- The same, cell by cell. -/
def cellOf (place : Nat → Option (Nat × Nat)) (k : Nat) : Value → List (Nat × Value) → Value
  | c, [] => c
  | c, (i, v) :: rest => cellOf place k (match place i with
      | some (off, size) => cond (Nat.ble off k && Nat.blt k (off + size)) (v.cells.toList.getD (k - off) c) c
      | none => c) rest
def fillFrom (place : Nat → Option (Nat × Nat)) (parts : List (Nat × Value)) : Nat → List Value → List Value
  | _, [] => []
  | k, c :: cs => cellOf place k c parts :: fillFrom place parts (k + 1) cs
def partsOk (place : Nat → Option (Nat × Nat)) (n : Nat) : List (Nat × Value) → Bool
  | [] => true
  | (i, v) :: rest => (match place i with | some (off, size) => Nat.beq v.cells.toList.length size && Nat.ble (off + size) n | none => false) && partsOk place n rest
theorem fillFrom_get (place : Nat → Option (Nat × Nat)) (parts : List (Nat × Value)) : ∀ (cs : List Value) (k i : Nat), (fillFrom place parts k cs)[i]? = (cs[i]?).map fun c => cellOf place (k + i) c parts := by
  intro cs
  induction cs with
  | nil => intro k i; simp [fillFrom]
  | cons c cs ih =>
    intro k i
    cases i with
    | zero => simp [fillFrom]
    | succ i => simp only [fillFrom, List.getElem?_cons_succ, ih]; rw [show k + 1 + i = k + (i + 1) by omega]
theorem fillFrom_fillL {place : Nat → Option (Nat × Nat)} : ∀ (parts : List (Nat × Value)) (cells : List Value), partsOk place cells.length parts = true → fillL place cells parts = some (fillFrom place parts 0 cells) := by
  intro parts
  induction parts with
  | nil =>
    intro cells _
    simp only [fillL, Option.some.injEq]
    apply List.ext_getElem?
    intro i
    rw [fillFrom_get]
    simp [cellOf]
  | cons p parts ih =>
    intro cells h
    obtain ⟨i, v⟩ := p
    unfold partsOk at h
    unfold fillL
    cases hp : place i with
    | none => simp [hp] at h
    | some os =>
      obtain ⟨off, size⟩ := os
      simp only [hp, Bool.and_eq_true] at h
      obtain ⟨⟨h1, h2⟩, h3⟩ := h
      have e1 : v.cells.toList.length = size := Nat.eq_of_beq_eq_true h1
      have e2 : off + size ≤ cells.length := Nat.le_of_ble_eq_true h2
      have hc : (Nat.beq v.cells.toList.length size && Nat.ble (off + v.cells.toList.length) cells.length) = true := by
        rw [h1, e1, h2]; rfl
      simp only [hc, cond_true]
      rw [ih _ (by rw [overlay_length]; exact h3)]
      congr 1
      apply List.ext_getElem?
      intro k
      rw [fillFrom_get, fillFrom_get, overlay_get _ _ _ _ (by omega)]
      by_cases hk : off ≤ k ∧ k < off + v.cells.toList.length
      · rw [if_pos hk]
        have hkl : k < cells.length := by omega
        rw [List.getElem?_eq_getElem hkl]
        have hkv : k - off < v.cells.toList.length := by omega
        rw [List.getElem?_eq_getElem hkv]
        simp only [Option.map_some, cellOf, hp, Nat.zero_add]
        have hb : (Nat.ble off k && Nat.blt k (off + size)) = true := by
          rw [Bool.and_eq_true]
          exact ⟨Nat.ble_eq_true_of_le hk.1, Nat.ble_eq_true_of_le (by omega)⟩
        rw [hb]
        simp only [cond_true, List.getD]
        rw [List.getElem?_eq_getElem hkv]
        rfl
      · rw [if_neg hk]
        simp only [cellOf, hp, Nat.zero_add]
        have hb : (Nat.ble off k && Nat.blt k (off + size)) = false := by
          cases hx : (Nat.ble off k && Nat.blt k (off + size)) with
          | false => rfl
          | true =>
            rw [Bool.and_eq_true] at hx
            have := Nat.le_of_ble_eq_true hx.1
            have := Nat.le_of_ble_eq_true hx.2
            exact absurd ⟨by omega, by omega⟩ hk
        rw [hb]
        rfl
def buildT (P : Program) (t : TypeId) (parts : List (Nat × Value)) : PT :=
  match P.info? t, P.underlying t with
  | some i, some (.struct fields) => .opt i.zero fun z => .cnd (fields.toList.all fun f : Field => (cellsT P f.type).isSome)
      (.cnd (partsOk (partPlace P fields) z.cells.toList.length parts) (.ret (.agg (fillFrom (partPlace P fields) parts 0 z.cells.toList).toArray)) .fail) .fail
  | some i, some (.array _ e) => .opt i.zero fun z => .opt (cellsT P e) fun n =>
      .cnd (partsOk (fun i => some (i * n, n)) z.cells.toList.length parts) (.ret (.agg (fillFrom (fun i => some (i * n, n)) parts 0 z.cells.toList).toArray)) .fail
  | _, _ => .fail
theorem run_zeroValue {P : Program} {t : TypeId} {i : TypeInfo} {z : Value} (h : P.info? t = some i) (hz : i.zero = some z) (w : World) : (zeroValue t).run P w = .ok z w := by
  simp [zeroValue, run_typeInfo h, hz]
theorem run_places {P : Program} {fields : Array Field} (h : (fields.toList.all fun f : Field => (cellsT P f.type).isSome) = true) (w : World) :
    ∃ pl : Array (Nat × Nat), (fields.mapM (fun f : Field => do pure (f.offset, ← sizeOf f.type)) : Sem (Array (Nat × Nat))).run P w = .ok pl w ∧ (fun i => pl[i]?) = partPlace P fields := by
  have key : ∀ (l : List Field), (l.all fun f : Field => (cellsT P f.type).isSome) = true → ∃ pl : List (Nat × Nat), ∀ w, (l.mapM (fun f : Field => do pure (f.offset, ← sizeOf f.type)) : Sem (List (Nat × Nat))).run P w = .ok pl w ∧
      ∀ i : Nat, pl[i]? = (l[i]?).bind fun f : Field => (cellsT P f.type).map fun n => (f.offset, n) := by
    intro l
    induction l with
    | nil => intro _; exact ⟨[], fun w => ⟨by simp, fun i => by simp⟩⟩
    | cons f l ih =>
      intro h
      simp only [List.all_cons, Bool.and_eq_true] at h
      obtain ⟨pl, hpl⟩ := ih h.2
      obtain ⟨n, hn⟩ := Option.isSome_iff_exists.1 h.1
      refine ⟨(f.offset, n) :: pl, fun w => ⟨?_, ?_⟩⟩
      · rw [List.mapM_cons, Sem.run_bind, Sem.run_bind, run_sizeOf hn, Result.andThen_ok, Sem.run_pure, Result.andThen_ok, Sem.run_bind, (hpl w).1, Result.andThen_ok, Sem.run_pure]
      · intro i
        cases i with
        | zero => simp [hn]
        | succ i => simpa using (hpl w).2 i
  obtain ⟨pl, hpl⟩ := key fields.toList h
  refine ⟨pl.toArray, ?_, ?_⟩
  · rw [Array.mapM_eq_mapM_toList, Sem.run_map, (hpl w).1]
    rfl
  · funext i
    have := (hpl w).2 i
    simpa [partPlace] using this
theorem buildT_sound (P : Program) (t : TypeId) (parts : Array (Nat × Value)) : (buildT P t parts.toList).sound P (Instr.build t parts) := by
  unfold buildT
  split
  · rename_i i fields hi hu
    refine sound_opt fun z hz => sound_cnd (fun hall => sound_cnd (fun hok => sound_ret fun w => ?_) (fun _ => sound_fail)) (fun _ => sound_fail)
    obtain ⟨pl, h1, h2⟩ := run_places hall w
    have hcs := fillL_fill _ _ (fillFrom_fillL _ _ hok)
    simp only [Array.toArray_toList] at hcs
    simp only [Instr.build, Sem.run_bind, run_zeroValue hi hz, Result.andThen_ok, run_underlying hu, h1, h2, hcs, Sem.run_pure]
  · rename_i i n e hi hu
    refine sound_opt fun z hz => sound_opt fun n hn => sound_cnd (fun hok => sound_ret fun w => ?_) (fun _ => sound_fail)
    have hcs := fillL_fill _ _ (fillFrom_fillL _ _ hok)
    simp only [Array.toArray_toList] at hcs
    simp only [Instr.build, Sem.run_bind, run_zeroValue hi hz, Result.andThen_ok, run_underlying hu, run_sizeOf hn, hcs, Sem.run_pure]
  · exact sound_fail

/-! ### all of them -/
def pureT (P : Program) (tm : List Value) (o : Oper) : Option PT :=
  match o.op with
  | .move x | .assign x => some (.ret (ev tm x))
  | .pick c a b => some (match ev tm c with | .bool t => .cnd t (.ret (ev tm a)) (.ret (ev tm b)) | _ => .fail)
  | .build t parts => some (buildT P t (parts.toList.map fun (i, x) => (i, ev tm x)))
  | .binOp op t x y _ => some (binT P op t x y (ev tm x) (ev tm y))
  | .unOp op _ x => some (unT op (ev tm x))
  | .convert src dst x => convT P src dst (ev tm x)
  | .makeInterface t x => some (match P.underlying t with | some (.interface _) => .fail | some _ => .ret (.iface t (ev tm x)) | none => .fail)
  | .makeFunc fn first captured => some (.ret (.func fn (first.map (ev tm)) (captured.map (ev tm))))
  | .slice t x lo hi mx => some (sliceT P t (ev tm x) (lo.map (ev tm)) (hi.map (ev tm)) (mx.map (ev tm)))
  | .fieldAddr s x f => some (fieldAddrT P s (ev tm x) f)
  | .field t x f => some (fieldT P t (ev tm x) f)
  | .indexAddr t x i => some (indexAddrT P t (ev tm x) (ev tm i))
  | .index t x i => some (indexT P t (ev tm x) (ev tm i))
  | .extract t i => some (extractT (ev tm t) i)
  | .call c => (match c.callee with
    | .builtin .len => (match c.argTypes.toList, c.args.toList with
        | [t], [x] => lenT P t (ev tm x)
        | _, _ => none)
    | .builtin .min => some (match (c.args.map (ev tm)).toList with | x :: r => foldInts gomin x r | [] => .fail)
    | .builtin .max => some (match (c.args.map (ev tm)).toList with | x :: r => foldInts gomax x r | [] => .fail)
    | _ => none)
  | _ => none

def okVal (P : Program) (o : Oper) (tm : List Value) (v : Value) : Prop := ∀ w, (execOp (ev tm) o).run P w = .ok (.value v) w
theorem pureT_sound {P : Program} {tm : List Value} {o : Oper} {t : PT} (h : pureT P tm o = some t) {K : Value → Prop} (hK : t.run K) : ∃ v, K v ∧ okVal P o tm v := by
  have lift : ∀ (s : Sem Value), t.sound P s → (∀ w, (execOp (ev tm) o).run P w = (s.run P w).andThen fun v w' => .ok (.value v) w') → ∃ v, K v ∧ okVal P o tm v := by
    intro s hs he
    obtain ⟨v, h1, h2⟩ := hs K hK
    exact ⟨v, h1, fun w => by rw [he, h2]; rfl⟩
  unfold pureT at h
  cases ho : o.op <;> simp only [ho] at h <;> try (cases h; done)
  case move x => obtain rfl := Option.some.inj h; exact ⟨_, hK, fun w => by simp [execOp, ho]⟩
  case assign x => obtain rfl := Option.some.inj h; exact ⟨_, hK, fun w => by simp [execOp, ho]⟩
  case pick c a b =>
    obtain rfl := Option.some.inj h
    cases hc : ev tm c <;> simp only [hc] at hK <;> try exact hK.elim
    rename_i t
    rcases cnd_cases hK with ⟨hb, hK⟩ | ⟨hb, hK⟩
    · exact ⟨_, hK, fun w => by simp [execOp, ho, hc, asBool, hb]⟩
    · exact ⟨_, hK, fun w => by simp [execOp, ho, hc, asBool, hb]⟩
  case build ty parts => obtain rfl := Option.some.inj h; exact lift _ (by have := buildT_sound P ty (parts.map fun (i, x) => (i, ev tm x)); simpa using this) fun w => by simp [execOp, ho]
  case binOp op ty x y yt => obtain rfl := Option.some.inj h; exact lift _ (binT_sound P _ _ _ _ _ _) fun w => by simp only [execOp, ho]; exact Sem.run_bind P w _ _
  case unOp op ty x => obtain rfl := Option.some.inj h; exact lift _ (unT_sound P _ _) fun w => by simp [execOp, ho]
  case convert s d x => exact lift _ (convT_sound h) fun w => by simp [execOp, ho]
  case makeInterface ty x =>
    obtain rfl := Option.some.inj h
    cases hu : P.underlying ty with
    | none => simp only [hu] at hK; exact hK.elim
    | some d =>
      cases d <;> simp only [hu] at hK <;> first
        | exact hK.elim
        | exact ⟨_, hK, fun w => by simp [execOp, ho, Instr.makeInterface, run_underlying hu]⟩
  case makeFunc fn a b => obtain rfl := Option.some.inj h; exact ⟨_, hK, fun w => by simp [execOp, ho, Instr.makeFunc]⟩
  case slice ty x lo hi mx => obtain rfl := Option.some.inj h; exact lift _ (sliceT_sound P _ _ _ _ _) fun w => by simp [execOp, ho]
  case fieldAddr s x f => obtain rfl := Option.some.inj h; exact lift _ (fieldAddrT_sound P _ _ _) fun w => by simp [execOp, ho]
  case field ty x f => obtain rfl := Option.some.inj h; exact lift _ (fieldT_sound P _ _ _) fun w => by simp [execOp, ho]
  case indexAddr ty x i => obtain rfl := Option.some.inj h; exact lift _ (indexAddrT_sound P _ _ _) fun w => by simp [execOp, ho]
  case index ty x i => obtain rfl := Option.some.inj h; exact lift _ (indexT_sound P _ _ _) fun w => by simp [execOp, ho]
  case extract x i => obtain rfl := Option.some.inj h; exact lift _ (extractT_sound P _ _) fun w => by simp [execOp, ho]
  case call c =>
    obtain ⟨callee, args, argTypes⟩ := c
    cases callee <;> simp only at h <;> try (cases h; done)
    rename_i b
    cases b <;> simp only at h <;> try (cases h; done)
    case len =>
      split at h
      · rename_i ty x h1 h2
        obtain rfl : argTypes = #[ty] := by apply Array.ext'; simpa using h1
        obtain rfl : args = #[x] := by apply Array.ext'; simpa using h2
        exact lift _ (lenT_sound (ty := o.type) h) fun w => by simp [execOp, ho, resolve, invoke, builtin]
      · cases h
    case max =>
      obtain rfl := Option.some.inj h
      cases hl : (args.map (ev tm)).toList with
      | nil => simp only [hl] at hK; exact hK.elim
      | cons x r =>
        simp only [hl] at hK
        obtain ⟨v, h1, h2⟩ := foldInts_sound (run_max2 P) r x K hK
        exact ⟨v, h1, fun w => by simp only [execOp, ho, resolve, invoke, builtin, Sem.run_bind, Sem.run_pure, Result.andThen_ok, Builtin.max_, hl, h2]⟩
    case min =>
      obtain rfl := Option.some.inj h
      cases hl : (args.map (ev tm)).toList with
      | nil => simp only [hl] at hK; exact hK.elim
      | cons x r =>
        simp only [hl] at hK
        obtain ⟨v, h1, h2⟩ := foldInts_sound (run_min2 P) r x K hK
        exact ⟨v, h1, fun w => by simp only [execOp, ho, resolve, invoke, builtin, Sem.run_bind, Sem.run_pure, Result.andThen_ok, Builtin.min_, hl, h2]⟩
end Go.Vc

/-
A generator of verification conditions over the model, third part: memory, calls, regions, code, loops; and that the condition gives the model's call.
Conditions: none; all is proved over any program.
-/
namespace Go.Vc
open Go.RowKit

/-! ### memory -/
def CellsAt (w : World) (a : Addr) : Nat → List Value → Prop
  | _, [] => True
  | i, v :: l => w.cell? (a.add i) = some v ∧ CellsAt w a (i + 1) l
def setCellsAt (w : World) (a : Addr) : Nat → List Value → World
  | _, [] => w
  | i, v :: l => setCellsAt (w.setCell (a.add i) v) a (i + 1) l
def SetsAt (w : World) (a : Addr) : Nat → List Value → Prop
  | _, [] => True
  | i, v :: l => cnd v.oneCell' (((w.cell? (a.add i)).isSome = true ∧ w.frozen? (a.add i) = false) ∧ SetsAt w a (i + 1) l) False

theorem run_loadCellsFrom {P : Program} {w : World} {a : Addr} : ∀ (l : List Value) (i : Nat) (acc : Array Value), CellsAt w a i l →
    (loadCellsFrom a i l.length acc).run P w = .ok (acc ++ l.toArray) w := by
  intro l
  induction l with
  | nil => intro i acc _; simp [loadCellsFrom]
  | cons v l ih =>
    intro i acc h
    have hc := h.1
    simp only [List.length_cons, loadCellsFrom, Sem.run_bind, run_load, hc, Result.andThen_ok]
    rw [ih _ _ h.2]
    simp
theorem run_loadCells {P : Program} {w : World} {a : Addr} {l : List Value} {n : Nat} (h : CellsAt w a 0 l) (hn : l.length = n) : (loadCells a n).run P w = .ok l.toArray w := by
  subst hn
  simpa [loadCells] using run_loadCellsFrom (P := P) l 0 #[] h
theorem isSome_setCell {w : World} {b : Addr} (a : Addr) (v : Value) (hb : (w.cell? b).isSome = true) : ((w.setCell a v).cell? b).isSome = true := by
  by_cases h : a = b
  · subst h
    obtain ⟨u, hu⟩ := Option.isSome_iff_exists.1 hb
    rw [World.cell?_setCell_same w a v hu]; rfl
  · rw [World.cell?_setCell_other w a b v h]; exact hb
theorem SetsAt_setCell {a : Addr} : ∀ (l : List Value) (w : World) (i : Nat) (b : Addr) (v : Value), SetsAt w a i l → SetsAt (w.setCell b v) a i l := by
  intro l
  induction l with
  | nil => intro w i b v h; exact h
  | cons u l ih =>
    intro w i b v h
    refine cnd_mono h (fun h => ⟨⟨isSome_setCell _ _ h.1.1, by rw [World.frozen?_setCell]; exact h.1.2⟩, ih w (i + 1) b v h.2⟩) id
theorem run_storeCells {P : Program} {a : Addr} : ∀ (l : List Value) (w : World) (i : Nat), SetsAt w a i l → (storeCells a l i).run P w = .ok () (setCellsAt w a i l) := by
  intro l
  induction l with
  | nil => intro w i _; simp [storeCells, setCellsAt]
  | cons v l ih =>
    intro w i h
    rcases cnd_cases h with ⟨hv, ⟨hc, hf⟩, h⟩ | ⟨_, h⟩
    · obtain ⟨u, hu⟩ := Option.isSome_iff_exists.1 hc
      simp only [storeCells, Sem.run_bind, run_store P w _ v _ hv, hu, hf, Bool.false_eq_true, if_false, Result.andThen_ok, setCellsAt]
      exact ih _ _ (SetsAt_setCell l w (i + 1) _ v h)
    · exact h.elim

def aggShape (few : Bool) (i : TypeInfo) : Option Shape := match i.zero with | some (.agg cs) => cond (decide (cs.size = i.size)) (some (shapeOf few (.agg cs))) none | _ => none
/-- What is asked of a place from which a value of type t is loaded: a value's shape, and that it lies there. -/
def loadV (P : Program) (t : TypeId) (H : Addr → Nat → List Value → Prop) (H1 : Addr → Value → Prop) (a : Addr) (K : Value → Prop) : Prop :=
  match P.underlying t, P.info? t with
  | some _, some i => (match isAggT P t with
      | true => IsSome (aggShape (fewT P t) i) fun s => s.ex fun v => H a 0 v.cells.toList ∧ K v
      | false => (typeShape P t).ex fun v => H1 a v ∧ K v)
  | _, _ => False
theorem loadV_mono {P : Program} {t : TypeId} {H H' : Addr → Nat → List Value → Prop} {H1 H1' : Addr → Value → Prop} {a : Addr} {K K' : Value → Prop}
    (h : ∀ v, K v → K' v) (hH : ∀ a i l, H a i l → H' a i l) (hH1 : ∀ a v, H1 a v → H1' a v) (hh : loadV P t H H1 a K) : loadV P t H' H1' a K' := by
  unfold loadV at hh ⊢
  split at hh
  · rename_i d i hd hi
    try simp only [hd, hi]
    split at hh
    · obtain ⟨s, hs, hh⟩ := IsSome_elim hh
      exact IsSome_some hs (Shape.ex_mono (fun v hv => ⟨hH _ _ _ hv.1, h v hv.2⟩) hh)
    · exact Shape.ex_mono (fun v hv => ⟨hH1 _ _ hv.1, h v hv.2⟩) hh
  · exact hh.elim
theorem aggShape_ok {few : Bool} {i : TypeInfo} {s : Shape} {v : Value} (h : aggShape few i = some s) (hv : s.ok v = true) : ∃ cs : Array Value, v = .agg cs ∧ cs.size = i.size := by
  unfold aggShape at h
  split at h
  · rename_i zs hz
    by_cases hn : zs.size = i.size
    · simp only [hn, decide_true, cond_true, Option.some.injEq] at h
      subst h
      unfold shapeOf at hv
      simp only at hv
      cases hb : (few && Nat.ble zs.size 40) <;> simp only [hb, cond_true, cond_false] at hv
      · cases v <;> simp [Shape.ok] at hv
        exact ⟨_, rfl, by omega⟩
      · cases v <;> simp only [Shape.ok] at hv <;> try (cases hv; done)
        rename_i cs
        have := okL_length hv
        simp at this
        exact ⟨_, rfl, by omega⟩
    · simp [hn] at h
  · cases h
theorem loadV_run {P : Program} {t : TypeId} {H : Addr → Nat → List Value → Prop} {H1 : Addr → Value → Prop} {a : Addr} {K : Value → Prop} (hh : loadV P t H H1 a K) :
    ∃ v, K v ∧ ∀ w, (∀ l, H a 0 l → CellsAt w a 0 l) → (∀ v, H1 a v → w.cell? a = some v) → (loadVar t a).run P w = .ok v w := by
  unfold loadV at hh
  split at hh
  · rename_i d i hd hi
    split at hh
    · rename_i ha
      obtain ⟨s, hs, hh⟩ := IsSome_elim hh
      obtain ⟨v, hv, h1, h2⟩ := Shape.ex_elim hh
      obtain ⟨cs, rfl, hsz⟩ := aggShape_ok hs hv
      refine ⟨_, h2, fun w hw _ => ?_⟩
      have hn : cellsT P t = some i.size := by simp [cellsT, hi]
      have := run_loadCells (P := P) (n := i.size) (hw _ h1) (by simpa [Value.cells] using hsz)
      simp only [loadVar, Sem.run_bind, run_isAgg hd, ha, Result.andThen_ok, if_true, run_sizeOf hn, this, Sem.run_pure]
      simp [Value.cells]
    · rename_i ha
      obtain ⟨v, hv, h1, h2⟩ := Shape.ex_elim hh
      refine ⟨_, h2, fun w _ hw => ?_⟩
      have hc := hw _ h1
      simp only [loadVar, Sem.run_bind, run_isAgg hd, ha, Result.andThen_ok, Bool.false_eq_true, if_false, run_load]
      rw [hc]
  · exact hh.elim

def storeV (P : Program) (t : TypeId) (w : World) (a : Addr) (v : Value) (K : Value → World → Prop) : Prop :=
  match P.underlying t, cellsT P t with
  | some _, some n => (match isAggT P t with
      | true => cnd (decide (v.cells.size = n)) (SetsAt w a 0 v.cells.toList ∧ ∀ w', w' = setCellsAt w a 0 v.cells.toList → K undef w') False
      | false => cnd (decide (n = 1)) (cnd v.oneCell' (((w.cell? a).isSome = true ∧ w.frozen? a = false) ∧ ∀ w', w' = w.setCell a v → K undef w') False) False)
  | _, _ => False
def allocV (w : World) (o : Obj) (K : Addr → World → Prop) : Prop := ∀ w', w' = w.alloc o → K ⟨w.heap.size, 0, none⟩ w'

/-- A computation that comes to a value. -/
def RunsV (P : Program) (s : Sem Value) (w : World) (K : Value → World → Prop) : Prop := match s.run P w with | .ok v w' => K v w' | .halt _ _ => False
theorem RunsV_of {P : Program} {s : Sem Value} {w w' : World} {v : Value} {K : Value → World → Prop} (h : s.run P w = .ok v w') (hK : K v w') : RunsV P s w K := by
  simp [RunsV, h, hK]
theorem RunsV_elim {P : Program} {s : Sem Value} {w : World} {K : Value → World → Prop} (h : RunsV P s w K) : ∃ v w', s.run P w = .ok v w' ∧ K v w' := by
  unfold RunsV at h
  split at h
  · exact ⟨_, _, by assumption, h⟩
  · exact h.elim
theorem RunsV_mono {P : Program} {s : Sem Value} {w : World} {K K' : Value → World → Prop} (h : ∀ v w, K v w → K' v w) (hh : RunsV P s w K) : RunsV P s w K' := by
  obtain ⟨v, w', h1, h2⟩ := RunsV_elim hh
  exact RunsV_of h1 (h _ _ h2)

/-- Operations that come to a value and are not told by the parts before. -/
def semOf (tm : List Value) (o : Oper) : Option (Sem Value) :=
  match o.op with
  | .convert src dst x => some (convert src dst (ev tm x))
  | .sliceToArrayPointer arr x => some (Instr.arrayAt arr (ev tm x))
  | .makeMap t r => some (Instr.makeMap t (r.map (ev tm)))
  | .makeSlice t l c => some (Instr.makeSlice t (ev tm l) (ev tm c))
  | .lookup t x i ok => some (Instr.lookup t (ev tm x) (ev tm i) ok)
  | .mapUpdate t m k x | .insert t m k x => some (do Instr.mapUpdate t (ev tm m) (ev tm k) (ev tm x); pure undef)
  | .mapEntry t m k => some (Instr.mapEntry t (ev tm m) (ev tm k))
  | .entryStore t m s x => some (do Instr.entryStore t (ev tm m) (ev tm s) (ev tm x); pure undef)
  | .range t x => some (Instr.range t (ev tm x))
  | .next it str => some (Instr.next (ev tm it) str o.type)
  | .entry it => some (Instr.entry (ev tm it))
  | .typeAssert x t as ok => some (Instr.typeAssert (ev tm x) t as ok)
  | .call c => (match c.callee with
      | .builtin .append => some (Builtin.append_ c.argTypes o.type (c.args.map (ev tm)))
      | .builtin .copy => some (Builtin.copy_ c.argTypes o.type (c.args.map (ev tm)))
      | .builtin .cap => some (Builtin.cap_ c.argTypes o.type (c.args.map (ev tm)))
      | .builtin .len => some (Builtin.len_ c.argTypes o.type (c.args.map (ev tm)))
      | .builtin .delete => some (Builtin.delete_ c.argTypes o.type (c.args.map (ev tm)))
      | .builtin .clear => some (Builtin.clear_ c.argTypes o.type (c.args.map (ev tm)))
      | .builtin .unsafeSliceData => some (Builtin.unsafeSliceData_ c.argTypes o.type (c.args.map (ev tm)))
      | .builtin .unsafeString => some (Builtin.unsafeString_ c.argTypes o.type (c.args.map (ev tm)))
      | _ => none)
  | _ => none
def isUnit : Op → Bool
  | .mapUpdate .. | .insert .. | .entryStore .. => true
  | _ => false
theorem semOf_run {P : Program} {tm : List Value} {o : Oper} {s : Sem Value} (h : semOf tm o = some s) {w w' : World} {v : Value} (hr : s.run P w = .ok v w') :
    (execOp (ev tm) o).run P w = .ok (cond (isUnit o.op) .skip (.value v)) w' ∧ (isUnit o.op = true → v = undef) := by
  have val : isUnit o.op = false → (∀ w, (execOp (ev tm) o).run P w = (s.run P w).andThen fun v w' => .ok (.value v) w') → (execOp (ev tm) o).run P w = .ok (cond (isUnit o.op) .skip (.value v)) w' ∧ (isUnit o.op = true → v = undef) := by
    intro hu he
    exact ⟨by rw [he, hr, hu]; rfl, by simp [hu]⟩
  have unit : ∀ (u : Sem Unit), s = (do u; pure undef) → isUnit o.op = true → (∀ w, (execOp (ev tm) o).run P w = (u.run P w).andThen fun v w' => .ok .skip w') → (execOp (ev tm) o).run P w = .ok (cond (isUnit o.op) .skip (.value v)) w' ∧ (isUnit o.op = true → v = undef) := by
    intro u hs hu he
    subst hs
    simp only [Sem.run_bind] at hr
    cases hx : u.run P w with
    | ok a w1 => simp only [hx, Result.andThen_ok, Sem.run_pure, Result.ok.injEq] at hr; obtain ⟨rfl, rfl⟩ := hr; exact ⟨by rw [he, hx, hu]; rfl, fun _ => rfl⟩
    | halt a w1 => simp [hx] at hr
  unfold semOf at h
  cases ho : o.op <;> simp only [ho] at h <;> try (cases h; done)
  case mapUpdate t m k x => rw [← ho]; exact unit _ (Option.some.inj h).symm (by rw [ho]; rfl) fun w => by simp [execOp, ho]
  case insert t m k x => rw [← ho]; exact unit _ (Option.some.inj h).symm (by rw [ho]; rfl) fun w => by simp [execOp, ho]
  case entryStore t m s' x => rw [← ho]; exact unit _ (Option.some.inj h).symm (by rw [ho]; rfl) fun w => by simp [execOp, ho]
  case call c =>
    obtain ⟨callee, args, argTypes⟩ := c
    cases callee <;> simp only at h <;> try (cases h; done)
    rename_i b
    cases b <;> simp only at h <;> try (cases h; done)
    all_goals (obtain rfl := Option.some.inj h; rw [← ho]; exact val (by rw [ho]; rfl) fun w => by simp [execOp, ho, resolve, invoke, builtin])
  all_goals (obtain rfl := Option.some.inj h; rw [← ho]; exact val (by rw [ho]; rfl) fun w => by simp [execOp, ho])

/-! ### slices that are built -/
def repL (z : List Value) : Nat → List Value
  | 0 => []
  | n + 1 => z ++ repL z n
theorem repL_length (z : List Value) : ∀ n, (repL z n).length = n * z.length := by
  intro n
  induction n with
  | zero => simp [repL]
  | succ n ih => simp [repL, ih, Nat.succ_mul]; omega
theorem repL_get (z : List Value) : ∀ (n i : Nat), i < n * z.length → (repL z n)[i]? = z[i % z.length]? := by
  intro n
  induction n with
  | zero => intro i h; omega
  | succ n ih =>
    intro i h
    rw [Nat.succ_mul] at h
    simp only [repL]
    by_cases hi : i < z.length
    · rw [List.getElem?_append_left hi, Nat.mod_eq_of_lt hi]
    · rw [List.getElem?_append_right (by omega), ih _ (by omega)]
      congr 1
      exact (Nat.mod_eq_sub_mod (by omega)).symm
theorem repL_range (z : Array Value) (n : Nat) : (Array.range (n * z.size)).map (z[· % z.size]!) = (repL z.toList n).toArray := by
  apply Array.ext_getElem?
  intro i
  simp only [Array.getElem?_map, List.getElem?_toArray]
  by_cases hi : i < n * z.size
  · rw [Array.getElem?_range, if_pos hi, repL_get _ _ _ (by simpa using hi)]
    have hz : 0 < z.size := by
      rcases Nat.eq_zero_or_pos z.size with h | h
      · rw [h] at hi; omega
      · exact h
    have hm : i % z.size < z.size := Nat.mod_lt _ hz
    simp [hm]
  · rw [Array.getElem?_range, if_neg hi]
    have : (repL z.toList n).length ≤ i := by rw [repL_length]; simp; omega
    rw [List.getElem?_eq_none this]
    rfl
def buildSliceV (P : Program) (t : TypeId) (len : Nat) (parts : List (Nat × Value)) (w : World) (K : Value → World → Prop) : Prop :=
  match P.underlying t with
  | some (.slice e) => IsSome (P.info? e) fun i => IsSome i.zero fun z => cnd (decide (z.cells.size = i.size) && (Nat.ble (len * i.size) 16777216 && partsOk (fun k => some (k * i.size, i.size)) (len * i.size) parts))
      (allocV w (.cells (fillFrom (fun k => some (k * i.size, i.size)) parts 0 (repL z.cells.toList len)).toArray e) fun a w' => K (.slice (some a) len len) w') False
  | _ => False
theorem buildSliceV_mono {P : Program} {t : TypeId} {len : Nat} {parts : List (Nat × Value)} {w : World} {K K' : Value → World → Prop} (h : ∀ v w, K v w → K' v w) (hh : buildSliceV P t len parts w K) : buildSliceV P t len parts w K' := by
  unfold buildSliceV at hh ⊢
  split at hh
  · obtain ⟨i, hi, hh⟩ := IsSome_elim hh
    obtain ⟨z, hz, hh⟩ := IsSome_elim hh
    exact IsSome_some hi (IsSome_some hz (cnd_mono hh (fun hh w' hw' => h _ _ (hh w' hw')) (fun x => x)))
  · exact hh.elim
theorem buildSliceV_run {P : Program} {t : TypeId} {len : Nat} {parts : Array (Nat × Value)} {w : World} {K : Value → World → Prop} (hh : buildSliceV P t len parts.toList w K) :
    ∃ v w', K v w' ∧ (Instr.buildSlice t len parts).run P w = .ok v w' := by
  unfold buildSliceV at hh
  split at hh
  · rename_i e hu
    obtain ⟨i, hi, hh⟩ := IsSome_elim hh
    obtain ⟨z, hz, hh⟩ := IsSome_elim hh
    rcases cnd_cases hh with ⟨hc, hh⟩ | ⟨_, hh⟩
    · simp only [Bool.and_eq_true, decide_eq_true_eq] at hc
      obtain ⟨h1, h2, h3⟩ := hc
      have h2 := Nat.le_of_ble_eq_true h2
      refine ⟨_, _, hh _ rfl, ?_⟩
      have hn : cellsT P e = some i.size := by simp [cellsT, hi]
      have hlen : (repL z.cells.toList len).length = len * i.size := by rw [repL_length]; simp [h1]
      have hf := fillL_fill _ _ (fillFrom_fillL (place := fun k => some (k * i.size, i.size)) parts.toList (repL z.cells.toList len) (by rw [hlen]; exact h3))
      simp only [Instr.buildSlice, Sem.run_bind, run_underlying hu, Result.andThen_ok, run_sizeOf hn]
      rw [if_neg (by omega)]
      by_cases h0 : len * i.size = 0
      · have hr : repL z.cells.toList len = [] := List.eq_nil_of_length_eq_zero (by rw [hlen]; exact h0)
        rw [hr] at hf
        simp only [h0, if_true, Sem.run_bind, Sem.run_pure, Result.andThen_ok]
        have he : (Array.map (fun x => (#[] : Array Value)[x % (#[] : Array Value).size]!) (Array.range 0)) = (([] : List Value)).toArray := by simp
        rw [he, hf, hr]
        simp [newRow]
      · simp only [h0, if_false, Sem.run_bind, run_zeroValue hi hz, Result.andThen_ok, Sem.run_pure]
        rw [← h1, repL_range]
        rw [← h1] at hf
        rw [hf]
        simp [newRow]
    · exact hh.elim
  · exact hh.elim

/-! ### what code is told beside the code -/
abbrev Slots := List (Nat × Shape)
structure Hints where
  loops : List (Nat × Slots) := []
  conds : List (Nat × Slots) := []
  blocks : List (Nat × Slots) := []
  regs : List (Nat × Slots) := []
  raw : List Nat := []
  tails : List (Nat × Nat) := []
  floats : List (Nat × Nat) := []
  edges : List (Nat × List (Nat × Nat)) := []
  mixes : List (Nat × Nat) := []
  lets : List Nat := []
  yields : List (Nat × Nat) := []
  rngs : List (Nat × Slots × Slots) := []
  pan : Bool := false

/-! ### calls -/
def entersB (P : Program) (f : FuncId) : Bool := match P.funcs[f]? with | some fn => fn.body.isSome && !(fn.name == "runtime.NumGoroutine") | none => false
def callR (P : Program) (t : TypeId) (pan : Bool) (K : Value → World → Prop) (KP : List PanicEntry → World → Prop) (e : Ending) (w' : World) : Prop :=
  match pan with
  | false => retEx P t fun v => e = .returned v ∧ K v w'
  | true => (retEx P t fun v => e = .returned v ∧ K v w') ∨ ∃ c, e = .panicked c ∧ KP c w'
/-- A function that the model stands in for: it comes to a value here and now. -/
def RunsC (P : Program) (f : FuncId) (args : Array Value) (w : World) (K : Value → World → Prop) : Prop := match (callFunc f args).run P w with | .ok (.value v) w' => K v w' | _ => False
theorem RunsC_of {P : Program} {f : FuncId} {args : Array Value} {w w' : World} {v : Value} {K : Value → World → Prop} (h : (callFunc f args).run P w = .ok (.value v) w') (hK : K v w') : RunsC P f args w K := by
  simp [RunsC, h, hK]
theorem RunsC_elim {P : Program} {f : FuncId} {args : Array Value} {w : World} {K : Value → World → Prop} (h : RunsC P f args w K) : ∃ v w', (callFunc f args).run P w = .ok (.value v) w' ∧ K v w' := by
  unfold RunsC at h
  split at h
  · exact ⟨_, _, by assumption, h⟩
  · exact h.elim
theorem RunsC_mono {P : Program} {f : FuncId} {args : Array Value} {w : World} {K K' : Value → World → Prop} (h : ∀ v w, K v w → K' v w) (hh : RunsC P f args w K) : RunsC P f args w K' := by
  obtain ⟨v, w', h1, h2⟩ := RunsC_elim hh
  exact RunsC_of h1 (h _ _ h2)
def callV (P : Program) (pan : Bool) (t : TypeId) (f : FuncId) (args : Array Value) (w : World) (K : Value → World → Prop) (KP : List PanicEntry → World → Prop) : Prop :=
  cnd (entersB P f) (Calls P f args w (callR P t pan K KP)) (RunsC P f args w fun v w' => retEx P t fun u => v = u ∧ K u w')
theorem callR_mono {P : Program} {t : TypeId} {pan : Bool} {K K' : Value → World → Prop} {KP KP' : List PanicEntry → World → Prop} (h : ∀ v w, K v w → K' v w) (hp : ∀ c w, KP c w → KP' c w) {e : Ending} {w : World}
    (hh : callR P t pan K KP e w) : callR P t pan K' KP' e w := by
  have one : (retEx P t fun v => e = .returned v ∧ K v w) → (retEx P t fun v => e = .returned v ∧ K' v w) := fun x => retEx_mono (fun v hv => ⟨hv.1, h _ _ hv.2⟩) x
  cases pan with
  | false => exact one hh
  | true =>
    rcases hh with hh | ⟨c, h1, h2⟩
    · exact .inl (one hh)
    · exact .inr ⟨c, h1, hp _ _ h2⟩
theorem callR_cases {P : Program} {t : TypeId} {pan : Bool} {K : Value → World → Prop} {KP : List PanicEntry → World → Prop} {e : Ending} {w : World} (hh : callR P t pan K KP e w) :
    (∃ v, e = .returned v ∧ K v w) ∨ (∃ c, e = .panicked c ∧ KP c w) := by
  cases pan with
  | false => exact .inl (retEx_elim hh)
  | true =>
    rcases hh with hh | hh
    · exact .inl (retEx_elim hh)
    · exact .inr hh
theorem run_callFunc {P : Program} {f : FuncId} {args : Array Value} (h : entersB P f = true) (w : World) : (callFunc f args).run P w = .ok (.enter f args) w := by
  unfold entersB at h
  split at h
  · rename_i fn hf
    simp only [Bool.and_eq_true, Bool.not_eq_true'] at h
    have : fn.body.isNone = false := by cases hb : fn.body <;> simp [hb] at h ⊢
    simp only [callFunc, Sem.run_bind, run_program, Result.andThen_ok, hf, h.2, this, Bool.false_eq_true, if_false, Sem.run_pure]
  · cases h
/-- What is called, and with what: a function of the program. -/
def calleeV (tm : List Value) (c : Call) (L : FuncId → Array Value → Prop) : Prop :=
  match c.callee with
  | .value (.func f) => L f (c.args.map (ev tm))
  | .value x => AsFn (ev tm x) fun f fi ca => L f (fi ++ c.args.map (ev tm) ++ ca)
  | _ => False
theorem calleeV_mono {tm : List Value} {c : Call} {L L' : FuncId → Array Value → Prop} (h : ∀ f a, L f a → L' f a) (hh : calleeV tm c L) : calleeV tm c L' := by
  unfold calleeV at hh ⊢
  split at hh
  · exact h _ _ hh
  · obtain ⟨f, fi, ca, h1, h2⟩ := AsFn_elim hh
    simp only [h1]; exact h _ _ h2
  · exact hh.elim
theorem calleeV_elim {P : Program} {tm : List Value} {o : Oper} {c : Call} (ho : o.op = .call c) {L : FuncId → Array Value → Prop} (hh : calleeV tm c L) :
    ∃ f args, L f args ∧ ∀ w, (execOp (ev tm) o).run P w = (callFunc f args).run P w := by
  obtain ⟨callee, args, argTypes⟩ := c
  unfold calleeV at hh
  split at hh
  · rename_i f hc
    simp only at hc
    subst hc
    refine ⟨f, _, hh, fun w => ?_⟩
    simp only [execOp, ho, resolve, ev, Deferred.ofValue, Sem.run_bind, Sem.run_pure, Result.andThen_ok, invoke]
    simp
  · rename_i x hne hc
    simp only at hc
    subst hc
    obtain ⟨f, fi, ca, h1, h2⟩ := AsFn_elim hh
    refine ⟨f, _, h2, fun w => ?_⟩
    simp only [execOp, ho, resolve, h1, Deferred.ofValue, Sem.run_bind, Sem.run_pure, Result.andThen_ok, invoke]
  · exact hh.elim

/-! ### one operation -/
/-- A value under a name of its own. -/
def letV (v : Value) (K : Value → Prop) : Prop :=
  match v with
  | .int k a => ∀ n : Int, n = a → K (.int k n)
  | .bool a => ∀ b : Bool, b = a → K (.bool b)
  | v => K v
theorem letV_elim {v : Value} {K : Value → Prop} (h : letV v K) : K v := by
  unfold letV at h
  split at h
  · exact h _ rfl
  · exact h _ rfl
  · exact h
theorem letV_mono {v : Value} {K K' : Value → Prop} (h : ∀ v, K v → K' v) (hh : letV v K) : letV v K' := by
  unfold letV at hh ⊢
  split
  · exact fun n hn => h _ (hh n hn)
  · exact fun n hn => h _ (hh n hn)
  · rename_i h1 h2
    refine h _ ?_
    revert hh
    split
    · rename_i k a; exact absurd rfl (h1 k a)
    · rename_i b; exact absurd rfl (h2 b)
    · exact id
/-- The shapes of what an operation comes to: of an assertion that tells whether it holds, a pair. -/
def exT (P : Program) (o : Oper) (L : Value → Prop) : Prop :=
  match o.op with
  | .typeAssert _ _ _ true => ∃ (y : Value) (b : Bool), L (.tuple #[y, .bool b])
  | _ => retEx P o.type L
theorem exT_elim {P : Program} {o : Oper} {L : Value → Prop} (h : exT P o L) : ∃ v, L v := by
  unfold exT at h
  split at h
  · obtain ⟨y, b, h⟩ := h; exact ⟨_, h⟩
  · exact retEx_elim h
theorem exT_mono {P : Program} {o : Oper} {L L' : Value → Prop} (h : ∀ v, L v → L' v) (hh : exT P o L) : exT P o L' := by
  unfold exT at hh ⊢
  split
  · rename_i ho
    simp only [ho] at hh
    obtain ⟨y, b, hh⟩ := hh
    exact ⟨y, b, h _ hh⟩
  · rename_i hne
    revert hh
    split
    · rename_i x t as ho; exact absurd ho (hne x t as)
    · exact retEx_mono h
def letIf (lets : List Nat) (dst : Option Tmp) : Bool := match dst with | some d => lets.elem d | none => false
def opV (P : Program) (pan : Bool) (lets : List Nat) (o : Oper) (tm : List Value) (w : World) (K : Value → World → Prop) (KP : List PanicEntry → World → Prop) : Prop :=
  match pureT P tm o with
  | some t => (match letIf lets o.dst with
      | true => t.run fun v => letV v fun v => K v w
      | false => t.run fun v => K v w)
  | none => (match o.op with
    | .buildSlice t len parts => buildSliceV P t len (parts.toList.map fun (i, x) => (i, ev tm x)) w K
    | .load t a => (match ev tm a with
        | .pointer p => Deref p fun ad => loadV P t (CellsAt w) (fun a v => w.cell? a = some v) ad fun v => K v w
        | _ => False)
    | .store t a x => (match ev tm a with
        | .pointer p => Deref p fun ad => storeV P t w ad (ev tm x) K
        | _ => False)
    | .alloc e => (match P.info? e with
        | some i => IsSome i.zero fun z => allocV w (.cells z.cells e) fun a w' => K (.pointer (some a)) w'
        | none => False)
    | .box e x => allocV w (.cells (ev tm x).cells e) fun a w' => K (.pointer (some a)) w'
    | .nilCheck x => (match ev tm x with
        | .pointer p => Deref p fun a => K (.pointer (some a)) w
        | _ => False)
    | .panic x => (match (Instr.panic (ev tm x)).run P w with
        | .halt (.panic v) w' => KP [{ v, recovered := false }] w'
        | _ => False)
    | .call c => (match semOf tm o with
        | some s => RunsV P s w fun v w' => (typeShape P o.type).ex fun x => v = x ∧ K x w'
        | none => calleeV tm c fun f args => callV P pan o.type f args w K KP)
    | _ => (match semOf tm o with
        | some s => (match isUnit o.op with
            | true => RunsV P s w fun _ w' => K undef w'
            | false => RunsV P s w fun v w' => exT P o fun x => v = x ∧ K x w')
        | none => False))

theorem storeV_mono {P : Program} {t : TypeId} {w : World} {a : Addr} {v : Value} {K K' : Value → World → Prop} (h : ∀ v w, K v w → K' v w) (hh : storeV P t w a v K) : storeV P t w a v K' := by
  unfold storeV at hh ⊢
  cases hu : P.underlying t with
  | none => simp only [hu] at hh
  | some d =>
    cases hn : cellsT P t with
    | none => simp only [hu, hn] at hh
    | some n =>
      simp only [hu, hn] at hh ⊢
      cases ha : isAggT P t <;> simp only [ha] at hh ⊢
      · exact cnd_mono hh (fun hh => cnd_mono hh (fun hh => ⟨hh.1, fun w' hw' => h _ _ (hh.2 w' hw')⟩) (fun x => x)) (fun x => x)
      · exact cnd_mono hh (fun hh => ⟨hh.1, fun w' hw' => h _ _ (hh.2 w' hw')⟩) (fun x => x)
set_option maxHeartbeats 1000000 in
theorem opV_mono {P : Program} {pan : Bool} {lets : List Nat} {o : Oper} {tm : List Value} {w : World} {K K' : Value → World → Prop} {KP KP' : List PanicEntry → World → Prop}
    (h : ∀ v w, K v w → K' v w) (hp : ∀ c w, KP c w → KP' c w) (hh : opV P pan lets o tm w K KP) : opV P pan lets o tm w K' KP' := by
  unfold opV at hh ⊢
  split
  · rename_i t ht
    simp only [ht] at hh
    split
    · rename_i hl
      simp only [hl] at hh
      exact t.mono (fun v hv => letV_mono (fun v => h v w) hv) hh
    · rename_i hl
      simp only [hl] at hh
      exact t.mono (fun v => h v w) hh
  · rename_i ht
    simp only [ht] at hh
    split
    · rename_i t len parts ho
      simp only [ho] at hh
      exact buildSliceV_mono h hh
    · rename_i t a ho
      simp only [ho] at hh
      split
      · rename_i p he
        simp only [he] at hh
        obtain ⟨ad, ha, hh⟩ := Deref_elim hh
        exact Deref_some ha (loadV_mono (fun v => h v w) (fun _ _ _ => id) (fun _ _ => id) hh)
      · rename_i hne
        revert hh
        split
        · rename_i p he; exact absurd he (hne p)
        · exact id
    · rename_i t a x ho
      simp only [ho] at hh
      split
      · rename_i p he
        simp only [he] at hh
        obtain ⟨ad, ha, hh⟩ := Deref_elim hh
        refine Deref_some ha ?_
        exact storeV_mono h hh
      · rename_i hne
        revert hh
        split
        · rename_i p he; exact absurd he (hne p)
        · exact id
    · rename_i e ho
      simp only [ho] at hh
      split
      · rename_i i hi
        simp only [hi] at hh
        obtain ⟨z, hz, hh⟩ := IsSome_elim hh
        exact IsSome_some hz fun w' hw' => h _ _ (hh w' hw')
      · rename_i hi
        simp only [hi] at hh
    · rename_i e x ho
      simp only [ho] at hh
      exact fun w' hw' => h _ _ (hh w' hw')
    · rename_i x ho
      simp only [ho] at hh
      split
      · rename_i p he
        simp only [he] at hh
        obtain ⟨ad, ha, hh⟩ := Deref_elim hh
        exact Deref_some ha (h _ _ hh)
      · rename_i hne
        revert hh
        split
        · rename_i p he; exact absurd he (hne p)
        · exact id
    · rename_i x ho
      simp only [ho] at hh
      revert hh
      split
      · exact hp _ _
      · exact id
    · rename_i c ho
      simp only [ho] at hh
      split
      · rename_i s hs
        simp only [hs] at hh
        exact RunsV_mono (fun v w' hv => Shape.ex_mono (fun x hx => ⟨hx.1, h _ _ hx.2⟩) hv) hh
      · rename_i hs
        simp only [hs] at hh
        refine calleeV_mono (fun f a hc => ?_) hh
        exact cnd_mono hc (fun hc => hc.mono fun e w' he => callR_mono h hp he) (fun hc => RunsC_mono (fun v w' hv => retEx_mono (fun u hu => ⟨hu.1, h _ _ hu.2⟩) hv) hc)
    · have hh' : (match semOf tm o with
        | some s => (match isUnit o.op with
            | true => RunsV P s w fun _ w' => K undef w'
            | false => RunsV P s w fun v w' => exT P o fun x => v = x ∧ K x w')
        | none => False) := by
        revert hh
        split <;> first
          | exact id
          | (rename_i ho; intro _; exfalso; simp_all; done)
          | (intro _; simp_all)
      clear hh
      split
      · rename_i s hs
        simp only [hs] at hh'
        split
        · rename_i hu
          simp only [hu] at hh'
          exact RunsV_mono (fun v w' hv => h _ _ hv) hh'
        · rename_i hu
          simp only [hu] at hh'
          exact RunsV_mono (fun v w' hv => exT_mono (fun x hx => ⟨hx.1, h _ _ hx.2⟩) hv) hh'
      · rename_i hs
        simp only [hs] at hh'
end Go.Vc

/-
What a region gives, whether it draws its order or not, in a form that serves both in a function's frame and in a round of a range over a function.
Conditions: in a round, no operation defers, and what is asked lets nothing out.
-/
namespace Go.Vc
open Go.RowKit
section
variable {P : Program} {ops : Array Oper} {a : Act} {w : World} {Q Q' : Exit → Act → World → Prop}

def wpR (P : Program) (ops : Array Oper) (draw : Bool) (Q : Exit → Act → World → Prop) (a : Act) (w : World) : Prop :=
  match draw with
  | true => P.follows .mixedOrders = true ∧ wpAny P .any ops Q ops.size (Array.replicate ops.size false) a { w with drawn := w.drawn + 1 }
  | false => wpOps P ops Q (List.range ops.size) a w
theorem wpR_wp {id : Nat} {draw : Bool} (h : wpR P ops draw Q a w) : (Code.region id ops draw).wp P Q a w := by
  cases draw with
  | false => exact wp_region h
  | true => exact wp_region_any h.1 h.2
theorem wpR_any (hm : P.follows .mixedOrders = true) (h : wpAny P .any ops Q ops.size (Array.replicate ops.size false) a { w with drawn := w.drawn + 1 }) : wpR P ops true Q a w := ⟨hm, h⟩
theorem wpR_list (h : wpList P ops Q ops.toList a w) : wpR P ops false Q a w := by
  unfold wpR
  rw [List.range_eq_range', ← Array.length_toList, wpOps_eq_wpList ops.toList 0 (by simp)]
  exact h
theorem wpR_quiet {C : World → Prop} (hm : P.follows .mixedOrders = true) (hB : Region.lexB .any ops = true) (hC : C { w with drawn := w.drawn + 1 })
    (h : wpQuiet P ops C (fun a' => ∀ w', C w' → Q .normal a' w') ops.toList a) : wpR P ops true Q a w := by
  simp only [Region.lexB, Bool.and_eq_true] at hB
  refine wpR_any hm (wpAny_of_quiet (Q := fun a' => ∀ w', C w' → Q .normal a' w') (fun _ w' hw' h => h w' hw') _ _ _ _ hC ?_)
  have := wpAnyQ_lex (C := C) (md := .any) hB.1 ops.toList 0 (Array.replicate ops.size false) a (by simp) (by simpa using hB.2) h
  simpa using this
theorem Oper_wp_to {o : Oper} {K K' : Act → World → Prop} (hK : ∀ a w, K a w → K' a w) (hq : ∀ e a w, Q e a w → Q' e a w) (h : o.wp P a w K Q) : o.wp P a w K' Q' := by
  unfold Oper.wp at *
  generalize (execOp a.eval o).run P w = r at *
  cases r with
  | ok x w' =>
    cases x <;> simp only [Oper.upon] at h ⊢ <;>
      first
        | exact hK _ _ h
        | exact Calls.mono h (fun e w'' he => by
            cases e with
            | returned v => exact hK _ _ he
            | panicked c => exact hq _ _ _ he
            | outgrown => obtain ⟨a1, w1, h1⟩ := he; exact ⟨a1, w1, hq _ _ _ h1⟩)
        | exact Rows.mono h (fun _ _ he => hK _ _ he)
  | halt x w' => cases x <;> simp only [Oper.upon] at h ⊢ <;> exact hq _ _ _ h
theorem LetsOut_to (hq : ∀ e a w, Q e a w → Q' e a w) (h : LetsOut Q) : LetsOut Q' := by obtain ⟨a1, w1, h1⟩ := h; exact ⟨a1, w1, hq _ _ _ h1⟩
theorem wpOps_to (hq : ∀ e a w, Q e a w → Q' e a w) : ∀ (l : List Nat) (a : Act) (w : World), wpOps P ops Q l a w → wpOps P ops Q' l a w := by
  intro l
  induction l with
  | nil => intro a w h; exact hq _ _ _ h
  | cons i rest ih =>
    intro a w h
    simp only [wpOps] at h ⊢
    cases ho : ops[i]? with
    | none => simp only [ho] at h ⊢; exact ih _ _ h
    | some o =>
      simp only [ho] at h ⊢
      split
      · rename_i hw
        simp only [hw, if_true] at h
        exact h.imp (Oper_wp_to ih hq) (fun h => ⟨h.1, LetsOut_to hq h.2⟩)
      · rename_i hw
        simp only [hw, if_false] at h
        exact ih _ _ h
theorem wpAny_to {md : Region.Mode} (hq : ∀ e a w, Q e a w → Q' e a w) : ∀ (f : Nat) (listed : Array Bool) (a : Act) (w : World), wpAny P md ops Q f listed a w → wpAny P md ops Q' f listed a w := by
  intro f
  induction f with
  | zero => intro listed a w h; exact ⟨h.1, hq _ _ _ h.2⟩
  | succ f ih =>
    intro listed a w h
    refine ⟨fun hr => hq _ _ _ (h.1 hr), fun i hi => ?_⟩
    have h1 := h.2 i hi
    unfold wpOp at h1 ⊢
    cases ho : ops[i]? with
    | none => simp only [ho] at h1 ⊢; exact ih _ _ _ h1
    | some o =>
      simp only [ho] at h1 ⊢
      split
      · rename_i hw
        simp only [hw, if_true] at h1
        exact h1.imp (Oper_wp_to (ih _) hq) (fun h => ⟨h.1, LetsOut_to hq h.2⟩)
      · rename_i hw
        simp only [hw, if_false] at h1
        exact ih _ _ _ h1
theorem wpR_to {draw : Bool} (hq : ∀ e a w, Q e a w → Q' e a w) (h : wpR P ops draw Q a w) : wpR P ops draw Q' a w := by
  cases draw with
  | false => exact wpOps_to hq _ _ _ h
  | true => exact ⟨h.1, wpAny_to hq _ _ _ _ h.2⟩

/-! ### in a round -/
def noDefer (l : List Oper) : Bool := l.all fun o => match o.op with | .defer _ => false | _ => true
theorem noDefer_get {l : List Oper} (h : noDefer l = true) {i : Nat} {o : Oper} (ho : l[i]? = some o) : ∀ c, o.op ≠ .defer c := by
  intro c hc
  have := List.all_eq_true.1 h o (List.mem_of_getElem? ho)
  simp [hc] at this
variable {l n : Nat}
theorem Oper_wpIn {o : Oper} {K K' : Act → World → Prop} (hd : ∀ c, o.op ≠ .defer c) (hO : ¬ LetsOut Q) (hK : ∀ a w, K a w → K' a w) (h : o.wp P a w K Q) : o.wpIn (Fence.wide.inRound l) n P a w K' Q := by
  refine ⟨fun _ _ => trivial, ?_⟩
  unfold Oper.wp at h
  rw [Oper.semAt_eq _ _ _ hd]
  have hn : ((Fence.wide.inRound l).depth.isSome = true → 1 ≤ n) := fun h => by cases h
  generalize (execOp a.eval o).run P w = r at *
  cases r with
  | ok x w' =>
    cases x <;> simp only [Oper.upon, Oper.uponIn] at h ⊢ <;>
      first
        | exact hK _ _ h
        | exact ⟨hn, CallsIn.inRound l (callsIn_wide.2 (h.mono (fun e w'' he => by
            cases e with
            | returned v => exact hK _ _ he
            | panicked c => exact he
            | outgrown => exact absurd he hO)))⟩
        | exact ⟨hn, fun c cs _ => let ⟨v, w1, r, s⟩ := h c cs; ⟨v, w1, hK _ _ r, (StepsIn.of_steps s).mono fun m _ => fenced_wide P m⟩⟩
  | halt x w' => cases x <;> simp only [Oper.upon, Oper.uponIn] at h ⊢ <;> exact h
theorem wpOps_round (hd : noDefer ops.toList = true) (hO : ¬ LetsOut Q) : ∀ (is : List Nat) (a : Act) (w : World), wpOps P ops Q is a w → wpOpsIn (Fence.wide.inRound l) n P ops Q is a w := by
  intro is
  induction is with
  | nil => intro a w h; exact h
  | cons i rest ih =>
    intro a w h
    simp only [wpOps, wpOpsIn] at h ⊢
    cases ho : ops[i]? with
    | none => simp only [ho] at h ⊢; exact ih _ _ h
    | some o =>
      simp only [ho] at h ⊢
      split
      · rename_i hw
        simp only [hw, if_true] at h
        exact Oper_wpIn (noDefer_get hd (i := i) (by simpa using ho)) hO ih (h.resolve_right fun h => hO h.2)
      · rename_i hw
        simp only [hw, if_false] at h
        exact ⟨fun _ _ => trivial, ih _ _ h⟩
theorem wpAny_round {md : Region.Mode} (hd : noDefer ops.toList = true) (hO : ¬ LetsOut Q) : ∀ (f : Nat) (listed : Array Bool) (a : Act) (w : World), wpAny P md ops Q f listed a w → wpAnyIn (Fence.wide.inRound l) n P md ops Q f listed a w := by
  intro f
  induction f with
  | zero => intro listed a w h; exact h
  | succ f ih =>
    intro listed a w h
    refine ⟨h.1, fun i hi => ?_⟩
    have h1 := h.2 i hi
    unfold wpOp at h1
    unfold wpOpIn
    cases ho : ops[i]? with
    | none => simp only [ho] at h1 ⊢; exact ih _ _ _ h1
    | some o =>
      simp only [ho] at h1 ⊢
      split
      · rename_i hw
        simp only [hw, if_true] at h1
        exact Oper_wpIn (noDefer_get hd (i := i) (by simpa using ho)) hO (ih _) (h1.resolve_right fun h => hO h.2)
      · rename_i hw
        simp only [hw, if_false] at h1
        exact ⟨fun _ _ => trivial, ih _ _ _ h1⟩
theorem wpR_round {id : Nat} {draw : Bool} (hd : noDefer ops.toList = true) (hO : ¬ LetsOut Q) (h : wpR P ops draw Q a w) : (Code.region id ops draw).wpIn (Fence.wide.inRound l) n P Q a w := by
  cases draw with
  | false => exact wpIn_region (wpOps_round hd hO _ _ _ h)
  | true => exact wpIn_region_any h.1 (wpAny_round hd hO _ _ _ _ h.2)
end
end Go.Vc

/-
A region that draws its order, whose last operations can come up only one behind the other: one walk serves every order, the first ones quiet in a class of worlds.
Conditions: each theorem's hypotheses. It joins two of the kit's laws: one for a class of worlds, one for a tail.
-/
namespace Go.Vc
open Go.RowKit
/-- What was there stands; there may be more. -/
def Later (w w' : World) : Prop := Below w.heap.size w w'
section
variable {P : Program} {ops : Array Oper} {md : Region.Mode} {C : World → Prop}

/-- Whatever is picked of the first n operations, until none of them is left. -/
def headAny (P : Program) (md : Region.Mode) (ops : Array Oper) (C : World → Prop) (n : Nat) (L : Array Bool → Act → Prop) : Nat → Array Bool → Act → Prop
  | 0, listed, a => L listed a
  | f + 1, listed, a => Region.ready md ops listed ≠ [] ∧ ∀ i ∈ Region.ready md ops listed, i < n ∧ qOp P ops C i (headAny P md ops C n L f (listed.setIfInBounds i true)) a
theorem headAny_any {n g : Nat} {L : Array Bool → Act → Prop} {Q : Exit → Act → World → Prop} (hL : ∀ listed a w, C w → L listed a → wpAny P md ops Q g listed a w) :
    ∀ (f : Nat) (listed : Array Bool) (a : Act) (w : World), C w → headAny P md ops C n L f listed a → wpAny P md ops Q (f + g) listed a w := by
  intro f
  induction f with
  | zero => intro listed a w hw h; rw [Nat.zero_add]; exact hL _ _ _ hw h
  | succ f ih =>
    intro listed a w hw h
    rw [Nat.add_right_comm]
    refine ⟨fun h0 => absurd h0 h.1, fun i hi => ?_⟩
    exact wpOp_of_qOp hw (fun a' w' hw' h' => ih _ a' w' hw' h') (h.2 i hi).2
/-- What may come up now may be taken first. -/
theorem headAny_first {n i : Nat} {oi : Oper} {v : Value} {L : Array Bool → Act → Prop} (hi : ops[i]? = some oi) (hsel : ∀ (j : Nat) (o : Oper) cs b, ops[j]? = some o → o.op ≠ .select cs b)
    (hs : Region.sinkB md ops n = true) (hc : Region.chainB md ops n = true) (hn : n < ops.size) (hin : i < n) (hdone : ∀ listed a, L listed a → ∀ j ∈ Region.ready md ops listed, n ≤ j) :
    ∀ (f : Nat) (listed : Array Bool) (a : Act), HeadInv md ops n listed →
      (∀ j oj, ops[j]? = some oj → j ≠ i → listed.getD j true = false → (∀ e ∈ oj.after, Region.binds md e = true → e.on ≠ i) → oi.apart ops oj = true) →
      i ∈ Region.ready md ops listed → YieldsIn P ops C oi v a → headAny P md ops C n L f (listed.setIfInBounds i true) (a.put oi.dst v) → headAny P md ops C n L (f + 1) listed a := by
  intro f
  induction f with
  | zero =>
    intro listed a inv _ hr hy H
    refine ⟨fun h => (by rw [h] at hr; cases hr), fun j hj => ?_⟩
    have hjn : j < n := Nat.lt_of_not_le fun h => tail_waits hs hc hn inv _ i rfl hin (mem_ready.1 hr).1 j h hj
    refine ⟨hjn, ?_⟩
    by_cases hji : j = i
    · subst hji; exact hy.qOp hi H
    · exact absurd (hdone _ _ H j (ready_mono hj hji)) (Nat.not_le_of_lt hjn)
  | succ f ih =>
    intro listed a inv hfree hr hy H
    refine ⟨fun h => (by rw [h] at hr; cases hr), fun j hj => ?_⟩
    have hun := (mem_ready.1 hr).1
    have hjn : j < n := Nat.lt_of_not_le fun h => tail_waits hs hc hn inv _ i rfl hin hun j h hj
    refine ⟨hjn, ?_⟩
    by_cases hji : j = i
    · subst hji; exact hy.qOp hi H
    obtain ⟨hjun, oj, hoj, hall⟩ := mem_ready.1 hj
    have hnot : ∀ e ∈ oj.after, Region.binds md e = true → e.on ≠ i := by
      intro e he hb heq
      have h1 := hall e he hb
      rw [heq, getD_both hun] at h1
      cases h1
    have h2 := qOp_put hoj (hfree j oj hoj hji hjun hnot) (fun cs b => hsel i oi cs b hi) (fun cs b => hsel j oj cs b hoj) hy (H.2 j (ready_mono hj hji)).2
    refine qOp_mono (fun a' h3 => ih (listed.setIfInBounds j true) a' (inv.set hj hjn) ?_ (ready_mono hr (Ne.symm hji)) h3.1 ?_) h2
    · intro k ok hk hki hkun hno
      refine hfree k ok hk hki ?_ hno
      by_cases hjk : j = k
      · subst hjk; exact hjun
      · rw [getD_set_ne true hjk] at hkun; exact hkun
    · rw [Array.setIfInBounds_comm _ _ hji]
      exact h3.2
theorem headAny_lex {n g : Nat} {Lq : Act → Prop} (hsel : Region.noSelect ops = true) (hs : Region.sinkB md ops n = true) (hc : Region.chainB md ops n = true) (hn : n < ops.size) :
    ∀ (l : List Oper) (k : Nat) (listed : Array Bool) (a : Act), (∀ j, j < l.length → l[j]? = ops[k + j]?) → k + l.length = n → HeadInv md ops n listed → Region.lexHead md ops g l.length k listed = true →
      wpQuiet P ops C Lq l a → headAny P md ops C n (fun listed' a' => Region.seqB md ops g n listed' = true ∧ Lq a') l.length listed a := by
  intro l
  induction l with
  | nil =>
    intro k listed a _ hk _ hB h
    obtain rfl : k = n := by simpa using hk
    exact ⟨by simpa [Region.lexHead] using hB, h⟩
  | cons o l ih =>
    intro k listed a hl hk inv hB h
    have h0 : ops[k]? = some o := by simpa using (hl 0 (by simp)).symm
    simp only [List.length_cons, Region.lexHead, Bool.and_eq_true] at hB
    obtain ⟨⟨hr, hf⟩, hB'⟩ := hB
    have hkn : k < n := by simp only [List.length_cons] at hk; omega
    have hr' : k ∈ Region.ready md ops listed := by simpa using hr
    have hst : qOp P ops C k (wpQuiet P ops C Lq l) a := by unfold qOp; simp only [h0]; exact h
    obtain ⟨v, hy, hK⟩ := yieldsIn_of_qOp h0 hst
    refine headAny_first h0 (Region.noSelect_spec hsel) hs hc hn hkn (fun listed' a' hL => seqB_ready hL.1) l.length listed a inv (Region.free_spec h0 hf) hr' hy ?_
    refine ih (k + 1) _ _ (fun j hj => ?_) (by simp only [List.length_cons] at hk; omega) (inv.set hr' hkn) hB' hK
    have := hl (j + 1) (by simp; omega)
    simpa [Nat.add_assoc, Nat.add_comm 1 j] using this
/-- The first n quiet, the others one behind the other. -/
theorem wpAny_quiet_tail {Q : Exit → Act → World → Prop} {a : Act} {w : World} (n : Nat) (hB : Region.lexTailB .any ops n = true) (hC : C w)
    (h : wpQuiet P ops C (fun a' => ∀ w', C w' → wpList P ops Q (ops.toList.drop n) a' w') (ops.toList.take n) a) : wpAny P .any ops Q ops.size (Array.replicate ops.size false) a w := by
  simp only [Region.lexTailB, Bool.and_eq_true, decide_eq_true_eq] at hB
  obtain ⟨⟨⟨⟨hsel, hn⟩, hs⟩, hc⟩, hlex⟩ := hB
  have htl : (ops.toList.take n).length = n := by simp; omega
  have hdl : (ops.toList.drop n).length = ops.size - n := by simp
  have inv0 : HeadInv .any ops n (Array.replicate ops.size false) :=
    ⟨by simp, fun j oj _ hl => (by rw [getD_replicate_false] at hl; cases hl), fun t _ ht => getD_in (by simpa using ht) (getD_replicate_false _ _)⟩
  have H := headAny_lex (C := C) (md := .any) (g := ops.size - n) hsel hs hc hn (ops.toList.take n) 0 (Array.replicate ops.size false) a
    (fun j hj => by
      rw [htl] at hj
      simp [hj]) (by simpa using htl) inv0 (by rw [htl]; exact hlex) h
  have := headAny_any (Q := Q) (g := ops.size - n) (fun listed a' w' hw' hL => by
    have := wpAny_of_seq (md := .any) (Q' := Q) (ops.toList.drop n) n listed a' w' (fun j => by simp [List.getElem?_drop]) (by rw [hdl]; exact hL.1) (hL.2 w' hw')
    rwa [hdl] at this) _ _ _ _ hC H
  rw [htl, show n + (ops.size - n) = ops.size by omega] at this
  exact this
theorem wp_region_quiet_tail {Q : Exit → Act → World → Prop} {a : Act} {w : World} (n : Nat) (hm : P.follows .mixedOrders = true) (hB : Region.lexTailB .any ops n = true) (hC : C { w with drawn := w.drawn + 1 })
    (h : wpQuiet P ops C (fun a' => ∀ w', C w' → wpList P ops Q (ops.toList.drop n) a' w') (ops.toList.take n) a) : wpR P ops true Q a w :=
  wpR_any hm (wpAny_quiet_tail n hB hC h)
end
/-! ### one new block among the first ones -/
section
variable {P : Program} {ops : Array Oper} {md : Region.Mode} {C : World → Prop}
/-- As quietUpon; a call leaves all that was there when it began. -/
def soberUpon (P : Program) (w : World) (v : Value) : Result Next → Prop
  | .ok (.value u) w' => w' = w ∧ u = v
  | .ok .skip w' => w' = w ∧ v = undef
  | .ok (.enter f args) w' => w' = w ∧ Calls P f args w (fun e w'' => e = .returned v ∧ Later w w'')
  | _ => False
def soberAt (P : Program) (o : Oper) (a : Act) (w : World) (v : Value) : Prop := soberUpon P w v ((execOp a.eval o).run P w)
def sober (P : Program) (o : Oper) (a : Act) (C : World → Prop) (next : Act → Prop) : Prop := ∃ v, (∀ w, C w → soberAt P o a w v) ∧ next (a.put o.dst v)
def wpSober (P : Program) (ops : Array Oper) (C : World → Prop) (Q : Act → Prop) : List Oper → Act → Prop
  | [], a => Q a
  | o :: rest, a => if Region.wanted o (yielded ops a.tmps) then sober P o a C (wpSober P ops C Q rest) else wpSober P ops C Q rest (a.put o.dst undef)
def Closed (C : World → Prop) : Prop := ∀ w w', C w → Later w w' → C w'
theorem soberAt_quiet {D : World → Prop} (hD : Closed D) {o : Oper} {a : Act} {v : Value} {w : World} (hw : D w) (h : soberAt P o a w v) : o.quietAt P a D w v := by
  unfold soberAt at h
  unfold Oper.quietAt
  generalize (execOp a.eval o).run P w = r at *
  cases r with
  | ok n w' =>
    cases n <;> simp only [soberUpon] at h <;> simp only [Oper.quietUpon]
    case value u => exact h
    case skip => exact h
    case enter f args => exact ⟨h.1, h.2.mono fun e w'' ⟨he, hl⟩ => ⟨he, hD _ _ hw hl⟩⟩
  | halt x w' => simp only [soberUpon] at h
theorem wpSober_quiet (hC : Closed C) {Q : Act → Prop} : ∀ (l : List Oper) (a : Act), wpSober P ops C Q l a → wpQuiet P ops C Q l a := by
  intro l
  induction l with
  | nil => intro a h; exact h
  | cons o l ih =>
    intro a h
    unfold wpSober at h
    unfold wpQuiet
    split
    · rename_i hw
      simp only [hw, if_true] at h
      obtain ⟨v, h1, h2⟩ := h
      exact ⟨v, fun w hw' => soberAt_quiet hC hw' (h1 w hw'), ih _ h2⟩
    · rename_i hw
      simp only [hw] at h
      exact ih _ h
def sOp (P : Program) (ops : Array Oper) (C : World → Prop) (i : Nat) (K : Act → Prop) (a : Act) : Prop :=
  match ops[i]? with
  | none => K a
  | some o => if Region.wanted o (yielded ops a.tmps) then sober P o a C K else K (a.put o.dst undef)
theorem sober_mono {o : Oper} {a : Act} {K K' : Act → Prop} (h : ∀ a, K a → K' a) (hh : sober P o a C K) : sober P o a C K' :=
  let ⟨v, h1, h2⟩ := hh
  ⟨v, h1, h _ h2⟩
theorem sOp_mono {i : Nat} {a : Act} {K K' : Act → Prop} (h : ∀ a, K a → K' a) (hh : sOp P ops C i K a) : sOp P ops C i K' a := by
  unfold sOp at *
  split
  · exact h _ (by simpa [*] using hh)
  · rename_i o ho
    simp only [ho] at hh
    split
    · rename_i hw; simp only [hw, if_true] at hh; exact sober_mono h hh
    · rename_i hw; simp only [hw] at hh; exact h _ hh
theorem sOp_qOp (hC : Closed C) {i : Nat} {a : Act} {K : Act → Prop} (hh : sOp P ops C i K a) : qOp P ops C i K a := by
  unfold sOp at hh
  unfold qOp
  split
  · simpa [*] using hh
  · rename_i o ho
    simp only [ho] at hh
    split
    · rename_i hw; simp only [hw, if_true] at hh; obtain ⟨v, h1, h2⟩ := hh; exact ⟨v, fun w hw' => soberAt_quiet hC hw' (h1 w hw'), h2⟩
    · rename_i hw; simp only [hw] at hh; exact hh
def SYields (P : Program) (ops : Array Oper) (C : World → Prop) (o : Oper) (v : Value) (a : Act) : Prop :=
  (Region.wanted o (yielded ops a.tmps) = true ∧ ∀ w, C w → soberAt P o a w v) ∨
  (Region.wanted o (yielded ops a.tmps) = false ∧ v = undef)
theorem SYields.yields {D : World → Prop} (hD : Closed D) (hDC : ∀ w, D w → C w) {o : Oper} {v : Value} {a : Act} (h : SYields P ops C o v a) : YieldsIn P ops D o v a := by
  rcases h with ⟨h1, h2⟩ | h
  · exact .inl ⟨h1, fun w hw => soberAt_quiet hD hw (h2 w (hDC w hw))⟩
  · exact .inr h
theorem SYields.sOp {i : Nat} {o : Oper} {v : Value} {a : Act} (hi : ops[i]? = some o) (hy : SYields P ops C o v a) {K : Act → Prop} (h : K (a.put o.dst v)) : sOp P ops C i K a := by
  unfold Vc.sOp
  simp only [hi]
  rcases hy with ⟨hw, hv⟩ | ⟨hw, rfl⟩
  · simp only [hw, if_true]; exact ⟨v, hv, h⟩
  · simp only [hw, Bool.false_eq_true, if_false]; exact h
theorem SYields.of_same {o : Oper} {v : Value} {a a' : Act} (hy : SYields P ops C o v a) (he : execOp a'.eval o = execOp a.eval o)
    (hw : Region.wanted o (yielded ops a'.tmps) = Region.wanted o (yielded ops a.tmps)) : SYields P ops C o v a' := by
  unfold SYields soberAt at *
  rw [he, hw]
  exact hy
theorem syields_of_sOp {i : Nat} {o : Oper} {a : Act} {K : Act → Prop} (hi : ops[i]? = some o) (h : sOp P ops C i K a) : ∃ v, SYields P ops C o v a ∧ K (a.put o.dst v) := by
  unfold sOp at h
  simp only [hi] at h
  by_cases hw : Region.wanted o (yielded ops a.tmps) = true
  · simp only [hw, if_true] at h
    obtain ⟨v, h1, h2⟩ := h
    exact ⟨v, .inl ⟨hw, h1⟩, h2⟩
  · simp only [hw] at h
    exact ⟨undef, .inr ⟨by simpa using hw, rfl⟩, h⟩
theorem SYields.keep {o oj : Oper} {v u : Value} {a : Act} (hap : o.apart ops oj = true) (hsi : ∀ cs b, o.op ≠ .select cs b) (hy : SYields P ops C o v a) : SYields P ops C o v (a.put oj.dst u) := by
  obtain ⟨h1, h2, h3⟩ := Oper.apart_spec hap
  exact hy.of_same (execOp_put o hsi a oj.dst u h3) (wanted_put o a oj.dst u h3)
theorem sOp_put {j : Nat} {oi oj : Oper} {v : Value} (hj : ops[j]? = some oj) (hap : oi.apart ops oj = true)
    (hsi : ∀ cs b, oi.op ≠ .select cs b) (hsj : ∀ cs b, oj.op ≠ .select cs b) {K : Act → Prop} {a : Act}
    (hy : SYields P ops C oi v a) (h : sOp P ops C j K (a.put oi.dst v)) :
    sOp P ops C j (fun a' => SYields P ops C oi v a' ∧ K (a'.put oi.dst v)) a := by
  obtain ⟨h1, h2, h3⟩ := Oper.apart_spec hap
  unfold sOp at *
  simp only [hj] at *
  rw [wanted_put oj a oi.dst v h1] at h
  split
  · rename_i hw
    simp only [hw, if_true] at h
    obtain ⟨u, hu, hn⟩ := h
    refine ⟨u, fun w hw' => ?_, hy.keep hap hsi, by rw [← Act.put_comm a v u h2]; exact hn⟩
    have := hu w hw'
    unfold soberAt at *
    rwa [execOp_put oj hsj a oi.dst v h1] at this
  · rename_i hw
    simp only [hw] at h
    exact ⟨hy.keep hap hsi, by rw [← Act.put_comm a v undef h2]; exact h⟩
def ptrv (k : Nat) : Value := .pointer (some ⟨k, 0, none⟩)
/-- Operation m lays a block, whenever it comes up. -/
def floatAny (P : Program) (md : Region.Mode) (ops : Array Oper) (C : World → Prop) (D : Nat → World → Prop) (n m : Nat) (dst : Option Tmp) (L : Nat → Array Bool → Act → Prop) : Nat → Array Bool → Act → Prop
  | 0, _, _ => False
  | f + 1, listed, a => Region.ready md ops listed ≠ [] ∧ ∀ i ∈ Region.ready md ops listed, i < n ∧
      (if i = m then ∀ k, headAny P md ops (D k) n (L k) f (listed.setIfInBounds m true) (a.put dst (ptrv k)) else sOp P ops C i (floatAny P md ops C D n m dst L f (listed.setIfInBounds i true)) a)
theorem floatAny_any {D : Nat → World → Prop} {n m g : Nat} {om : Oper} {obj : Obj} {L : Nat → Array Bool → Act → Prop} {Q : Exit → Act → World → Prop} (hC : Closed C) (hom : ops[m]? = some om) (hg : om.guard = none)
    (hrun : ∀ (a : Act) w, (execOp a.eval om).run P w = .ok (.value (ptrv w.heap.size)) (w.alloc obj)) (hD : ∀ w, C w → D w.heap.size (w.alloc obj))
    (hL : ∀ k listed a w, D k w → L k listed a → wpAny P md ops Q g listed a w) :
    ∀ (f : Nat) (listed : Array Bool) (a : Act) (w : World), C w → floatAny P md ops C D n m om.dst L f listed a → wpAny P md ops Q (f + g) listed a w := by
  intro f
  induction f with
  | zero => intro listed a w hw h; exact h.elim
  | succ f ih =>
    intro listed a w hw h
    rw [Nat.add_right_comm]
    refine ⟨fun h0 => absurd h0 h.1, fun i hi => ?_⟩
    have h2 := (h.2 i hi).2
    by_cases him : i = m
    · subst him
      rw [if_pos rfl] at h2
      unfold wpOp
      simp only [hom]
      have hwant : Region.wanted om (yielded ops a.tmps) = true := by unfold Region.wanted; rw [hg]
      simp only [hwant, if_true]
      refine .inl ?_
      unfold Oper.wp
      rw [hrun]
      exact headAny_any (hL w.heap.size) f _ _ _ (hD w hw) (h2 w.heap.size)
    · rw [if_neg him] at h2
      exact wpOp_of_qOp hw (fun a' w' hw' h' => ih _ a' w' hw' h') (sOp_qOp hC h2)
theorem floatAny_first {D : Nat → World → Prop} {n m i : Nat} {om oi : Oper} {v : Value} {L : Nat → Array Bool → Act → Prop} (hC : Closed C) (hD : ∀ k, Closed (D k)) (hDC : ∀ k w, D k w → C w) (hom : ops[m]? = some om) (hi : ops[i]? = some oi) (him : i ≠ m)
    (hsel : ∀ (j : Nat) (o : Oper) cs b, ops[j]? = some o → o.op ≠ .select cs b)
    (hs : Region.sinkB md ops n = true) (hc : Region.chainB md ops n = true) (hn : n < ops.size) (hin : i < n) (hdone : ∀ k listed a, L k listed a → ∀ j ∈ Region.ready md ops listed, n ≤ j) :
    ∀ (f : Nat) (listed : Array Bool) (a : Act), HeadInv md ops n listed →
      (∀ j oj, ops[j]? = some oj → j ≠ i → listed.getD j true = false → (∀ e ∈ oj.after, Region.binds md e = true → e.on ≠ i) → oi.apart ops oj = true) →
      i ∈ Region.ready md ops listed → SYields P ops C oi v a → floatAny P md ops C D n m om.dst L f (listed.setIfInBounds i true) (a.put oi.dst v) → floatAny P md ops C D n m om.dst L (f + 1) listed a := by
  intro f
  induction f with
  | zero => intro listed a inv _ hr hy H; exact H.elim
  | succ f ih =>
    intro listed a inv hfree hr hy H
    refine ⟨fun h => (by rw [h] at hr; cases hr), fun j hj => ?_⟩
    have hun := (mem_ready.1 hr).1
    have hjn : j < n := Nat.lt_of_not_le fun h => tail_waits hs hc hn inv _ i rfl hin hun j h hj
    refine ⟨hjn, ?_⟩
    by_cases hji : j = i
    · subst hji; rw [if_neg him]; exact hy.sOp hi H
    obtain ⟨hjun, oj, hoj, hall⟩ := mem_ready.1 hj
    have hnot : ∀ e ∈ oj.after, Region.binds md e = true → e.on ≠ i := by
      intro e he hb heq
      have h1 := hall e he hb
      rw [heq, getD_both hun] at h1
      cases h1
    have hap := hfree j oj hoj hji hjun hnot
    have hfree' : ∀ k ok, ops[k]? = some ok → k ≠ i → (listed.setIfInBounds j true).getD k true = false → (∀ e ∈ ok.after, Region.binds md e = true → e.on ≠ i) → oi.apart ops ok = true := by
      intro k ok hk hki hkun hno
      refine hfree k ok hk hki ?_ hno
      by_cases hjk : j = k
      · subst hjk; exact hjun
      · rw [getD_set_ne true hjk] at hkun; exact hkun
    have H2 := (H.2 j (ready_mono hj hji)).2
    by_cases hjm : j = m
    · subst hjm
      obtain rfl : oj = om := Option.some.inj (hoj.symm.trans hom)
      rw [if_pos rfl] at H2 ⊢
      intro k
      have H3 := H2 k
      rw [Array.setIfInBounds_comm _ _ (Ne.symm hji)] at H3
      have hcm : (a.put oi.dst v).put oj.dst (ptrv k) = (a.put oj.dst (ptrv k)).put oi.dst v := by
        obtain ⟨_, h2, _⟩ := Oper.apart_spec hap
        exact Act.put_comm a v (ptrv k) h2
      rw [hcm] at H3
      exact headAny_first hi hsel hs hc hn hin (hdone k) f _ _ (inv.set hj hjn) hfree' (ready_mono hr (Ne.symm hji)) ((hy.keep hap (fun cs b => hsel i oi cs b hi)).yields (hD k) (hDC k)) H3
    · rw [if_neg hjm] at H2 ⊢
      have h2 := sOp_put hoj hap (fun cs b => hsel i oi cs b hi) (fun cs b => hsel j oj cs b hoj) hy H2
      refine sOp_mono (fun a' h3 => ih (listed.setIfInBounds j true) a' (inv.set hj hjn) hfree' (ready_mono hr (Ne.symm hji)) h3.1 ?_) h2
      rw [Array.setIfInBounds_comm _ _ hji]
      exact h3.2
theorem floatAny_lex {D : Nat → World → Prop} {m g : Nat} {om : Oper} {Lq : Nat → Act → Prop} (hC : Closed C) (hD : ∀ k, Closed (D k)) (hDC : ∀ k w, D k w → C w) (hom : ops[m]? = some om) (hsel : Region.noSelect ops = true)
    (hs : Region.sinkB md ops (m + 1) = true) (hc : Region.chainB md ops (m + 1) = true) (hn : m + 1 < ops.size) :
    ∀ (l : List Oper) (k : Nat) (listed : Array Bool) (a : Act), (∀ j, j < l.length → l[j]? = ops[k + j]?) → k + l.length = m → HeadInv md ops (m + 1) listed → listed.getD m true = false → Region.lexHead md ops g (l.length + 1) k listed = true →
      wpSober P ops C (fun a' => ∀ k, Lq k (a'.put om.dst (ptrv k))) l a → floatAny P md ops C D (m + 1) m om.dst (fun k listed' a' => Region.seqB md ops g (m + 1) listed' = true ∧ Lq k a') (l.length + 1) listed a := by
  intro l
  induction l with
  | nil =>
    intro k listed a _ hk inv hun hB h
    obtain rfl : k = m := by simpa using hk
    simp only [List.length_nil, Nat.zero_add, Region.lexHead, Bool.and_eq_true] at hB
    obtain ⟨⟨hr, hf⟩, hB'⟩ := hB
    have hr' : k ∈ Region.ready md ops listed := by simpa using hr
    refine ⟨fun h => (by rw [h] at hr'; cases hr'), fun j hj => ?_⟩
    have hjn : j < k + 1 := Nat.lt_of_not_le fun h => tail_waits hs hc hn inv _ k rfl (Nat.lt_succ_self k) hun j h hj
    refine ⟨hjn, ?_⟩
    by_cases hjk : j = k
    · rw [if_pos hjk]; intro q; exact ⟨hB', h q⟩
    · exact absurd (seqB_ready hB' j (ready_mono hj hjk)) (Nat.not_le_of_lt hjn)
  | cons o l ih =>
    intro k listed a hl hk inv hun hB h
    have h0 : ops[k]? = some o := by simpa using (hl 0 (by simp)).symm
    rw [List.length_cons] at hB
    unfold Region.lexHead at hB
    simp only [Bool.and_eq_true] at hB
    obtain ⟨⟨hr, hf⟩, hB'⟩ := hB
    have hkm : k < m := by simp only [List.length_cons] at hk; omega
    have hr' : k ∈ Region.ready md ops listed := by simpa using hr
    have hst : sOp P ops C k (wpSober P ops C (fun a' => ∀ k, Lq k (a'.put om.dst (ptrv k))) l) a := by unfold sOp; simp only [h0]; exact h
    obtain ⟨v, hy, hK⟩ := syields_of_sOp h0 hst
    refine floatAny_first hC hD hDC hom h0 (Nat.ne_of_lt hkm) (Region.noSelect_spec hsel) hs hc hn (by omega) (fun k listed' a' hL => seqB_ready hL.1) (l.length + 1) listed a inv (Region.free_spec h0 hf) hr' hy ?_
    refine ih (k + 1) _ _ (fun j hj => ?_) (by simp only [List.length_cons] at hk; omega) (inv.set hr' (by omega)) ?_ hB' hK
    · have := hl (j + 1) (by simp; omega)
      simpa [Nat.add_assoc, Nat.add_comm 1 j] using this
    · rw [getD_set_ne true (Nat.ne_of_lt hkm)]; exact hun
theorem closed_later (w : World) : Closed (Later w) := fun _ _ h k => Below.trans h (Below.mono k h.size)
/-- The first m quiet, operation m lays a block whenever it comes up, the others one behind the other. -/
theorem wpAny_float {Q : Exit → Act → World → Prop} {a : Act} {w : World} (m : Nat) {om : Oper} {obj : Obj} (hB : Region.lexTailB .any ops (m + 1) = true) (hom : ops[m]? = some om) (hg : om.guard = none)
    (hrun : ∀ (a : Act) w, (execOp a.eval om).run P w = .ok (.value (ptrv w.heap.size)) (w.alloc obj))
    (h : wpSober P ops (Later w) (fun a' => ∀ w1, Later w w1 → ∀ w2, w2 = w1.alloc obj → ∀ w3, Later w2 w3 → wpList P ops Q (ops.toList.drop (m + 1)) (a'.put om.dst (ptrv w1.heap.size)) w3) (ops.toList.take m) a) : wpAny P .any ops Q ops.size (Array.replicate ops.size false) a { w with drawn := w.drawn + 1 } := by
  simp only [Region.lexTailB, Bool.and_eq_true, decide_eq_true_eq] at hB
  obtain ⟨⟨⟨⟨hsel, hn⟩, hs⟩, hc⟩, hlex⟩ := hB
  have htl : (ops.toList.take m).length = m := by simp; omega
  have hdl : (ops.toList.drop (m + 1)).length = ops.size - (m + 1) := by simp
  have inv0 : HeadInv .any ops (m + 1) (Array.replicate ops.size false) :=
    ⟨by simp, fun j oj _ hl => (by rw [getD_replicate_false] at hl; cases hl), fun t _ ht => getD_in (by simpa using ht) (getD_replicate_false _ _)⟩
  have h' : wpSober P ops (Later w) (fun a' => ∀ k, (∀ w3, (∃ w1, Later w w1 ∧ k = w1.heap.size ∧ Later (w1.alloc obj) w3) → wpList P ops Q (ops.toList.drop (m + 1)) (a'.put om.dst (ptrv k)) w3)) (ops.toList.take m) a := by
    have mono : ∀ {Q1 Q2 : Act → Prop}, (∀ a, Q1 a → Q2 a) → ∀ (l : List Oper) (a : Act), wpSober P ops (Later w) Q1 l a → wpSober P ops (Later w) Q2 l a := by
      intro Q1 Q2 hq l
      induction l with
      | nil => intro a h; exact hq _ h
      | cons o l ih =>
        intro a h
        unfold wpSober at h ⊢
        split
        · rename_i hw; simp only [hw, if_true] at h; exact sober_mono ih h
        · rename_i hw; simp only [hw] at h; exact ih _ h
    refine mono (fun a' ha k w3 ⟨w1, h1, hk, h3⟩ => ?_) _ _ h
    subst hk
    exact ha w1 h1 _ rfl w3 h3
  have hCl := closed_later w
  have H := floatAny_lex (C := Later w) (D := fun k w3 => ∃ w1, Later w w1 ∧ k = w1.heap.size ∧ Later (w1.alloc obj) w3) (md := .any) (g := ops.size - (m + 1)) (om := om) (Lq := fun k a' => ∀ w3, (∃ w1, Later w w1 ∧ k = w1.heap.size ∧ Later (w1.alloc obj) w3) → wpList P ops Q (ops.toList.drop (m + 1)) a' w3) hCl
    (fun k w3 w4 ⟨w1, h1, hk, h3⟩ h4 => ⟨w1, h1, hk, closed_later _ _ _ h3 h4⟩) (fun k w3 ⟨w1, h1, hk, h3⟩ => hCl _ _ (hCl _ _ h1 (Below.alloc (Below.refl _ _) (Nat.le_refl _) obj)) h3) hom hsel hs hc hn (ops.toList.take m) 0 (Array.replicate ops.size false) a
    (fun j hj => by
      rw [htl] at hj
      simp [hj]) (by simpa using htl) inv0 (getD_in (by simp; omega) (getD_replicate_false _ _)) (by rw [htl]; exact hlex) h'
  have := floatAny_any (Q := Q) (g := ops.size - (m + 1)) hCl hom hg hrun (fun w1 h1 => ⟨w1, h1, rfl, Below.refl _ _⟩) (fun k listed a' w' hw' hL => by
    have := wpAny_of_seq (md := .any) (Q' := Q) (ops.toList.drop (m + 1)) (m + 1) listed a' w' (fun j => by simp [List.getElem?_drop]) (by rw [hdl]; exact hL.1) (hL.2 w' hw')
    rwa [hdl] at this) _ _ _ _ (Below.drew (Below.refl _ _)) H
  rw [htl, show m + 1 + (ops.size - (m + 1)) = ops.size by omega] at this
  exact this
end
/-! ### an edge more -/
section
variable {P : Program} {ops : Array Oper} {md : Region.Mode} {Q : Exit → Act → World → Prop}
def plusEdge (ops : Array Oper) (i j : Nat) : Array Oper := ops.modify j fun o => { o with after := o.after.push ⟨i, .data⟩ }
def isExtract : Op → Bool
  | .extract _ _ => true
  | .move _ => true
  | _ => false
def waitsB (md : Region.Mode) (o : Oper) (i : Nat) : Bool := o.after.any fun e => Region.binds md e && e.on == i
def edgeB (md : Region.Mode) (ops : Array Oper) (i j : Nat) : Bool :=
  match ops[i]?, ops[j]? with
  | some oi, some oj => !(i == j) && oi.guard.isNone && isExtract oi.op && (oi.after.all fun e => !Region.binds md e || waitsB md oj e.on) &&
      ((List.range ops.size).all fun k => k == i || (match ops[k]? with
        | some ok => waitsB md ok i || waitsB md oi k || oi.apart ops ok
        | none => true))
  | _, _ => false
theorem waitsB_spec {o : Oper} {i : Nat} (h : waitsB md o i = true) : ∃ e ∈ o.after, Region.binds md e = true ∧ e.on = i := by
  unfold waitsB at h
  obtain ⟨e, he, hb⟩ := Array.any_eq_true'.1 h
  simp only [Bool.and_eq_true, beq_iff_eq] at hb
  exact ⟨e, he, hb.1, hb.2⟩
theorem plusEdge_ne {i j k : Nat} (h : k ≠ j) : (plusEdge ops i j)[k]? = ops[k]? := by
  unfold plusEdge
  rw [Array.getElem?_modify, if_neg (Ne.symm h)]
theorem plusEdge_at {i j : Nat} : (plusEdge ops i j)[j]? = (ops[j]?).map fun o => { o with after := o.after.push ⟨i, .data⟩ } := by
  unfold plusEdge
  rw [Array.getElem?_modify, if_pos rfl]
theorem yielded_plusEdge {i j : Nat} (tmps : Array Value) : yielded (plusEdge ops i j) tmps = yielded ops tmps := by
  funext k
  unfold yielded
  by_cases h : k = j
  · subst h
    rw [plusEdge_at]
    cases ops[k]? <;> rfl
  · rw [plusEdge_ne h]
theorem wpOp_plusEdge {i j k : Nat} {K : Act → World → Prop} {a : Act} {w : World} : wpOp P (plusEdge ops i j) Q k K a w ↔ wpOp P ops Q k K a w := by
  unfold wpOp
  by_cases h : k = j
  · subst h
    rw [plusEdge_at, yielded_plusEdge]
    cases ops[k]? <;> exact Iff.rfl
  · rw [plusEdge_ne h, yielded_plusEdge]
/-- One more edge, on an operation that takes a part of what is there, turns nothing. -/
theorem wpAny_edge {i j : Nat} (hB : edgeB md ops i j = true) (hsel : Region.noSelect ops = true) (hQ : ∀ c a w, ¬ Q (.panic c) a w) (hO : ∀ a w, ¬ Q .outgrown a w) :
    ∀ (f : Nat) (listed : Array Bool) (a : Act) (w : World), listed.size = ops.size → wpAny P md (plusEdge ops i j) Q f listed a w → wpAny P md ops Q f listed a w := by
  unfold edgeB at hB
  split at hB
  case h_2 => cases hB
  rename_i oi oj hi hj
  simp only [Bool.and_eq_true, Bool.not_eq_true', beq_eq_false_iff_ne, Array.all_eq_true_iff_forall_mem, List.all_eq_true, List.mem_range, Bool.or_eq_true, beq_iff_eq, Option.isNone_iff_eq_none] at hB
  obtain ⟨⟨⟨⟨hij, hg⟩, hx⟩, hdep⟩, hfree⟩ := hB
  have hilt : i < ops.size := (Array.getElem?_eq_some_iff.1 hi).1
  have down : ∀ {listed : Array Bool} {k : Nat}, k ∈ Region.ready md (plusEdge ops i j) listed → k ∈ Region.ready md ops listed := by
    intro listed k hk
    obtain ⟨h0, o, ho, hall⟩ := mem_ready.1 hk
    by_cases hkj : k = j
    · subst hkj
      rw [plusEdge_at, hj] at ho
      obtain rfl := Option.some.inj ho
      exact mem_ready.2 ⟨h0, oj, hj, fun e he hb => hall e (Array.mem_push.2 (.inl he)) hb⟩
    · rw [plusEdge_ne hkj] at ho
      exact mem_ready.2 ⟨h0, o, ho, hall⟩
  have upNe : ∀ {listed : Array Bool} {k : Nat}, k ≠ j → k ∈ Region.ready md ops listed → k ∈ Region.ready md (plusEdge ops i j) listed := by
    intro listed k hkj hk
    obtain ⟨h0, o, ho, hall⟩ := mem_ready.1 hk
    exact mem_ready.2 ⟨h0, o, by rw [plusEdge_ne hkj]; exact ho, hall⟩
  intro f
  induction f with
  | zero =>
    intro listed a w hsz h
    refine ⟨?_, h.2⟩
    rw [List.eq_nil_iff_forall_not_mem]
    intro k hk
    by_cases hkj : k = j
    · subst hkj
      by_cases hli : listed.getD i true = true
      · obtain ⟨h0, o, ho, hall⟩ := mem_ready.1 hk
        have : k ∈ Region.ready md (plusEdge ops i k) listed := by
          refine mem_ready.2 ⟨h0, _, by rw [plusEdge_at, ho]; rfl, fun e he hb => ?_⟩
          rcases Array.mem_push.1 he with he | rfl
          · exact hall e he hb
          · simp only [Array.getD_eq_getD_getElem?] at hli ⊢
            rw [Array.getElem?_eq_getElem (by omega)] at hli ⊢
            simpa using hli
        rw [h.1] at this
        cases this
      · -- i may come up too
        have hli : listed.getD i true = false := by simpa using hli
        obtain ⟨h0, o, ho, hall⟩ := mem_ready.1 hk
        obtain rfl : oj = o := Option.some.inj (hj.symm.trans ho)
        have : i ∈ Region.ready md (plusEdge ops i k) listed := upNe hij (mem_ready.2 ⟨hli, oi, hi, fun e he hb => by
          obtain ⟨e', he', hb', hon⟩ := waitsB_spec ((hdep e he).resolve_left (by simp [hb]))
          rw [← hon]; exact hall e' he' hb'⟩)
        rw [h.1] at this
        cases this
    · have := upNe hkj hk
      rw [h.1] at this
      cases this
  | succ f ih =>
    intro listed a w hsz h
    by_cases hri : i ∈ Region.ready md ops listed
    · have h1 := h.2 i (upNe hij hri)
      rw [wpOp_plusEdge] at h1
      unfold wpOp at h1
      simp only [hi] at h1
      have hwant : Region.wanted oi (yielded ops a.tmps) = true := by unfold Region.wanted; rw [hg]
      simp only [hwant, if_true] at h1
      rcases h1 with h1 | ⟨_, a', w', h1⟩
      case inr => exact absurd h1 (hO a' w')
      have hex : ∃ v, (∀ w, (execOp a.eval oi).run P w = .ok (.value v) w) ∧ wpAny P md (plusEdge ops i j) Q f (listed.setIfInBounds i true) (a.put oi.dst v) w := by
        unfold isExtract at hx
        split at hx
        · rename_i x n ho
          unfold Oper.wp at h1
          have hr : ∀ w, (execOp a.eval oi).run P w = ((Instr.extract (a.eval x) n).run P w).andThen fun v w => .ok (.value v) w := by
            intro w; simp [execOp, ho]
          rw [hr] at h1
          cases hv : a.eval x with
          | tuple vs =>
            cases hn : vs[n]? with
            | none =>
              rw [hv] at h1
              simp [Instr.extract, hn] at h1
              exact (h1 : False).elim
            | some u =>
              rw [hv] at h1
              simp only [Instr.extract, hn, Sem.run_pure, Result.andThen_ok, Oper.upon] at h1
              refine ⟨u, fun w => ?_, h1⟩
              rw [hr, hv]
              simp [Instr.extract, hn]
          | _ => rw [hv] at h1; exact (h1 : False).elim
        · rename_i x ho
          have hr : ∀ w, (execOp a.eval oi).run P w = .ok (.value (a.eval x)) w := fun w => by simp [execOp, ho]
          unfold Oper.wp at h1
          rw [hr] at h1
          exact ⟨a.eval x, hr, h1⟩
        · cases hx
      obtain ⟨v, hv, h2⟩ := hex
      refine wpAny_first hi (Region.noSelect_spec hsel) (fun c a w h => absurd h (hQ c _ w)) f listed a w ?_ hri (.inl ⟨hwant, hv⟩) (ih _ _ _ (by simpa using hsz) h2)
      intro k ok hk hki hun hno
      have hklt : k < ops.size := (Array.getElem?_eq_some_iff.1 hk).1
      have := hfree k hklt
      rw [hk] at this
      rcases this with h | h
      · exact absurd h hki
      simp only [Bool.or_eq_true] at h
      rcases h with (h | h) | h
      · obtain ⟨e, he, hb, hon⟩ := waitsB_spec h
        exact absurd hon (hno e he hb)
      · obtain ⟨e, he, hb, hon⟩ := waitsB_spec h
        obtain ⟨_, o, ho, hall⟩ := mem_ready.1 hri
        obtain rfl : oi = o := Option.some.inj (hi.symm.trans ho)
        have := hall e he hb
        rw [hon, getD_both hun] at this
        cases this
      · exact h
    · have same : ∀ {k : Nat}, k ∈ Region.ready md ops listed → k ∈ Region.ready md (plusEdge ops i j) listed := by
        intro k hk
        by_cases hkj : k = j
        · subst hkj
          obtain ⟨h0, o, ho, hall⟩ := mem_ready.1 hk
          obtain rfl : oj = o := Option.some.inj (hj.symm.trans ho)
          by_cases hli : listed.getD i true = true
          · refine mem_ready.2 ⟨h0, _, by rw [plusEdge_at, ho]; rfl, fun e he hb => ?_⟩
            rcases Array.mem_push.1 he with he | rfl
            · exact hall e he hb
            · simp only [Array.getD_eq_getD_getElem?] at hli ⊢
              rw [Array.getElem?_eq_getElem (by omega)] at hli ⊢
              simpa using hli
          · have hli : listed.getD i true = false := by simpa using hli
            exact absurd (mem_ready.2 ⟨hli, oi, hi, fun e he hb => by
              obtain ⟨e', he', hb', hon⟩ := waitsB_spec ((hdep e he).resolve_left (by simp [hb]))
              rw [← hon]; exact hall e' he' hb'⟩) hri
        · exact upNe hkj hk
      refine ⟨fun h0 => h.1 ?_, fun k hk => ?_⟩
      · rw [List.eq_nil_iff_forall_not_mem]
        intro k hk
        have := down hk
        rw [h0] at this
        cases this
      · have := h.2 k (same hk)
        rw [wpOp_plusEdge] at this
        exact wpOp_mono (fun a' w' h' => ih _ _ _ (by simpa using hsz) h') this
def plusEdges (ops : Array Oper) : List (Nat × Nat) → Array Oper
  | [] => ops
  | e :: es => plusEdges (plusEdge ops e.1 e.2) es
def edgesB (md : Region.Mode) (ops : Array Oper) : List (Nat × Nat) → Bool
  | [] => true
  | e :: es => edgeB md ops e.1 e.2 && Region.noSelect ops && edgesB md (plusEdge ops e.1 e.2) es
theorem wpAny_edges (hQ : ∀ c a w, ¬ Q (.panic c) a w) (hO : ∀ a w, ¬ Q .outgrown a w) : ∀ (es : List (Nat × Nat)) (ops : Array Oper), edgesB md ops es = true → (plusEdges ops es).size = ops.size ∧
    ∀ (f : Nat) (listed : Array Bool) (a : Act) (w : World), listed.size = ops.size → wpAny P md (plusEdges ops es) Q f listed a w → wpAny P md ops Q f listed a w := by
  intro es
  induction es with
  | nil => intro ops _; exact ⟨rfl, fun f listed a w _ h => h⟩
  | cons e es ih =>
    intro ops hB
    simp only [edgesB, Bool.and_eq_true] at hB
    obtain ⟨⟨h1, h2⟩, h3⟩ := hB
    have hs : (plusEdge ops e.1 e.2).size = ops.size := by simp [plusEdge]
    obtain ⟨h4, h5⟩ := ih _ h3
    exact ⟨h4.trans hs, fun f listed a w hsz h => wpAny_edge h1 h2 hQ hO f listed a w hsz (h5 f listed a w (by rw [hs]; exact hsz) h)⟩
/-- The first m quiet, operation m lays a block whenever it comes up, the others one behind the other, once some edges are added. -/
theorem wp_region_float {a : Act} {w : World} (es : List (Nat × Nat)) (m : Nat) {om : Oper} {obj : Obj} (hm : P.follows .mixedOrders = true) (hE : edgesB .any ops es = true) (hQ : ∀ c a w, ¬ Q (.panic c) a w) (hO : ∀ a w, ¬ Q .outgrown a w)
    (hB : Region.lexTailB .any (plusEdges ops es) (m + 1) = true) (hom : (plusEdges ops es)[m]? = some om) (hg : om.guard = none)
    (hrun : ∀ (a : Act) w, (execOp a.eval om).run P w = .ok (.value (ptrv w.heap.size)) (w.alloc obj))
    (h : wpSober P (plusEdges ops es) (Later w) (fun a' => ∀ w1, Later w w1 → ∀ w2, w2 = w1.alloc obj → ∀ w3, Later w2 w3 → wpList P (plusEdges ops es) Q ((plusEdges ops es).toList.drop (m + 1)) (a'.put om.dst (ptrv w1.heap.size)) w3) ((plusEdges ops es).toList.take m) a) : wpR P ops true Q a w := by
  obtain ⟨h1, h2⟩ := wpAny_edges (P := P) (Q := Q) hQ hO es ops hE
  refine wpR_any hm (h2 _ _ _ _ (by simp) ?_)
  have := wpAny_float m hB hom hg hrun h
  rwa [h1] at this
end
/-- The first n quiet, the others one behind the other, once some edges are added. -/
theorem wp_region_tail_edges {P : Program} {ops : Array Oper} {Q : Exit → Act → World → Prop} {a : Act} {w : World} (es : List (Nat × Nat)) (n : Nat) (hm : P.follows .mixedOrders = true) (hE : edgesB .any ops es = true) (hQ : ∀ c a w, ¬ Q (.panic c) a w) (hO : ∀ a w, ¬ Q .outgrown a w)
    (hB : Region.lexTailB .any (plusEdges ops es) n = true)
    (h : wpSober P (plusEdges ops es) (Later w) (fun a' => ∀ w', Later w w' → wpList P (plusEdges ops es) Q ((plusEdges ops es).toList.drop n) a' w') ((plusEdges ops es).toList.take n) a) : wpR P ops true Q a w := by
  obtain ⟨h1, h2⟩ := wpAny_edges (P := P) (Q := Q) hQ hO es ops hE
  refine wpR_any hm (h2 _ _ _ _ (by simp) ?_)
  have := wpAny_quiet_tail (C := Later w) (w := { w with drawn := w.drawn + 1 }) (Q := Q) n hB ((Below.refl _ _).drew) (wpSober_quiet (closed_later w) _ _ h)
  rwa [h1] at this
/-! ### operations among the others that turn the world, one behind the other: each other one is quiet in all the worlds in which it may come up -/
section
variable {P : Program} {ops : Array Oper} {md : Region.Mode} {C : Nat → World → Prop}
inductive PhK where
  | turn (q : Nat) | quiet (lo hi : Nat)
def isTurn (K : Option PhK) (q : Nat) : Bool := match K with | some (.turn p) => Nat.beq p q | _ => false
theorem isTurn_spec {K : Option PhK} {q : Nat} (h : isTurn K q = true) : K = some (.turn q) := by
  unfold isTurn at h
  split at h
  · rw [Nat.eq_of_beq_eq_true h]
  · cases h
theorem isTurn_mk (q : Nat) : isTurn (some (.turn q)) q = true := Nat.beq_refl q
def anyTurn (ops : Array Oper) (ks : List PhK) (q : Nat) (f : Nat → Bool) : Bool := (List.range ops.size).any fun t => isTurn ks[t]? q && f t
def waitsFor (md : Region.Mode) (ops : Array Oper) (t i : Nat) : Bool := match ops[t]? with | some o => waitsB md o i | none => false
def phOk (md : Region.Mode) (ops : Array Oper) (ks : List PhK) (k i : Nat) : Bool :=
  match ops[i]?, ks[i]? with
  | some o, some K => o.guard.isNone && o.after.all (fun e => !Region.binds md e || Nat.blt e.on i) &&
      (List.range i).all (fun j => match ops[j]? with | some oj => waitsB md o j || oj.apart ops o | none => false) &&
      (match K with
       | .turn q => Nat.blt q k && (Nat.beq q 0 || anyTurn ops ks (q - 1) (waitsB md o)) && (List.range ops.size).all (fun j => Nat.beq j i || !isTurn ks[j]? q)
       | .quiet lo hi => (Nat.beq lo 0 || anyTurn ops ks (lo - 1) (waitsB md o)) && (Nat.beq hi k || anyTurn ops ks hi (fun t => waitsFor md ops t i)))
  | _, _ => false
def phB (md : Region.Mode) (ops : Array Oper) (ks : List PhK) (k : Nat) : Bool :=
  Region.noSelect ops && (List.range ops.size).all (phOk md ops ks k) && (Nat.beq k 0 || anyTurn ops ks (k - 1) fun _ => true)
def PhC (C : Nat → World → Prop) (lo hi : Nat) (w : World) : Prop := ∃ p, lo ≤ p ∧ p ≤ hi ∧ C p w
def PStep (P : Program) (C : Nat → World → Prop) (o : Oper) (v : Value) (a : Act) : PhK → Prop
  | .turn q => ∀ w, C q w → ∃ w', ((execOp a.eval o).run P w = .ok (.value v) w' ∨ ((execOp a.eval o).run P w = .ok .skip w' ∧ v = undef)) ∧ C (q + 1) w'
  | .quiet lo hi => ∀ w, PhC C lo hi w → soberAt P o a w v
def phSeq (P : Program) (C : Nat → World → Prop) (ops : Array Oper) (ks : List PhK) (Q : Act → Prop) : List Nat → Act → Prop
  | [], a => Q a
  | i :: r, a => ∃ o K v, ops[i]? = some o ∧ ks[i]? = some K ∧ PStep P C o v a K ∧ phSeq P C ops ks Q r (a.put o.dst v)
theorem PStep.same {o : Oper} {v : Value} {a a' : Act} {K : PhK} (he : execOp a'.eval o = execOp a.eval o) (h : PStep P C o v a K) : PStep P C o v a' K := by
  cases K <;> simp only [PStep, soberAt] at * <;> rw [he] <;> exact h
theorem phSeq_pick {ks : List PhK} {Q : Act → Prop} (hsel : ∀ (j : Nat) (o : Oper) cs b, ops[j]? = some o → o.op ≠ .select cs b) {i : Nat} {oi : Oper} (hi : ops[i]? = some oi) :
    ∀ (rem : List Nat) (a : Act), i ∈ rem → rem.Nodup → (∀ j oj, j ∈ rem → ops[j]? = some oj → (j < i → oj.apart ops oi = true)) → rem.Pairwise (· < ·) → phSeq P C ops ks Q rem a →
      ∃ K v, ks[i]? = some K ∧ PStep P C oi v a K ∧ phSeq P C ops ks Q (rem.erase i) (a.put oi.dst v) := by
  intro rem
  induction rem with
  | nil => intro a h; cases h
  | cons j r ih =>
    intro a hin hnd hap hpw h
    obtain ⟨o, K, v, ho, hK, hs, hr⟩ := h
    by_cases hji : j = i
    · subst hji
      obtain rfl : o = oi := Option.some.inj (ho.symm.trans hi)
      exact ⟨K, v, hK, hs, by rw [List.erase_cons_head]; exact hr⟩
    · have hir : i ∈ r := by rcases List.mem_cons.1 hin with h | h
                             · exact absurd h.symm hji
                             · exact h
      have hlt : j < i := (List.pairwise_cons.1 hpw).1 i hir
      have ha := hap j o List.mem_cons_self ho hlt
      obtain ⟨q1, q2, q3⟩ := Oper.apart_spec ha
      obtain ⟨K', u, hK', hs', hr'⟩ := ih (a.put o.dst v) hir (List.nodup_cons.1 hnd).2 (fun j' oj' h' => hap j' oj' (List.mem_cons_of_mem _ h')) (List.pairwise_cons.1 hpw).2 hr
      refine ⟨K', u, hK', hs'.same (execOp_put oi (fun cs b => hsel i oi cs b hi) a o.dst v q1).symm, ?_⟩
      rw [List.erase_cons_tail (by simpa using hji)]
      refine ⟨o, K, v, ho, hK, hs.same (execOp_put o (fun cs b => hsel j o cs b ho) a oi.dst u q3), ?_⟩
      rw [Act.put_comm a u v (fun d hd hd' => q2 d hd' hd)]
      exact hr'
theorem anyTurn_spec {ks : List PhK} {q : Nat} {f : Nat → Bool} (h : anyTurn ops ks q f = true) : ∃ t, t < ops.size ∧ ks[t]? = some (.turn q) ∧ f t = true := by
  simp only [anyTurn, List.any_eq_true, List.mem_range, Bool.and_eq_true] at h
  obtain ⟨t, h1, h2, h3⟩ := h
  exact ⟨t, h1, isTurn_spec h2, h3⟩
theorem ph_any {ks : List PhK} {k : Nat} {Qa : Act → Prop} {Q : Exit → Act → World → Prop} (hB : phB md ops ks k = true) (hC : ∀ p, Closed (C p)) (hQ : ∀ a w, C k w → Qa a → Q .normal a w) :
    ∀ (n : Nat) (rem : List Nat) (listed : Array Bool) (a : Act) (w : World) (p : Nat), rem.length = n → (∀ i, i ∈ rem ↔ i < ops.size ∧ listed.getD i true = false) → rem.Nodup → rem.Pairwise (· < ·) → HeadInv md ops ops.size listed →
      (∀ t q, t < ops.size → ks[t]? = some (.turn q) → (listed.getD t false = true ↔ q < p)) → p ≤ k → C p w → phSeq P C ops ks Qa rem a → wpAny P md ops Q n listed a w := by
  simp only [phB, Bool.and_eq_true, List.all_eq_true, List.mem_range] at hB
  obtain ⟨⟨hsel, hok⟩, hlast⟩ := hB
  have hsel := Region.noSelect_spec hsel
  have both : ∀ (listed : Array Bool) (i : Nat), listed.size = ops.size → i < ops.size → (listed.getD i true = false ↔ listed.getD i false = false) := by
    intro listed i hs hi
    have : i < listed.size := by omega
    simp [this]
  intro n
  induction n with
  | zero =>
    intro rem listed a w p hlen hrem hnd hpw inv hph hpk hw h
    obtain rfl : rem = [] := List.length_eq_zero_iff.1 hlen
    have hnone : Region.ready md ops listed = [] := by
      rw [List.eq_nil_iff_forall_not_mem]
      intro i hi
      obtain ⟨h1, o, ho, _⟩ := mem_ready.1 hi
      have := (hrem i).2 ⟨(Array.getElem?_eq_some_iff.1 ho).1, h1⟩
      cases this
    refine ⟨hnone, hQ _ _ ?_ h⟩
    have : p = k := by
      rcases Bool.or_eq_true _ _ ▸ hlast with h0 | h0
      · have := Nat.eq_of_beq_eq_true h0; omega
      · obtain ⟨t, ht, hk, _⟩ := anyTurn_spec h0
        by_cases hk0 : k = 0
        · omega
        · have hl : listed.getD t false = true := by
            cases hh : listed.getD t false with
            | true => rfl
            | false =>
              have := (hrem t).2 ⟨ht, (both listed t inv.size ht).2 hh⟩
              cases this
          have := (hph t _ ht hk).1 hl
          omega
    subst this
    exact hw
  | succ n ih =>
    intro rem listed a w p hlen hrem hnd hpw inv hph hpk hw h
    refine ⟨fun h0 => ?_, fun i hi => ?_⟩
    · exfalso
      cases rem with
      | nil => cases hlen
      | cons i r =>
        obtain ⟨hi1, hi2⟩ := (hrem i).1 List.mem_cons_self
        have ho := Array.getElem?_eq_getElem hi1
        have : i ∈ Region.ready md ops listed := by
          refine mem_ready.2 ⟨hi2, _, ho, fun e he hb => ?_⟩
          have hk := hok i hi1
          unfold phOk at hk
          simp only [ho] at hk
          split at hk
          · rename_i o K ho' hK
            obtain rfl : ops[i] = o := Option.some.inj ho'
            simp only [Bool.and_eq_true, Array.all_eq_true_iff_forall_mem, Bool.or_eq_true, Bool.not_eq_true'] at hk
            have hlt : e.on < i := by
              rcases hk.1.1.2 e he with h | h
              · rw [hb] at h; cases h
              · simpa [Nat.blt_eq] using h
            cases hh : listed.getD e.on false with
            | true => rfl
            | false =>
              have hin := (hrem e.on).2 ⟨by omega, (both listed e.on inv.size (by omega)).2 hh⟩
              rcases List.mem_cons.1 hin with h | h
              · omega
              · have := (List.pairwise_cons.1 hpw).1 _ h; omega
          · cases hk
        rw [h0] at this; cases this
    obtain ⟨hun, o, ho, hall⟩ := mem_ready.1 hi
    have hin : i < ops.size := (Array.getElem?_eq_some_iff.1 ho).1
    have hk := hok i hin
    unfold phOk at hk
    split at hk
    case h_2 => cases hk
    rename_i o' K ho' hK
    obtain rfl : o' = o := Option.some.inj (ho'.symm.trans ho)
    simp only [Bool.and_eq_true, Array.all_eq_true_iff_forall_mem, Bool.or_eq_true, Bool.not_eq_true', List.all_eq_true, List.mem_range, Option.isNone_iff_eq_none] at hk
    obtain ⟨⟨⟨hg, hback⟩, hapart⟩, hkind⟩ := hk
    have hwant : Region.wanted o' (yielded ops a.tmps) = true := by unfold Region.wanted; rw [hg]
    have noWait : ∀ j, listed.getD j true = false → waitsB md o' j = false := by
      intro j hj
      cases hh : waitsB md o' j with
      | false => rfl
      | true =>
        obtain ⟨e, he, hb, rfl⟩ := waitsB_spec hh
        have := hall e he hb
        rw [getD_both hj] at this
        cases this
    obtain ⟨K', v, hK', hs, hr⟩ := phSeq_pick hsel ho rem a ((hrem i).2 ⟨hin, hun⟩) hnd (fun j oj hj hoj hlt => by
      have := hapart j hlt
      simp only [hoj, noWait j ((hrem j).1 hj).2, Bool.false_or] at this
      exact this) hpw h
    obtain rfl : K' = K := Option.some.inj (hK'.symm.trans hK)
    have hlen' : (rem.erase i).length = n := by rw [List.length_erase_of_mem ((hrem i).2 ⟨hin, hun⟩), hlen]; rfl
    have hrem' : ∀ j, j ∈ rem.erase i ↔ j < ops.size ∧ (listed.setIfInBounds i true).getD j true = false := by
      intro j
      rw [hnd.mem_erase_iff, hrem j]
      by_cases hij : i = j
      · subst hij
        have : i < listed.size := by rw [inv.size]; exact hin
        simp [this]
      · rw [getD_set_ne true hij]
        exact ⟨fun h => h.2, fun h => ⟨fun e => hij e.symm, h⟩⟩
    have inv' := inv.set hi hin
    have listedT : ∀ t, waitsB md o' t = true → listed.getD t false = true := by
      intro t ht
      obtain ⟨e, he, hb, rfl⟩ := waitsB_spec ht
      exact hall e he hb
    have hpw' : (rem.erase i).Pairwise (· < ·) := hpw.sublist List.erase_sublist
    have hnd' : (rem.erase i).Nodup := hnd.erase i
    unfold wpOp
    simp only [ho, hwant, if_true]
    refine .inl ?_
    unfold Oper.wp
    cases K' with
    | turn q =>
      simp only [Bool.and_eq_true, Bool.or_eq_true, List.all_eq_true, List.mem_range, Bool.not_eq_true'] at hkind
      obtain ⟨⟨hqk, hprev⟩, huniq⟩ := hkind
      have hqk := by simpa [Nat.blt_eq] using hqk
      have hge : ¬ q < p := fun hlt => by
        have := (hph i q hin hK).2 hlt
        rw [getD_both hun] at this; cases this
      have hle : q ≤ p := by
        rcases hprev with h0 | h0
        · have := Nat.eq_of_beq_eq_true h0; omega
        · obtain ⟨t, ht, hkt, hwt⟩ := anyTurn_spec h0
          have := (hph t _ ht hkt).1 (listedT t hwt)
          omega
      obtain rfl : q = p := by omega
      obtain ⟨w', hrun, hC'⟩ := hs w hw
      have next : wpAny P md ops Q n (listed.setIfInBounds i true) (a.put o'.dst v) w' := by
        refine ih (rem.erase i) _ _ _ (q + 1) hlen' hrem' hnd' hpw' inv' (fun t q' ht hkt => ?_) (by omega) hC' hr
        by_cases hti : i = t
        · subst hti
          obtain rfl : q' = q := by rw [hK] at hkt; cases hkt; rfl
          have : i < listed.size := by rw [inv.size]; exact hin
          simp [this]
        · rw [getD_set_ne false hti, hph t q' ht hkt]
          have : q' ≠ q := by
            rintro rfl
            rcases huniq t ht with h | h
            · exact hti (Nat.eq_of_beq_eq_true h).symm
            · rw [hkt, isTurn_mk] at h; cases h
          omega
      rcases hrun with hrun | ⟨hrun, rfl⟩ <;> rw [hrun] <;> exact next
    | quiet lo hi' =>
      simp only [Bool.and_eq_true, Bool.or_eq_true] at hkind
      obtain ⟨hlo, hhi⟩ := hkind
      have hlo : lo ≤ p := by
        rcases hlo with h0 | h0
        · have := Nat.eq_of_beq_eq_true h0; omega
        · obtain ⟨t, ht, hkt, hwt⟩ := anyTurn_spec h0
          have := (hph t _ ht hkt).1 (listedT t hwt)
          omega
      have hhi : p ≤ hi' := by
        rcases hhi with h0 | h0
        · have := Nat.eq_of_beq_eq_true h0; omega
        · obtain ⟨t, ht, hkt, hwt⟩ := anyTurn_spec h0
          unfold waitsFor at hwt
          split at hwt
          · rename_i ot hot
            obtain ⟨e, he, hb, rfl⟩ := waitsB_spec hwt
            have hnl : listed.getD t false = false := by
              cases hh : listed.getD t false with
              | false => rfl
              | true =>
                have := inv.closed t ot hot hh e he hb
                rw [getD_both hun] at this; cases this
            have : ¬ hi' < p := fun hlt => by
              have := (hph t _ ht hkt).2 hlt
              rw [hnl] at this; cases this
            omega
          · cases hwt
      have next : ∀ w', C p w' → wpAny P md ops Q n (listed.setIfInBounds i true) (a.put o'.dst v) w' := by
        intro w' hw'
        refine ih (rem.erase i) _ _ _ p hlen' hrem' hnd' hpw' inv' (fun t q' ht hkt => ?_) hpk hw' hr
        have hti : i ≠ t := by rintro rfl; rw [hK] at hkt; cases hkt
        rw [getD_set_ne false hti, hph t q' ht hkt]
      have hso := hs w ⟨p, hlo, hhi, hw⟩
      unfold soberAt at hso
      generalize (execOp a.eval o').run P w = r at hso
      cases r with
      | ok m w' =>
        cases m <;> simp only [soberUpon] at hso <;> simp only [Oper.upon]
        case value u => obtain ⟨rfl, rfl⟩ := hso; exact next _ hw
        case skip => obtain ⟨rfl, rfl⟩ := hso; exact next _ hw
        case enter f args =>
          obtain ⟨rfl, hc⟩ := hso
          exact hc.mono fun e w'' ⟨he, hl⟩ => by subst he; exact next _ (hC p _ _ hw hl)
      | halt x w' => simp only [soberUpon] at hso
theorem wp_region_ph {ks : List PhK} {k : Nat} {Qa : Act → Prop} {Q : Exit → Act → World → Prop} {a : Act} {w : World} (es : List (Nat × Nat)) (hm : P.follows .mixedOrders = true) (hE : edgesB .any ops es = true) (hq : ∀ c a w, ¬ Q (.panic c) a w) (hO : ∀ a w, ¬ Q .outgrown a w)
    (hB : phB .any (plusEdges ops es) ks k = true) (hC : ∀ p, Closed (C p)) (hQ : ∀ a w, C k w → Qa a → Q .normal a w)
    (hw : C 0 w) (h : phSeq P C (plusEdges ops es) ks Qa (List.range (plusEdges ops es).size) a) : wpR P ops true Q a w := by
  obtain ⟨h1, h2⟩ := wpAny_edges (P := P) (Q := Q) hq hO es ops hE
  refine wpR_any hm (h2 _ _ _ _ (by simp) ?_)
  have := ph_any hB hC hQ (plusEdges ops es).size (List.range (plusEdges ops es).size) (Array.replicate (plusEdges ops es).size false) a { w with drawn := w.drawn + 1 } 0 (by simp) (fun i => ?_) List.nodup_range List.pairwise_lt_range ⟨by simp, fun j oj _ hl => (by rw [getD_replicate_false] at hl; cases hl), fun t ht ht' => absurd ht' (by omega)⟩ (fun t q ht hk => ?_) (Nat.zero_le _) (hC 0 _ _ hw ((Below.refl _ w).drew)) h
  · rwa [h1] at this
  · rw [List.mem_range]
    exact ⟨fun h => ⟨h, getD_in (by simpa using h) (getD_replicate_false _ _)⟩, fun h => h.1⟩
  · rw [getD_replicate_false]
    simp
end
/-! ### new blocks among the first ones, in any order -/
section
variable {P : Program} {ops : Array Oper} {md : Region.Mode}
/-- What stands behind some new blocks. -/
def Good (w0 : World) (Fs : List (Nat × Obj)) (w : World) : Prop := Later w0 w ∧ (∀ x ∈ Fs, w0.heap.size ≤ x.1 ∧ w.heap[x.1]? = some x.2) ∧ (Fs.map (·.1)).Nodup
theorem Good.closed (w0 : World) (Fs : List (Nat × Obj)) : Closed (Good w0 Fs) := by
  intro w w' h hl
  refine ⟨closed_later _ _ _ h.1 hl, fun x hx => ⟨(h.2.1 x hx).1, ?_⟩, h.2.2⟩
  have hb := (h.2.1 x hx).2
  rw [hl.block x.1 (Array.getElem?_eq_some_iff.1 hb).1]
  exact hb
theorem Good.perm {w0 w : World} {Fs Fs' : List (Nat × Obj)} (hp : Fs.Perm Fs') (h : Good w0 Fs w) : Good w0 Fs' w :=
  ⟨h.1, fun x hx => h.2.1 x (hp.mem_iff.2 hx), (hp.map _).nodup_iff.1 h.2.2⟩
theorem Good.add {w0 w w' : World} {Fs : List (Nat × Obj)} {obj : Obj} (h : Good w0 Fs w) (hl : Later w w') (ho : w'.heap[w.heap.size]? = some obj) : Good w0 ((w.heap.size, obj) :: Fs) w' := by
  have h' := Good.closed w0 Fs _ _ h hl
  refine ⟨h'.1, fun x hx => ?_, ?_⟩
  · rcases List.mem_cons.1 hx with rfl | hx
    · exact ⟨h.1.size, ho⟩
    · exact h'.2.1 x hx
  · rw [List.map_cons, List.nodup_cons]
    refine ⟨?_, h.2.2⟩
    intro hm
    obtain ⟨x, hx, he⟩ := List.mem_map.1 hm
    have := (Array.getElem?_eq_some_iff.1 (h.2.1 x hx).2).1
    omega
/-- An operation that lays a block. -/
def Maker (P : Program) (o : Oper) (a : Act) (w0 : World) (val : Nat → Value) (obj : Obj) : Prop := ∀ w, Later w0 w → ∃ w', (execOp a.eval o).run P w = .ok (.value (val w.heap.size)) w' ∧ Later w w' ∧ w'.heap[w.heap.size]? = some obj
/-- An operation that has a value, the world as it was. -/
def plainAt (P : Program) (o : Oper) (a : Act) (w0 : World) (v : Value) : Prop := ∀ w, Later w0 w → (execOp a.eval o).run P w = .ok (.value v) w
inductive MixStep (P : Program) (w0 : World) (o : Oper) (a : Act) (next : List (Nat × Obj) → Act → Prop) (Fs : List (Nat × Obj)) : Prop where
  | plain (v : Value) (h : plainAt P o a w0 v) (hn : next Fs (a.put o.dst v)) : MixStep P w0 o a next Fs
  | make (val : Nat → Value) (obj : Obj) (h : Maker P o a w0 val obj) (hn : ∀ k, w0.heap.size ≤ k → next ((k, obj) :: Fs) (a.put o.dst (val k))) : MixStep P w0 o a next Fs
def mixAny (P : Program) (md : Region.Mode) (ops : Array Oper) (w0 : World) (n : Nat) (L : List (Nat × Obj) → Array Bool → Act → Prop) : Nat → Array Bool → List (Nat × Obj) → Act → Prop
  | 0, listed, Fs, a => L Fs listed a
  | f + 1, listed, Fs, a => Region.ready md ops listed ≠ [] ∧ ∀ i ∈ Region.ready md ops listed, i < n ∧ ∃ o, ops[i]? = some o ∧ o.guard = none ∧ MixStep P w0 o a (fun Fs' a' => mixAny P md ops w0 n L f (listed.setIfInBounds i true) Fs' a') Fs
theorem mixAny_perm {w0 : World} {n : Nat} {L : List (Nat × Obj) → Array Bool → Act → Prop} (hL : ∀ Fs Fs' l a, Fs.Perm Fs' → L Fs l a → L Fs' l a) : ∀ (f : Nat) (listed : Array Bool) (Fs Fs' : List (Nat × Obj)) (a : Act), Fs.Perm Fs' → mixAny P md ops w0 n L f listed Fs a → mixAny P md ops w0 n L f listed Fs' a := by
  intro f
  induction f with
  | zero => intro listed Fs Fs' a hp h; exact hL _ _ _ _ hp h
  | succ f ih =>
    intro listed Fs Fs' a hp h
    refine ⟨h.1, fun i hi => ?_⟩
    obtain ⟨hin, o, ho, hg, hs⟩ := h.2 i hi
    refine ⟨hin, o, ho, hg, ?_⟩
    cases hs with
    | plain v hv hn => exact .plain v hv (ih _ _ _ _ hp hn)
    | make val obj hv hn => exact .make val obj hv fun k hk => ih _ _ _ _ (hp.cons _) (hn k hk)
theorem mixAny_any {w0 : World} {n g : Nat} {L : List (Nat × Obj) → Array Bool → Act → Prop} {Q : Exit → Act → World → Prop} (hL : ∀ Fs listed a w, Good w0 Fs w → L Fs listed a → wpAny P md ops Q g listed a w) :
    ∀ (f : Nat) (listed : Array Bool) (Fs : List (Nat × Obj)) (a : Act) (w : World), Good w0 Fs w → mixAny P md ops w0 n L f listed Fs a → wpAny P md ops Q (f + g) listed a w := by
  intro f
  induction f with
  | zero => intro listed Fs a w hw h; rw [Nat.zero_add]; exact hL _ _ _ _ hw h
  | succ f ih =>
    intro listed Fs a w hw h
    rw [Nat.add_right_comm]
    refine ⟨fun h0 => absurd h0 h.1, fun i hi => ?_⟩
    obtain ⟨hin, o, ho, hg, hs⟩ := h.2 i hi
    unfold wpOp
    simp only [ho]
    have hwant : Region.wanted o (yielded ops a.tmps) = true := by unfold Region.wanted; rw [hg]
    simp only [hwant, if_true]
    refine .inl ?_
    unfold Oper.wp
    cases hs with
    | plain v hv hn =>
      rw [hv w hw.1]
      exact ih _ _ _ _ hw hn
    | make val obj hv hn =>
      obtain ⟨w', hr, hl, hb⟩ := hv w hw.1
      rw [hr]
      exact ih _ _ _ _ (hw.add hl hb) (hn w.heap.size hw.1.size)
/-- What a step asks of a state where one more value is at hand. -/
theorem plainAt_put {w0 : World} {o : Oper} {a : Act} {u v : Value} {d : Option Tmp} (hs : ∀ cs b, o.op ≠ .select cs b) (h : ∀ x, d = some x → x ∉ o.looksAt ops) : plainAt P o (a.put d u) w0 v ↔ plainAt P o a w0 v := by
  unfold plainAt
  rw [execOp_put o hs a d u h]
theorem Maker_put {w0 : World} {o : Oper} {a : Act} {u : Value} {val : Nat → Value} {obj : Obj} {d : Option Tmp} (hs : ∀ cs b, o.op ≠ .select cs b) (h : ∀ x, d = some x → x ∉ o.looksAt ops) : Maker P o (a.put d u) w0 val obj ↔ Maker P o a w0 val obj := by
  unfold Maker
  rw [execOp_put o hs a d u h]
theorem later_size (w0 : World) (k : Nat) (h : w0.heap.size ≤ k) : ∃ w, Later w0 w ∧ w.heap.size = k := by
  have go : ∀ d, ∃ w, Later w0 w ∧ w.heap.size = w0.heap.size + d := by
    intro d
    induction d with
    | zero => exact ⟨w0, Below.refl _ _, rfl⟩
    | succ d ih =>
      obtain ⟨w, h1, h2⟩ := ih
      exact ⟨w.alloc (.map #[] 0), Below.alloc h1 h1.size _, by rw [World.size_alloc, h2]; omega⟩
  obtain ⟨w, h1, h2⟩ := go (k - w0.heap.size)
  exact ⟨w, h1, by omega⟩
theorem mixAny_first {w0 : World} {n i : Nat} {oi : Oper} {L : List (Nat × Obj) → Array Bool → Act → Prop} (hLp : ∀ Fs Fs' l a, Fs.Perm Fs' → L Fs l a → L Fs' l a) (hi : ops[i]? = some oi) (hg : oi.guard = none) (hsel : ∀ (j : Nat) (o : Oper) cs b, ops[j]? = some o → o.op ≠ .select cs b)
    (hs : Region.sinkB md ops n = true) (hc : Region.chainB md ops n = true) (hn : n < ops.size) (hin : i < n) (hdone : ∀ Fs listed a, L Fs listed a → ∀ j ∈ Region.ready md ops listed, n ≤ j) :
    ∀ (f : Nat) (listed : Array Bool) (Fs : List (Nat × Obj)) (a : Act), HeadInv md ops n listed →
      (∀ j oj, ops[j]? = some oj → j ≠ i → listed.getD j true = false → (∀ e ∈ oj.after, Region.binds md e = true → e.on ≠ i) → oi.apart ops oj = true) →
      i ∈ Region.ready md ops listed → MixStep P w0 oi a (fun Fs' a' => mixAny P md ops w0 n L f (listed.setIfInBounds i true) Fs' a') Fs → mixAny P md ops w0 n L (f + 1) listed Fs a := by
  intro f
  induction f with
  | zero =>
    intro listed Fs a inv _ hr H
    refine ⟨fun h => (by rw [h] at hr; cases hr), fun j hj => ?_⟩
    have hjn : j < n := Nat.lt_of_not_le fun h => tail_waits hs hc hn inv _ i rfl hin (mem_ready.1 hr).1 j h hj
    refine ⟨hjn, ?_⟩
    by_cases hji : j = i
    · subst hji; exact ⟨oi, hi, hg, H⟩
    · have : ∃ Fs' a', L Fs' (listed.setIfInBounds i true) a' := by
        cases H with
        | plain v hv hn => exact ⟨_, _, hn⟩
        | make val obj hv hn => exact ⟨_, _, hn _ (Nat.le_refl _)⟩
      obtain ⟨Fs', a', hl⟩ := this
      exact absurd (hdone _ _ _ hl j (ready_mono hj hji)) (Nat.not_le_of_lt hjn)
  | succ f ih =>
    intro listed Fs a inv hfree hr H
    refine ⟨fun h => (by rw [h] at hr; cases hr), fun j hj => ?_⟩
    have hun := (mem_ready.1 hr).1
    have hjn : j < n := Nat.lt_of_not_le fun h => tail_waits hs hc hn inv _ i rfl hin hun j h hj
    refine ⟨hjn, ?_⟩
    by_cases hji : j = i
    · subst hji; exact ⟨oi, hi, hg, H⟩
    obtain ⟨hjun, oj, hoj, hall⟩ := mem_ready.1 hj
    have hnot : ∀ e ∈ oj.after, Region.binds md e = true → e.on ≠ i := by
      intro e he hb heq
      have h1 := hall e he hb
      rw [heq, getD_both hun] at h1
      cases h1
    obtain ⟨p1, p2, p3⟩ := Oper.apart_spec (hfree j oj hoj hji hjun hnot)
    have si := fun cs b => hsel i oi cs b hi
    have sj := fun cs b => hsel j oj cs b hoj
    have hfree' : ∀ k ok, ops[k]? = some ok → k ≠ i → (listed.setIfInBounds j true).getD k true = false → (∀ e ∈ ok.after, Region.binds md e = true → e.on ≠ i) → oi.apart ops ok = true := by
      intro k ok hk hki hkun hno
      refine hfree k ok hk hki ?_ hno
      by_cases hjk : j = k
      · subst hjk; exact hjun
      · rw [getD_set_ne true hjk] at hkun; exact hkun
    have go : ∀ Fs' u, MixStep P w0 oi (a.put oj.dst u) (fun Fs'' a'' => mixAny P md ops w0 n L f ((listed.setIfInBounds j true).setIfInBounds i true) Fs'' a'') Fs' → mixAny P md ops w0 n L (f + 1) (listed.setIfInBounds j true) Fs' (a.put oj.dst u) :=
      fun Fs' u h => ih _ _ _ (inv.set hj hjn) hfree' (ready_mono hr (Ne.symm hji)) h
    have hcomm := Array.setIfInBounds_comm (xs := listed) (i := i) (j := j) true true (Ne.symm hji)
    cases H with
    | plain v hv hn =>
      obtain ⟨_, oj', hoj', hgj, hst⟩ := hn.2 j (ready_mono hj hji)
      obtain rfl : oj = oj' := Option.some.inj (hoj.symm.trans hoj')
      refine ⟨oj, hoj, hgj, ?_⟩
      cases hst with
      | plain u hu hn2 =>
        refine .plain u ((plainAt_put sj p1).1 hu) (go _ _ (.plain v ((plainAt_put si p3).2 hv) ?_))
        rw [← Act.put_comm a v u p2, ← hcomm]
        exact hn2
      | make val obj hu hn2 =>
        refine .make val obj ((Maker_put sj p1).1 hu) fun k hk => go _ _ (.plain v ((plainAt_put si p3).2 hv) ?_)
        rw [← Act.put_comm a v (val k) p2, ← hcomm]
        exact hn2 k hk
    | make vi oi' hv hn =>
      obtain ⟨_, oj', hoj', hgj, hst⟩ := (hn _ (Nat.le_refl _)).2 j (ready_mono hj hji)
      obtain rfl : oj = oj' := Option.some.inj (hoj.symm.trans hoj')
      refine ⟨oj, hoj, hgj, ?_⟩
      have hl0 : Later w0 w0 := Below.refl _ _
      cases hst with
      | plain u hu _ =>
        have hu' := (plainAt_put sj p1).1 hu
        refine .plain u hu' (go _ _ (.make vi oi' ((Maker_put si p3).2 hv) fun k hk => ?_))
        obtain ⟨_, oj', hoj', _, hst⟩ := (hn k hk).2 j (ready_mono hj hji)
        obtain rfl : oj = oj' := Option.some.inj (hoj.symm.trans hoj')
        cases hst with
        | plain u2 hu2 hn2 =>
          have h1 := (plainAt_put sj p1).1 hu2 w0 hl0
          rw [hu' w0 hl0] at h1
          obtain rfl : u = u2 := by simpa using h1
          rw [← Act.put_comm a (vi k) u p2, ← hcomm]
          exact hn2
        | make val2 obj2 hu2 hn2 =>
          obtain ⟨w', h1, _, h3⟩ := (Maker_put sj p1).1 hu2 w0 hl0
          rw [hu' w0 hl0] at h1
          simp only [Result.ok.injEq, Next.value.injEq] at h1
          obtain ⟨_, rfl⟩ := h1
          have := (Array.getElem?_eq_some_iff.1 h3).1
          omega
      | make val obj hu _ =>
        have hu' := (Maker_put sj p1).1 hu
        refine .make val obj hu' fun k2 hk2 => go _ _ (.make vi oi' ((Maker_put si p3).2 hv) fun k hk => ?_)
        obtain ⟨_, oj', hoj', _, hst⟩ := (hn k hk).2 j (ready_mono hj hji)
        obtain rfl : oj = oj' := Option.some.inj (hoj.symm.trans hoj')
        obtain ⟨w2, hl2, hw2⟩ := later_size w0 k2 hk2
        obtain ⟨w', h1, _, h3⟩ := hu' w2 hl2
        cases hst with
        | plain u2 hu2 hn2 =>
          have h4 := (plainAt_put sj p1).1 hu2 w2 hl2
          rw [h1] at h4
          simp only [Result.ok.injEq, Next.value.injEq] at h4
          obtain ⟨_, rfl⟩ := h4
          have := (Array.getElem?_eq_some_iff.1 h3).1
          omega
        | make val2 obj2 hu2 hn2 =>
          obtain ⟨w'', h4, _, h5⟩ := (Maker_put sj p1).1 hu2 w2 hl2
          rw [h1] at h4
          simp only [Result.ok.injEq, Next.value.injEq] at h4
          obtain ⟨h6, rfl⟩ := h4
          rw [hw2] at h6 h3 h5
          rw [h3] at h5
          obtain rfl : obj = obj2 := Option.some.inj h5
          have := hn2 k2 hk2
          rw [← h6] at this
          rw [← Act.put_comm a (vi k) (val k2) p2, ← hcomm]
          exact mixAny_perm hLp _ _ _ _ _ (List.Perm.swap _ _ _) this
/-- The first n plain, or laying blocks, in whatever order they come up; the others one behind the other. -/
def wpMix (P : Program) (ops : Array Oper) (w0 : World) (Q : List (Nat × Obj) → Act → Prop) : List Oper → List (Nat × Obj) → Act → Prop
  | [], Fs, a => Q Fs a
  | o :: rest, Fs, a => o.guard = none ∧ MixStep P w0 o a (fun Fs' a' => wpMix P ops w0 Q rest Fs' a') Fs
theorem MixStep.mono {w0 : World} {o : Oper} {a : Act} {next next' : List (Nat × Obj) → Act → Prop} {Fs : List (Nat × Obj)} (h : ∀ Fs a, next Fs a → next' Fs a) (hh : MixStep P w0 o a next Fs) : MixStep P w0 o a next' Fs := by
  cases hh with
  | plain v hv hn => exact .plain v hv (h _ _ hn)
  | make val obj hv hn => exact .make val obj hv fun k hk => h _ _ (hn k hk)
theorem mixAny_lex {w0 : World} {n g : Nat} {Lq : List (Nat × Obj) → Act → Prop} (hLp : ∀ Fs Fs' a, Fs.Perm Fs' → Lq Fs a → Lq Fs' a) (hsel : Region.noSelect ops = true) (hs : Region.sinkB md ops n = true) (hc : Region.chainB md ops n = true) (hn : n < ops.size) :
    ∀ (l : List Oper) (k : Nat) (listed : Array Bool) (Fs : List (Nat × Obj)) (a : Act), (∀ j, j < l.length → l[j]? = ops[k + j]?) → k + l.length = n → HeadInv md ops n listed → Region.lexHead md ops g l.length k listed = true →
      wpMix P ops w0 Lq l Fs a → mixAny P md ops w0 n (fun Fs' listed' a' => Region.seqB md ops g n listed' = true ∧ Lq Fs' a') l.length listed Fs a := by
  intro l
  induction l with
  | nil =>
    intro k listed Fs a _ hk _ hB h
    obtain rfl : k = n := by simpa using hk
    exact ⟨by simpa [Region.lexHead] using hB, h⟩
  | cons o l ih =>
    intro k listed Fs a hl hk inv hB h
    have h0 : ops[k]? = some o := by simpa using (hl 0 (by simp)).symm
    simp only [List.length_cons, Region.lexHead, Bool.and_eq_true] at hB
    obtain ⟨⟨hr, hf⟩, hB'⟩ := hB
    have hkn : k < n := by simp only [List.length_cons] at hk; omega
    have hr' : k ∈ Region.ready md ops listed := by simpa using hr
    refine mixAny_first (fun Fs Fs' l a hp h => ⟨h.1, hLp _ _ _ hp h.2⟩) h0 h.1 (Region.noSelect_spec hsel) hs hc hn hkn (fun Fs' listed' a' hL => seqB_ready hL.1) l.length listed Fs a inv (Region.free_spec h0 hf) hr' (h.2.mono fun Fs' a' h' => ?_)
    refine ih (k + 1) _ _ _ (fun j hj => ?_) (by simp only [List.length_cons] at hk; omega) (inv.set hr' hkn) hB' h'
    have := hl (j + 1) (by simp; omega)
    simpa [Nat.add_assoc, Nat.add_comm 1 j] using this
theorem wp_region_mix {Q : Exit → Act → World → Prop} {a : Act} {w : World} (n : Nat) (hm : P.follows .mixedOrders = true) (hB : Region.lexTailB .any ops n = true)
    (h : wpMix P ops w (fun Fs a' => ∀ w', Good w Fs w' → wpList P ops Q (ops.toList.drop n) a' w') (ops.toList.take n) [] a) : wpR P ops true Q a w := by
  simp only [Region.lexTailB, Bool.and_eq_true, decide_eq_true_eq] at hB
  obtain ⟨⟨⟨⟨hsel, hn⟩, hs⟩, hc⟩, hlex⟩ := hB
  have htl : (ops.toList.take n).length = n := by simp; omega
  have hdl : (ops.toList.drop n).length = ops.size - n := by simp
  have inv0 : HeadInv .any ops n (Array.replicate ops.size false) :=
    ⟨by simp, fun j oj _ hl => (by rw [getD_replicate_false] at hl; cases hl), fun t _ ht => getD_in (by simpa using ht) (getD_replicate_false _ _)⟩
  have H := mixAny_lex (md := .any) (g := ops.size - n) (fun Fs Fs' a hp h w' hg => h w' (hg.perm hp.symm)) hsel hs hc hn (ops.toList.take n) 0 (Array.replicate ops.size false) [] a
    (fun j hj => by
      rw [htl] at hj
      simp [hj]) (by simpa using htl) inv0 (by rw [htl]; exact hlex) h
  refine wpR_any hm ?_
  have hg0 : Good w [] { w with drawn := w.drawn + 1 } := ⟨Below.drew (Below.refl _ _), by simp, by simp⟩
  have := mixAny_any (Q := Q) (g := ops.size - n) (fun Fs listed a' w' hw' hL => by
    have := wpAny_of_seq (md := .any) (Q' := Q) (ops.toList.drop n) n listed a' w' (fun j => by simp [List.getElem?_drop]) (by rw [hdl]; exact hL.1) (hL.2 w' hw')
    rwa [hdl] at this) _ _ _ _ _ hg0 H
  rw [htl, show n + (ops.size - n) = ops.size by omega] at this
  exact this
end
end Go.Vc

/-
A generator of verification conditions over the model, fourth part: that the conditions of operations, regions and code give the model's.
Conditions: none; all is proved over any program.
-/
namespace Go.Vc
open Go.RowKit
variable {ds : List Deferred}

def actD (ds : List Deferred) (tm : List Value) : Act := { tmps := tm.toArray, defers := ds }
def putl (dst : Option Tmp) (tm : List Value) (v : Value) : List Value := match dst with | some d => tm.set d v | none => tm
theorem eval_act (tm : List Value) : (actD ds tm).eval = ev tm := by
  funext x
  cases x <;> simp [actD, Act.eval, ev]
theorem put_act (tm : List Value) (dst : Option Tmp) (v : Value) : (actD ds tm).put dst v = actD ds (putl dst tm v) := by
  cases dst <;> simp [actD, Act.put, putl]

theorem opV_wp {P : Program} {pan : Bool} {lets : List Nat} {o : Oper} {tm : List Value} {w : World} {K : Value → World → Prop} {KP : List PanicEntry → World → Prop} {next : Act → World → Prop} {Q : Exit → Act → World → Prop}
    (h : opV P pan lets o tm w K KP) (hK : ∀ v w', K v w' → next (actD ds (putl o.dst tm v)) w') (hP : ∀ c w', KP c w' → Q (.panic c) (actD ds tm) w') : o.wp P (actD ds tm) w next Q := by
  unfold Oper.wp
  rw [eval_act]
  have val : ∀ v w', (execOp (ev tm) o).run P w = .ok (.value v) w' → K v w' → o.upon P (actD ds tm) next Q ((execOp (ev tm) o).run P w) := by
    intro v w' hr hv
    rw [hr, Oper.upon_value, put_act]
    exact hK v w' hv
  have skip : ∀ w', (execOp (ev tm) o).run P w = .ok .skip w' → K undef w' → o.upon P (actD ds tm) next Q ((execOp (ev tm) o).run P w) := by
    intro w' hr hv
    rw [hr, Oper.upon_skip, put_act]
    exact hK _ w' hv
  have sem : ∀ s, semOf tm o = some s → ∀ v w', s.run P w = .ok v w' → K v w' → o.upon P (actD ds tm) next Q ((execOp (ev tm) o).run P w) := by
    intro s hs v w' hr hv
    obtain ⟨h1, h2⟩ := semOf_run hs hr
    cases hu : isUnit o.op with
    | true => rw [hu] at h1; rw [h2 hu] at hv; exact skip w' h1 hv
    | false => rw [hu] at h1; exact val v w' h1 hv
  have call : ∀ f args, (execOp (ev tm) o).run P w = .ok (.enter f args) w → Calls P f args w (callR P o.type pan K KP) → o.upon P (actD ds tm) next Q ((execOp (ev tm) o).run P w) := by
    intro f args hr hc
    rw [hr, Oper.upon_enter]
    refine hc.mono fun e w' he => ?_
    rcases callR_cases he with ⟨v, rfl, hv⟩ | ⟨c, rfl, hc⟩
    · show next ((actD ds tm).put o.dst v) w'
      rw [put_act]; exact hK v w' hv
    · exact hP c w' hc
  unfold opV at h
  split at h
  · rename_i t ht
    split at h
    · obtain ⟨v, h1, h2⟩ := pureT_sound ht h
      exact val v w (h2 w) (letV_elim h1)
    · obtain ⟨v, h1, h2⟩ := pureT_sound ht h
      exact val v w (h2 w) h1
  · split at h
    · rename_i t len parts ho
      have h' : buildSliceV P t len (parts.map fun (i, x) => (i, ev tm x)).toList w K := by simpa using h
      obtain ⟨v, w', h1, h2⟩ := buildSliceV_run h'
      exact val v w' (by simp [execOp, ho, h2]) h1
    · rename_i t a ho
      split at h
      · rename_i p he
        obtain ⟨ad, rfl, hL⟩ := Deref_elim h
        obtain ⟨v, h1, h2⟩ := loadV_run hL
        refine val v w ?_ h1
        simp only [execOp, ho, he, Instr.loadAt, Instr.sureAddr, Sem.run_bind, Sem.run_pure, Result.andThen_ok, h2 w (fun _ h => h) (fun _ h => h)]
      · exact h.elim
    · rename_i t a x ho
      split at h
      · rename_i p he
        obtain ⟨ad, rfl, hL⟩ := Deref_elim h
        unfold storeV at hL
        cases hu : P.underlying t with
        | none => simp only [hu] at hL
        | some d =>
          cases hn : cellsT P t with
          | none => simp only [hu, hn] at hL
          | some n =>
            simp only [hu, hn] at hL
            cases hag : isAggT P t with
            | true =>
              simp only [hag] at hL
              rcases cnd_cases hL with ⟨hs, h1, h2⟩ | ⟨_, h⟩
              · have hs := of_decide_eq_true hs
                refine skip _ ?_ (h2 _ rfl)
                simp only [execOp, ho, he, Instr.storeAt, Instr.sureAddr, Sem.run_bind, Sem.run_pure, Result.andThen_ok, storeVar, run_sizeOf hn, hs, ne_eq, not_true_eq_false, if_false, run_storeCells _ _ _ h1]
              · exact h.elim
            | false =>
              simp only [hag] at hL
              rcases cnd_cases hL with ⟨hs, hL⟩ | ⟨_, h⟩
              · have hs := of_decide_eq_true hs
                rcases cnd_cases hL with ⟨ho1, ⟨hc, hf⟩, h2⟩ | ⟨_, h⟩
                · refine skip _ ?_ (h2 _ rfl)
                  have hcells : (ev tm x).cells = #[ev tm x] := by cases hv : ev tm x <;> simp [hv, Value.oneCell'] at ho1 <;> rfl
                  obtain ⟨u, hu'⟩ := Option.isSome_iff_exists.1 hc
                  simp only [execOp, ho, he, Instr.storeAt, Instr.sureAddr, Sem.run_bind, Sem.run_pure, Result.andThen_ok, storeVar, run_sizeOf hn, hcells, hs, ne_eq, List.size_toArray, List.length_cons, List.length_nil, not_true_eq_false, if_false]
                  have ha0 : ad.add 0 = ad := rfl
                  simp only [storeCells, Sem.run_bind, ha0, run_store P w ad _ _ ho1, hu', hf, Bool.false_eq_true, if_false, Result.andThen_ok, Sem.run_pure]
                · exact h.elim
              · exact h.elim
      · exact h.elim
    · rename_i e ho
      split at h
      · rename_i i hi
        obtain ⟨z, hz, h⟩ := IsSome_elim h
        refine val _ _ ?_ (h _ rfl)
        simp [execOp, ho, Instr.alloc, run_zeroValue hi hz, newVar, newRow]
      · exact h.elim
    · rename_i e x ho
      refine val _ _ ?_ (h _ rfl)
      simp [execOp, ho, Instr.box, newVar, newRow]
    · rename_i x ho
      split at h
      · rename_i p he
        obtain ⟨ad, rfl, hL⟩ := Deref_elim h
        refine val _ w ?_ hL
        simp [execOp, ho, he]
      · exact h.elim
    · rename_i x ho
      split at h
      · rename_i v w' hr
        have : (execOp (ev tm) o).run P w = .halt (.panic v) w' := by
          simp only [execOp, ho, Sem.run_bind, hr, Result.andThen_halt]
        rw [this, Oper.upon_panic]
        exact hP _ _ h
      · exact h.elim
    · rename_i c ho
      split at h
      · rename_i s hs
        obtain ⟨v, w', h1, h2⟩ := RunsV_elim h
        obtain ⟨x, _, rfl, hk⟩ := Shape.ex_elim h2
        exact sem s hs v w' h1 hk
      · obtain ⟨f, args, hc, hr⟩ := calleeV_elim (P := P) ho h
        rcases cnd_cases hc with ⟨he, hc⟩ | ⟨_, hc⟩
        · exact call f args ((hr w).trans (run_callFunc he w)) hc
        · obtain ⟨v, w', h1, h2⟩ := RunsC_elim hc
          obtain ⟨x, rfl, hk⟩ := retEx_elim h2
          exact val v w' ((hr w).trans h1) hk
    · split at h
      · rename_i s hs
        split at h
        · rename_i hu
          obtain ⟨v, w', h1, h2⟩ := RunsV_elim h
          obtain ⟨h3, h4⟩ := semOf_run hs h1
          rw [hu] at h3
          exact skip w' h3 h2
        · obtain ⟨v, w', h1, h2⟩ := RunsV_elim h
          obtain ⟨x, rfl, hk⟩ := exT_elim h2
          exact sem s hs v w' h1 hk
      · exact h.elim

/-! ### regions -/
/-- The slot that a guard asks. -/
def guardSlot (ops : Array Oper) (j : Nat) : Option Tmp := (ops[j]?).bind (·.dst)
def opsV (P : Program) (pan : Bool) (lets : List Nat) (ops : Array Oper) (Q : Exit → List Value → World → Prop) : List Oper → List Value → World → Prop
  | [], tm, w => Q .normal tm w
  | o :: rest, tm, w =>
    match o.guard with
    | none => opV P pan lets o tm w (fun v w' => opsV P pan lets ops Q rest (putl o.dst tm v) w') (fun c w' => Q (.panic c) tm w')
    | some (j, want) => IsSome (guardSlot ops j) fun d => (match tm.getD d undef with
        | .bool b => (match want with
            | true => cnd b (opV P pan lets o (tm.set d (.bool true)) w (fun v w' => opsV P pan lets ops Q rest (putl o.dst (tm.set d (.bool true)) v) w') (fun c w' => Q (.panic c) (tm.set d (.bool true)) w'))
                (opsV P pan lets ops Q rest (putl o.dst (tm.set d (.bool false)) undef) w)
            | false => cnd b (opsV P pan lets ops Q rest (putl o.dst (tm.set d (.bool true)) undef) w)
                (opV P pan lets o (tm.set d (.bool false)) w (fun v w' => opsV P pan lets ops Q rest (putl o.dst (tm.set d (.bool false)) v) w') (fun c w' => Q (.panic c) (tm.set d (.bool false)) w')))
        | _ => cnd (decide (d < tm.length)) (opsV P pan lets ops Q rest (putl o.dst tm undef) w) False)
def upD (ds : List Deferred) (Q : Exit → List Value → World → Prop) : Exit → Act → World → Prop := fun e a w => a.defers = ds ∧ Q e a.tmps.toList w
theorem up_act {Q : Exit → List Value → World → Prop} {e : Exit} {tm : List Value} {w : World} (h : Q e tm w) : upD ds Q e (actD ds tm) w := ⟨rfl, by simpa [actD] using h⟩
theorem act_of {a : Act} (h : a.defers = ds) : a = actD ds a.tmps.toList := by cases a; simp only at h; subst h; simp [actD]

theorem set_same {tm : List Value} {d : Nat} {v : Value} (h : tm.getD d undef = v) : tm.set d v = tm := by
  subst h
  apply List.ext_getElem?
  intro i
  rw [List.getElem?_set]
  by_cases hi : d = i
  · subst hi
    by_cases hl : d < tm.length
    · simp [hl, List.getD]
    · simp [hl]
  · simp [hi]
theorem wanted_guard {ops : Array Oper} {o : Oper} {j : Nat} {want : Bool} (hg : o.guard = some (j, want)) {d : Tmp} (hd : guardSlot ops j = some d) {tm : List Value} :
    Region.wanted o (yielded ops (actD ds tm).tmps) = (match tm[d]? with | some (.bool b) => b == want | _ => false) := by
  unfold Region.wanted
  rw [hg]
  simp only [yielded]
  unfold guardSlot at hd
  rw [hd]
  simp only [Option.bind_some, actD, List.getElem?_toArray]
  cases h : tm[d]? with
  | none => simp
  | some v => cases v <;> first | rfl | (rename_i b; cases b <;> cases want <;> rfl)
theorem opsV_wp {P : Program} {pan : Bool} {lets : List Nat} {ops : Array Oper} {Q : Exit → List Value → World → Prop} : ∀ (l : List Oper) (tm : List Value) (w : World), opsV P pan lets ops Q l tm w → wpList P ops (upD ds Q) l (actD ds tm) w := by
  intro l
  induction l with
  | nil => intro tm w h; exact wpList_nil (up_act h)
  | cons o rest ih =>
    intro tm w h
    have exec : ∀ tm', tm' = tm → Region.wanted o (yielded ops (actD ds tm).tmps) = true →
        opV P pan lets o tm' w (fun v w' => opsV P pan lets ops Q rest (putl o.dst tm' v) w') (fun c w' => Q (.panic c) tm' w') → wpList P ops (upD ds Q) (o :: rest) (actD ds tm) w := by
      intro tm' he hw ho
      subst he
      unfold wpList
      rw [if_pos hw]
      exact .inl (opV_wp ho (fun v w' hv => ih _ _ hv) (fun c w' hc => up_act hc))
    have skip : ∀ tm', tm' = tm → Region.wanted o (yielded ops (actD ds tm).tmps) = false → opsV P pan lets ops Q rest (putl o.dst tm' undef) w → wpList P ops (upD ds Q) (o :: rest) (actD ds tm) w := by
      intro tm' he hw ho
      subst he
      unfold wpList
      rw [if_neg (by simp [hw]), put_act]
      exact ih _ _ ho
    unfold opsV at h
    split at h
    · rename_i hg
      exact exec tm rfl (by simp [Region.wanted, hg]) h
    · rename_i j want hg
      obtain ⟨d, hd, h⟩ := IsSome_elim h
      have hw := wanted_guard (ds := ds) (ops := ops) hg hd (tm := tm)
      split at h
      · rename_i b hb
        have hsome : tm[d]? = some (.bool b) := by
          cases hh : tm[d]? with
          | none => simp [List.getD, hh, undef] at hb
          | some v => simp [List.getD, hh] at hb; rw [hb]
        rw [hsome] at hw
        cases b <;> cases want <;> simp only [cnd] at h
        · exact exec _ (set_same hb) (by simpa using hw) h
        · exact skip _ (set_same hb) (by simpa using hw) h
        · exact skip _ (set_same hb) (by simpa using hw) h
        · exact exec _ (set_same hb) (by simpa using hw) h
      · rename_i hne
        rcases cnd_cases h with ⟨_, h⟩ | ⟨_, h⟩
        · refine skip tm rfl ?_ h
          rw [hw]
          split
          · rename_i b hb
            exact absurd (by simp [List.getD, hb]) (hne b)
          · rfl
        · exact h.elim

/-! ### regions that draw their order, and only read -/
def qOpV (P : Program) (C : World → Prop) (o : Oper) (tm : List Value) (K : Value → Prop) : Prop :=
  match pureT P tm o with
  | some t => t.run K
  | none => (match o.op with
    | .load t a => (match ev tm a with
        | .pointer p => Deref p fun ad => loadV P t (fun a i l => ∀ w', C w' → CellsAt w' a i l) (fun a v => ∀ w', C w' → w'.cell? a = some v) ad K
        | _ => False)
    | .nilCheck x => (match ev tm x with
        | .pointer p => Deref p fun a => K (.pointer (some a))
        | _ => False)
    | .call c => (match semOf tm o with
        | some s => (typeShape P o.type).ex fun v => (∀ w', C w' → s.run P w' = .ok v w') ∧ K v
        | none => calleeV tm c fun f args => cnd (entersB P f) (retEx P o.type fun v => (∀ w', C w' → Calls P f args w' fun e w'' => e = .returned v ∧ Later w' w'') ∧ K v) False)
    | _ => (match semOf tm o with
        | some s => (match isUnit o.op with
            | true => False
            | false => retEx P o.type fun v => (∀ w', C w' → s.run P w' = .ok v w') ∧ K v)
        | none => False))
def qOpsV (P : Program) (ops : Array Oper) (C : World → Prop) (Q : List Value → Prop) : List Oper → List Value → Prop
  | [], tm => Q tm
  | o :: rest, tm =>
    match o.guard with
    | none => qOpV P C o tm (fun v => qOpsV P ops C Q rest (putl o.dst tm v))
    | some (j, want) => IsSome (guardSlot ops j) fun d => (match tm.getD d undef with
        | .bool b => (match want with
            | true => cnd b (qOpV P C o (tm.set d (.bool true)) (fun v => qOpsV P ops C Q rest (putl o.dst (tm.set d (.bool true)) v)))
                (qOpsV P ops C Q rest (putl o.dst (tm.set d (.bool false)) undef))
            | false => cnd b (qOpsV P ops C Q rest (putl o.dst (tm.set d (.bool true)) undef))
                (qOpV P C o (tm.set d (.bool false)) (fun v => qOpsV P ops C Q rest (putl o.dst (tm.set d (.bool false)) v))))
        | _ => cnd (decide (d < tm.length)) (qOpsV P ops C Q rest (putl o.dst tm undef)) False)
theorem qOpV_sober {P : Program} {C : World → Prop} {o : Oper} {tm : List Value} {K : Value → Prop} {next : Act → Prop} (h : qOpV P C o tm K) (hK : ∀ v, K v → next (actD ds (putl o.dst tm v))) :
    sober P o (actD ds tm) C next := by
  unfold sober soberAt
  rw [eval_act]
  have val : ∀ v, (∀ w', C w' → (execOp (ev tm) o).run P w' = .ok (.value v) w') → K v → ∃ v, (∀ w', C w' → soberUpon P w' v ((execOp (ev tm) o).run P w')) ∧ next ((actD ds tm).put o.dst v) := by
    intro v hr hv
    refine ⟨v, fun w' hw' => ?_, by rw [put_act]; exact hK v hv⟩
    rw [hr w' hw']
    exact ⟨rfl, rfl⟩
  have sem : ∀ s, semOf tm o = some s → isUnit o.op = false → ∀ v, (∀ w', C w' → s.run P w' = .ok v w') → K v → ∃ v, (∀ w', C w' → soberUpon P w' v ((execOp (ev tm) o).run P w')) ∧ next ((actD ds tm).put o.dst v) := by
    intro s hs hu v hr hv
    refine val v (fun w' hw' => ?_) hv
    have := (semOf_run hs (hr w' hw')).1
    rwa [hu] at this
  unfold qOpV at h
  split at h
  · rename_i t ht
    obtain ⟨v, h1, h2⟩ := pureT_sound ht h
    exact val v (fun w' _ => h2 w') h1
  · split at h
    · rename_i t a ho
      split at h
      · rename_i p he
        obtain ⟨ad, rfl, hL⟩ := Deref_elim h
        obtain ⟨v, h1, h2⟩ := loadV_run hL
        refine val v (fun w' hw' => ?_) h1
        simp only [execOp, ho, he, Instr.loadAt, Instr.sureAddr, Sem.run_bind, Sem.run_pure, Result.andThen_ok, h2 w' (fun _ h => h w' hw') (fun _ h => h w' hw')]
      · exact h.elim
    · rename_i x ho
      split at h
      · rename_i p he
        obtain ⟨ad, rfl, hL⟩ := Deref_elim h
        refine val _ (fun w' hw' => ?_) hL
        simp [execOp, ho, he]
      · exact h.elim
    · rename_i c ho
      split at h
      · rename_i s hs
        obtain ⟨v, _, h1, h2⟩ := Shape.ex_elim h
        exact sem s hs (by rw [ho]; rfl) v h1 h2
      · obtain ⟨f, args, hc, hr⟩ := calleeV_elim (P := P) ho h
        rcases cnd_cases hc with ⟨he, hc⟩ | ⟨_, hc⟩
        · obtain ⟨v, h1, h2⟩ := retEx_elim hc
          refine ⟨v, fun w' hw' => ?_, by rw [put_act]; exact hK v h2⟩
          rw [(hr w').trans (run_callFunc he w')]
          exact ⟨rfl, h1 w' hw'⟩
        · exact hc.elim
    · split at h
      · rename_i s hs
        split at h
        · exact h.elim
        · rename_i hu
          obtain ⟨v, h1, h2⟩ := retEx_elim h
          exact sem s hs hu v h1 h2
      · exact h.elim
theorem qOpsV_wp {P : Program} {ops : Array Oper} {C : World → Prop} {Q : List Value → Prop} {Q' : Act → Prop} (hQ : ∀ tm, Q tm → Q' (actD ds tm)) : ∀ (l : List Oper) (tm : List Value), qOpsV P ops C Q l tm → wpSober P ops C Q' l (actD ds tm) := by
  intro l
  induction l with
  | nil => intro tm h; exact hQ _ h
  | cons o rest ih =>
    intro tm h
    have exec : ∀ tm', tm' = tm → Region.wanted o (yielded ops (actD ds tm).tmps) = true →
        qOpV P C o tm' (fun v => qOpsV P ops C Q rest (putl o.dst tm' v)) → wpSober P ops C Q' (o :: rest) (actD ds tm) := by
      intro tm' he hw ho
      subst he
      unfold wpSober
      rw [if_pos hw]
      exact qOpV_sober ho fun v hv => ih _ hv
    have skip : ∀ tm', tm' = tm → Region.wanted o (yielded ops (actD ds tm).tmps) = false → qOpsV P ops C Q rest (putl o.dst tm' undef) → wpSober P ops C Q' (o :: rest) (actD ds tm) := by
      intro tm' he hw ho
      subst he
      unfold wpSober
      rw [if_neg (by simp [hw]), put_act]
      exact ih _ ho
    unfold qOpsV at h
    split at h
    · rename_i hg
      exact exec tm rfl (by simp [Region.wanted, hg]) h
    · rename_i j want hg
      obtain ⟨d, hd, h⟩ := IsSome_elim h
      have hw := wanted_guard (ds := ds) (ops := ops) hg hd (tm := tm)
      split at h
      · rename_i b hb
        have hsome : tm[d]? = some (.bool b) := by
          cases hh : tm[d]? with
          | none => simp [List.getD, hh, undef] at hb
          | some v => simp [List.getD, hh] at hb; rw [hb]
        rw [hsome] at hw
        cases b <;> cases want <;> simp only [cnd] at h
        · exact exec _ (set_same hb) (by simpa using hw) h
        · exact skip _ (set_same hb) (by simpa using hw) h
        · exact skip _ (set_same hb) (by simpa using hw) h
        · exact exec _ (set_same hb) (by simpa using hw) h
      · rename_i hne
        rcases cnd_cases h with ⟨_, h⟩ | ⟨_, h⟩
        · refine skip tm rfl ?_ h
          rw [hw]
          split
          · rename_i b hb
            exact absurd (by simp [List.getD, hb]) (hne b)
          · rfl
        · exact h.elim
end Go.Vc

/-
Drawn regions in an order of their own: what only looks at what was there is taken first, the others as they come up alone.
Conditions: each theorem's hypotheses.
-/
namespace Go.Vc
open Go.RowKit
variable {ds : List Deferred}

/-- Operations that look, and turn nothing. -/
def plainB (o : Oper) : Bool :=
  match o.op with
  | .convert _ _ _ | .nilCheck _ | .move _ | .assign _ | .pick _ _ _ | .build _ _ | .binOp _ _ _ _ _ | .unOp _ _ _ | .fieldAddr _ _ _ | .field _ _ _ | .indexAddr _ _ _ | .index _ _ _ | .extract _ _ | .load _ _ | .slice _ _ _ _ _ | .makeFunc _ _ _ => true
  | .call c => (match c.callee with | .builtin .len => true | _ => false)
  | _ => false
def plainAtN (ops : Array Oper) (i : Nat) : Bool := match ops[i]? with | some o => plainB o | none => false
/-- Operations whose value hangs on no world. -/
def pureB (o : Oper) : Bool :=
  match o.op with
  | .convert _ _ _ | .nilCheck _ | .move _ | .assign _ | .pick _ _ _ | .build _ _ | .binOp _ _ _ _ _ | .unOp _ _ _ | .fieldAddr _ _ _ | .field _ _ _ | .indexAddr _ _ _ | .index _ _ _ | .extract _ _ | .makeFunc _ _ _ => true
  | _ => false
def pureAtN (ops : Array Oper) (i : Nat) : Bool := match ops[i]? with | some o => pureB o | none => false
def afterB (ops : Array Oper) (j i : Nat) : Bool := match ops[j]? with | some o => o.after.any fun e => Nat.beq e.on i && Region.binds .any e | none => false
/-- The order: the first that looks, or the one that comes up alone. -/
def ordOf (ops : Array Oper) : Nat → Array Bool → List (Nat × Bool)
  | 0, _ => []
  | f + 1, listed => (match (Region.ready .any ops listed).find? (plainAtN ops) with
    | some i => (i, true) :: ordOf ops f (listed.setIfInBounds i true)
    | none => (match Region.ready .any ops listed with
      | [] => []
      | i :: _ => (i, false) :: ordOf ops f (listed.setIfInBounds i true)))
/-- What comes behind all that look, and waits for each of them. -/
def wtOf (ops : Array Oper) (l : List (Nat × Bool)) : List Nat :=
  let e := l.takeWhile fun x => x.2
  let r := l.dropWhile fun x => x.2
  let w := r.filter fun x => e.all fun y => afterB ops x.1 y.1
  match r.all fun x => !x.2 || (w.any (fun y => Nat.beq y.1 x.1) && pureAtN ops x.1) || (!(w.any fun y => Nat.beq y.1 x.1) && w.all fun j => afterB ops j.1 x.1) with
  | true => w.map fun x => x.1
  | false => []
def ordB (ops : Array Oper) (wt : List Nat) : List (Nat × Bool) → Array Bool → Bool
  | [], listed => (Region.ready .any ops listed).isEmpty
  | (i, true) :: r, listed => (Region.ready .any ops listed).contains i && Region.free .any ops listed i && (match wt.elem i with | true => pureAtN ops i | false => wt.all fun j => afterB ops j i) && ordB ops wt r (listed.setIfInBounds i true)
  | (i, false) :: r, listed => (match Region.ready .any ops listed with | [j] => Nat.beq j i | _ => false) && (!(wt.elem i) || r.all fun x => wt.elem x.1) && ordB ops wt r (listed.setIfInBounds i true)
def ordOk (ops : Array Oper) (l : List (Nat × Bool)) : Bool := Region.noSelect ops && Nat.beq l.length ops.size && ordB ops (wtOf ops l) l (Array.replicate ops.size false)
/-- What looks, and comes to the same in each world of a class. -/
def LooksV (P : Program) (C : World → Prop) (s : Sem Value) (K : Value → Prop) : Prop := ∃ v, (∀ w, C w → s.run P w = .ok v w) ∧ K v
theorem LooksV_mono {P : Program} {C : World → Prop} {s : Sem Value} {K K' : Value → Prop} (h : ∀ v, K v → K' v) (hh : LooksV P C s K) : LooksV P C s K' := by
  obtain ⟨v, h1, h2⟩ := hh
  exact ⟨v, h1, h _ h2⟩
def plainV (P : Program) (C : World → Prop) (o : Oper) (tm : List Value) (K : Value → Prop) : Prop :=
  match pureT P tm o with
  | some t => t.run K
  | none => (match o.op with
    | .load t a => (match ev tm a with
        | .pointer p => Deref p fun ad => loadV P t (fun a i l => ∀ w', C w' → CellsAt w' a i l) (fun a v => ∀ w', C w' → w'.cell? a = some v) ad K
        | _ => False)
    | .nilCheck x => (match ev tm x with
        | .pointer p => Deref p fun a => K (.pointer (some a))
        | _ => False)
    | .convert src dst x => LooksV P C (convert src dst (ev tm x)) fun v => retEx P o.type fun u => v = u ∧ K u
    | _ => False)
theorem plainV_run {P : Program} {C : World → Prop} {o : Oper} {tm : List Value} {K : Value → Prop} (h : plainV P C o tm K) : ∃ v, (∀ w, C w → (execOp (ev tm) o).run P w = .ok (.value v) w) ∧ K v := by
  unfold plainV at h
  split at h
  · rename_i t ht
    obtain ⟨v, h1, h2⟩ := pureT_sound ht h
    exact ⟨v, fun w _ => h2 w, h1⟩
  · split at h
    · rename_i t a ho
      split at h
      · rename_i p he
        obtain ⟨ad, rfl, hL⟩ := Deref_elim h
        obtain ⟨v, h1, h2⟩ := loadV_run hL
        refine ⟨v, fun w' hw' => ?_, h1⟩
        simp only [execOp, ho, he, Instr.loadAt, Instr.sureAddr, Sem.run_bind, Sem.run_pure, Result.andThen_ok, h2 w' (fun _ h => h w' hw') (fun _ h => h w' hw')]
      · exact h.elim
    · rename_i x ho
      split at h
      · rename_i p he
        obtain ⟨ad, rfl, hL⟩ := Deref_elim h
        refine ⟨_, fun w' hw' => ?_, hL⟩
        simp [execOp, ho, he]
      · exact h.elim
    · rename_i src dst x ho
      obtain ⟨v, h1, h2⟩ := h
      obtain ⟨u, rfl, hk⟩ := retEx_elim h2
      refine ⟨v, fun w' hw' => ?_, hk⟩
      have h3 := (semOf_run (o := o) (tm := tm) (s := convert src dst (ev tm x)) (by simp only [semOf, ho]) (h1 w' hw')).1
      have hu : isUnit o.op = false := by rw [ho]; rfl
      rw [hu] at h3
      exact h3
    · exact h.elim
def ordStep (P : Program) (pan : Bool) (lets : List Nat) (C : World → Prop) (Q : Exit → List Value → World → Prop) (next : List Value → World → Prop) (o : Oper) (tl pl : Bool) (tm : List Value) (w : World) : Prop :=
  match pl with
  | true => (match tl with
    | true => plainV P (fun _ => True) o tm fun v => next (putl o.dst tm v) w
    | false => plainV P C o tm fun v => next (putl o.dst tm v) w)
  | false => (match tl with
    | true => opV P pan lets o tm w (fun v w' => next (putl o.dst tm v) w') (fun c w' => Q (.panic c) tm w')
    | false => opV P pan lets o tm w (fun v w' => C w' ∧ next (putl o.dst tm v) w') (fun c w' => Q (.panic c) tm w'))
def ordV (P : Program) (pan : Bool) (lets : List Nat) (ops : Array Oper) (wt : List Nat) (C : World → Prop) (Q : Exit → List Value → World → Prop) : List (Nat × Bool) → List Value → World → Prop
  | [], tm, w => Q .normal tm w
  | (i, pl) :: r, tm, w => IsSome ops[i]? fun o => (match o.guard with
    | none => ordStep P pan lets C Q (fun tm' w' => ordV P pan lets ops wt C Q r tm' w') o (wt.elem i) pl tm w
    | some (j, want) => IsSome (guardSlot ops j) fun d => (match tm.getD d undef with
        | .bool b => (match want with
            | true => cnd b (ordStep P pan lets C Q (fun tm' w' => ordV P pan lets ops wt C Q r tm' w') o (wt.elem i) pl (tm.set d (.bool true)) w) (ordV P pan lets ops wt C Q r (putl o.dst (tm.set d (.bool false)) undef) w)
            | false => cnd b (ordV P pan lets ops wt C Q r (putl o.dst (tm.set d (.bool true)) undef) w) (ordStep P pan lets C Q (fun tm' w' => ordV P pan lets ops wt C Q r tm' w') o (wt.elem i) pl (tm.set d (.bool false)) w))
        | _ => cnd (decide (d < tm.length)) (ordV P pan lets ops wt C Q r (putl o.dst tm undef) w) False))
section walk
variable {P : Program} {ops : Array Oper} {Q : Exit → Act → World → Prop} {C : World → Prop} {wt : List Nat}
/-- Whatever order is picked from here on; behind each operation that does not wait for all that look, the class holds. -/
def wpAnyA (P : Program) (ops : Array Oper) (wt : List Nat) (Q : Exit → Act → World → Prop) (C : World → Prop) : Nat → Array Bool → Act → World → Prop
  | 0, listed, a, w => Region.ready .any ops listed = [] ∧ Q .normal a w
  | fuel + 1, listed, a, w =>
    (Region.ready .any ops listed = [] → Q .normal a w) ∧
    ∀ i ∈ Region.ready .any ops listed, wpOp P ops Q i (fun a' w' => (wt.elem i = false → C w') ∧ wpAnyA P ops wt Q C fuel (listed.setIfInBounds i true) a' w') a w
theorem wpAny_of_A : ∀ (fuel : Nat) (listed : Array Bool) (a : Act) (w : World), wpAnyA P ops wt Q C fuel listed a w → wpAny P .any ops Q fuel listed a w
  | 0, _, _, _, h => h
  | fuel + 1, _, _, _, h => ⟨h.1, fun i hi => wpOp_mono (fun a' w' h' => wpAny_of_A fuel _ a' w' h'.2) (h.2 i hi)⟩
theorem waits_listed {i j : Nat} {listed : Array Bool} (hw : afterB ops j i = true) (hj : j ∈ Region.ready .any ops listed) : listed.getD i false = true := by
  obtain ⟨hjun, oj, hoj, hall⟩ := mem_ready.1 hj
  unfold afterB at hw
  rw [hoj] at hw
  simp only [Array.any_eq_true] at hw
  obtain ⟨k, hk, h⟩ := hw
  simp only [Bool.and_eq_true] at h
  have := hall _ (Array.getElem_mem hk) h.2
  rw [Nat.eq_of_beq_eq_true h.1] at this
  exact this
theorem wpAnyA_first {i : Nat} {oi : Oper} {v : Value} {S : World → Prop} (hi : ops[i]? = some oi) (hp : (wt.elem i = true ∧ ∀ w, S w) ∨ (S = C ∧ wt.elem i = false ∧ ∀ j, wt.elem j = true → afterB ops j i = true)) (hsel : ∀ (j : Nat) (o : Oper) cs b, ops[j]? = some o → o.op ≠ .select cs b)
    (hQ : ∀ c a w, Q (.panic c) (a.put oi.dst v) w → Q (.panic c) a w) :
    ∀ (fuel : Nat) (listed : Array Bool) (a : Act) (w : World),
      (∀ j oj, ops[j]? = some oj → j ≠ i → listed.getD j true = false → (∀ e ∈ oj.after, Region.binds .any e = true → e.on ≠ i) → oi.apart ops oj = true) →
      i ∈ Region.ready .any ops listed → YieldsIf P ops S oi v a → S w →
      wpAnyA P ops wt Q C fuel (listed.setIfInBounds i true) (a.put oi.dst v) w → wpAnyA P ops wt Q C (fuel + 1) listed a w := by
  have hCi : ∀ {w : World}, S w → wt.elem i = false → C w := by
    intro w hS hw
    rcases hp with ⟨h, _⟩ | ⟨rfl, _, _⟩
    · rw [h] at hw; cases hw
    · exact hS
  intro fuel
  induction fuel with
  | zero =>
    intro listed a w _ hr hy hS H
    refine ⟨fun h => (by rw [h] at hr; cases hr), fun j hj => ?_⟩
    by_cases hji : j = i
    · subst hji; exact hy.wpOp hi hS ⟨hCi hS, H⟩
    · have := ready_mono hj hji
      rw [H.1] at this
      cases this
  | succ fuel ih =>
    intro listed a w hfree hr hy hS H
    refine ⟨fun h => (by rw [h] at hr; cases hr), fun j hj => ?_⟩
    by_cases hji : j = i
    · subst hji; exact hy.wpOp hi hS ⟨hCi hS, H⟩
    · have h1 := H.2 j (ready_mono hj hji)
      have hni : listed.getD i true = false := (mem_ready.1 hr).1
      have hSj : ∀ {w' : World}, (wt.elem j = false → C w') → S w' := by
        intro w' hc
        rcases hp with ⟨_, h⟩ | ⟨rfl, hwi, hall⟩
        · exact h w'
        · refine hc ?_
          cases h : wt.elem j with
          | false => rfl
          | true =>
            have := waits_listed (hall j h) hj
            rcases Nat.lt_or_ge i listed.size with h' | h'
            · simp [h'] at hni this; rw [hni] at this; cases this
            · simp [Array.getElem?_eq_none h'] at this
      obtain ⟨hjun, oj, hoj, hall⟩ := mem_ready.1 hj
      have hnot : ∀ e ∈ oj.after, Region.binds .any e = true → e.on ≠ i := fun e he hb heq => by
        have h1 := hall e he hb
        have h0 := (mem_ready.1 hr).1
        rw [heq] at h1
        rcases Nat.lt_or_ge i listed.size with h' | h'
        · simp [h'] at h0 h1; rw [h0] at h1; cases h1
        · simp [Array.getElem?_eq_none h'] at h1
      have h2 := wpOp_putIf hoj (hfree j oj hoj hji hjun hnot) (fun cs b => hsel i oi cs b hi) (fun cs b => hsel j oj cs b hoj) hQ hy h1
      have hfree' : ∀ k ok, ops[k]? = some ok → k ≠ i → (listed.setIfInBounds j true).getD k true = false →
          (∀ e ∈ ok.after, Region.binds .any e = true → e.on ≠ i) → oi.apart ops ok = true := fun k ok hk hki hun hno => by
        refine hfree k ok hk hki ?_ hno
        by_cases hjk : j = k
        · subst hjk; exact hjun
        · rw [getD_set_ne true hjk] at hun; exact hun
      refine wpOp_mono (fun a' w' h3 => ⟨h3.2.1, ih (listed.setIfInBounds j true) a' w' hfree' (ready_mono hr (Ne.symm hji)) h3.1 (hSj h3.2.1) ?_⟩) h2
      rw [Array.setIfInBounds_comm _ _ hji]
      exact h3.2.2
theorem wpAnyA_take {i : Nat} {oi : Oper} {v : Value} {S : World → Prop} {fuel : Nat} {listed : Array Bool} {a : Act} {w : World} (hi : ops[i]? = some oi) (hp : (wt.elem i = true ∧ ∀ w, S w) ∨ (S = C ∧ wt.elem i = false ∧ ∀ j, wt.elem j = true → afterB ops j i = true))
    (hs : Region.noSelect ops = true) (hf : Region.free .any ops listed i = true) (hr : (Region.ready .any ops listed).contains i = true)
    (hQ : ∀ c a w, Q (.panic c) (a.put oi.dst v) w → Q (.panic c) a w) (hy : YieldsIf P ops S oi v a) (hS : S w)
    (h : wpAnyA P ops wt Q C fuel (listed.setIfInBounds i true) (a.put oi.dst v) w) : wpAnyA P ops wt Q C (fuel + 1) listed a w :=
  wpAnyA_first hi hp (Region.noSelect_spec hs) hQ fuel listed a w (Region.free_spec hi hf) (by simpa using hr) hy hS h
theorem wpAnyA_all {rs : List Nat} {fuel : Nat} {listed : Array Bool} {a : Act} {w : World} (hr : Region.ready .any ops listed = rs) (hne : rs ≠ [])
    (h : ∀ i ∈ rs, wpOp P ops Q i (fun a' w' => (wt.elem i = false → C w') ∧ wpAnyA P ops wt Q C fuel (listed.setIfInBounds i true) a' w') a w) : wpAnyA P ops wt Q C (fuel + 1) listed a w :=
  ⟨fun h0 => absurd (hr ▸ h0) hne, hr ▸ h⟩
end walk
theorem put_list (a : Act) (dst : Option Tmp) (v : Value) : (a.put dst v).tmps.toList = putl dst a.tmps.toList v := by cases dst <;> simp [Act.put, putl]
theorem put_defers' (a : Act) (dst : Option Tmp) (v : Value) : (a.put dst v).defers = a.defers := by cases dst <;> simp [Act.put]
theorem ordV_wp {P : Program} {pan : Bool} {lets : List Nat} {ops : Array Oper} {wt : List Nat} {C : World → Prop} {Q : Exit → List Value → World → Prop} (hsel : Region.noSelect ops = true) (hQp : ∀ c (i : Nat) oi v tm w, ops[i]? = some oi → Q (.panic c) (putl oi.dst tm v) w → Q (.panic c) tm w) :
    ∀ (l : List (Nat × Bool)) (listed : Array Bool) (tm : List Value) (w : World), ordB ops wt l listed = true → ((l.any fun x => !(wt.elem x.1)) = true → C w) → ordV P pan lets ops wt C Q l tm w → wpAnyA P ops wt (upD ds Q) C l.length listed (actD ds tm) w := by
  intro l
  induction l with
  | nil =>
    intro listed tm w hB hl h
    unfold ordV at h
    exact ⟨by simpa [ordB] using hB, up_act h⟩
  | cons x r ih =>
    intro listed tm w hB hl h
    obtain ⟨i, pl⟩ := x
    unfold ordV at h
    obtain ⟨o, ho, h⟩ := IsSome_elim h
    have hBr : ordB ops wt r (listed.setIfInBounds i true) = true := by
      cases pl <;> simp only [ordB, Bool.and_eq_true] at hB <;> exact hB.2
    have hlr : (r.any fun x => !(wt.elem x.1)) = true → C w := fun hr => hl (by rw [List.any_cons, hr, Bool.or_true])
    have hlw : wt.elem i = false → C w := fun hp => hl (by rw [List.any_cons, hp]; simp)
    have hA : wt.elem i = false → pl = true → ∀ j, wt.elem j = true → afterB ops j i = true := by
      intro hw hp j hj
      subst hp
      simp only [ordB, Bool.and_eq_true, hw] at hB
      exact List.all_eq_true.1 hB.1.2 j (by simpa using hj)
    have exec : ∀ tm', tm' = tm → Region.wanted o (yielded ops (actD ds tm).tmps) = true → ordStep P pan lets C Q (fun tm' w' => ordV P pan lets ops wt C Q r tm' w') o (wt.elem i) pl tm' w → wpAnyA P ops wt (upD ds Q) C (r.length + 1) listed (actD ds tm) w := by
      intro tm' e hw hs
      subst e
      cases pl with
      | true =>
        simp only [ordB, Bool.and_eq_true] at hB
        unfold ordStep at hs
        cases hwt : wt.elem i with
        | true =>
          simp only [hwt] at hs
          obtain ⟨v, h1, h2⟩ := plainV_run hs
          refine wpAnyA_take (S := fun _ => True) ho (.inl ⟨hwt, fun _ => trivial⟩) hsel hB.1.1.2 hB.1.1.1 (fun c a w h => ⟨(put_defers' a _ _).symm.trans h.1, hQp c i o _ _ w ho (by rw [← put_list]; exact h.2)⟩) (v := v) (.inl ⟨hw, fun w' hw' => by rw [eval_act]; exact h1 w' hw'⟩) trivial ?_
          rw [put_act]
          exact ih _ _ _ hBr hlr h2
        | false =>
          simp only [hwt] at hs
          obtain ⟨v, h1, h2⟩ := plainV_run hs
          refine wpAnyA_take (S := C) ho (.inr ⟨rfl, hwt, hA hwt rfl⟩) hsel hB.1.1.2 hB.1.1.1 (fun c a w h => ⟨(put_defers' a _ _).symm.trans h.1, hQp c i o _ _ w ho (by rw [← put_list]; exact h.2)⟩) (v := v) (.inl ⟨hw, fun w' hw' => by rw [eval_act]; exact h1 w' hw'⟩) (hlw hwt) ?_
          rw [put_act]
          exact ih _ _ _ hBr hlr h2
      | false =>
        simp only [ordB, Bool.and_eq_true] at hB
        have hr : Region.ready .any ops listed = [i] := by
          revert hB
          split
          · rename_i j hj
            intro hB
            rw [hj, Nat.eq_of_beq_eq_true hB.1.1]
          · intro hB; cases hB.1.1
        refine wpAnyA_all hr (by simp) fun j hj => ?_
        obtain rfl := List.mem_singleton.1 hj
        unfold wpOp
        simp only [ho, hw, if_true]
        unfold ordStep at hs
        cases hw1 : wt.elem j with
        | false =>
          simp only [hw1] at hs
          exact .inl (opV_wp hs (fun v w' hv => ⟨fun _ => hv.1, ih _ _ _ hBr (fun _ => hv.1) hv.2⟩) (fun c w' hc => up_act hc))
        | true =>
          have hnr : (r.any fun x => !(wt.elem x.1)) = false := by
            have := hB.1.2
            rw [hw1, Bool.not_true, Bool.false_or] at this
            rw [List.any_eq_false]
            intro x hx
            rw [List.all_eq_true.1 this x hx]
            simp
          simp only [hw1] at hs
          exact .inl (opV_wp hs (fun v w' hv => ⟨fun h => (by cases h), ih _ _ _ hBr (fun h => by rw [hnr] at h; cases h) hv⟩) (fun c w' hc => up_act hc))
    have skip : ∀ tm', tm' = tm → Region.wanted o (yielded ops (actD ds tm).tmps) = false → ordV P pan lets ops wt C Q r (putl o.dst tm' undef) w → wpAnyA P ops wt (upD ds Q) C (r.length + 1) listed (actD ds tm) w := by
      intro tm' e hw hs
      subst e
      cases pl with
      | true =>
        simp only [ordB, Bool.and_eq_true] at hB
        cases hwt : wt.elem i with
        | true =>
          refine wpAnyA_take (S := fun _ => True) ho (.inl ⟨hwt, fun _ => trivial⟩) hsel hB.1.1.2 hB.1.1.1 (fun c a w h => ⟨(put_defers' a _ _).symm.trans h.1, hQp c i o _ _ w ho (by rw [← put_list]; exact h.2)⟩) (v := undef) (.inr ⟨hw, rfl⟩) trivial ?_
          rw [put_act]
          exact ih _ _ _ hBr hlr hs
        | false =>
          refine wpAnyA_take (S := C) ho (.inr ⟨rfl, hwt, hA hwt rfl⟩) hsel hB.1.1.2 hB.1.1.1 (fun c a w h => ⟨(put_defers' a _ _).symm.trans h.1, hQp c i o _ _ w ho (by rw [← put_list]; exact h.2)⟩) (v := undef) (.inr ⟨hw, rfl⟩) (hlw hwt) ?_
          rw [put_act]
          exact ih _ _ _ hBr hlr hs
      | false =>
        simp only [ordB, Bool.and_eq_true] at hB
        have hr : Region.ready .any ops listed = [i] := by
          revert hB
          split
          · rename_i j hj
            intro hB
            rw [hj, Nat.eq_of_beq_eq_true hB.1.1]
          · intro hB; cases hB.1.1
        refine wpAnyA_all hr (by simp) fun j hj => ?_
        obtain rfl := List.mem_singleton.1 hj
        unfold wpOp
        simp only [ho, hw, Bool.false_eq_true, if_false]
        refine ⟨hlw, ?_⟩
        rw [put_act]
        exact ih _ _ _ hBr hlr hs
    split at h
    · rename_i hg
      exact exec tm rfl (by simp [Region.wanted, hg]) h
    · rename_i j want hg
      obtain ⟨d, hd, h⟩ := IsSome_elim h
      have hw := wanted_guard (ds := ds) (ops := ops) hg hd (tm := tm)
      split at h
      · rename_i b hb
        have hsome : tm[d]? = some (.bool b) := by
          cases hh : tm[d]? with
          | none => simp [List.getD, hh, undef] at hb
          | some v => simp [List.getD, hh] at hb; rw [hb]
        rw [hsome] at hw
        cases b <;> cases want <;> simp only [cnd] at h
        · exact exec _ (set_same hb) (by simpa using hw) h
        · exact skip _ (set_same hb) (by simpa using hw) h
        · exact skip _ (set_same hb) (by simpa using hw) h
        · exact exec _ (set_same hb) (by simpa using hw) h
      · rename_i hne
        rcases cnd_cases h with ⟨_, h⟩ | ⟨_, h⟩
        · refine skip tm rfl ?_ h
          rw [hw]
          split
          · rename_i b hb
            exact absurd (by simp [List.getD, hb]) (hne b)
          · rfl
        · exact h.elim
theorem wp_region_ord {P : Program} {pan : Bool} {lets : List Nat} {ops : Array Oper} {Q : Exit → List Value → World → Prop} {tm : List Value} {w : World} {l : List (Nat × Bool)} (hm : P.follows .mixedOrders = true) (hB : ordOk ops l = true) (hQp : ∀ c (i : Nat) oi v tm w, ops[i]? = some oi → Q (.panic c) (putl oi.dst tm v) w → Q (.panic c) tm w)
    {C : World → Prop} (hC : ∀ w', Later w w' → C w') (h : ∀ w', Later w w' → ordV P pan lets ops (wtOf ops l) C Q l tm w') : wpR P ops true (upD ds Q) (actD ds tm) w := by
  simp only [ordOk, Bool.and_eq_true] at hB
  have hlen := Nat.eq_of_beq_eq_true hB.1.2
  refine wpR_any hm (wpAny_of_A (C := C) (wt := wtOf ops l) _ _ _ _ ?_)
  rw [← hlen]
  have hl : Later w { w with drawn := w.drawn + 1 } := (Below.refl _ _).drew
  exact ordV_wp hB.1.1 hQp l _ tm _ (by rw [hlen]; exact hB.2) (fun _ => hC _ hl) (h _ hl)
end Go.Vc

/-
Drawn regions in each order that there is, but what only looks early, or hangs on no world, first: a tree of orders.
Conditions: each theorem's hypotheses.
-/
namespace Go.Vc
open Go.RowKit
variable {ds : List Deferred}

/-- Orders: an end; no further choice; a look that is taken first; a choice, and the other ones. -/
inductive OT where
  | nil | stop
  | look (i : Nat) (t : OT)
  | alt (i : Nat) (t r : OT)
def OT.ids : OT → List Nat
  | .alt i _ r => i :: r.ids
  | _ => []
def pureM (ops : Array Oper) (i : Nat) : Bool := match ops[i]? with
  | some o => (match o.op with
    | .convert _ _ _ => false
    | .call c => (match c.callee with | .builtin .min => true | .builtin .max => true | _ => false)
    | _ => pureB o)
  | none => false
def otOf (ops : Array Oper) : Nat → Bool → Array Bool → OT
  | 0, _, _ => .nil
  | f + 1, early, listed =>
    (match Region.ready .any ops listed with
    | [] => .nil
    | rs => (match rs.find? (fun i => pureM ops i || (early && plainAtN ops i)) with
      | some i => .look i (otOf ops f early (listed.setIfInBounds i true))
      | none => rs.foldr (fun i acc => .alt i (otOf ops f false (listed.setIfInBounds i true)) acc) .stop))
def otB (ops : Array Oper) : OT → Bool → Nat → Array Bool → Bool
  | .nil, _, n, listed => (Region.ready .any ops listed).isEmpty && Nat.beq n 0
  | .stop, head, _, _ => !head
  | .look i t, _, n, listed => (Region.ready .any ops listed).contains i && Region.free .any ops listed i && (match n with | 0 => false | k + 1 => otB ops t true k (listed.setIfInBounds i true))
  | .alt i t r, head, n, listed => (match n with
    | 0 => false
    | k + 1 => (!head || (Region.ready .any ops listed == i :: r.ids)) && otB ops t true k (listed.setIfInBounds i true) && (match r with | .alt j u s => otB ops (.alt j u s) false (k + 1) listed | .stop => true | _ => false))
def otOk (ops : Array Oper) (t : OT) : Bool := Region.noSelect ops && otB ops t true ops.size (Array.replicate ops.size false)
def gateT (P : Program) (pan : Bool) (lets : List Nat) (ops : Array Oper) (C : World → Prop) (Q : Exit → List Value → World → Prop) (next : List Value → World → Prop) (i : Nat) (pl : Bool) (tm : List Value) (w : World) : Prop :=
  IsSome ops[i]? fun o => (match o.guard with
    | none => ordStep P pan lets C Q next o false pl tm w
    | some (j, want) => IsSome (guardSlot ops j) fun d => (match tm.getD d undef with
        | .bool b => (match want with
            | true => cnd b (ordStep P pan lets C Q next o false pl (tm.set d (.bool true)) w) (next (putl o.dst (tm.set d (.bool false)) undef) w)
            | false => cnd b (next (putl o.dst (tm.set d (.bool true)) undef) w) (ordStep P pan lets C Q next o false pl (tm.set d (.bool false)) w))
        | _ => cnd (decide (d < tm.length)) (next (putl o.dst tm undef) w) False))
def ordT (P : Program) (pan : Bool) (lets : List Nat) (ops : Array Oper) (C : World → Prop) (Q : Exit → List Value → World → Prop) : OT → List Value → World → Prop
  | .nil, tm, w => Q .normal tm w
  | .stop, _, _ => True
  | .look i t, tm, w => gateT P pan lets ops C Q (fun tm' w' => ordT P pan lets ops C Q t tm' w') i true tm w
  | .alt i t r, tm, w => gateT P pan lets ops C Q (fun tm' w' => ordT P pan lets ops C Q t tm' w') i false tm w ∧ ordT P pan lets ops C Q r tm w
section walk
variable {P : Program} {pan : Bool} {lets : List Nat} {ops : Array Oper} {C : World → Prop} {Q : Exit → List Value → World → Prop}
/-- One operation, whatever its guard says. -/
theorem gateT_wpOp {K : Act → World → Prop} {next : List Value → World → Prop} {i : Nat} {tm : List Value} {w : World} (hQp : ∀ c tm w, ¬ Q (.panic c) tm w) (hC : C w)
    (hk : ∀ tm' w', C w' → next tm' w' → K (actD ds tm') w') (h : gateT P pan lets ops C Q next i false tm w) : wpOp P ops (upD ds Q) i (fun a' w' => (([] : List Nat).elem i = false → C w') ∧ K a' w') (actD ds tm) w := by
  unfold gateT at h
  obtain ⟨o, ho, h⟩ := IsSome_elim h
  have exec : ∀ tm', tm' = tm → Region.wanted o (yielded ops (actD ds tm).tmps) = true → ordStep P pan lets C Q next o false false tm' w → wpOp P ops (upD ds Q) i (fun a' w' => (([] : List Nat).elem i = false → C w') ∧ K a' w') (actD ds tm) w := by
    intro tm' e hw hs
    subst e
    unfold wpOp
    simp only [ho, hw, if_true]
    unfold ordStep at hs
    exact .inl (opV_wp hs (fun v w' hv => ⟨fun _ => hv.1, hk _ _ hv.1 hv.2⟩) (fun c w' hc => absurd hc (hQp _ _ _)))
  have skip : ∀ tm', tm' = tm → Region.wanted o (yielded ops (actD ds tm).tmps) = false → next (putl o.dst tm' undef) w → wpOp P ops (upD ds Q) i (fun a' w' => (([] : List Nat).elem i = false → C w') ∧ K a' w') (actD ds tm) w := by
    intro tm' e hw hs
    subst e
    unfold wpOp
    simp only [ho, hw, Bool.false_eq_true, if_false]
    refine ⟨fun _ => hC, ?_⟩
    rw [put_act]
    exact hk _ _ hC hs
  split at h
  · rename_i hg
    exact exec tm rfl (by simp [Region.wanted, hg]) h
  · rename_i j want hg
    obtain ⟨d, hd, h⟩ := IsSome_elim h
    have hw := wanted_guard (ds := ds) (ops := ops) hg hd (tm := tm)
    split at h
    · rename_i b hb
      have hsome : tm[d]? = some (.bool b) := by
        cases hh : tm[d]? with
        | none => simp [List.getD, hh, undef] at hb
        | some v => simp [List.getD, hh] at hb; rw [hb]
      rw [hsome] at hw
      cases b <;> cases want <;> simp only [cnd] at h
      · exact exec _ (set_same hb) (by simpa using hw) h
      · exact skip _ (set_same hb) (by simpa using hw) h
      · exact skip _ (set_same hb) (by simpa using hw) h
      · exact exec _ (set_same hb) (by simpa using hw) h
    · rename_i hne
      rcases cnd_cases h with ⟨_, h⟩ | ⟨_, h⟩
      · refine skip tm rfl ?_ h
        rw [hw]
        split
        · rename_i b hb
          exact absurd (by simp [List.getD, hb]) (hne b)
        · rfl
      · exact h.elim
theorem gateT_look {next : List Value → World → Prop} {i n : Nat} {tm : List Value} {w : World} {listed : Array Bool} (hsel : Region.noSelect ops = true) (hQp : ∀ c tm w, ¬ Q (.panic c) tm w) (hC : C w)
    (hr : (Region.ready .any ops listed).contains i = true) (hf : Region.free .any ops listed i = true)
    (hk : ∀ tm' w', C w' → next tm' w' → wpAnyA P ops [] (upD ds Q) C n (listed.setIfInBounds i true) (actD ds tm') w') (h : gateT P pan lets ops C Q next i true tm w) : wpAnyA P ops [] (upD ds Q) C (n + 1) listed (actD ds tm) w := by
  unfold gateT at h
  obtain ⟨o, ho, h⟩ := IsSome_elim h
  have hw0 : ([] : List Nat).elem i = false := rfl
  have exec : ∀ tm', tm' = tm → Region.wanted o (yielded ops (actD ds tm).tmps) = true → ordStep P pan lets C Q next o false true tm' w → wpAnyA P ops [] (upD ds Q) C (n + 1) listed (actD ds tm) w := by
    intro tm' e hw hs
    subst e
    unfold ordStep at hs
    obtain ⟨v, h1, h2⟩ := plainV_run hs
    refine wpAnyA_take (S := C) ho (.inr ⟨rfl, hw0, fun j hj => by cases hj⟩) hsel hf hr (fun c a w h => absurd h.2 (hQp _ _ _)) (v := v) (.inl ⟨hw, fun w' hw' => by rw [eval_act]; exact h1 w' hw'⟩) hC ?_
    rw [put_act]
    exact hk _ _ hC h2
  have skip : ∀ tm', tm' = tm → Region.wanted o (yielded ops (actD ds tm).tmps) = false → next (putl o.dst tm' undef) w → wpAnyA P ops [] (upD ds Q) C (n + 1) listed (actD ds tm) w := by
    intro tm' e hw hs
    subst e
    refine wpAnyA_take (S := C) ho (.inr ⟨rfl, hw0, fun j hj => by cases hj⟩) hsel hf hr (fun c a w h => absurd h.2 (hQp _ _ _)) (v := undef) (.inr ⟨hw, rfl⟩) hC ?_
    rw [put_act]
    exact hk _ _ hC hs
  split at h
  · rename_i hg
    exact exec tm rfl (by simp [Region.wanted, hg]) h
  · rename_i j want hg
    obtain ⟨d, hd, h⟩ := IsSome_elim h
    have hw := wanted_guard (ds := ds) (ops := ops) hg hd (tm := tm)
    split at h
    · rename_i b hb
      have hsome : tm[d]? = some (.bool b) := by
        cases hh : tm[d]? with
        | none => simp [List.getD, hh, undef] at hb
        | some v => simp [List.getD, hh] at hb; rw [hb]
      rw [hsome] at hw
      cases b <;> cases want <;> simp only [cnd] at h
      · exact exec _ (set_same hb) (by simpa using hw) h
      · exact skip _ (set_same hb) (by simpa using hw) h
      · exact skip _ (set_same hb) (by simpa using hw) h
      · exact exec _ (set_same hb) (by simpa using hw) h
    · rename_i hne
      rcases cnd_cases h with ⟨_, h⟩ | ⟨_, h⟩
      · refine skip tm rfl ?_ h
        rw [hw]
        split
        · rename_i b hb
          exact absurd (by simp [List.getD, hb]) (hne b)
        · rfl
      · exact h.elim
theorem ordT_wp (hsel : Region.noSelect ops = true) (hQp : ∀ c tm w, ¬ Q (.panic c) tm w) :
    ∀ (t : OT) (n : Nat) (listed : Array Bool) (tm : List Value) (w : World), C w → ordT P pan lets ops C Q t tm w →
      (otB ops t true n listed = true → wpAnyA P ops [] (upD ds Q) C n listed (actD ds tm) w) ∧
      (∀ k, n = k + 1 → (otB ops t false n listed = true ∨ t = .stop) → ∀ i ∈ t.ids, wpOp P ops (upD ds Q) i (fun a' w' => (([] : List Nat).elem i = false → C w') ∧ wpAnyA P ops [] (upD ds Q) C k (listed.setIfInBounds i true) a' w') (actD ds tm) w) := by
  intro t
  induction t with
  | nil =>
    intro n listed tm w hC h
    unfold ordT at h
    refine ⟨fun hB => ?_, fun k _ _ i hi => by cases hi⟩
    simp only [otB, Bool.and_eq_true] at hB
    have hn := Nat.eq_of_beq_eq_true hB.2
    subst hn
    exact ⟨by simpa using hB.1, up_act h⟩
  | stop => intro n listed tm w hC h; exact ⟨fun hB => by simp [otB] at hB, fun k _ _ i hi => by cases hi⟩
  | look i t ih =>
    intro n listed tm w hC h
    unfold ordT at h
    refine ⟨fun hB => ?_, fun k _ _ i hi => by cases hi⟩
    cases n with
    | zero => simp [otB] at hB
    | succ n =>
      simp only [otB, Bool.and_eq_true] at hB
      exact gateT_look hsel hQp hC hB.1.1 hB.1.2 (fun tm' w' hc h' => (ih n _ tm' w' hc h').1 hB.2) h
  | alt i t r iht ihr =>
    intro n listed tm w hC h
    unfold ordT at h
    have both : ∀ head, otB ops (.alt i t r) head n listed = true → ∀ k, n = k + 1 → ∀ j ∈ (OT.alt i t r).ids, wpOp P ops (upD ds Q) j (fun a' w' => (([] : List Nat).elem j = false → C w') ∧ wpAnyA P ops [] (upD ds Q) C k (listed.setIfInBounds j true) a' w') (actD ds tm) w := by
      intro head hB k hk j hj
      subst hk
      unfold otB at hB
      simp only [Bool.and_eq_true] at hB
      rcases List.mem_cons.1 hj with rfl | hj
      · exact gateT_wpOp hQp hC (fun tm' w' hc h' => (iht k _ tm' w' hc h').1 hB.1.2) h.1
      · refine (ihr (k + 1) listed tm w hC h.2).2 k rfl ?_ j hj
        cases r with
        | alt j u s => exact .inl hB.2
        | stop => exact .inr rfl
        | nil => cases hj
        | look _ _ => cases hj
    refine ⟨fun hB => ?_, fun k hk hB j hj => ?_⟩
    · have hB0 := hB
      cases n with
      | zero => simp [otB] at hB
      | succ k =>
        unfold otB at hB
        simp only [Bool.and_eq_true, Bool.not_true, Bool.false_or, beq_iff_eq] at hB
        exact wpAnyA_all (rs := i :: r.ids) hB.1.1 (by simp) (both true hB0 k rfl)
    · rcases hB with hB | hB
      · exact both false hB k hk j hj
      · cases hB
theorem wp_region_ordT {tm : List Value} {w : World} {t : OT} (hm : P.follows .mixedOrders = true) (hB : otOk ops t = true) (hQp : ∀ c tm w, ¬ Q (.panic c) tm w)
    (hC : ∀ w', Later w w' → C w') (h : ∀ w', Later w w' → ordT P pan lets ops C Q t tm w') : wpR P ops true (upD ds Q) (actD ds tm) w := by
  simp only [otOk, Bool.and_eq_true] at hB
  refine wpR_any hm (wpAny_of_A (C := C) (wt := []) _ _ _ _ ?_)
  have hl : Later w { w with drawn := w.drawn + 1 } := (Below.refl _ _).drew
  exact (ordT_wp hB.1 hQp t _ _ tm _ (hC _ hl) (h _ hl)).1 hB.2
end walk
end Go.Vc
