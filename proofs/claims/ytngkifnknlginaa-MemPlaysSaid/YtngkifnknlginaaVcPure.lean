/-
A generator of verification conditions over the model, first part: operations whose value does not depend on memory, with their soundness.
Conditions: none; all is proved over any program.
-/
import Derived.WalkKit
import Derived.Deep.Quiet
import Derived.KernelRfl
namespace Go.Vc
open Go.RowKit

/-! ### words of the formulas -/

/-- Two ways, by a Bool. -/
def cnd (b : Bool) (A B : Prop) : Prop := match b with | true => A | false => B
theorem cnd_of {b : Bool} {A B : Prop} (h1 : b = true → A) (h0 : b = false → B) : cnd b A B := by
  cases b
  · exact h0 rfl
  · exact h1 rfl
theorem cnd_true {b : Bool} {A B : Prop} (h : b = true) (h1 : A) : cnd b A B := by subst h; exact h1
theorem cnd_false {b : Bool} {A B : Prop} (h : b = false) (h1 : B) : cnd b A B := by subst h; exact h1
theorem cnd_mono {b : Bool} {A B A' B' : Prop} (h : cnd b A B) (h1 : A → A') (h0 : B → B') : cnd b A' B' := by
  cases b
  · exact h0 h
  · exact h1 h
theorem cnd_cases {b : Bool} {A B : Prop} (h : cnd b A B) : (b = true ∧ A) ∨ (b = false ∧ B) := by
  cases b
  · exact .inr ⟨rfl, h⟩
  · exact .inl ⟨rfl, h⟩

/-- The address behind a pointer that is not nil. -/
def Deref (p : Option Addr) (L : Addr → Prop) : Prop := match p with | some a => L a | none => False
theorem Deref_some {p : Option Addr} {L : Addr → Prop} {a : Addr} (h : p = some a) (hL : L a) : Deref p L := by subst h; exact hL
theorem Deref_elim {p : Option Addr} {L : Addr → Prop} (h : Deref p L) : ∃ a, p = some a ∧ L a := by
  cases p with
  | none => exact h.elim
  | some a => exact ⟨a, rfl, h⟩

/-- A function value that is a function of the program. -/
def AsFn (v : Value) (L : FuncId → Array Value → Array Value → Prop) : Prop := match v with | .func (.func f) fi ca => L f fi ca | _ => False
theorem AsFn_elim {v : Value} {L : FuncId → Array Value → Array Value → Prop} (h : AsFn v L) : ∃ f fi ca, v = .func (.func f) fi ca ∧ L f fi ca := by
  unfold AsFn at h
  split at h
  · exact ⟨_, _, _, rfl, h⟩
  · exact h.elim

/-- A value that is the body of a range over a function. -/
def AsYield (v : Value) (L : Nat → Prop) : Prop := match v with | .func (.yield l) fi ca => fi = #[] ∧ ca = #[] ∧ L l | _ => False
theorem AsYield_elim {v : Value} {L : Nat → Prop} (h : AsYield v L) : ∃ l, v = .func (.yield l) #[] #[] ∧ L l := by
  unfold AsYield at h
  split at h
  · obtain ⟨rfl, rfl, h⟩ := h
    exact ⟨_, rfl, h⟩
  · exact h.elim
/-- What is there, if anything is. -/
def IsSome {α : Type} (o : Option α) (L : α → Prop) : Prop := match o with | some a => L a | none => False
theorem IsSome_elim {α : Type} {o : Option α} {L : α → Prop} (h : IsSome o L) : ∃ a, o = some a ∧ L a := by
  cases o with
  | none => exact h.elim
  | some a => exact ⟨a, rfl, h⟩
theorem IsSome_some {α : Type} {o : Option α} {L : α → Prop} {a : α} (h : o = some a) (hL : L a) : IsSome o L := by subst h; exact hL

/-! ### shapes of values -/
inductive Sh where
  | int (k : IntKind) | bool | str | ptr | slice | map | any
inductive Shape where
  | one (s : Sh) | agg (l : List Sh) | big (n : Nat)

def Sh.ok : Sh → Value → Bool
  | .int k, .int k' _ => decide (k = k')
  | .bool, .bool _ => true
  | .str, .string _ => true
  | .ptr, .pointer _ => true
  | .slice, .slice .. => true
  | .map, .map _ => true
  | .any, _ => true
  | _, _ => false
def Sh.all : Sh → (Value → Prop) → Prop
  | .int k, L => ∀ n : Int, L (.int k n)
  | .bool, L => ∀ b : Bool, L (.bool b)
  | .str, L => ∀ s : ByteArray, L (.string s)
  | .ptr, L => ∀ p : Option Addr, L (.pointer p)
  | .slice, L => ∀ (p : Option Addr) (n c : Nat), L (.slice p n c)
  | .map, L => ∀ r : Option Nat, L (.map r)
  | .any, L => ∀ v : Value, L v
def Sh.ex : Sh → (Value → Prop) → Prop
  | .int k, L => ∃ n : Int, L (.int k n)
  | .bool, L => ∃ b : Bool, L (.bool b)
  | .str, L => ∃ s : ByteArray, L (.string s)
  | .ptr, L => ∃ p : Option Addr, L (.pointer p)
  | .slice, L => ∃ (p : Option Addr) (n c : Nat), L (.slice p n c)
  | .map, L => ∃ r : Option Nat, L (.map r)
  | .any, L => ∃ v : Value, L v
theorem Sh.all_elim {s : Sh} {L : Value → Prop} (h : s.all L) {v : Value} (hv : s.ok v = true) : L v := by
  cases s <;> cases v <;> simp [Sh.ok] at hv <;> first | (subst hv; exact h _) | exact h _ | exact h _ _ _
theorem Sh.ex_elim {s : Sh} {L : Value → Prop} (h : s.ex L) : ∃ v, s.ok v = true ∧ L v := by
  cases s <;> simp only [Sh.ex] at h
  case int k => obtain ⟨n, h⟩ := h; exact ⟨_, by simp [Sh.ok], h⟩
  case slice => obtain ⟨p, n, c, h⟩ := h; exact ⟨_, rfl, h⟩
  case any => obtain ⟨v, h⟩ := h; exact ⟨v, rfl, h⟩
  all_goals (obtain ⟨n, h⟩ := h; exact ⟨_, rfl, h⟩)
theorem Sh.ex_mono {s : Sh} {L L' : Value → Prop} (h : ∀ v, L v → L' v) (hh : s.ex L) : s.ex L' := by
  cases s <;> simp only [Sh.ex] at hh ⊢
  case slice => obtain ⟨p, n, c, hh⟩ := hh; exact ⟨p, n, c, h _ hh⟩
  all_goals (obtain ⟨n, hh⟩ := hh; exact ⟨n, h _ hh⟩)
theorem Sh.all_mono {s : Sh} {L L' : Value → Prop} (h : ∀ v, L v → L' v) (hh : s.all L) : s.all L' := by
  cases s <;> simp only [Sh.all] at hh ⊢ <;> intros <;> exact h _ (hh ..)

def okL : List Sh → List Value → Bool
  | [], [] => true
  | s :: l, v :: vs => s.ok v && okL l vs
  | _, _ => false
def allL : List Sh → (List Value → Prop) → Prop
  | [], L => L []
  | s :: l, L => s.all fun v => allL l fun vs => L (v :: vs)
def exL : List Sh → (List Value → Prop) → Prop
  | [], L => L []
  | s :: l, L => s.ex fun v => exL l fun vs => L (v :: vs)
theorem allL_elim {l : List Sh} : ∀ {L : List Value → Prop}, allL l L → ∀ {vs : List Value}, okL l vs = true → L vs := by
  induction l with
  | nil => intro L h vs hv; cases vs <;> simp [okL] at hv; exact h
  | cons s l ih =>
    intro L h vs hv
    cases vs with
    | nil => simp [okL] at hv
    | cons v vs =>
      simp only [okL, Bool.and_eq_true] at hv
      exact ih (Sh.all_elim h hv.1) hv.2
theorem exL_elim {l : List Sh} : ∀ {L : List Value → Prop}, exL l L → ∃ vs, okL l vs = true ∧ L vs := by
  induction l with
  | nil => intro L h; exact ⟨[], rfl, h⟩
  | cons s l ih =>
    intro L h
    obtain ⟨v, hv, h⟩ := Sh.ex_elim h
    obtain ⟨vs, hvs, h⟩ := ih h
    exact ⟨v :: vs, by simp [okL, hv, hvs], h⟩
theorem exL_mono {l : List Sh} : ∀ {L L' : List Value → Prop}, (∀ vs, L vs → L' vs) → exL l L → exL l L' := by
  induction l with
  | nil => intro L L' h hh; exact h _ hh
  | cons s l ih => intro L L' h hh; exact Sh.ex_mono (fun v hv => ih (fun vs hvs => h _ hvs) hv) hh
theorem allL_mono {l : List Sh} : ∀ {L L' : List Value → Prop}, (∀ vs, L vs → L' vs) → allL l L → allL l L' := by
  induction l with
  | nil => intro L L' h hh; exact h _ hh
  | cons s l ih => intro L L' h hh; exact Sh.all_mono (fun v hv => ih (fun vs hvs => h _ hvs) hv) hh
theorem okL_length {l : List Sh} : ∀ {vs : List Value}, okL l vs = true → vs.length = l.length := by
  induction l with
  | nil => intro vs h; cases vs <;> simp [okL] at h ⊢
  | cons s l ih =>
    intro vs h
    cases vs with
    | nil => simp [okL] at h
    | cons v vs => simp only [okL, Bool.and_eq_true] at h; simp [ih h.2]

def Shape.ok : Shape → Value → Bool
  | .one s, v => s.ok v
  | .agg l, .agg cs => okL l cs.toList
  | .big n, .agg cs => decide (cs.size = n)
  | _, _ => false
def Shape.all : Shape → (Value → Prop) → Prop
  | .one s, L => s.all L
  | .agg l, L => allL l fun vs => L (.agg vs.toArray)
  | .big n, L => ∀ cs : Array Value, cs.size = n → L (.agg cs)
def Shape.ex : Shape → (Value → Prop) → Prop
  | .one s, L => s.ex L
  | .agg l, L => exL l fun vs => L (.agg vs.toArray)
  | .big n, L => ∃ cs : Array Value, cs.size = n ∧ L (.agg cs)
theorem Shape.all_elim {s : Shape} {L : Value → Prop} (h : s.all L) {v : Value} (hv : s.ok v = true) : L v := by
  cases s with
  | one s => exact Sh.all_elim h hv
  | agg l =>
    cases v <;> simp [Shape.ok] at hv
    rename_i cs
    have := allL_elim h hv
    simpa using this
  | big n =>
    cases v <;> simp [Shape.ok] at hv
    exact h _ hv
theorem Shape.ex_elim {s : Shape} {L : Value → Prop} (h : s.ex L) : ∃ v, s.ok v = true ∧ L v := by
  cases s with
  | one s => exact Sh.ex_elim h
  | agg l => obtain ⟨vs, h1, h2⟩ := exL_elim h; exact ⟨_, by simpa [Shape.ok] using h1, h2⟩
  | big n => obtain ⟨cs, h1, h2⟩ := h; exact ⟨_, by simpa [Shape.ok] using h1, h2⟩
theorem Shape.ex_mono {s : Shape} {L L' : Value → Prop} (h : ∀ v, L v → L' v) (hh : s.ex L) : s.ex L' := by
  cases s with
  | one s => exact Sh.ex_mono h hh
  | agg l => exact exL_mono (fun vs => h _) hh
  | big n => obtain ⟨cs, h1, h2⟩ := hh; exact ⟨cs, h1, h _ h2⟩
theorem Shape.all_mono {s : Shape} {L L' : Value → Prop} (h : ∀ v, L v → L' v) (hh : s.all L) : s.all L' := by
  cases s with
  | one s => exact Sh.all_mono h hh
  | agg l => exact allL_mono (fun vs => h _) hh
  | big n => exact fun cs h1 => h _ (hh cs h1)

def exS : List Shape → (List Value → Prop) → Prop
  | [], L => L []
  | s :: l, L => s.ex fun v => exS l fun vs => L (v :: vs)
theorem exS_elim {l : List Shape} : ∀ {L : List Value → Prop}, exS l L → ∃ vs, L vs := by
  induction l with
  | nil => intro L h; exact ⟨[], h⟩
  | cons s l ih =>
    intro L h
    obtain ⟨v, _, h⟩ := Shape.ex_elim h
    obtain ⟨vs, h⟩ := ih h
    exact ⟨v :: vs, h⟩
theorem exS_mono {l : List Shape} : ∀ {L L' : List Value → Prop}, (∀ vs, L vs → L' vs) → exS l L → exS l L' := by
  induction l with
  | nil => intro L L' h hh; exact h _ hh
  | cons s l ih => intro L L' h hh; exact Shape.ex_mono (fun v hv => ih (fun vs hvs => h _ hvs) hv) hh

def shOf : Value → Sh
  | .int k _ => .int k
  | .bool _ => .bool
  | .string _ => .str
  | .pointer _ => .ptr
  | .slice .. => .slice
  | .map _ => .map
  | _ => .any
def shapeOf (few : Bool) : Value → Shape
  | .agg cs => cond (few && Nat.ble cs.size 40) (.agg (cs.toList.map shOf)) (.big cs.size)
  | v => .one (shOf v)
/-- Structs are told cell by cell, arrays as a whole. -/
def fewT (P : Program) (t : TypeId) : Bool := match P.underlying t with | some (.array _ _) => false | _ => true
/-- The shape of a type's values. -/
def typeShape (P : Program) (t : TypeId) : Shape :=
  match P.info? t with
  | some i => (match i.zero with | some v => shapeOf (fewT P t) v | none => .one .any)
  | none => .one .any
/-- What comes back of a call: one value, or a tuple. -/
def retEx (P : Program) (t : TypeId) (L : Value → Prop) : Prop :=
  match P.underlying t with
  | some (.tuple ts) => exS (ts.toList.map (typeShape P)) fun vs => L (.tuple vs.toArray)
  | _ => (typeShape P t).ex L
theorem retEx_elim {P : Program} {t : TypeId} {L : Value → Prop} (h : retEx P t L) : ∃ v, L v := by
  unfold retEx at h
  split at h
  · obtain ⟨vs, h⟩ := exS_elim h; exact ⟨_, h⟩
  · obtain ⟨v, _, h⟩ := Shape.ex_elim h; exact ⟨v, h⟩
theorem retEx_mono {P : Program} {t : TypeId} {L L' : Value → Prop} (h : ∀ v, L v → L' v) (hh : retEx P t L) : retEx P t L' := by
  unfold retEx at hh ⊢
  split
  · rename_i ts he
    simp only [he] at hh
    exact exS_mono (fun vs => h _) hh
  · rename_i he
    have : (typeShape P t).ex L := by
      revert hh
      split
      · rename_i ts' he'; exact absurd he' (he ts')
      · exact id
    exact Shape.ex_mono h this

/-! ### transformers of a value alone -/
structure PT where
  run : (Value → Prop) → Prop
  mono : ∀ {K K' : Value → Prop}, (∀ v, K v → K' v) → run K → run K'
def PT.ret (v : Value) : PT := ⟨fun K => K v, fun h => h v⟩
def PT.fail : PT := ⟨fun _ => False, fun _ h => h⟩
def PT.cnd (b : Bool) (x y : PT) : PT := ⟨fun K => Go.Vc.cnd b (x.run K) (y.run K), fun h hh => cnd_mono hh (x.mono h) (y.mono h)⟩
def PT.need (p : Prop) (x : PT) : PT := ⟨fun K => p ∧ x.run K, fun h hh => ⟨hh.1, x.mono h hh.2⟩⟩
def PT.deref (p : Option Addr) (f : Addr → PT) : PT :=
  ⟨fun K => Deref p fun a => (f a).run K, fun h hh => by cases p with | none => exact hh | some a => exact (f a).mono h hh⟩
def PT.opt {α : Type} (o : Option α) (f : α → PT) : PT :=
  ⟨fun K => IsSome o fun a => (f a).run K, fun h hh => by cases o with | none => exact hh | some a => exact (f a).mono h hh⟩
def PT.exBool (p : Bool → Prop) : PT := ⟨fun K => ∃ b : Bool, p b ∧ K (.bool b), fun h ⟨b, h1, h2⟩ => ⟨b, h1, h _ h2⟩⟩
def PT.exByte (p : UInt8 → Prop) : PT := ⟨fun K => ∃ b : UInt8, p b ∧ K (.int .u8 b.toNat), fun h ⟨b, h1, h2⟩ => ⟨b, h1, h _ h2⟩⟩
def PT.exShape (s : Shape) (p : Value → Prop) : PT := ⟨fun K => s.ex fun v => p v ∧ K v, fun h hh => Shape.ex_mono (fun v hv => ⟨hv.1, h v hv.2⟩) hh⟩

/-- What a transformer owes to a computation: a value that meets the post, whatever the world. -/
def PT.sound (P : Program) (t : PT) (s : Sem Value) : Prop := ∀ K, t.run K → ∃ v, K v ∧ ∀ w, s.run P w = .ok v w

def ev (tm : List Value) : Operand → Value
  | .tmp t => tm.getD t undef
  | .const v => v
  | .global g => .pointer (some ⟨g, 0, none⟩)
  | .func f => .func (.func f) #[] #[]

def isAggT (P : Program) (t : TypeId) : Bool := match P.underlying t with | some (.struct _) | some (.array _ _) => true | _ => false
def cellsT (P : Program) (t : TypeId) : Option Nat := (P.info? t).map (·.size)

/-! ### integers -/
def intT (op : BinOp) (x y : Value) : PT :=
  match x, y with
  | .int k a, .int k' b =>
    match op with
    | .shl => .cnd (decide (b < 0)) .fail (.ret (.int k (k.wrap (a * 2 ^ (min b.toNat k.bits)))))
    | .shr => .cnd (decide (b < 0)) .fail (.ret (.int k (a.fdiv (2 ^ (min b.toNat k.bits)))))
    | .add => .cnd (decide (k = k')) (.ret (.int k (k.wrap (a + b)))) .fail
    | .sub => .cnd (decide (k = k')) (.ret (.int k (k.wrap (a - b)))) .fail
    | .mul => .cnd (decide (k = k')) (.ret (.int k (k.wrap (a * b)))) .fail
    | .quo => .cnd (decide (k = k')) (.cnd (decide (b = 0)) .fail (.ret (.int k (k.wrap (a.tdiv b))))) .fail
    | .rem => .cnd (decide (k = k')) (.cnd (decide (b = 0)) .fail (.ret (.int k (a.tmod b)))) .fail
    | .and => .cnd (decide (k = k')) (.ret (.int k (bits .and k a b))) .fail
    | .or => .cnd (decide (k = k')) (.ret (.int k (bits .or k a b))) .fail
    | .xor => .cnd (decide (k = k')) (.ret (.int k (bits .xor k a b))) .fail
    | .andNot => .cnd (decide (k = k')) (.ret (.int k (bits .andNot k a b))) .fail
    | .eql => .cnd (decide (k = k')) (.ret (.bool (a == b))) .fail
    | .neq => .cnd (decide (k = k')) (.ret (.bool (a != b))) .fail
    | .lss => .cnd (decide (k = k')) (.ret (.bool (decide (a < b)))) .fail
    | .leq => .cnd (decide (k = k')) (.ret (.bool (decide (a ≤ b)))) .fail
    | .gtr => .cnd (decide (k = k')) (.ret (.bool (decide (a > b)))) .fail
    | .geq => .cnd (decide (k = k')) (.ret (.bool (decide (a ≥ b)))) .fail
  | _, _ => .fail

theorem sound_ret {P : Program} {v : Value} {s : Sem Value} (h : ∀ w, s.run P w = .ok v w) : (PT.ret v).sound P s := fun _ hK => ⟨v, hK, h⟩
theorem sound_fail {P : Program} {s : Sem Value} : PT.fail.sound P s := fun _ hK => hK.elim
theorem sound_cnd {P : Program} {b : Bool} {x y : PT} {s : Sem Value} (h1 : b = true → x.sound P s) (h0 : b = false → y.sound P s) : (PT.cnd b x y).sound P s := by
  intro K hK
  rcases cnd_cases hK with ⟨hb, h⟩ | ⟨hb, h⟩
  · exact h1 hb K h
  · exact h0 hb K h
theorem sound_need {P : Program} {p : Prop} {x : PT} {s : Sem Value} (h : p → x.sound P s) : (PT.need p x).sound P s := fun K hK => h hK.1 K hK.2
theorem sound_deref {P : Program} {p : Option Addr} {f : Addr → PT} {s : Sem Value} (h : ∀ a, p = some a → (f a).sound P s) : (PT.deref p f).sound P s := by
  intro K hK
  obtain ⟨a, ha, hK⟩ := Deref_elim hK
  exact h a ha K hK
theorem sound_opt {P : Program} {α : Type} {o : Option α} {f : α → PT} {s : Sem Value} (h : ∀ a, o = some a → (f a).sound P s) : (PT.opt o f).sound P s := by
  intro K hK
  obtain ⟨a, ha, hK⟩ := IsSome_elim hK
  exact h a ha K hK
theorem sound_exBool {P : Program} {p : Bool → Prop} {s : Sem Value} (h : ∀ b, p b → ∀ w, s.run P w = .ok (.bool b) w) : (PT.exBool p).sound P s := by
  intro K ⟨b, h1, h2⟩
  exact ⟨_, h2, h b h1⟩
theorem sound_exByte {P : Program} {p : UInt8 → Prop} {s : Sem Value} (h : ∀ b, p b → ∀ w, s.run P w = .ok (.int .u8 b.toNat) w) : (PT.exByte p).sound P s := by
  intro K ⟨b, h1, h2⟩
  exact ⟨_, h2, h b h1⟩
theorem sound_exShape {P : Program} {sh : Shape} {p : Value → Prop} {s : Sem Value} (h : ∀ v, sh.ok v = true → p v → ∀ w, s.run P w = .ok v w) : (PT.exShape sh p).sound P s := by
  intro K hK
  obtain ⟨v, hv, h1, h2⟩ := Shape.ex_elim hK
  exact ⟨v, h2, h v hv h1⟩

theorem eqGuard_int (P : Program) (op : BinOp) (t : TypeId) (x y : Operand) (k : IntKind) (a : Int) (v : Value) (w : World) : (eqGuard op t x y (.int k a) v).run P w = .ok () w := by
  rw [eqGuard_at_int]; rfl

theorem intT_sound (P : Program) (op : BinOp) (t : TypeId) (xo yo : Operand) (x y : Value) :
    (intT op x y).sound P (do eqGuard op t xo yo x y; binOp op t x y) := by
  unfold intT
  split
  · rename_i k a k' b
    have hg : ∀ (s : Sem Value) w, (do eqGuard op t xo yo (.int k a) (.int k' b); s : Sem Value).run P w = s.run P w := fun s w => by simp [eqGuard_int]
    split <;>
      first
      | (refine sound_cnd (fun _ => sound_fail) (fun h => sound_ret fun w => ?_)
         rw [hg]
         have h := of_decide_eq_false h
         simp [binOp, Op.shift, h])
      | (refine sound_cnd (fun h => ?_) (fun _ => sound_fail)
         obtain rfl := of_decide_eq_true h
         first
         | (refine sound_ret fun w => ?_
            rw [hg]
            simp [binOp, Op.intArith, Op.intBits, Op.intCmp, bits])
         | (refine sound_cnd (fun _ => sound_fail) (fun h => sound_ret fun w => ?_)
            rw [hg]
            have h := of_decide_eq_false h
            simp [binOp, Op.intDiv, h]))
  · exact sound_fail
end Go.Vc
