/-
Texts of this claim, merged: CpuP, Vmem, MemW, MemA, MemB, MemC, MemD, MemE, MemF, Vref04, MemL, RefA, RefB, RefC, RefD.
Conditions: each theorem's own.
-/
import Derived.Test.YtcnnnlhoiodeaaaGreatPkCpuPlaysD
import Derived.Test.YtcnnnlhoiodeaaaGreatProg
import Derived.Laws.Pointers
import Derived.Laws.Cover3
set_option linter.unusedSimpArgs false
set_option linter.unnecessarySimpa false
set_option linter.unusedVariables false
set_option linter.unusedSectionVars false

/-
The machine, the plain part: its state, what a step makes of it.
Conditions: none.
-/
namespace Go.Proofs.YtcnnnlhoiodeaaaGreat
open Go Go.Vc Go.RowKit
set_option maxRecDepth 100000

/-- What is seen of a step. -/
structure Sn where
  pc : Int
  k : Int
  a : Int
  b : Int
  t : Bool
  deriving DecidableEq
structure Cst where
  pc : Int
  R : Nat → Int
  T : Nat → Bool
  over : Bool
  code : Int
  e : Int
  told : List (Int × Bool)
  tr : List Sn
  M : List Pt
def U64 (x : Int) : Prop := 0 ≤ x ∧ x < 18446744073709551616
def uw (x : Int) : Int := IntKind.u64.wrap x
theorem uw_eq (x : Int) : uw x = x % 18446744073709551616 := wrap_u64 x
theorem uw_in (x : Int) : U64 (uw x) := by rw [uw_eq]; exact ⟨by omega, by omega⟩
def upd {α : Type} (f : Nat → α) (i : Nat) (v : α) : Nat → α := fun j => if j = i then v else f j
theorem upd_same {α : Type} (f : Nat → α) (i : Nat) (v : α) : upd f i v i = v := if_pos rfl
theorem upd_other {α : Type} (f : Nat → α) {i j : Nat} (v : α) (h : j ≠ i) : upd f i v j = f j := if_neg h
def setS (s : Cst) (d : Int) (v : Int) (t : Bool) : Cst := if d > 0 then { s with R := upd s.R d.toNat v, T := upd s.T d.toNat t } else s
def likeS (o : Int) : Int := if o = 15 then 1 else if o = 16 then 5 else if o = 17 then 6 else if o = 18 then 9 else if o = 19 then 10 else if o = 20 then 3 else if o = 21 then 7 else if o = 22 then 8 else 0
def goesS (o a b : Int) : Bool := if o = 28 then decide (a = b) else if o = 29 then decide (a ≠ b) else if o = 30 then decide (a < b) else decide (a ≥ b)
def sizeS (o : Int) : Int := if o = 24 ∨ o = 26 then 1 else 8
def isDiv (o : Int) : Bool := decide (o = 13 ∨ o = 14)
def clr (v : Int) : Int := bits .andNot .u64 v 1
/-- An instruction; the machine's place is behind it already. -/
def doS (s : Cst) (o d v pc ra : Int) (ta : Bool) (rb : Int) (tb : Bool) : Cst × Sn × Int :=
  if o ≤ 14 then (setS s d (opv o ra rb) (ta || tb), if isDiv o = true then ⟨pc, 4, ra, rb, ta || tb⟩ else ⟨pc, 1, 0, 0, false⟩, 0)
  else if o ≤ 22 then (setS s d (opv (likeS o) ra (uw v)) ta, ⟨pc, 1, 0, 0, false⟩, 0)
  else if o ≤ 23 then (setS s d (uw v) false, ⟨pc, 1, 0, 0, false⟩, 0)
  else if o ≤ 25 then (setS s d (loadM s.M (uw (ra + uw v)) (sizeS o)).1 ((loadM s.M (uw (ra + uw v)) (sizeS o)).2.1 || ta), ⟨pc, 2, uw (ra + uw v), 0, ta⟩, (loadM s.M (uw (ra + uw v)) (sizeS o)).2.2)
  else if o ≤ 27 then ({ s with M := (storeM s.M (uw (ra + uw v)) (sizeS o) rb (ta || tb)).1 }, ⟨pc, 3, uw (ra + uw v), 0, ta⟩, (storeM s.M (uw (ra + uw v)) (sizeS o) rb (ta || tb)).2)
  else if o ≤ 31 then (if goesS o ra rb = true then { s with pc := uw (pc + uw v) } else s, ⟨pc, 1, 0, 0, ta || tb⟩, 0)
  else if o ≤ 32 then ({ setS s d (uw (pc + 4)) false with pc := uw (pc + uw v) }, ⟨pc, 1, 0, 0, false⟩, 0)
  else if o ≤ 33 then ({ setS s d (uw (pc + 4)) false with pc := clr (uw (ra + uw v)) }, ⟨pc, 1, 0, 0, ta⟩, 0)
  else if s.R 17 > 5 then (s, ⟨pc, 5, s.R 17, 0, s.T 17⟩, 51)
  else if s.R 17 = 4 then ({ s with told := s.told ++ [(s.R 10, s.T 10)], T := upd s.T 10 false }, ⟨pc, 5, s.R 17, 0, s.T 17⟩, 0)
  else if s.R 17 < 4 then ({ s with over := true, code := IntKind.u8.wrap (s.R 17), pc := pc }, ⟨pc, 5, s.R 17, 0, s.T 17⟩, 0)
  else (s, ⟨pc, 5, s.R 17, 0, s.T 17⟩, 0)
def failS (s : Cst) (e : Int) : Cst × Int := ({ s with over := true, e := e }, e)
def insS (s : Cst) (w : Int) : Cst × Sn × Int :=
  doS { s with pc := uw (s.pc + 4) } (decF w 0) (decF w 1) (decF w 4) s.pc (s.R (decF w 2).toNat) (s.T (decF w 2).toNat) (s.R (decF w 3).toNat) (s.T (decF w 3).toNat)
def stepS (s : Cst) : Cst × Int :=
  if s.over = true then (s, 50)
  else if 1048576 ≤ s.tr.length then (s, 4)
  else if (fetchM s.M s.pc).2 ≠ 0 then failS s (fetchM s.M s.pc).2
  else if decE (fetchM s.M s.pc).1 ≠ 0 then failS s (decE (fetchM s.M s.pc).1)
  else if (insS s (fetchM s.M s.pc).1).2.2 ≠ 0 then failS s (insS s (fetchM s.M s.pc).1).2.2
  else ({ (insS s (fetchM s.M s.pc).1).1 with tr := (insS s (fetchM s.M s.pc).1).1.tr ++ [(insS s (fetchM s.M s.pc).1).2.1] }, 0)

/-! ### what stays true of a state -/
structure CstOk (s : Cst) : Prop where
  pc : U64 s.pc
  R : ∀ i, i < 32 → U64 (s.R i)
  code : 0 ≤ s.code ∧ s.code < 256
  told : s.told.length ≤ s.tr.length + 1
  tr : s.tr.length ≤ 1048576
  ne : 0 < s.M.length
  M : StOk s.M
theorem dec_small {w : Int} (h : decE w = 0) : (1 ≤ decF w 0 ∧ decF w 0 ≤ 34) ∧ (0 ≤ decF w 1 ∧ decF w 1 < 32) ∧ (0 ≤ decF w 2 ∧ decF w 2 < 32) ∧ (0 ≤ decF w 3 ∧ decF w 3 < 32) := by
  unfold decE at h
  unfold decF
  cases hk : decK w with
  | none => rw [hk] at h; cases h
  | some k =>
    simp only
    have f1 := fld5 w 7
    have f2 := fld5 w 15
    have f3 := fld5 w 20
    have hk := k.2
    refine ⟨⟨by omega, by omega⟩, ?_, ?_, ?_⟩
    · unfold gRd; split <;> exact ⟨by omega, by omega⟩
    · unfold gR1; split <;> exact ⟨by omega, by omega⟩
    · unfold gR2; split <;> exact ⟨by omega, by omega⟩
theorem setS_M (s : Cst) (d v : Int) (t : Bool) : (setS s d v t).M = s.M ∧ (setS s d v t).tr = s.tr ∧ (setS s d v t).told = s.told ∧ (setS s d v t).pc = s.pc ∧ (setS s d v t).code = s.code ∧ (setS s d v t).over = s.over ∧ (setS s d v t).e = s.e := by
  unfold setS; split <;> exact ⟨rfl, rfl, rfl, rfl, rfl, rfl, rfl⟩
theorem storeM_len (st : List Pt) (a n v : Int) (t : Bool) : (storeM st a n v t).1.length = st.length := by
  unfold storeM layM
  split
  · rfl
  · split
    · rfl
    · split <;> simp
theorem doS_tr (s : Cst) (o d v pc ra : Int) (ta : Bool) (rb : Int) (tb : Bool) : (doS s o d v pc ra ta rb tb).1.tr = s.tr := by
  unfold doS
  by_cases h1 : o ≤ 14
  · rw [if_pos h1]; exact (setS_M _ _ _ _).2.1
  rw [if_neg h1]
  by_cases h2 : o ≤ 22
  · rw [if_pos h2]; exact (setS_M _ _ _ _).2.1
  rw [if_neg h2]
  by_cases h3 : o ≤ 23
  · rw [if_pos h3]; exact (setS_M _ _ _ _).2.1
  rw [if_neg h3]
  by_cases h4 : o ≤ 25
  · rw [if_pos h4]; exact (setS_M _ _ _ _).2.1
  rw [if_neg h4]
  by_cases h5 : o ≤ 27
  · rw [if_pos h5]
  rw [if_neg h5]
  by_cases h6 : o ≤ 31
  · rw [if_pos h6]; show (if goesS o ra rb = true then _ else _ : Cst).tr = _; split <;> rfl
  rw [if_neg h6]
  by_cases h7 : o ≤ 32
  · rw [if_pos h7]; exact (setS_M _ _ _ _).2.1
  rw [if_neg h7]
  by_cases h8 : o ≤ 33
  · rw [if_pos h8]; exact (setS_M _ _ _ _).2.1
  rw [if_neg h8]
  by_cases h9 : s.R 17 > 5
  · rw [if_pos h9]
  rw [if_neg h9]
  by_cases h10 : s.R 17 = 4
  · rw [if_pos h10]
  rw [if_neg h10]
  by_cases h11 : s.R 17 < 4
  · rw [if_pos h11]
  rw [if_neg h11]
end Go.Proofs.YtcnnnlhoiodeaaaGreat

/-
The explicit conditions of some functions of the program, printed by this repo's own program over VcTop: what is proved is that each is the condition.
Conditions: none.
-/
namespace Go.Proofs.YtcnnnlhoiodeaaaGreat
open Go Go.Vc Go.RowKit
set_option maxRecDepth 100000

/- function 59: sacristy/mem.may -/
abbrev mem_may.N : FuncId := 59
def mem_may.H : Hints := {  }
def mem_may.vc (x'_0 x'_1 x'_2 : Int) (w : World) (R : Ending → World → Prop) : Prop := ∀ w', w' = w.alloc (Obj.cells #[.int .u64 x'_0, .int .u64 x'_1, .int .u8 x'_2] 128) →
∃ (n : Int),
w'.cell? (Addr.mk w.heap.size 2 none) = some (.int .u8 n) ∧
cnd (decide (n ≥ 1)) (∃ (n : Int),
w'.cell? (Addr.mk w.heap.size 2 none) = some (.int .u8 n) ∧
cnd (decide (n ≤ 4)) (∃ (n : Int),
w'.cell? (Addr.mk w.heap.size 1 none) = some (.int .u64 n) ∧
cnd (decide (n ≥ 1)) (∃ (n : Int),
w'.cell? (Addr.mk w.heap.size 1 none) = some (.int .u64 n) ∧
cnd (decide (n ≤ 1048576)) (∃ (n : Int),
w'.cell? (Addr.mk w.heap.size 0 none) = some (.int .u64 n) ∧
∃ (n_1 : Int),
w'.cell? (Addr.mk w.heap.size 1 none) = some (.int .u64 n_1) ∧
R (.returned (.bool (decide (n ≤ IntKind.u64.wrap (1099511627776 - n_1))))) w') (R (.returned (.bool false)) w')) (R (.returned (.bool false)) w')) (R (.returned (.bool false)) w')) (R (.returned (.bool false)) w')
theorem mem_may.calls {x'_0 x'_1 x'_2 : Int} {w : World} {R : Ending → World → Prop} (h : mem_may.vc x'_0 x'_1 x'_2 w R) : Calls Tryz.prog 59 ([.agg #[.int .u64 x'_0, .int .u64 x'_1, .int .u8 x'_2]] : List Value).toArray w R := calls_of_eq (show fnV Tryz.prog mem_may.H 59 [.agg #[.int .u64 x'_0, .int .u64 x'_1, .int .u8 x'_2]] w R = _ from by kernel_rfl) h

/- function 62: sacristy/mem.touch -/
abbrev mem_touch.N : FuncId := 62
def mem_touch.H : Hints := {  }
def mem_touch.vc (x'_0 x'_1 : Int) (x'_2 y'_0 : Int) (y'_1 y'_2 : Int) (w : World) (R : Ending → World → Prop) : Prop := ∀ w', w' = w.alloc (Obj.cells #[.int .u64 x'_0, .int .u64 x'_1, .int .u8 x'_2] 128) →
∀ w'_1, w'_1 = w'.alloc (Obj.cells #[.int .u64 y'_0, .int .u64 y'_1, .int .u8 y'_2] 128) →
∃ (n : Int),
w'_1.cell? (Addr.mk w.heap.size 0 none) = some (.int .u64 n) ∧
∃ (n_1 : Int),
w'_1.cell? (Addr.mk w'.heap.size 0 none) = some (.int .u64 n_1) ∧
∃ (n_2 : Int),
w'_1.cell? (Addr.mk w'.heap.size 1 none) = some (.int .u64 n_2) ∧
cnd (decide (n < IntKind.u64.wrap (n_1 + n_2))) (∃ (n : Int),
w'_1.cell? (Addr.mk w'.heap.size 0 none) = some (.int .u64 n) ∧
∃ (n_3 : Int),
w'_1.cell? (Addr.mk w.heap.size 0 none) = some (.int .u64 n_3) ∧
∃ (n_4 : Int),
w'_1.cell? (Addr.mk w.heap.size 1 none) = some (.int .u64 n_4) ∧
R (.returned (.bool (decide (n < IntKind.u64.wrap (n_3 + n_4))))) w'_1) (R (.returned (.bool false)) w'_1)
theorem mem_touch.vc_eq (x'_0 x'_1 : Int) (x'_2 y'_0 : Int) (y'_1 y'_2 : Int) (w : World) (R : Ending → World → Prop) : fnV Tryz.prog mem_touch.H 62 [.agg #[.int .u64 x'_0, .int .u64 x'_1, .int .u8 x'_2],
Value.agg #[.int .u64 y'_0, .int .u64 y'_1, .int .u8 y'_2]] w R = mem_touch.vc x'_0 x'_1 x'_2 y'_0 y'_1 y'_2 w R := by kernel_rfl
theorem mem_touch.calls {x'_0 x'_1 : Int} {x'_2 y'_0 : Int} {y'_1 y'_2 : Int} {w : World} {R : Ending → World → Prop} (h : mem_touch.vc x'_0 x'_1 x'_2 y'_0 y'_1 y'_2 w R) : Calls Tryz.prog 62 ([.agg #[.int .u64 x'_0, .int .u64 x'_1, .int .u8 x'_2],
Value.agg #[.int .u64 y'_0, .int .u64 y'_1, .int .u8 y'_2]] : List Value).toArray w R := calls_of_eq (mem_touch.vc_eq x'_0 x'_1 x'_2 y'_0 y'_1 y'_2 w R) h

/- function 61: sacristy/mem.New$1 -/
abbrev mem_New_1.N : FuncId := 61
def mem_New_1.H : Hints := {  }
def mem_New_1.vc (y'_0 y'_1 y'_2 : Int) (c0 : Option Addr) (w : World) (R : Ending → World → Prop) : Prop := ∀ w', w' = w.alloc (Obj.cells #[.int .u64 y'_0, .int .u64 y'_1, .int .u8 y'_2] 128) →
Deref c0 fun ad =>
∃ (n n_1 n_2 : Int),
(w'.cell? ad = some (.int .u64 n) ∧
w'.cell? (ad.add 1) = some (.int .u64 n_1) ∧
w'.cell? (ad.add 2) = some (.int .u8 n_2) ∧ True) ∧
∃ (n_3 n_4 n_5 : Int),
(w'.cell? (Addr.mk w.heap.size 0 none) = some (.int .u64 n_3) ∧
w'.cell? (Addr.mk w.heap.size 1 none) = some (.int .u64 n_4) ∧
w'.cell? (Addr.mk w.heap.size 2 none) = some (.int .u8 n_5) ∧ True) ∧
Calls Tryz.prog 62 #[.agg #[.int .u64 n, .int .u64 n_1, .int .u8 n_2],
Value.agg #[.int .u64 n_3, .int .u64 n_4, .int .u8 n_5]] w' fun e w' =>
∃ (b : Bool), e = .returned (.bool b) ∧ R (.returned (.bool b)) w'
theorem mem_New_1.calls {y'_0 y'_1 y'_2 : Int} {c0 : Option Addr} {w : World} {R : Ending → World → Prop} (h : mem_New_1.vc y'_0 y'_1 y'_2 c0 w R) : Calls Tryz.prog 61 ([.agg #[.int .u64 y'_0, .int .u64 y'_1, .int .u8 y'_2], .pointer c0] : List Value).toArray w R := calls_of_eq (show fnV Tryz.prog mem_New_1.H 61 [.agg #[.int .u64 y'_0, .int .u64 y'_1, .int .u8 y'_2], .pointer c0] w R = _ from by kernel_rfl) h

/- function 60: slices.ContainsFunc[[]sacristy/api.Region,sacristy/api.Region] -/
abbrev slices_ContainsFunc.N : FuncId := 60
def slices_ContainsFunc.H : Hints := {  }
def slices_ContainsFunc.vc (s' : Option Addr) (s'n s'c : Nat) (f' : Value) (w : World) (R : Ending → World → Prop) : Prop := Calls Tryz.prog 102 #[.slice s' s'n s'c, f'] w fun e w' =>
∃ (n : Int), e = .returned (.int .i64 n) ∧ R (.returned (.bool (decide (n ≥ 0)))) w'
theorem slices_ContainsFunc.calls {s' : Option Addr} {s'n s'c : Nat} {f' : Value} {w : World} {R : Ending → World → Prop} (h : slices_ContainsFunc.vc s' s'n s'c f' w R) : Calls Tryz.prog 60 ([.slice s' s'n s'c, f'] : List Value).toArray w R := calls_of_eq (show fnV Tryz.prog slices_ContainsFunc.H 60 [.slice s' s'n s'c, f'] w R = _ from by kernel_rfl) h

/- function 102: slices.IndexFunc[[]sacristy/api.Region,sacristy/api.Region] -/
abbrev slices_IndexFunc.N : FuncId := 102
def slices_IndexFunc.H : Hints := { loops := [(3, [(8, .one (.int .i64))])] }
def slices_IndexFunc.vc (s' : Option Addr) (s'n s'c : Nat) (f' : Value) (w : World) (R : Ending → World → Prop) : Prop := ∃ (I : List Value → World → Prop) (μ : List Value → World → Nat),
I [.int .i64 0] w ∧
∀ (g : Nat → Value) (s8 : Int) (w' : World),
I [.int .i64 s8] w' →
cnd (decide (s8 < (↑s'n : Int))) ((0 ≤ s8 ∧ s8 < (↑s'n : Int)) ∧
Deref s' fun a =>
∃ (n n_1 n_2 : Int),
(w'.cell? (a.add (s8.toNat * 3)) = some (.int .u64 n) ∧
w'.cell? ((a.add (s8.toNat * 3)).add 1) = some (.int .u64 n_1) ∧
w'.cell? ((a.add (s8.toNat * 3)).add 2) = some (.int .u8 n_2) ∧ True) ∧
AsFn f' fun (f : FuncId) (fi ca : Array Value) =>
cnd (entersB Tryz.prog f) (Calls Tryz.prog f (fi ++ #[.agg #[.int .u64 n, .int .u64 n_1,
Value.int .u8 n_2]] ++ ca) w' fun e w'_1 =>
∃ (b : Bool),
e = .returned (.bool b) ∧
cnd b (R (.returned (.int .i64 s8)) w'_1) (Goes I μ [.int .i64 s8] w' [.int .i64 (IntKind.i64.wrap (s8 + 1))] w'_1)) (RunsC Tryz.prog f (fi ++ #[.agg #[.int .u64 n, .int .u64 n_1,
Value.int .u8 n_2]] ++ ca) w' fun v w'_1 =>
∃ (b : Bool),
v = .bool b ∧
cnd b (R (.returned (.int .i64 s8)) w'_1) (Goes I μ [.int .i64 s8] w' [.int .i64 (IntKind.i64.wrap (s8 + 1))] w'_1))) (R (.returned (.int .i64 (-1))) w')
theorem slices_IndexFunc.calls {s' : Option Addr} {s'n s'c : Nat} {f' : Value} {w : World} {R : Ending → World → Prop} (h : slices_IndexFunc.vc s' s'n s'c f' w R) : Calls Tryz.prog 102 ([.slice s' s'n s'c, f'] : List Value).toArray w R := calls_of_eq (show fnV Tryz.prog slices_IndexFunc.H 102 [.slice s' s'n s'c, f'] w R = _ from by kernel_rfl) h

/- function 32: sacristy/mem.New -/
abbrev mem_New.N : FuncId := 32
def mem_New.H : Hints := { loops := [(6, [(4, .one (.int .u64)), (23, .one (.int .i64))]), (15, [(7, .one .slice), (8, .one .slice), (51, .one (.int .i64))])], mixes := [(11, 5), (17, 1001)] }
def mem_New.vc (l' : Option Addr) (l'n l'c : Nat) (w : World) (R : Ending → World → Prop) : Prop := cnd (decide ((↑l'n : Int) < 1)) (R (.returned (.tuple #[.pointer none, .int .i64 2])) w) (cnd (decide ((↑l'n : Int) > 16)) (R (.returned (.tuple #[.pointer none, .int .i64 2])) w) (∃ (I : List Value → World → Prop) (μ : List Value → World → Nat),
I [.int .u64 0, .int .i64 0] w ∧
∀ (g : Nat → Value) (all s23 : Int) (w' : World),
I [.int .u64 all, .int .i64 s23] w' →
cnd (decide (s23 < (↑l'n : Int))) ((0 ≤ s23 ∧ s23 < (↑l'n : Int)) ∧
Deref l' fun a =>
∃ (n n_1 n_2 : Int),
(w'.cell? (a.add (s23.toNat * 3)) = some (.int .u64 n) ∧
w'.cell? ((a.add (s23.toNat * 3)).add 1) = some (.int .u64 n_1) ∧
w'.cell? ((a.add (s23.toNat * 3)).add 2) = some (.int .u8 n_2) ∧ True) ∧
∀ w'_1, w'_1 = w'.alloc (Obj.cells #[.int .u64 0, .int .u64 0, .int .u8 0] 128) →
SetsAt w'_1 (Addr.mk w'.heap.size 0 none) 0 [.int .u64 n, .int .u64 n_1, .int .u8 n_2] ∧
∀ w'_2, w'_2 = setCellsAt w'_1 (Addr.mk w'.heap.size 0 none) 0 [.int .u64 n, .int .u64 n_1,
Value.int .u8 n_2] →
∃ (n n_3 n_4 : Int),
(w'_2.cell? (Addr.mk w'.heap.size 0 none) = some (.int .u64 n) ∧
w'_2.cell? (Addr.mk w'.heap.size 1 none) = some (.int .u64 n_3) ∧
w'_2.cell? (Addr.mk w'.heap.size 2 none) = some (.int .u8 n_4) ∧
True) ∧
Calls Tryz.prog 59 #[.agg #[.int .u64 n, .int .u64 n_3,
Value.int .u8 n_4]] w'_2 fun e w'_3 =>
∃ (b : Bool),
e = .returned (.bool b) ∧
cnd (!b) (R (.returned (.tuple #[.pointer none, .int .i64 2])) w'_3) ((0 ≤ s23 ∧ s23 ≤ (↑l'c : Int)) ∧
Calls Tryz.prog 60 #[.slice (reslice l' 0 l'c 3) (s23.toNat - 0) (l'c - 0),
Value.func (Fn.func 61) #[] #[.pointer (some (Addr.mk w'.heap.size 0 none))]] w'_3 fun e w'_4 =>
∃ (b : Bool),
e = .returned (.bool b) ∧
cnd b (R (.returned (.tuple #[.pointer none, .int .i64 2])) w'_4) (∃ (n : Int),
w'_4.cell? (Addr.mk w'.heap.size 1 none) = some (.int .u64 n) ∧
Goes I μ [.int .u64 all,
Value.int .i64 s23] w' [.int .u64 (IntKind.u64.wrap (all + n)),
Value.int .i64 (IntKind.i64.wrap (s23 + 1))] w'_4))) ((0 ≤ all ∧ all = all ∧ all ≤ 16777216 ∧ 1 ≤ 1024 ∧ 1 = 1 ∧ 0 < 1) ∧
∀ (k : Nat),
w'.heap.size ≤ k →
(0 ≤ all ∧ all = all ∧ all ≤ 16777216 ∧ 1 ≤ 1024 ∧ 1 = 1 ∧ 0 < 1) ∧
∀ (k_1 : Nat),
w'.heap.size ≤ k_1 →
∀ w'_1, Vc.Good w' [(k_1, Obj.cells (repL [.bool false] all.toNat).toArray 4),
(k, Obj.cells (repL [.int .u8 0] all.toNat).toArray 5)] w'_1 →
∀ w', w' = w'_1.alloc (Obj.cells #[.slice none 0 0] 147) →
∃ (I : List Value → World → Prop) (μ : List Value → World → Nat),
I [.slice (some (Addr.mk k 0 none)) all.toNat all.toNat,
Value.slice (some (Addr.mk k_1 0 none)) all.toNat all.toNat,
Value.int .i64 0] w' ∧
∀ (g : Nat → Value) (bytes : Option Addr) (bytesn bytesc : Nat) (taints : Option Addr) (taintsn taintsc : Nat) (s51 : Int) (w' : World),
I [.slice bytes bytesn bytesc, .slice taints taintsn taintsc,
Value.int .i64 s51] w' →
cnd (decide (s51 < (↑l'n : Int))) ((0 ≤ s51 ∧ s51 < (↑l'n : Int)) ∧
Deref l' fun a =>
∃ (n n_1 n_2 : Int),
(w'.cell? (a.add (s51.toNat * 3)) = some (.int .u64 n) ∧
w'.cell? ((a.add (s51.toNat * 3)).add 1) = some (.int .u64 n_1) ∧
w'.cell? ((a.add (s51.toNat * 3)).add 2) = some (.int .u8 n_2) ∧
True) ∧
∀ w'_2, w'_2 = w'.alloc (Obj.cells #[.int .u64 0,
Value.int .u64 0, .int .u8 0] 128) →
SetsAt w'_2 (Addr.mk w'.heap.size 0 none) 0 [.int .u64 n, .int .u64 n_1,
Value.int .u8 n_2] ∧
∀ w'_3, w'_3 = setCellsAt w'_2 (Addr.mk w'.heap.size 0 none) 0 [.int .u64 n,
Value.int .u64 n_1,
Value.int .u8 n_2] →
∃ (n : Int),
w'_3.cell? (Addr.mk w'.heap.size 1 none) = some (.int .u64 n) ∧
∃ (C : World → Prop),
(∀ (w' : World), Later w'_3 w' → C w') ∧
∀ w'_4, Later w'_3 w'_4 →
∃ (p : Option Addr) (n_3 c : Nat),
(∀ w', C w' →
w'.cell? (Addr.mk w'_1.heap.size 0 none) = some (.slice p n_3 c)) ∧
∃ (n_4 n_5 n_6 : Int),
(∀ w'_5, C w'_5 →
w'_5.cell? (Addr.mk w'.heap.size 0 none) = some (.int .u64 n_4) ∧
w'_5.cell? (Addr.mk w'.heap.size 1 none) = some (.int .u64 n_5) ∧
w'_5.cell? (Addr.mk w'.heap.size 2 none) = some (.int .u8 n_6) ∧
True) ∧
(0 ≤ n ∧
n ≤ (↑bytesc : Int)) ∧
(0 ≤ n ∧
n ≤ (↑n.toNat : Int)) ∧
(0 ≤ n ∧
n ≤ (↑taintsc : Int)) ∧
(0 ≤ n ∧
n ≤ (↑n.toNat : Int)) ∧
∀ w'_5, w'_5 = w'_4.alloc (Obj.cells #[.int .u64 n_4,
Value.int .u64 n_5,
Value.int .u8 n_6,
Value.slice (reslice bytes 0 n.toNat 1) (n.toNat - 0) (n.toNat - 0),
Value.slice (reslice taints 0 n.toNat 1) (n.toNat - 0) (n.toNat - 0)] 130) →
C w'_5 ∧
∀ w'_6, w'_6 = w'_5.alloc (Obj.cells #[.pointer (some (Addr.mk w'_4.heap.size 0 none))] 124) →
C w'_6 ∧
RunsV Tryz.prog (Builtin.append_ #[145,
145] 145 #[.slice p n_3 c,
Value.slice (some (Addr.mk w'_5.heap.size 0 none)) 1 1]) w'_6 fun v w'_7 =>
∃ (p : Option Addr) (n_7 c : Nat),
v = .slice p n_7 c ∧
C w'_7 ∧
((w'_7.cell? (Addr.mk w'_1.heap.size 0 none)).isSome = true ∧
w'_7.frozen? (Addr.mk w'_1.heap.size 0 none) = false) ∧
∀ w'_8, w'_8 = w'_7.setCell (Addr.mk w'_1.heap.size 0 none) (.slice p n_7 c) →
(0 ≤ n ∧
n ≤ (↑bytesn : Int)) ∧
(0 ≤ n ∧
n ≤ (↑taintsn : Int)) ∧
∀ w'_9, Later w'_8 w'_9 →
Goes I μ [.slice bytes bytesn bytesc,
Value.slice taints taintsn taintsc,
Value.int .i64 s51] w' [.slice (reslice bytes n.toNat bytesc 1) (bytesn - n.toNat) (bytesc - n.toNat),
Value.slice (reslice taints n.toNat taintsc 1) (taintsn - n.toNat) (taintsc - n.toNat),
Value.int .i64 (IntKind.i64.wrap (s51 + 1))] w'_9) (R (.returned (.tuple #[.pointer (some (Addr.mk w'_1.heap.size 0 none)),
Value.int .i64 0])) w'))))
theorem mem_New.calls {l' : Option Addr} {l'n l'c : Nat} {w : World} {R : Ending → World → Prop} (h : mem_New.vc l' l'n l'c w R) : Calls Tryz.prog 32 ([.slice l' l'n l'c] : List Value).toArray w R := calls_of_eq (show fnV Tryz.prog mem_New.H 32 [.slice l' l'n l'c] w R = _ from by kernel_rfl) h

/- function 92: (*sacristy/mem.Mem).each -/
abbrev sacristy_mem_Mem_each.N : FuncId := 92
def sacristy_mem_Mem_each.H : Hints := {  }
def sacristy_mem_Mem_each.vc (m' : Option Addr) (w : World) (R : Ending → World → Prop) : Prop := ∀ w', w' = w.alloc (Obj.cells #[.pointer m'] 33) →
R (.returned (Value.func (Fn.func 121) #[] #[.pointer (some (Addr.mk w.heap.size 0 none))])) w'
theorem sacristy_mem_Mem_each.calls {m' : Option Addr} {w : World} {R : Ending → World → Prop} (h : sacristy_mem_Mem_each.vc m' w R) : Calls Tryz.prog 92 ([.pointer m'] : List Value).toArray w R := calls_of_eq (show fnV Tryz.prog sacristy_mem_Mem_each.H 92 [.pointer m'] w R = _ from by kernel_rfl) h

/- function 121: (*sacristy/mem.Mem).each$1 -/
abbrev sacristy_mem_Mem_each_1.N : FuncId := 121
def sacristy_mem_Mem_each_1.H : Hints := { loops := [(3, [(12, .one (.int .i64))])], raw := [4], yields := [(4, 2)] }
def sacristy_mem_Mem_each_1.vc (yield' : Value) (c0 : Option Addr) (w : World) (R : Ending → World → Prop) : Prop := Deref c0 fun ad =>
∃ (p : Option Addr),
w.cell? ad = some (.pointer p) ∧
∃ (b : Bool),
EqRuns Tryz.prog BinOp.eql 33 (Operand.tmp 5) (Operand.const (.pointer none)) (.pointer p) (.pointer none) b ∧
cnd b (R (.returned (.tuple #[])) w) (Deref c0 fun ad =>
∃ (p : Option Addr),
w.cell? ad = some (.pointer p) ∧
Deref p fun a =>
∃ (p : Option Addr) (n c : Nat),
w.cell? a = some (.slice p n c) ∧
∃ (I : List Value → World → Prop) (μ : List Value → World → Nat),
I [.int .i64 0] w ∧
∀ (g : Nat → Value) (s12 : Int) (w' : World),
I [.int .i64 s12] w' →
cnd (decide (s12 < (↑n : Int))) ((0 ≤ s12 ∧ s12 < (↑n : Int)) ∧
Deref p fun a =>
∃ (p : Option Addr),
w'.cell? (a.add (s12.toNat * 1)) = some (.pointer p) ∧
AsYield yield' fun (l : Nat) =>
YieldC Tryz.prog l #[.pointer p] w' fun (b : Bool) (w'_1 : World) =>
cnd (!b) (R (.returned (.tuple #[])) w'_1) (Goes I μ [.int .i64 s12] w' [.int .i64 (IntKind.i64.wrap (s12 + 1))] w'_1)) (R (.returned (.tuple #[])) w'))
theorem sacristy_mem_Mem_each_1.calls {yield' : Value} {c0 : Option Addr} {w : World} {R : Ending → World → Prop} (h : sacristy_mem_Mem_each_1.vc yield' c0 w R) : Calls Tryz.prog 121 ([yield', .pointer c0] : List Value).toArray w R := calls_of_eq (show fnV Tryz.prog sacristy_mem_Mem_each_1.H 121 [yield', .pointer c0] w R = _ from by kernel_rfl) h

/- function 93: (*sacristy/mem.part).has -/
abbrev sacristy_mem_part_has.N : FuncId := 93
def sacristy_mem_part_has.H : Hints := {  }
def sacristy_mem_part_has.vc (p' : Option Addr) (at' n' : Int) (w : World) (R : Ending → World → Prop) : Prop := Deref p' fun a =>
∃ (n : Int),
(∀ (w' : World), Later w w' → w'.cell? a = some (.int .u64 n)) ∧
cnd (decide (at' ≥ n)) (Deref p' fun a =>
∃ (n : Int),
(∀ (w' : World), Later w w' → w'.cell? a = some (.int .u64 n)) ∧
Deref p' fun a =>
∃ (n_1 : Int),
(∀ (w' : World), Later w w' → w'.cell? (a.add 1) = some (.int .u64 n_1)) ∧
cnd (decide (IntKind.u64.wrap (at' - n) < n_1)) (Deref p' fun a =>
∃ (n : Int),
(∀ (w' : World), Later w w' → w'.cell? (a.add 1) = some (.int .u64 n)) ∧
Deref p' fun a =>
∃ (n_2 : Int),
(∀ (w' : World), Later w w' → w'.cell? a = some (.int .u64 n_2)) ∧
∀ w', Later w w' →
R (.returned (.bool (decide (IntKind.u64.wrap n' ≤ IntKind.u64.wrap (n - IntKind.u64.wrap (at' - n_2)))))) w') (∀ (w' : World), Later w w' → R (.returned (.bool false)) w')) (∀ (w' : World), Later w w' → R (.returned (.bool false)) w')
theorem sacristy_mem_part_has.calls {p' : Option Addr} {at' n' : Int} {w : World} {R : Ending → World → Prop} (h : sacristy_mem_part_has.vc p' at' n' w R) : Calls Tryz.prog 93 ([.pointer p', .int .u64 at', .int .i64 n'] : List Value).toArray w R := calls_of_eq (show fnV Tryz.prog sacristy_mem_part_has.H 93 [.pointer p', .int .u64 at', .int .i64 n'] w R = _ from by kernel_rfl) h

/- function 50: (*sacristy/mem.Mem).in -/
abbrev sacristy_mem_Mem_in.N : FuncId := 50
def sacristy_mem_Mem_in.H : Hints := { rngs := [(11, [(11, .one .ptr)], [(8, .one .ptr)])], mixes := [(4, 1001)] }
def sacristy_mem_Mem_in.vc (m' : Option Addr) (at' n' : Int) (w : World) (R : Ending → World → Prop) : Prop := ∀ w', w' = w.alloc (Obj.cells #[.int .u64 at'] 22) →
∀ w'_1, w'_1 = w'.alloc (Obj.cells #[.int .i64 n'] 3) →
∀ w'_2, w'_2 = w'_1.alloc (Obj.cells #[.pointer none] 124) →
∀ w'_3, w'_3 = w'_2.alloc (Obj.cells #[.int .i64 0] 3) →
Calls Tryz.prog 92 #[.pointer m'] w'_3 fun e w'_4 =>
∃ (v : Value),
e = .returned v ∧
AsFn v fun (gf : FuncId) (fi lb : Array Value) =>
cnd (entersB Tryz.prog gf) (fi = #[] ∧
∃ (r : Rounds Tryz.prog gf lb w'_4),
(∀ (x : Fin r.N), okV [(11, Shape.one Sh.ptr)] (r.enc x) = true) ∧
(∀ (s11 : Option Addr) (pre : List (Fin r.N)) (x : Fin r.N) (w1 : World),
r.enc x = [.pointer s11] →
r.I pre w1 →
KeepsFrom w'_4.heap.size w1 w1 ∧
KpS r.Ks w1 w1 ∧ r.I pre w1 ∧ r.Mid x [.pointer s11] w1) ∧
(∀ (s11 : Option Addr) (pre : List (Fin r.N)) (x : Fin r.N),
r.enc x = [.pointer s11] →
pre.length < r.N →
∀ (g : Nat → Value) (p : Option Addr) (w'_5 : World),
r.I pre w'_5 ∧ r.Mid x [.pointer p] w'_5 →
∃ (n : Int),
w'_5.cell? (Addr.mk w.heap.size 0 none) = some (.int .u64 n) ∧
∃ (n_1 : Int),
w'_5.cell? (Addr.mk w'.heap.size 0 none) = some (.int .i64 n_1) ∧
Calls Tryz.prog 93 #[.pointer p, .int .u64 n,
Value.int .i64 n_1] w'_5 fun e w' =>
∃ (b : Bool),
e = .returned (.bool b) ∧
cnd b (∃ (C : World → Prop),
(∀ (w'_6 : World), Later w' w'_6 → C w'_6) ∧
∀ w'_6, Later w' w'_6 →
∃ (n : Int),
(∀ w', C w' →
w'.cell? (Addr.mk w.heap.size 0 none) = some (.int .u64 n)) ∧
Deref p fun a =>
∃ (n_2 : Int),
(∀ w', C w' →
w'.cell? a = some (.int .u64 n_2)) ∧
((w'_6.cell? (Addr.mk w'_1.heap.size 0 none)).isSome = true ∧
w'_6.frozen? (Addr.mk w'_1.heap.size 0 none) = false) ∧
∀ w', w' = w'_6.setCell (Addr.mk w'_1.heap.size 0 none) (.pointer p) →
C w' ∧
((w'.cell? (Addr.mk w'_2.heap.size 0 none)).isSome = true ∧
w'.frozen? (Addr.mk w'_2.heap.size 0 none) = false) ∧
∀ w'_7, w'_7 = w'.setCell (Addr.mk w'_2.heap.size 0 none) (.int .i64 (IntKind.i64.wrap (IntKind.u64.wrap (n - n_2)))) →
KeepsFrom w'_4.heap.size w'_5 w'_7 ∧
r.Ix (pre ++ [x]) w'_7) (KeepsFrom w'_4.heap.size w'_5 w' ∧
KpS r.Ks w'_5 w' ∧ r.I (pre ++ [x]) w')) ∧
(∀ (D : Nat) (w1 : World),
w'_4.heap.size ≤ D →
r.I (List.finRange r.N) w1 →
w1.heap[D]? = some (Obj.deferred (some [])) →
((w1.cell? (Addr.mk w'_1.heap.size 0 none)).isSome = true ∧
w1.frozen? (Addr.mk w'_1.heap.size 0 none) = false) ∧
∀ w', w' = w1.setCell (Addr.mk w'_1.heap.size 0 none) (.pointer none) →
((w'.cell? (Addr.mk w'_2.heap.size 0 none)).isSome = true ∧
w'.frozen? (Addr.mk w'_2.heap.size 0 none) = false) ∧
∀ w'_5, w'_5 = w'.setCell (Addr.mk w'_2.heap.size 0 none) (.int .i64 0) →
w'_5.heap[D]? = some (Obj.deferred (some [])) ∧
∀ w', w' = w'_5.putObj D (Obj.deferred none) →
∃ (p : Option Addr),
w'.cell? (Addr.mk w'_1.heap.size 0 none) = some (.pointer p) ∧
∃ (n : Int),
w'.cell? (Addr.mk w'_2.heap.size 0 none) = some (.int .i64 n) ∧
R (.returned (.tuple #[.pointer p,
Value.int .i64 n])) w') ∧
∀ (D : Nat) (pre : List (Fin r.N)) (w1 : World),
w'_4.heap.size ≤ D →
(∃ (t : List (Fin r.N)), pre ++ t = List.finRange r.N) →
r.Ix pre w1 →
w1.heap[D]? = some (Obj.deferred (some [])) →
w1.heap[D]? = some (Obj.deferred (some [])) ∧
∀ w', w' = w1.putObj D (Obj.deferred none) →
∃ (p : Option Addr),
w'.cell? (Addr.mk w'_1.heap.size 0 none) = some (.pointer p) ∧
∃ (n : Int),
w'.cell? (Addr.mk w'_2.heap.size 0 none) = some (.int .i64 n) ∧
R (.returned (.tuple #[.pointer p, .int .i64 n])) w') False
theorem sacristy_mem_Mem_in.calls {m' : Option Addr} {at' n' : Int} {w : World} {R : Ending → World → Prop} (h : sacristy_mem_Mem_in.vc m' at' n' w R) : Calls Tryz.prog 50 ([.pointer m', .int .u64 at', .int .i64 n'] : List Value).toArray w R := calls_of_eqM (show fnM Tryz.prog sacristy_mem_Mem_in.H 50 [.pointer m', .int .u64 at', .int .i64 n'] w R = _ from by kernel_rfl) h

/- function 144: (*sacristy/mem.Mem).right -/
abbrev sacristy_mem_Mem_right.N : FuncId := 144
def sacristy_mem_Mem_right.H : Hints := {  }
def sacristy_mem_Mem_right.vc (m' : Option Addr) (n' : Int) (w : World) (R : Ending → World → Prop) : Prop := ∃ (b : Bool),
EqRuns Tryz.prog BinOp.eql 33 (Operand.tmp 6) (Operand.const (.pointer none)) (.pointer m') (.pointer none) b ∧
cnd b (R (.returned (.int .i64 1)) w) (cnd (decide (n' < 1)) (R (.returned (.int .i64 2)) w) (cnd (decide (n' > 8)) (R (.returned (.int .i64 2)) w) (R (.returned (.int .i64 0)) w)))
theorem sacristy_mem_Mem_right.calls {m' : Option Addr} {n' : Int} {w : World} {R : Ending → World → Prop} (h : sacristy_mem_Mem_right.vc m' n' w R) : Calls Tryz.prog 144 ([.pointer m', .int .i64 n'] : List Value).toArray w R := calls_of_eq (show fnV Tryz.prog sacristy_mem_Mem_right.H 144 [.pointer m', .int .i64 n'] w R = _ from by kernel_rfl) h

/- function 134: (*sacristy/mem.Mem).Load -/
abbrev sacristy_mem_Mem_Load.N : FuncId := 134
def sacristy_mem_Mem_Load.H : Hints := { loops := [(9, [(7, .one .bool), (50, .one (.int .i64))])] }
def sacristy_mem_Mem_Load.vc (m' : Option Addr) (at' n' : Int) (w : World) (R : Ending → World → Prop) : Prop := Calls Tryz.prog 144 #[.pointer m', .int .i64 n'] w fun e w' =>
∃ (n : Int),
e = .returned (.int .i64 n) ∧
cnd (n != 0) (R (.returned (.tuple #[.int .u64 0, .bool false, .int .i64 n])) w') (Calls Tryz.prog 50 #[.pointer m', .int .u64 at', .int .i64 n'] w' fun e w' =>
∃ (p : Option Addr) (n : Int),
e = .returned (.tuple #[.pointer p, .int .i64 n]) ∧
∃ (b : Bool),
EqRuns Tryz.prog BinOp.eql 124 (Operand.tmp 27) (Operand.const (.pointer none)) (.pointer p) (.pointer none) b ∧
cnd b (R (.returned (.tuple #[.int .u64 0, .bool false, .int .i64 40])) w') (Deref p fun a =>
∃ (n_1 : Int),
w'.cell? (a.add 2) = some (.int .u8 n_1) ∧
cnd (n_1 == 1) (R (.returned (.tuple #[.int .u64 0, .bool false, .int .i64 40])) w') (Deref p fun a =>
∃ (p_1 : Option Addr) (n_2 c : Nat),
w'.cell? (a.add 4) = some (.slice p_1 n_2 c) ∧
(0 ≤ IntKind.i64.wrap (n + n') ∧ IntKind.i64.wrap (n + n') ≤ (↑c : Int)) ∧
(0 ≤ IntKind.i64.wrap (n + n') ∧
IntKind.i64.wrap (n + n') ≤ (↑(IntKind.i64.wrap (n + n')).toNat : Int)) ∧
(0 ≤ n ∧ n ≤ (↑(IntKind.i64.wrap (n + n')).toNat : Int)) ∧
∃ (I : List Value → World → Prop) (μ : List Value → World → Nat),
I [.bool false, .int .i64 0] w' ∧
∀ (g : Nat → Value) (taint : Bool) (s50 : Int) (w' : World),
I [.bool taint, .int .i64 s50] w' →
cnd (decide (s50 < (↑((IntKind.i64.wrap (n + n')).toNat - n.toNat) : Int))) ((0 ≤ s50 ∧
s50 < (↑((IntKind.i64.wrap (n + n')).toNat - n.toNat) : Int)) ∧
Deref (reslice p_1 n.toNat (IntKind.i64.wrap (n + n')).toNat 1) fun a =>
∃ (b : Bool),
w'.cell? (a.add (s50.toNat * 1)) = some (.bool b) ∧
cnd taint (Goes I μ [.bool taint, .int .i64 s50] w' [.bool true,
Value.int .i64 (IntKind.i64.wrap (s50 + 1))] w') (Goes I μ [.bool taint, .int .i64 s50] w' [.bool b,
Value.int .i64 (IntKind.i64.wrap (s50 + 1))] w')) (Deref p fun a =>
∃ (p : Option Addr) (n_3 c : Nat),
w'.cell? (a.add 3) = some (.slice p n_3 c) ∧
(0 ≤ IntKind.i64.wrap (n + n') ∧
IntKind.i64.wrap (n + n') ≤ (↑c : Int)) ∧
(0 ≤ IntKind.i64.wrap (n + n') ∧
IntKind.i64.wrap (n + n') ≤ (↑(IntKind.i64.wrap (n + n')).toNat : Int)) ∧
(0 ≤ n ∧
n ≤ (↑(IntKind.i64.wrap (n + n')).toNat : Int)) ∧
RunsV Tryz.prog (convert 90 9 (.slice (reslice p n.toNat (IntKind.i64.wrap (n + n')).toNat 1) ((IntKind.i64.wrap (n + n')).toNat - n.toNat) ((IntKind.i64.wrap (n + n')).toNat - n.toNat))) w' fun v w' =>
∃ (s : ByteArray),
v = .string s ∧
Calls Tryz.prog 65 #[.string s] w' fun e w' =>
∃ (n n_4 : Int),
e = .returned (.tuple #[.int .u64 n,
Value.int .i64 n_4]) ∧
R (.returned (.tuple #[.int .u64 n,
Value.bool taint,
Value.int .i64 n_4])) w'))))
theorem sacristy_mem_Mem_Load.calls {m' : Option Addr} {at' n' : Int} {w : World} {R : Ending → World → Prop} (h : sacristy_mem_Mem_Load.vc m' at' n' w R) : Calls Tryz.prog 134 ([.pointer m', .int .u64 at', .int .i64 n'] : List Value).toArray w R := calls_of_eq (show fnV Tryz.prog sacristy_mem_Mem_Load.H 134 [.pointer m', .int .u64 at', .int .i64 n'] w R = _ from by kernel_rfl) h

/- function 63: (*sacristy/mem.part).lay -/
abbrev sacristy_mem_part_lay.N : FuncId := 63
def sacristy_mem_part_lay.H : Hints := { loops := [(2, [(25, .one (.int .i64))])] }
def sacristy_mem_part_lay.vc (p' : Option Addr) (k' : Int) (s' : ByteArray) (taint' : Bool) (w : World) (R : Ending → World → Prop) : Prop := Deref p' fun a =>
∃ (p : Option Addr) (n c : Nat),
w.cell? (a.add 3) = some (.slice p n c) ∧
(0 ≤ IntKind.i64.wrap (k' + (↑s'.size : Int)) ∧ IntKind.i64.wrap (k' + (↑s'.size : Int)) ≤ (↑c : Int)) ∧
(0 ≤ IntKind.i64.wrap (k' + (↑s'.size : Int)) ∧
IntKind.i64.wrap (k' + (↑s'.size : Int)) ≤ (↑(IntKind.i64.wrap (k' + (↑s'.size : Int))).toNat : Int)) ∧
(0 ≤ k' ∧ k' ≤ (↑(IntKind.i64.wrap (k' + (↑s'.size : Int))).toNat : Int)) ∧
RunsV Tryz.prog (Builtin.copy_ #[90, 9] 3 #[.slice (reslice p k'.toNat (IntKind.i64.wrap (k' + (↑s'.size : Int))).toNat 1) ((IntKind.i64.wrap (k' + (↑s'.size : Int))).toNat - k'.toNat) ((IntKind.i64.wrap (k' + (↑s'.size : Int))).toNat - k'.toNat),
Value.string s']) w fun v w' =>
∃ (n : Int),
v = .int .i64 n ∧
∃ (I : List Value → World → Prop) (μ : List Value → World → Nat),
I [.int .i64 0] w' ∧
∀ (g : Nat → Value) (s25 : Int) (w' : World),
I [.int .i64 s25] w' →
cnd (decide (s25 < n)) (Deref p' fun a =>
∃ (p : Option Addr) (n c : Nat),
w'.cell? (a.add 4) = some (.slice p n c) ∧
(0 ≤ IntKind.i64.wrap (k' + s25) ∧
IntKind.i64.wrap (k' + s25) < (↑n : Int)) ∧
Deref p fun a =>
((w'.cell? (a.add ((IntKind.i64.wrap (k' + s25)).toNat * 1))).isSome = true ∧
w'.frozen? (a.add ((IntKind.i64.wrap (k' + s25)).toNat * 1)) = false) ∧
∀ w'_1, w'_1 = w'.setCell (a.add ((IntKind.i64.wrap (k' + s25)).toNat * 1)) (.bool taint') →
Goes I μ [.int .i64 s25] w' [.int .i64 (IntKind.i64.wrap (s25 + 1))] w'_1) (R (.returned (.tuple #[])) w')
theorem sacristy_mem_part_lay.calls {p' : Option Addr} {k' : Int} {s' : ByteArray} {taint' : Bool} {w : World} {R : Ending → World → Prop} (h : sacristy_mem_part_lay.vc p' k' s' taint' w R) : Calls Tryz.prog 63 ([.pointer p', .int .i64 k', .string s', .bool taint'] : List Value).toArray w R := calls_of_eq (show fnV Tryz.prog sacristy_mem_part_lay.H 63 [.pointer p', .int .i64 k', .string s', .bool taint'] w R = _ from by kernel_rfl) h

/- function 137: (*sacristy/mem.Mem).Store -/
abbrev sacristy_mem_Mem_Store.N : FuncId := 137
def sacristy_mem_Mem_Store.H : Hints := {  }
def sacristy_mem_Mem_Store.vc (m' : Option Addr) (at' n' v' : Int) (taint' : Bool) (w : World) (R : Ending → World → Prop) : Prop := Calls Tryz.prog 144 #[.pointer m', .int .i64 n'] w fun e w' =>
∃ (n : Int),
e = .returned (.int .i64 n) ∧
cnd (n != 0) (R (.returned (.int .i64 n)) w') (Calls Tryz.prog 50 #[.pointer m', .int .u64 at', .int .i64 n'] w' fun e w' =>
∃ (p : Option Addr) (n : Int),
e = .returned (.tuple #[.pointer p, .int .i64 n]) ∧
∃ (b : Bool),
EqRuns Tryz.prog BinOp.eql 124 (Operand.tmp 29) (Operand.const (.pointer none)) (.pointer p) (.pointer none) b ∧
cnd b (R (.returned (.int .i64 40)) w') (Deref p fun a =>
∃ (n_1 : Int),
w'.cell? (a.add 2) = some (.int .u8 n_1) ∧
cnd (n_1 != 3) (Deref p fun a =>
∃ (n_2 : Int),
w'.cell? (a.add 2) = some (.int .u8 n_2) ∧
cnd (n_2 != 4) (R (.returned (.int .i64 40)) w') (Calls Tryz.prog 145 #[.int .u64 v', .int .i64 n'] w' fun e w' =>
∃ (s : ByteArray) (n_3 : Int),
e = .returned (.tuple #[.string s, .int .i64 n_3]) ∧
Calls Tryz.prog 63 #[.pointer p, .int .i64 n, .string s,
Value.bool taint'] w' fun e w' =>
e = .returned (.tuple #[]) ∧
R (.returned (.int .i64 0)) w')) (Calls Tryz.prog 145 #[.int .u64 v', .int .i64 n'] w' fun e w' =>
∃ (s : ByteArray) (n_2 : Int),
e = .returned (.tuple #[.string s, .int .i64 n_2]) ∧
Calls Tryz.prog 63 #[.pointer p, .int .i64 n, .string s, .bool taint'] w' fun e w' =>
e = .returned (.tuple #[]) ∧
R (.returned (.int .i64 0)) w')))
theorem sacristy_mem_Mem_Store.calls {m' : Option Addr} {at' n' v' : Int} {taint' : Bool} {w : World} {R : Ending → World → Prop} (h : sacristy_mem_Mem_Store.vc m' at' n' v' taint' w R) : Calls Tryz.prog 137 ([.pointer m', .int .u64 at', .int .i64 n', .int .u64 v', .bool taint'] : List Value).toArray w R := calls_of_eq (show fnV Tryz.prog sacristy_mem_Mem_Store.H 137 [.pointer m', .int .u64 at', .int .i64 n', .int .u64 v', .bool taint'] w R = _ from by kernel_rfl) h

/- function 38: (*sacristy/mem.Mem).Fetch -/
abbrev sacristy_mem_Mem_Fetch.N : FuncId := 38
def sacristy_mem_Mem_Fetch.H : Hints := {  }
def sacristy_mem_Mem_Fetch.vc (m' : Option Addr) (at' : Int) (w : World) (R : Ending → World → Prop) : Prop := ∃ (b : Bool),
EqRuns Tryz.prog BinOp.eql 33 (Operand.tmp 10) (Operand.const (.pointer none)) (.pointer m') (.pointer none) b ∧
cnd b (R (.returned (.tuple #[.int .u32 0, .int .i64 1])) w) (cnd (at'.tmod 4 != 0) (R (.returned (.tuple #[.int .u32 0, .int .i64 40])) w) (Calls Tryz.prog 50 #[.pointer m', .int .u64 at', .int .i64 4] w fun e w' =>
∃ (p : Option Addr) (n : Int),
e = .returned (.tuple #[.pointer p, .int .i64 n]) ∧
∃ (b : Bool),
EqRuns Tryz.prog BinOp.eql 124 (Operand.tmp 21) (Operand.const (.pointer none)) (.pointer p) (.pointer none) b ∧
cnd b (R (.returned (.tuple #[.int .u32 0, .int .i64 40])) w') (Deref p fun a =>
∃ (n_1 : Int),
w'.cell? (a.add 2) = some (.int .u8 n_1) ∧
cnd (n_1 != 1) (R (.returned (.tuple #[.int .u32 0, .int .i64 40])) w') (Deref p fun a =>
∃ (p : Option Addr) (n_2 c : Nat),
w'.cell? (a.add 3) = some (.slice p n_2 c) ∧
(0 ≤ IntKind.i64.wrap (n + 4) ∧ IntKind.i64.wrap (n + 4) ≤ (↑c : Int)) ∧
(0 ≤ IntKind.i64.wrap (n + 4) ∧
IntKind.i64.wrap (n + 4) ≤ (↑(IntKind.i64.wrap (n + 4)).toNat : Int)) ∧
(0 ≤ n ∧ n ≤ (↑(IntKind.i64.wrap (n + 4)).toNat : Int)) ∧
RunsV Tryz.prog (convert 90 9 (.slice (reslice p n.toNat (IntKind.i64.wrap (n + 4)).toNat 1) ((IntKind.i64.wrap (n + 4)).toNat - n.toNat) ((IntKind.i64.wrap (n + 4)).toNat - n.toNat))) w' fun v w' =>
∃ (s : ByteArray),
v = .string s ∧
Calls Tryz.prog 65 #[.string s] w' fun e w' =>
∃ (n n_3 : Int),
e = .returned (.tuple #[.int .u64 n,
Value.int .i64 n_3]) ∧
R (.returned (.tuple #[.int .u32 (IntKind.u32.wrap n),
Value.int .i64 0])) w'))))
theorem sacristy_mem_Mem_Fetch.calls {m' : Option Addr} {at' : Int} {w : World} {R : Ending → World → Prop} (h : sacristy_mem_Mem_Fetch.vc m' at' w R) : Calls Tryz.prog 38 ([.pointer m', .int .u64 at'] : List Value).toArray w R := calls_of_eq (show fnV Tryz.prog sacristy_mem_Mem_Fetch.H 38 [.pointer m', .int .u64 at'] w R = _ from by kernel_rfl) h

/- function 34: (*sacristy/mem.Mem).Set -/
abbrev sacristy_mem_Mem_Set.N : FuncId := 34
def sacristy_mem_Mem_Set.H : Hints := {  }
def sacristy_mem_Mem_Set.vc (m' : Option Addr) (at' : Int) (s' : ByteArray) (taint' : Bool) (w : World) (R : Ending → World → Prop) : Prop := ∃ (b : Bool),
EqRuns Tryz.prog BinOp.eql 33 (Operand.tmp 11) (Operand.const (.pointer none)) (.pointer m') (.pointer none) b ∧
cnd b (R (.returned (.int .i64 1)) w) (Calls Tryz.prog 50 #[.pointer m', .int .u64 at', .int .i64 (↑s'.size : Int)] w fun e w' =>
∃ (p : Option Addr) (n : Int),
e = .returned (.tuple #[.pointer p, .int .i64 n]) ∧
∃ (b : Bool),
EqRuns Tryz.prog BinOp.eql 124 (Operand.tmp 21) (Operand.const (.pointer none)) (.pointer p) (.pointer none) b ∧
cnd b (R (.returned (.int .i64 40)) w') (Calls Tryz.prog 63 #[.pointer p, .int .i64 n, .string s', .bool taint'] w' fun e w' =>
e = .returned (.tuple #[]) ∧ R (.returned (.int .i64 0)) w'))
theorem sacristy_mem_Mem_Set.calls {m' : Option Addr} {at' : Int} {s' : ByteArray} {taint' : Bool} {w : World} {R : Ending → World → Prop} (h : sacristy_mem_Mem_Set.vc m' at' s' taint' w R) : Calls Tryz.prog 34 ([.pointer m', .int .u64 at', .string s', .bool taint'] : List Value).toArray w R := calls_of_eq (show fnV Tryz.prog sacristy_mem_Mem_Set.H 34 [.pointer m', .int .u64 at', .string s', .bool taint'] w R = _ from by kernel_rfl) h

/- function 22: (*sacristy/mem.Mem).Bytes -/
abbrev sacristy_mem_Mem_Bytes.N : FuncId := 22
def sacristy_mem_Mem_Bytes.H : Hints := {  }
def sacristy_mem_Mem_Bytes.vc (m' : Option Addr) (at' n' : Int) (w : World) (R : Ending → World → Prop) : Prop := ∃ (b : Bool),
EqRuns Tryz.prog BinOp.eql 33 (Operand.tmp 12) (Operand.const (.pointer none)) (.pointer m') (.pointer none) b ∧
cnd b (R (.returned (.tuple #[.string (ByteArray.mk #[]), .slice none 0 0, .int .i64 1])) w) (cnd (decide (n' < 0)) (R (.returned (.tuple #[.string (ByteArray.mk #[]), .slice none 0 0, .int .i64 2])) w) (cnd (decide (n' > 1048576)) (R (.returned (.tuple #[.string (ByteArray.mk #[]), .slice none 0 0, .int .i64 2])) w) (Calls Tryz.prog 50 #[.pointer m', .int .u64 at', .int .i64 n'] w fun e w' =>
∃ (p : Option Addr) (n : Int),
e = .returned (.tuple #[.pointer p, .int .i64 n]) ∧
∃ (b : Bool),
EqRuns Tryz.prog BinOp.eql 124 (Operand.tmp 28) (Operand.const (.pointer none)) (.pointer p) (.pointer none) b ∧
cnd b (R (.returned (.tuple #[.string (ByteArray.mk #[]), .slice none 0 0, .int .i64 40])) w') (Deref p fun a =>
∃ (p_1 : Option Addr) (n_1 c : Nat),
w'.cell? (a.add 3) = some (.slice p_1 n_1 c) ∧
(0 ≤ IntKind.i64.wrap (n + n') ∧ IntKind.i64.wrap (n + n') ≤ (↑c : Int)) ∧
(0 ≤ IntKind.i64.wrap (n + n') ∧
IntKind.i64.wrap (n + n') ≤ (↑(IntKind.i64.wrap (n + n')).toNat : Int)) ∧
(0 ≤ n ∧ n ≤ (↑(IntKind.i64.wrap (n + n')).toNat : Int)) ∧
RunsV Tryz.prog (convert 90 9 (.slice (reslice p_1 n.toNat (IntKind.i64.wrap (n + n')).toNat 1) ((IntKind.i64.wrap (n + n')).toNat - n.toNat) ((IntKind.i64.wrap (n + n')).toNat - n.toNat))) w' fun v w' =>
∃ (s : ByteArray),
v = .string s ∧
Deref p fun a =>
∃ (p : Option Addr) (n_2 c : Nat),
w'.cell? (a.add 4) = some (.slice p n_2 c) ∧
(0 ≤ IntKind.i64.wrap (n + n') ∧
IntKind.i64.wrap (n + n') ≤ (↑c : Int)) ∧
(0 ≤ IntKind.i64.wrap (n + n') ∧
IntKind.i64.wrap (n + n') ≤ (↑(IntKind.i64.wrap (n + n')).toNat : Int)) ∧
(0 ≤ n ∧ n ≤ (↑(IntKind.i64.wrap (n + n')).toNat : Int)) ∧
Calls Tryz.prog 51 #[.slice (reslice p n.toNat (IntKind.i64.wrap (n + n')).toNat 1) ((IntKind.i64.wrap (n + n')).toNat - n.toNat) ((IntKind.i64.wrap (n + n')).toNat - n.toNat)] w' fun e w' =>
∃ (p : Option Addr) (n c : Nat),
e = .returned (.slice p n c) ∧
R (.returned (.tuple #[.string s, .slice p n c,
Value.int .i64 0])) w'))))
theorem sacristy_mem_Mem_Bytes.calls {m' : Option Addr} {at' n' : Int} {w : World} {R : Ending → World → Prop} (h : sacristy_mem_Mem_Bytes.vc m' at' n' w R) : Calls Tryz.prog 22 ([.pointer m', .int .u64 at', .int .i64 n'] : List Value).toArray w R := calls_of_eq (show fnV Tryz.prog sacristy_mem_Mem_Bytes.H 22 [.pointer m', .int .u64 at', .int .i64 n'] w R = _ from by kernel_rfl) h

/- function 51: slices.Clone[[]bool,bool] -/
abbrev slices_Clone.N : FuncId := 51
def slices_Clone.H : Hints := {  }
def slices_Clone.vc (s' : Option Addr) (s'n s'c : Nat) (w : World) (R : Ending → World → Prop) : Prop := ∃ (b : Bool),
EqRuns Tryz.prog BinOp.eql 61 (Operand.tmp 3) (Operand.const (.slice none 0 0)) (.slice s' s'n s'c) (.slice none 0 0) b ∧
cnd b (R (.returned (.slice none 0 0)) w) (∀ w', w' = w.alloc (Obj.cells #[] 4) →
RunsV Tryz.prog (Builtin.append_ #[61, 61] 61 #[.slice (some (Addr.mk w.heap.size 0 none)) 0 0, .slice s' s'n s'c]) w' fun v w' =>
∃ (p : Option Addr) (n : Nat), ∃ (c : Nat), v = .slice p n c ∧ R (.returned (.slice p n c)) w')
theorem slices_Clone.calls {s' : Option Addr} {s'n s'c : Nat} {w : World} {R : Ending → World → Prop} (h : slices_Clone.vc s' s'n s'c w R) : Calls Tryz.prog 51 ([.slice s' s'n s'c] : List Value).toArray w R := calls_of_eq (show fnV Tryz.prog slices_Clone.H 51 [.slice s' s'n s'c] w R = _ from by kernel_rfl) h

end Go.Proofs.YtcnnnlhoiodeaaaGreat

/-
Memories in a world: how the program's memory lies there, how the reference's does.
Conditions: each theorem's hypotheses.
-/
namespace Go.Proofs.YtcnnnlhoiodeaaaGreat
open Go Go.Vc Go.RowKit
set_option maxRecDepth 100000

def u8c (l : List Int) : List Value := l.map (Value.int .u8)
def boc (l : List Bool) : List Value := l.map Value.bool
theorem u8c_length (l : List Int) : (u8c l).length = l.length := by simp [u8c]
theorem boc_length (l : List Bool) : (boc l).length = l.length := by simp [boc]
theorem u8c_get {l : List Int} {j : Nat} {x : Int} (h : l[j]? = some x) : (u8c l)[j]? = some (.int .u8 x) := by simp [u8c, h]
theorem boc_get {l : List Bool} {j : Nat} {x : Bool} (h : l[j]? = some x) : (boc l)[j]? = some (.bool x) := by simp [boc, h]
theorem u8c_putL (B : List Int) (o : Nat) (l : List Int) : u8c (putL B o l) = putL (u8c B) o (u8c l) := by simp [u8c, putL, List.map_drop, List.map_take]
theorem boc_putL (B : List Bool) (o : Nat) (l : List Bool) : boc (putL B o l) = putL (boc B) o (boc l) := by simp [boc, putL, List.map_drop, List.map_take]
theorem boc_replicate (n : Nat) (t : Bool) : boc (List.replicate n t) = List.replicate n (.bool t) := by simp [boc]
def regC (r : Reg) : List Value := [u64v r.f, u64v r.s, .int .u8 r.k]
def ptC (p : Pt) (bb tb o : Nat) : List Value := [u64v p.r.f, u64v p.r.s, .int .u8 p.r.k, .slice (some ⟨bb, o, none⟩) p.bs.length p.bs.length, .slice (some ⟨tb, o, none⟩) p.ts.length p.ts.length]
/-- The program's memory. -/
structure MA (w : World) (a b mb pb : Nat) (q off : Nat → Nat) (bb tb : Nat) (BB TB : List Value) (st : List Pt) : Prop where
  ok : StOk st
  rm : a ≤ mb ∧ mb < b
  rp : a ≤ pb ∧ pb < b
  rB : a ≤ bb ∧ bb < b
  rT : a ≤ tb ∧ tb < b
  rq : ∀ i, i < st.length → a ≤ q i ∧ q i < b
  hm : ∃ c, Has w mb [.slice (some ⟨pb, 0, none⟩) st.length c]
  ptr : ∀ i, i < st.length → w.cell? ⟨pb, i, none⟩ = some (.pointer (some ⟨q i, 0, none⟩))
  pt : ∀ (i : Nat) (p : Pt), st[i]? = some p → Has w (q i) (ptC p bb tb (off i))
  hB : Has w bb BB
  hT : Has w tb TB
  sB : ∀ (i : Nat) (p : Pt), st[i]? = some p → Seg BB (off i) (u8c p.bs) ∧ off i + p.bs.length ≤ BB.length
  sT : ∀ (i : Nat) (p : Pt), st[i]? = some p → Seg TB (off i) (boc p.ts) ∧ off i + p.ts.length ≤ TB.length
  ap : ∀ (i j : Nat) (p q : Pt), i < j → st[i]? = some p → st[j]? = some q → off i + p.bs.length ≤ off j
  nB : bb ≠ tb ∧ bb ≠ mb ∧ bb ≠ pb
  nT : tb ≠ mb ∧ tb ≠ pb
  nq : ∀ i, i < st.length → q i ≠ bb ∧ q i ≠ tb
theorem MA.len {w : World} {a b mb pb : Nat} {q off : Nat → Nat} {bb tb : Nat} {BB TB : List Value} {st : List Pt} (h : MA w a b mb pb q off bb tb BB TB st) {i : Nat} {p : Pt} (hi : st[i]? = some p) : p.bs.length = p.r.s.toNat ∧ p.ts.length = p.r.s.toNat := ⟨(h.ok.2 i p hi).bl, (h.ok.2 i p hi).tl⟩
/-- It stays where none of its blocks is turned. -/
theorem MA.kept {w w' : World} {a b mb pb : Nat} {q off : Nat → Nat} {bb tb : Nat} {BB TB : List Value} {st : List Pt} (h : MA w a b mb pb q off bb tb BB TB st) (hk : ∀ k, a ≤ k → k < b → k < w.heap.size → w'.heap[k]? = w.heap[k]?) : MA w' a b mb pb q off bb tb BB TB st := by
  have kh : ∀ {k : Nat} {cs : List Value}, a ≤ k ∧ k < b → Has w k cs → Has w' k cs := fun r hx => hx.kept (hk _ r.1 r.2 hx.lt)
  obtain ⟨c, hm⟩ := h.hm
  exact ⟨h.ok, h.rm, h.rp, h.rB, h.rT, h.rq, ⟨c, kh h.rm hm⟩, fun i hi => by
    have hc := h.ptr i hi
    have hl := lt_of_cell hc
    simpa [World.cell?, hk _ h.rp.1 h.rp.2 hl] using hc, fun i p hi => kh (h.rq i (List.getElem?_eq_some_iff.1 hi).1) (h.pt i p hi), kh h.rB h.hB, kh h.rT h.hT, h.sB, h.sT, h.ap, h.nB, h.nT, h.nq⟩
theorem MA.later {w w' : World} {a b mb pb : Nat} {q off : Nat → Nat} {bb tb : Nat} {BB TB : List Value} {st : List Pt} (h : MA w a b mb pb q off bb tb BB TB st) (hl : Later w w') : MA w' a b mb pb q off bb tb BB TB st := h.kept fun k _ _ hk => hl.block hk
/-- A stretch of one part is written, its taints too. -/
theorem MA.lay {w w' : World} {a b mb pb : Nat} {q off : Nat → Nat} {bb tb : Nat} {BB TB : List Value} {st : List Pt} (h : MA w a b mb pb q off bb tb BB TB st) (hk : But (fun k => k = bb ∨ k = tb) w w') {i : Nat} {p : Pt} (hi : st[i]? = some p) {k : Nat} {l : List Int} {t : Bool} (hkl : k + l.length ≤ p.r.s.toNat) (hl : ∀ b ∈ l, 0 ≤ b ∧ b < 256)
    (hB : Has w' bb (putL BB (off i + k) (u8c l))) (hT : Has w' tb (putL TB (off i + k) (List.replicate l.length (.bool t)))) :
    MA w' a b mb pb q off bb tb (putL BB (off i + k) (u8c l)) (putL TB (off i + k) (List.replicate l.length (.bool t))) (layM st i p k l t) := by
  have hil : i < st.length := (List.getElem?_eq_some_iff.1 hi).1
  have hlen : (layM st i p k l t).length = st.length := by simp [layM]
  have hget : ∀ (j : Nat) (x : Pt), (layM st i p k l t)[j]? = some x → (j = i ∧ x = layP p k l t) ∨ (j ≠ i ∧ st[j]? = some x) := by
    intro j x hj
    simp only [layM, List.getElem?_set] at hj
    split at hj
    · rename_i e
      exact .inl ⟨e.symm, by simpa [hil] using hj.symm⟩
    · rename_i e
      exact .inr ⟨fun e' => e e'.symm, hj⟩
  obtain ⟨lb, lt⟩ := h.len hi
  have bl : (layP p k l t).bs.length = p.bs.length := putL_length (by rw [lb]; exact hkl)
  have tl : (layP p k l t).ts.length = p.ts.length := putL_length (by rw [lt, List.length_replicate]; exact hkl)
  have hsz : ∀ (j : Nat) (x : Pt), (layM st i p k l t)[j]? = some x → ∃ y, st[j]? = some y ∧ x.r = y.r ∧ x.bs.length = y.bs.length ∧ x.ts.length = y.ts.length := by
    intro j x hj
    rcases hget j x hj with ⟨rfl, rfl⟩ | ⟨_, hj⟩
    · exact ⟨p, hi, rfl, bl, tl⟩
    · exact ⟨x, hj, rfl, rfl, rfl⟩
  have sBi := h.sB i p hi
  have sTi := h.sT i p hi
  have fB : off i + k + (u8c l).length ≤ BB.length := by rw [u8c_length]; omega
  have fT : off i + k + (List.replicate l.length (Value.bool t)).length ≤ TB.length := by rw [List.length_replicate]; omega
  obtain ⟨c, hm⟩ := h.hm
  refine ⟨layM_ok h.ok hi hkl hl, h.rm, h.rp, h.rB, h.rT, by rw [hlen]; exact h.rq, ⟨c, ?_⟩, ?_, ?_, hB, hT, ?_, ?_, ?_, h.nB, h.nT, by rw [hlen]; exact h.nq⟩
  · rw [hlen]
    exact hk.has hm (by have := h.nB; have := h.nT; omega)
  · rw [hlen]
    intro j hj
    exact hk.cell (h.ptr j hj) (by have := h.nB; have := h.nT; show ¬ (pb = bb ∨ pb = tb); omega)
  · intro j x hj
    obtain ⟨y, hy, e1, e2, e3⟩ := hsz j x hj
    have := h.pt j y hy
    have hn := h.nq j (List.getElem?_eq_some_iff.1 hy).1
    have e : ptC x bb tb (off j) = ptC y bb tb (off j) := by simp only [ptC, e1, e2, e3]
    rw [e]
    exact hk.has this (by omega)
  · intro j x hj
    rcases hget j x hj with ⟨rfl, rfl⟩ | ⟨hne, hj⟩
    · refine ⟨?_, by rw [bl, putL_length fB]; exact sBi.2⟩
      show Seg _ _ (u8c (putL p.bs k l))
      rw [u8c_putL]
      exact sBi.1.put (by rw [u8c_length, u8c_length]; omega) (by rw [u8c_length]; exact sBi.2)
    · have sj := h.sB j x hj
      refine ⟨sj.1.other ?_ fB, by rw [putL_length fB]; exact sj.2⟩
      rw [u8c_length, u8c_length]
      rcases Nat.lt_or_ge j i with hji | hji
      · have := h.ap j i x p hji hj hi
        omega
      · have := h.ap i j p x (by omega) hi hj
        omega
  · intro j x hj
    rcases hget j x hj with ⟨rfl, rfl⟩ | ⟨hne, hj⟩
    · refine ⟨?_, by rw [tl, putL_length fT]; exact sTi.2⟩
      show Seg _ _ (boc (putL p.ts k _))
      rw [boc_putL, boc_replicate]
      exact sTi.1.put (by rw [boc_length, List.length_replicate]; omega) (by rw [boc_length]; exact sTi.2)
    · have sj := h.sT j x hj
      have lj := h.len hj
      refine ⟨sj.1.other ?_ fT, by rw [putL_length fT]; exact sj.2⟩
      rw [boc_length, List.length_replicate]
      rcases Nat.lt_or_ge j i with hji | hji
      · have := h.ap j i x p hji hj hi
        omega
      · have := h.ap i j p x (by omega) hi hj
        omega
  · intro j1 j2 x y h12 hx hy
    obtain ⟨x', hx', _, e2, _⟩ := hsz j1 x hx
    obtain ⟨y', hy', _, _, _⟩ := hsz j2 y hy
    rw [e2]
    exact h.ap j1 j2 x' y' h12 hx' hy'
/-- Where it lies, however. -/
def MemAt (w : World) (a b mb : Nat) (st : List Pt) : Prop := ∃ pb q off bb tb BB TB, MA w a b mb pb q off bb tb BB TB st
theorem MemAt.kept {w w' : World} {a b mb : Nat} {st : List Pt} (h : MemAt w a b mb st) (hk : ∀ k, a ≤ k → k < b → k < w.heap.size → w'.heap[k]? = w.heap[k]?) : MemAt w' a b mb st := by
  obtain ⟨pb, q, off, bb, tb, BB, TB, h⟩ := h
  exact ⟨pb, q, off, bb, tb, BB, TB, h.kept hk⟩
theorem MemAt.later {w w' : World} {a b mb : Nat} {st : List Pt} (h : MemAt w a b mb st) (hl : Later w w') : MemAt w' a b mb st := h.kept fun k _ _ hk => hl.block hk
end Go.Proofs.YtcnnnlhoiodeaaaGreat

/-
The contracts of package mem, first part: which regions may be, do two touch, where a stretch lies.
Conditions: each theorem's hypotheses.
-/
namespace Go.Proofs.YtcnnnlhoiodeaaaGreat
open Go Go.Vc Go.RowKit
set_option maxRecDepth 100000

abbrev regV (r : Reg) : Value := .agg #[u64v r.f, u64v r.s, .int .u8 r.k]
def regT : ElT Reg := ⟨3, by decide, regC, fun _ => rfl, fun a u hu => by
  simp only [regC, List.mem_cons, List.not_mem_nil, or_false] at hu
  rcases hu with rfl | rfl | rfl <;> rfl⟩
theorem ptr_nil {t : TypeId} (h : Tryz.prog.underlying t = some (.pointer (Tryz.prog.pointee t))) (p : Option Addr) (xo yo : Operand) : EqRuns Tryz.prog .eql t xo yo (.pointer p) (.pointer none) p.isNone := by
  intro w
  rw [eqGuard_at_pointer]
  simp only [Sem.run_bind, Sem.run_pure, Result.andThen_ok]
  exact run_eql_pointer_nil w _ p h
theorem mem_may_ok {x : Reg} (hx : RegIn x) (w : World) : Calls Tryz.prog mem_may.N #[regV x] w (Gives (.bool (mayR x)) w) := by
  refine mem_may.calls ?_
  unfold mem_may.vc
  intro w1 h1
  have L := (Trk.start w).alloc h1
  have := hx.f0; have := hx.f1; have := hx.s0; have := hx.s1
  have out : ∀ b : Bool, mayR x = b → Gives (.bool (mayR x)) w (.returned (.bool b)) w1 := fun b h => ⟨by rw [h], L.to⟩
  refine ⟨_, L.cell 0 rfl rfl, cnd_of (fun h1 => ⟨_, L.cell 0 rfl rfl, cnd_of (fun h2 => ⟨_, L.cell 0 rfl rfl, cnd_of (fun h3 => ⟨_, L.cell 0 rfl rfl, cnd_of (fun h4 => ⟨_, L.cell 0 rfl rfl, _, L.cell 0 rfl rfl, ?_⟩) fun h => out _ ?_⟩) fun h => out _ ?_⟩) fun h => out _ ?_⟩) fun h => out _ ?_⟩
  all_goals simp only [decide_eq_true_eq, decide_eq_false_iff_not] at *
  · rw [u64_in (by omega) (by omega)]
    refine out _ ?_
    unfold mayR
    rw [decide_eq_true (show 1 ≤ x.k ∧ x.k ≤ 4 by omega), decide_eq_true (show 1 ≤ x.s ∧ x.s ≤ 1048576 by omega)]
    rfl
  · unfold mayR
    rw [decide_eq_false (show ¬ (1 ≤ x.s ∧ x.s ≤ 1048576) by omega)]
    simp
  · unfold mayR
    rw [decide_eq_false (show ¬ (1 ≤ x.s ∧ x.s ≤ 1048576) by omega)]
    simp
  · unfold mayR
    rw [decide_eq_false (show ¬ (1 ≤ x.k ∧ x.k ≤ 4) by omega)]
    simp
  · unfold mayR
    rw [decide_eq_false (show ¬ (1 ≤ x.k ∧ x.k ≤ 4) by omega)]
    simp
theorem mem_touch_ok {x y : Reg} (hx : RegIn x) (hy : RegIn y) (mx : mayR x = true) (my : mayR y = true) (w : World) : Calls Tryz.prog mem_touch.N #[regV x, regV y] w (Gives (.bool (touchR x y)) w) := by
  refine mem_touch.calls ?_
  unfold mem_touch.vc
  intro w1 h1 w2 h2
  have L := ((Trk.start w).alloc h1).alloc h2
  have ax := mayR_facts mx
  have ay := mayR_facts my
  have := hx.f0; have := hy.f0
  refine ⟨_, L.cell 0 rfl rfl, _, L.cell 1 rfl rfl, _, L.cell 1 rfl rfl, ?_⟩
  rw [u64_in (by omega) (by omega)]
  refine cnd_of (fun h => ⟨_, L.cell 1 rfl rfl, _, L.cell 0 rfl rfl, _, L.cell 0 rfl rfl, ?_⟩) fun h => ⟨?_, L.to⟩
  · rw [u64_in (by omega) (by omega)]
    exact ⟨by rw [touchR, h]; rfl, L.to⟩
  · rw [touchR, h]
    rfl
theorem mem_New_1_ok {x y : Reg} (hx : RegIn x) (hy : RegIn y) (mx : mayR x = true) (my : mayR y = true) {xb : Nat} {w : World} (hb : Has w xb (regC x)) : Calls Tryz.prog mem_New_1.N #[regV y, .pointer (some ⟨xb, 0, none⟩)] w (Gives (.bool (touchR x y)) w) := by
  refine mem_New_1.calls (c0 := some ⟨xb, 0, none⟩) ?_
  unfold mem_New_1.vc
  intro w1 h1
  have L := (Trk.start w).alloc h1
  have hb1 := hb.later L.to
  refine Deref_some rfl ⟨_, _, _, ⟨hb1.cell (v := u64v x.f) rfl, hb1.cell (i := 1) (v := u64v x.s) rfl, hb1.cell (i := 2) (v := .int .u8 x.k) rfl, trivial⟩, _, _, _, ⟨L.cell 0 rfl rfl, L.cell 0 rfl rfl, L.cell 0 rfl rfl, trivial⟩, ?_⟩
  exact (mem_touch_ok hx hy mx my w1).mono fun e w2 ⟨he, g2⟩ => ⟨_, he, rfl, L.to.trans g2⟩
theorem reg_cells {A : Option Addr} {l : List Reg} {w : World} (hr : ERow regT w A l) {k : Nat} {y : Reg} (hg : l[k]? = some y) : ∃ ad, A = some ad ∧ (w.cell? (ad.add (k * 3)) = some (u64v y.f) ∧ w.cell? ((ad.add (k * 3)).add 1) = some (u64v y.s) ∧ w.cell? ((ad.add (k * 3)).add 2) = some (.int .u8 y.k) ∧ True) := by
  obtain ⟨ad, rfl, hc⟩ := hr k y hg
  refine ⟨ad, rfl, ?_, hc 1 (u64v y.s) rfl, hc 2 (.int .u8 y.k) rfl, trivial⟩
  have := hc 0 (u64v y.f) rfl
  rwa [addr_add_zero] at this
/-- Elements that may be. -/
def RegsIn (l : List Reg) : Prop := ∀ (i : Nat) (x : Reg), l[i]? = some x → RegIn x
theorem mem_index_ok {x : Reg} {l : List Reg} (hx : RegIn x) (hl : RegsIn l) (mx : mayR x = true) (ml : ∀ (i : Nat) (y : Reg), l[i]? = some y → mayR y = true) (hlen : l.length ≤ 1000) {A : Option Addr} {c : Nat} {xb : Nat} {w : World} (hb : Has w xb (regC x)) (hr : ERow regT w A l) :
    Calls Tryz.prog slices_IndexFunc.N #[.slice A l.length c, .func (.func mem_New_1.N) #[] #[.pointer (some ⟨xb, 0, none⟩)]] w fun e w' => (∃ i : Int, e = .returned (i64v i) ∧ (decide (i ≥ 0)) = l.any (touchR x)) ∧ Later w w' := by
  refine slices_IndexFunc.calls ?_
  unfold slices_IndexFunc.vc
  refine ⟨fun vs w' => ∃ k : Nat, k ≤ l.length ∧ vs = [i64v k] ∧ (∀ (i : Nat) (y : Reg), i < k → l[i]? = some y → touchR x y = false) ∧ Later w w', fun vs _ => match vs with | [.int _ n] => l.length - n.toNat | _ => 0, ⟨0, by omega, rfl, fun i y hi => by omega, Later.refl _⟩, ?_⟩
  rintro g s8 w1 ⟨k, hk, hs, hno, g1⟩
  simp only [List.cons.injEq, Value.int.injEq, true_and, and_true] at hs
  subst hs
  refine cnd_of (fun h => ?_) fun h => ?_
  · have hlt : k < l.length := by simp only [decide_eq_true_eq] at h; omega
    have hg := List.getElem?_eq_getElem hlt
    generalize l[k] = y at hg
    obtain ⟨ad, rfl, hc⟩ := reg_cells (hr.later g1) hg
    refine ⟨by omega, Deref_some rfl ⟨_, _, _, hc, ?_⟩⟩
    refine fn_intro (cnd_true (by kernel_rfl) ?_)
    refine (mem_New_1_ok hx (hl k y hg) mx (ml k y hg) (hb.later g1)).mono fun e w2 ⟨he, g2⟩ => ⟨_, he, cnd_of (fun ht => ?_) fun ht => ?_⟩
    · refine ⟨⟨k, rfl, ?_⟩, g1.trans g2⟩
      rw [decide_eq_true (by omega)]
      exact (List.any_eq_true.2 ⟨y, List.mem_of_getElem? hg, ht⟩).symm
    · have hw : IntKind.i64.wrap ((k : Int) + 1) = ((k + 1 : Nat) : Int) := by rw [i64_in (by omega) (by omega)]; omega
      rw [hw]
      refine ⟨⟨k + 1, by omega, rfl, fun i z hi hz => ?_, g1.trans g2⟩, by show l.length - ((k + 1 : Nat) : Int).toNat < l.length - ((k : Nat) : Int).toNat; omega⟩
      by_cases hik : i = k
      · subst hik
        rw [hg] at hz
        obtain rfl := Option.some.inj hz
        exact ht
      · exact hno i z (by omega) hz
  · refine ⟨⟨-1, rfl, ?_⟩, g1⟩
    have : k = l.length := by simp only [decide_eq_false_iff_not] at h; omega
    subst this
    rw [decide_eq_false (by omega)]
    symm
    rw [List.any_eq_false]
    intro y hy
    obtain ⟨i, hi⟩ := List.getElem?_of_mem hy
    rw [hno i y (List.getElem?_eq_some_iff.1 hi).1 hi]
    simp
theorem mem_contains_ok {x : Reg} {l : List Reg} (hx : RegIn x) (hl : RegsIn l) (mx : mayR x = true) (ml : ∀ (i : Nat) (y : Reg), l[i]? = some y → mayR y = true) (hlen : l.length ≤ 1000) {A : Option Addr} {c : Nat} {xb : Nat} {w : World} (hb : Has w xb (regC x)) (hr : ERow regT w A l) :
    Calls Tryz.prog slices_ContainsFunc.N #[.slice A l.length c, .func (.func mem_New_1.N) #[] #[.pointer (some ⟨xb, 0, none⟩)]] w (Gives (.bool (l.any (touchR x))) w) := by
  refine slices_ContainsFunc.calls ?_
  unfold slices_ContainsFunc.vc
  exact (mem_index_ok hx hl mx ml hlen hb hr).mono fun e w1 ⟨⟨i, he, hi⟩, g1⟩ => ⟨_, he, by rw [hi], g1⟩
theorem mem_has_ok {p : Pt} (hp : PtOk p) {qb bb tb o : Nat} {a n : Int} (ha : 0 ≤ a ∧ a < 18446744073709551616) {w : World} (hb : Has w qb (ptC p bb tb o)) : Calls Tryz.prog sacristy_mem_part_has.N #[.pointer (some ⟨qb, 0, none⟩), u64v a, i64v n] w (Gives (.bool (hasR p.r a n)) w) := by
  refine sacristy_mem_part_has.calls ?_
  unfold sacristy_mem_part_has.vc
  have m := mayR_facts hp.may
  have := hp.inn.f0
  have c0 : ∀ w', Later w w' → w'.cell? ⟨qb, 0, none⟩ = some (u64v p.r.f) := fun w' hl => (hb.later hl).cell rfl
  have c1 : ∀ w', Later w w' → w'.cell? ((⟨qb, 0, none⟩ : Addr).add 1) = some (u64v p.r.s) := fun w' hl => (hb.later hl).cell (i := 1) rfl
  refine Deref_some rfl ⟨_, c0, cnd_of (fun h1 => Deref_some rfl ⟨_, c0, Deref_some rfl ⟨_, c1, cnd_of (fun h2 => Deref_some rfl ⟨_, c1, Deref_some rfl ⟨_, c0, fun w' hl => ⟨?_, hl⟩⟩⟩) fun h w' hl => ⟨?_, hl⟩⟩⟩) fun h w' hl => ⟨?_, hl⟩⟩
  all_goals simp only [decide_eq_true_eq, decide_eq_false_iff_not] at *
  · rw [u64_in (by omega) (by omega)] at h2
    rw [u64_in (x := a - p.r.f) (by omega) (by omega), u64_in (x := p.r.s - (a - p.r.f)) (by omega) (by omega), wrap_u64]
    rw [hasR, decide_eq_true (show p.r.f ≤ a by omega), decide_eq_true h2]
    rfl
  · rw [u64_in (by omega) (by omega)] at h
    rw [hasR, decide_eq_false h]
    simp
  · rw [hasR, decide_eq_false (show ¬ p.r.f ≤ a by omega)]
    simp
theorem mem_right_ok (p : Addr) (n : Int) (w : World) : Calls Tryz.prog sacristy_mem_Mem_right.N #[.pointer (some p), i64v n] w fun e w' => e = .returned (i64v (if n < 1 ∨ 8 < n then 2 else 0)) ∧ w' = w := by
  refine sacristy_mem_Mem_right.calls ?_
  unfold sacristy_mem_Mem_right.vc
  refine ⟨_, ptr_nil (by kernel_rfl) _ _ _, cnd_false rfl (cnd_of (fun h => ⟨?_, rfl⟩) fun h => cnd_of (fun h2 => ⟨?_, rfl⟩) fun h2 => ⟨?_, rfl⟩)⟩
  all_goals simp only [decide_eq_true_eq, decide_eq_false_iff_not] at *
  · rw [if_pos (by omega)]
  · rw [if_pos (by omega)]
  · rw [if_neg (by omega)]
/-! ### the parts, one behind the other -/
theorem mem_each_ok (p : Option Addr) (w : World) : Calls Tryz.prog sacristy_mem_Mem_each.N #[.pointer p] w fun e w' => e = .returned (.func (.func sacristy_mem_Mem_each_1.N) #[] #[.pointer (some ⟨w.heap.size, 0, none⟩)]) ∧ Later w w' ∧ Has w' w.heap.size [.pointer p] := by
  refine sacristy_mem_Mem_each.calls ?_
  unfold sacristy_mem_Mem_each.vc
  intro w1 h1
  have L := (Trk.start w).alloc h1
  exact ⟨rfl, L.to, L.has 0 rfl⟩
/-- The pointers at the parts. -/
structure Ptrs (w : World) (mb pb : Nat) (q : Nat → Nat) (n : Nat) : Prop where
  hm : ∃ c, Has w mb [.slice (some ⟨pb, 0, none⟩) n c]
  ptr : ∀ i, i < n → w.cell? ⟨pb, i, none⟩ = some (.pointer (some ⟨q i, 0, none⟩))
theorem cell_kept {w w' : World} {b i : Nat} {v : Value} (h : w.cell? ⟨b, i, none⟩ = some v) (e : w'.heap[b]? = w.heap[b]?) : w'.cell? ⟨b, i, none⟩ = some v := by simpa [World.cell?, e] using h
theorem Ptrs.kept {w w' : World} {mb pb : Nat} {q : Nat → Nat} {n : Nat} (h : Ptrs w mb pb q n) (e1 : w'.heap[mb]? = w.heap[mb]?) (e2 : w'.heap[pb]? = w.heap[pb]?) : Ptrs w' mb pb q n := by
  obtain ⟨c, hm⟩ := h.hm
  exact ⟨⟨c, hm.kept e1⟩, fun i hi => cell_kept (h.ptr i hi) e2⟩
set_option maxHeartbeats 1600000 in
theorem each_iter {mb pb b : Nat} {q : Nat → Nat} {n : Nat} (hn : 0 < n ∧ n ≤ 1000) (w : World) (hb : Has w b [.pointer (some ⟨mb, 0, none⟩)]) (hp : Ptrs w mb pb q n) : IterV Tryz.prog sacristy_mem_Mem_each_1.N #[.pointer (some ⟨b, 0, none⟩)] (fun k => k = b ∨ k = mb ∨ k = pb) n (fun k => [.pointer (some ⟨q k.1, 0, none⟩)]) w := by
  refine iterV_of fun l J Jx W hW hJ hJx hY h0 => ?_
  have hbW : Has W b [.pointer (some ⟨mb, 0, none⟩)] := hb.kept (hW.block b hb.lt)
  have hpl : pb < w.heap.size := lt_of_cell (hp.ptr 0 hn.1)
  obtain ⟨c, hm⟩ := hp.hm
  have hpW : Ptrs W mb pb q n := hp.kept (hW.block mb hm.lt) (hW.block pb hpl)
  refine sacristy_mem_Mem_each_1.calls (yield' := .func (.yield l) #[] #[]) (c0 := some ⟨b, 0, none⟩) ?_
  unfold sacristy_mem_Mem_each_1.vc
  obtain ⟨cW, hmW⟩ := hpW.hm
  refine Deref_some rfl ⟨_, hbW.cell rfl, _, ptr_nil (by kernel_rfl) _ _ _, cnd_false rfl (Deref_some rfl ⟨_, hbW.cell rfl, Deref_some rfl ⟨_, _, _, hmW.cell rfl, ?_⟩⟩)⟩
  refine ⟨fun vs w' => ∃ k : Nat, k ≤ n ∧ vs = [i64v k] ∧ J k w' ∧ Has w' b [.pointer (some ⟨mb, 0, none⟩)] ∧ Ptrs w' mb pb q n, fun vs _ => match vs with | [.int _ m] => n - m.toNat | _ => 0, ⟨0, by omega, rfl, h0, hbW, hpW⟩, ?_⟩
  rintro g s12 w1 ⟨k, hk, hs, hj, hb1, hp1⟩
  simp only [List.cons.injEq, Value.int.injEq, true_and, and_true] at hs
  subst hs
  refine cnd_of (fun h => ?_) fun h => ?_
  · have hlt : k < n := by simp only [decide_eq_true_eq] at h; omega
    refine ⟨by omega, Deref_some rfl ⟨some ⟨q k, 0, none⟩, ?_, ?_⟩⟩
    · rw [add_block, Nat.zero_add, show (k : Int).toNat * 1 = k by omega]
      exact hp1.ptr k hlt
    refine yield_intro ?_
    refine YieldC_mono (fun b' w' h => ?_) (hY ⟨k, hlt⟩ w1 hj)
    rcases h with ⟨rfl, h1, h2⟩ | ⟨rfl, h1⟩
    · refine cnd_false rfl ?_
      have hw : IntKind.i64.wrap ((k : Int) + 1) = ((k + 1 : Nat) : Int) := by rw [i64_in (by omega) (by omega)]; omega
      rw [hw]
      exact ⟨⟨k + 1, by omega, rfl, h1, hb1.kept (h2 _ (.inl rfl)), hp1.kept (h2 _ (.inr (.inl rfl))) (h2 _ (.inr (.inr rfl)))⟩, by show n - ((k + 1 : Nat) : Int).toNat < n - ((k : Nat) : Int).toNat; omega⟩
    · exact cnd_true rfl ⟨⟨_, rfl⟩, .inr h1⟩
  · have : k = n := by simp only [decide_eq_false_iff_not] at h; omega
    subst this
    exact ⟨⟨_, rfl⟩, .inl hj⟩
end Go.Proofs.YtcnnnlhoiodeaaaGreat

/-
The contracts of package mem, second part: the part in which a stretch lies.
Conditions: each theorem's hypotheses.
-/
namespace Go.Proofs.YtcnnnlhoiodeaaaGreat
open Go Go.Vc Go.RowKit
set_option maxRecDepth 100000

theorem MA.ptrs {w : World} {a b mb pb : Nat} {q off : Nat → Nat} {bb tb : Nat} {BB TB : List Value} {st : List Pt} (h : MA w a b mb pb q off bb tb BB TB st) : Ptrs w mb pb q st.length := ⟨h.hm, h.ptr⟩
/-- What is answered: the part's pointer, and where in it. -/
def inV (q : Nat → Nat) (st : List Pt) (a n : Int) : Value := match findM st a n with
  | none => .tuple #[.pointer none, i64v 0]
  | some (i, p) => .tuple #[.pointer (some ⟨q i, 0, none⟩), i64v (offR p a : Int)]
theorem inV_none {q : Nat → Nat} {st : List Pt} {a n : Int} (h : findM st a n = none) : inV q st a n = .tuple #[.pointer none, i64v 0] := by rw [inV, h]
theorem inV_some {q : Nat → Nat} {st : List Pt} {a n : Int} {i : Nat} {p : Pt} (h : findM st a n = some (i, p)) : inV q st a n = .tuple #[.pointer (some ⟨q i, 0, none⟩), i64v (offR p a : Int)] := by rw [inV, h]
theorem getFin {st : List Pt} (k : Fin st.length) : st[k.1]? = some (st.get k) := by
  rw [List.getElem?_eq_getElem k.2]
  rfl
set_option maxHeartbeats 3200000 in
theorem mem_in_ok {a b mb pb : Nat} {q off : Nat → Nat} {bb tb : Nat} {BB TB : List Value} {st : List Pt} (hne : 0 < st.length) {x n : Int} (hx : 0 ≤ x ∧ x < 18446744073709551616) {w0 : World} (h : MA w0 a b mb pb q off bb tb BB TB st) :
    Calls Tryz.prog sacristy_mem_Mem_in.N #[.pointer (some ⟨mb, 0, none⟩), u64v x, i64v n] w0 (Gives (inV q st x n) w0) := by
  refine sacristy_mem_Mem_in.calls ?_
  unfold sacristy_mem_Mem_in.vc
  intro w1 h1 w2 h2 w3 h3 w4 h4
  have L := ((((Trk.start w0).alloc h1).alloc h2).alloc h3).alloc h4
  refine (mem_each_ok _ w4).mono fun e w5 ⟨he, g5, hb⟩ => ⟨_, he, ?_⟩
  have L5 := L.later g5
  have s05 : w0.heap.size ≤ w5.heap.size := L5.to.size
  have h5 := h.later L5.to
  have hst := h.ok
  have hqlt : ∀ i, i < st.length → q i < w0.heap.size := fun i hi => (h.pt i _ (List.getElem?_eq_getElem hi)).lt
  have e1 : w0.heap.size < w2.heap.size := (((Trk.start w0).alloc h1).alloc h2).has 0 rfl |>.lt
  have e2 : w2.heap.size ≤ w3.heap.size := by rw [h3]; simp
  let F : Fin st.length → Bool := fun k => hasR (st.get k).r x n
  refine fn_intro (cnd_true (by kernel_rfl) ⟨rfl, (⟨st.length, fun k => [.pointer (some ⟨q k.1, 0, none⟩)], fun k => k = w4.heap.size ∨ k = mb ∨ k = pb, fun pre W => (∀ y ∈ pre, F y = false) ∧ Later w5 W,
      fun pre W => ∃ p y, pre = p ++ [y] ∧ (∀ z ∈ p, F z = false) ∧ F y = true ∧ Trk w0 W [(w0.heap.size, [u64v x]), (w1.heap.size, [i64v n]), (w2.heap.size, [.pointer (some ⟨q y.1, 0, none⟩)]), (w3.heap.size, [i64v (offR (st.get y) x : Int)])],
      fun y vs W => vs = [.pointer (some ⟨q y.1, 0, none⟩)],
      each_iter ⟨hne, by have := hst.1; omega⟩ _ hb h5.ptrs, fun k hk => ?_,
      fun s W W' h ht => ⟨h.1, ht.later (Nat.le_refl _) h.2⟩,
      fun s W W' ⟨p, y, e1, e2, e3, e4⟩ ht => ⟨p, y, e1, e2, e3, ht.trk s05 e4⟩,
      fun vs y W W' e1 ht => e1,
      ⟨by simp, Later.refl _⟩⟩ : Rounds Tryz.prog sacristy_mem_Mem_each_1.N #[.pointer (some ⟨w4.heap.size, 0, none⟩)] w5), ?_, ?_, ?_, ?_, ?_⟩)
  · rcases hk with rfl | rfl | rfl
    · exact hb.lt
    · obtain ⟨c, hm⟩ := h5.hm
      exact hm.lt
    · exact lt_of_cell (h5.ptr 0 hne)
  · intro y; rfl
  · rintro s11 pre y W hx' hI
    exact ⟨keepsFrom_later (Later.refl _), fun k _ => rfl, hI, hx'.symm⟩
  · rintro s11 pre y hy hlen g p W ⟨⟨hp, hl⟩, hM⟩
    simp only [List.cons.injEq, Value.pointer.injEq, and_true] at hM
    subst hM
    have LW := L5.later hl
    have hW := h.later LW.to
    have hpt := hW.pt y.1 _ (getFin y)
    refine ⟨_, LW.cell 0 rfl rfl, _, LW.cell 1 rfl rfl, ?_⟩
    refine (mem_has_ok (n := n) (hst.2 _ _ (getFin y)) hx hpt).mono fun e W1 ⟨he, g1⟩ => ⟨_, he, cnd_of (fun hf => ?_) fun hf => ?_⟩
    · refine ⟨fun W' => Has W' w0.heap.size [u64v x] ∧ Has W' (q y.1) (ptC (st.get y) bb tb (off y.1)), fun W' hl' => ⟨((LW.later g1).has 0 rfl).later hl', (hpt.later g1).later hl'⟩, fun W2 g2 => ?_⟩
      refine ⟨x, fun W' hC => hC.1.cell rfl, Deref_some rfl ⟨(st.get y).r.f, fun W' hC => hC.2.cell rfl, ?_⟩⟩
      have L2 := (LW.later g1).later g2
      have hq2 := (hpt.later g1).later g2
      refine L2.set1E 2 rfl (by simp) fun W3 e3 L3 => ⟨⟨L3.has 0 rfl, ?_⟩, ?_⟩
      · rw [e3]
        exact hq2.set_other (by have := hqlt y.1 y.2; omega) _ _
      obtain ⟨f1, f2, f3, f4⟩ := hasR_facts (hst.2 _ _ (getFin y)) hf
      have m := mayR_facts (hst.2 _ _ (getFin y)).may
      rw [u64_in (x := x - (st.get y).r.f) (by omega) (by omega), f2, i64_in (by omega) (by omega)]
      refine L3.set1E 3 rfl (by simp) fun W4 e4 L4 => ⟨?_, pre, y, rfl, hp, hf, L4⟩
      rw [e4, e3]
      exact ((keepsFrom_later (g1.trans g2)).trans (keepsFrom_setCell _ _ _ _)).trans (keepsFrom_setCell _ _ _ _)
    · refine ⟨keepsFrom_later g1, fun k hk => ?_, ?_, hl.trans g1⟩
      · have hk5 : k < w5.heap.size := by
          rcases hk with rfl | rfl | rfl
          · exact hb.lt
          · obtain ⟨c, hm⟩ := h5.hm
            exact hm.lt
          · exact lt_of_cell (h5.ptr 0 hne)
        exact Later.block g1 (Nat.lt_of_lt_of_le hk5 hl.size)
      · intro z hz
        rcases List.mem_append.1 hz with hz | hz
        · exact hp z hz
        · rw [List.mem_singleton.1 hz]
          exact hf
  · rintro D W hD ⟨hp, hl⟩ hd
    have LW := L5.later hl
    refine LW.set1E 2 rfl (by simp) fun W2 e2 M => ?_
    refine M.set1E 3 rfl (by simp) fun W3 e3 M => ?_
    have hd3 : W3.heap[D]? = some (.deferred (some [])) := by
      have k : KeepsFrom w5.heap.size W W3 := by rw [e3, e2]; exact (keepsFrom_setCell _ _ _ _).trans (keepsFrom_setCell _ _ _ _)
      exact k.same D _ hD hd rfl
    refine ⟨hd3, fun W4 e4 => ?_⟩
    have M : Trk w0 W4 _ := (turn_putObj (o' := .deferred none) hd3 rfl hD).trk s05 M |> fun h => e4 ▸ h
    refine ⟨_, M.cell 2 rfl rfl, _, M.cell 3 rfl rfl, ?_, M.to⟩
    rw [inV_none (findM_none fun j p hj => ?_)]
    have hjl : j < st.length := (List.getElem?_eq_some_iff.1 hj).1
    have := hp ⟨j, hjl⟩ (List.mem_finRange _)
    rw [getFin ⟨j, hjl⟩] at hj
    rw [← Option.some.inj hj]
    exact this
  · rintro D pre W hD hpre ⟨p, y, rfl, e1, e2, M⟩ hd
    refine ⟨hd, fun W4 e4 => ?_⟩
    have M : Trk w0 W4 _ := (turn_putObj (o' := .deferred none) hd rfl hD).trk s05 M |> fun h => e4 ▸ h
    refine ⟨_, M.cell 2 rfl rfl, _, M.cell 3 rfl rfl, ?_, M.to⟩
    rw [inV_some (findM_some (getFin y) e2 fun j r hj hr => ?_)]
    have hjl : j < st.length := (List.getElem?_eq_some_iff.1 hr).1
    have hm : (⟨j, hjl⟩ : Fin st.length) ∈ p := by
      obtain ⟨t, ht⟩ := hpre
      have e0 : (List.finRange st.length)[p.length]? = some y := by
        rw [← ht, List.append_assoc, List.getElem?_append_right (Nat.le_refl _)]
        simp
      have hyl : p.length = y.1 := by
        have hl := (List.getElem?_eq_some_iff.1 e0).1
        rw [List.getElem?_eq_getElem hl] at e0
        have := Option.some.inj e0
        rw [← this]
        simp
      have ej : (List.finRange st.length)[j]? = some ⟨j, hjl⟩ := by
        rw [List.getElem?_eq_getElem (by simpa using hjl)]
        simp
      rw [← ht, List.append_assoc, List.getElem?_append_left (by omega)] at ej
      exact List.mem_of_getElem? ej
    have := e1 _ hm
    rw [getFin ⟨j, hjl⟩] at hr
    rw [← Option.some.inj hr]
    exact this
end Go.Proofs.YtcnnnlhoiodeaaaGreat

/-
The contracts of package mem, third part: laying bytes, loading, storing, fetching.
Conditions: each theorem's hypotheses.
-/
namespace Go.Proofs.YtcnnnlhoiodeaaaGreat
open Go Go.Vc Go.RowKit
set_option maxRecDepth 100000

/-- A text's bytes. -/
def strB (s : ByteArray) : List Int := s.data.toList.map fun b => (b.toNat : Int)
theorem strB_length (s : ByteArray) : (strB s).length = s.size := by
  unfold strB
  rw [List.length_map, Array.length_toList]
  rfl
theorem strB_b8 (s : ByteArray) : ∀ b ∈ strB s, 0 ≤ b ∧ b < 256 := by
  intro b hb
  obtain ⟨c, -, rfl⟩ := List.mem_map.1 hb
  have : c.toNat < 256 := c.toNat_lt
  omega
theorem strB_cells (s : ByteArray) : Lib.byteCells s.data.toList = u8c (strB s) := by
  simp [Lib.byteCells, u8c, strB]
theorem strB_strOf {l : List Int} (h : ∀ b ∈ l, 0 ≤ b ∧ b < 256) : strB (strOf l) = l := by
  unfold strB strOf
  rw [List.toList_toArray, List.map_map]
  conv => rhs; rw [← List.map_id l]
  refine List.map_congr_left fun b hb => ?_
  obtain ⟨h0, h1⟩ := h b hb
  simp only [Function.comp, UInt8.toNat_ofNat', id]
  omega
theorem reslice_at {b o l m : Nat} (h : l ≤ m) : reslice (some ⟨b, o, none⟩) l m 1 = if m = l then some ⟨b, o, none⟩ else some ⟨b, o + l, none⟩ := by
  unfold reslice
  split
  · rfl
  · simp [add_block]
abbrev layS (bb tb : Nat) : Nat → Prop := fun k => k = bb ∨ k = tb
/-- What laying does to the world. -/
def LayR (w : World) (a b mb pb : Nat) (q off : Nat → Nat) (bb tb : Nat) (st : List Pt) (w' : World) : Prop := But (layS bb tb) w w' ∧ ∃ BB TB, MA w' a b mb pb q off bb tb BB TB st
set_option maxHeartbeats 1600000 in
theorem mem_lay_ok {a b mb pb : Nat} {q off : Nat → Nat} {bb tb : Nat} {BB TB : List Value} {st : List Pt} {w : World} (h : MA w a b mb pb q off bb tb BB TB st) {i : Nat} {p : Pt} (hi : st[i]? = some p) {k : Nat} {s : ByteArray} (hk : k + s.size ≤ p.r.s.toNat) (t : Bool) :
    Calls Tryz.prog sacristy_mem_part_lay.N #[.pointer (some ⟨q i, 0, none⟩), i64v (k : Int), .string s, .bool t] w fun e w' => e = .returned (.tuple #[]) ∧ LayR w a b mb pb q off bb tb (layM st i p k (strB s) t) w' := by
  refine sacristy_mem_part_lay.calls ?_
  unfold sacristy_mem_part_lay.vc
  have hp := h.ok.2 i p hi
  have m := mayR_facts hp.may
  obtain ⟨lb, lt⟩ := h.len hi
  have hil : i < st.length := (List.getElem?_eq_some_iff.1 hi).1
  have hq := h.pt i p hi
  have sBi := (h.sB i p hi).2
  have sTi := (h.sT i p hi).2
  have hw : IntKind.i64.wrap ((k : Int) + (s.size : Int)) = ((k + s.size : Nat) : Int) := by rw [i64_in (by omega) (by omega)]; omega
  rw [hw]
  refine Deref_some rfl ⟨_, _, _, hq.cell (i := 3) rfl, by omega, by omega, by omega, ?_⟩
  rw [Int.toNat_natCast, Int.toNat_natCast, reslice_at (by omega), show k + s.size - k = s.size by omega]
  have hlB : off i + k + (u8c (strB s)).length ≤ BB.length := by rw [u8c_length, strB_length]; omega
  have copied : ∃ w1, (Builtin.copy_ #[90, 9] 3 #[.slice (if k + s.size = k then some ⟨bb, off i, none⟩ else some ⟨bb, off i + k, none⟩) s.size s.size, .string s]).run Tryz.prog w = .ok (goInt s.size) w1 ∧ But (layS bb tb) w w1 ∧ Has w1 bb (putL BB (off i + k) (u8c (strB s))) ∧ Has w1 tb TB := by
    by_cases hs : s.size = 0
    · refine ⟨w, ?_, But.refl _ _, ?_, h.hT⟩
      · have := Lib.run_copy_empty_string (P := Tryz.prog) w 90 9 3 5 (if k + s.size = k then some ⟨bb, off i, none⟩ else some ⟨bb, off i + k, none⟩) s.size s.size s (by kernel_rfl) (by kernel_rfl) hs
        rw [this, hs]
        rfl
      · have : strB s = [] := List.length_eq_zero_iff.1 (by rw [strB_length]; exact hs)
        rw [this]
        show Has w bb (putL BB _ [])
        rw [putL_nil]
        exact h.hB
    · rw [if_neg (by omega)]
      obtain ⟨ty, hB⟩ := h.hB
      refine ⟨_, Lib.run_copy_row_string (P := Tryz.prog) w 90 9 3 5 bb (off i + k) s.size s.size s BB.toArray ty (by kernel_rfl) (by kernel_rfl) hB (Nat.le_refl _) (by simp; omega), But.setRow _ _ (.inl rfl), ?_, h.hT.kept (setRow_other _ _ _ _ (fun e => h.nB.1 e.symm))⟩
      have e : (BB.toArray.toList.take (off i + k) ++ Lib.byteCells s.data.toList ++ BB.toArray.toList.drop (off i + k + s.size)) = putL BB (off i + k) (u8c (strB s)) := by
        rw [strB_cells]
        unfold putL
        rw [u8c_length, strB_length]
      rw [e]
      exact Has.setRow ⟨ty, hB⟩ _
  obtain ⟨w1, hrun, g1, hB1, hT1⟩ := copied
  refine RunsV_of hrun ⟨_, rfl, ?_⟩
  refine ⟨fun vs w' => ∃ j : Nat, j ≤ s.size ∧ vs = [i64v j] ∧ But (layS bb tb) w w' ∧ Has w' bb (putL BB (off i + k) (u8c (strB s))) ∧ Has w' tb (putL TB (off i + k) (List.replicate j (.bool t))), fun vs _ => match vs with | [.int _ n] => s.size - n.toNat | _ => 0,
    ⟨0, by omega, rfl, g1, hB1, ?_⟩, ?_⟩
  · show Has w1 tb (putL TB _ [])
    rw [putL_nil]
    exact hT1
  rintro g s25 w2 ⟨j, hj, hs', g2, hB2, hT2⟩
  simp only [List.cons.injEq, Value.int.injEq, true_and, and_true] at hs'
  subst hs'
  refine cnd_of (fun hlt => ?_) fun hge => ?_
  · have hlt : j < s.size := by simpa [goInt] using hlt
    have hw2 : IntKind.i64.wrap ((k : Int) + (j : Int)) = ((k + j : Nat) : Int) := by rw [i64_in (by omega) (by omega)]; omega
    rw [hw2]
    have hq2 : Has w2 (q i) (ptC p bb tb (off i)) := g2.has hq (by have := h.nq i hil; show ¬ (q i = bb ∨ q i = tb); omega)
    refine Deref_some rfl ⟨_, _, _, hq2.cell (i := 4) rfl, by omega, Deref_some rfl ?_⟩
    rw [add_block, Int.toNat_natCast, show off i + (k + j) * 1 = off i + k + j by omega]
    have hTl : (putL TB (off i + k) (List.replicate j (Value.bool t))).length = TB.length := putL_length (by rw [List.length_replicate]; omega)
    have hget : off i + k + j < (putL TB (off i + k) (List.replicate j (Value.bool t))).length := by rw [hTl]; omega
    refine ⟨⟨by rw [hT2.cell (List.getElem?_eq_getElem hget)]; rfl, hT2.frozen _⟩, fun w3 h3 => ?_⟩
    have hw3 : IntKind.i64.wrap ((j : Int) + 1) = ((j + 1 : Nat) : Int) := by rw [i64_in (by omega) (by omega)]; omega
    rw [hw3]
    refine ⟨⟨j + 1, by omega, rfl, ?_, ?_, ?_⟩, by show s.size - ((j + 1 : Nat) : Int).toNat < s.size - ((j : Nat) : Int).toNat; omega⟩
    · rw [h3]; exact g2.trans (But.setCell _ _ (.inr rfl))
    · rw [h3]; exact hB2.set_other h.nB.1 _ _
    · have := hT2.set (off i + k + j) (.bool t)
      rw [h3, List.replicate_succ', ← putL_snoc (by rw [List.length_replicate]; omega), List.length_replicate, putL_one hget]
      exact this
  · have : j = s.size := by simp only [decide_eq_false_iff_not, goInt] at hge; omega
    subst this
    refine ⟨rfl, g2, _, _, h.lay g2 hi (l := strB s) (by rw [strB_length]; exact hk) (strB_b8 s) hB2 ?_⟩
    rw [strB_length]
    exact hT2
end Go.Proofs.YtcnnnlhoiodeaaaGreat

/-
The contracts of package mem, fourth part: Load, Store, Fetch, Set, Bytes.
Conditions: each theorem's hypotheses.
-/
namespace Go.Proofs.YtcnnnlhoiodeaaaGreat
open Go Go.Vc Go.RowKit
set_option maxRecDepth 100000

theorem wordL_val : ∀ l : List Int, (∀ b ∈ l, 0 ≤ b ∧ b < 256) → (wordL (l.map fun n => UInt8.ofNat n.toNat) : Int) = valB l
  | [], _ => rfl
  | b :: l, h => by
    have ih := wordL_val l fun c hc => h c (List.mem_cons_of_mem b hc)
    obtain ⟨h0, h1⟩ := h b List.mem_cons_self
    simp only [List.map_cons, wordL, valB, UInt8.toNat_ofNat']
    rw [← ih]
    omega
section
variable {w : World} {a b mb pb : Nat} {q off : Nat → Nat} {bb tb : Nat} {BB TB : List Value} {st : List Pt} (h : MA w a b mb pb q off bb tb BB TB st) {i : Nat} {p : Pt} (hi : st[i]? = some p)
include h hi
theorem MA.byte {j : Nat} {x : Int} (hj : p.bs[j]? = some x) : w.cell? ⟨bb, off i + j, none⟩ = some (.int .u8 x) := h.hB.cell ((h.sB i p hi).1 j _ (u8c_get hj))
theorem MA.taint {j : Nat} {x : Bool} (hj : p.ts[j]? = some x) : w.cell? ⟨tb, off i + j, none⟩ = some (.bool x) := h.hT.cell ((h.sT i p hi).1 j _ (boc_get hj))
theorem MA.bytesAt (k n : Nat) : CellsAt w ⟨bb, off i + k, none⟩ 0 (((p.bs.drop k).take n).map (Value.int .u8)) := by
  refine CellsAt_of_get fun j u hj => ?_
  rw [List.getElem?_map, Option.map_eq_some_iff] at hj
  obtain ⟨x, hx, rfl⟩ := hj
  rw [List.getElem?_take] at hx
  split at hx
  · rw [List.getElem?_drop] at hx
    rw [add_block, Nat.zero_add, Nat.add_assoc]
    exact h.byte hi hx
  · cases hx
/-- A stretch's text. -/
theorem MA.text {k n : Nat} (hk : k + n ≤ p.r.s.toNat) {K : Value → World → Prop} {c : Nat} (hK : K (.string (strOf ((p.bs.drop k).take n))) w) :
    RunsV Tryz.prog (convert 90 9 (.slice (if k + n = k then some ⟨bb, off i, none⟩ else some ⟨bb, off i + k, none⟩) n c)) w K := by
  have lb := (h.len hi).1
  have hlen : n = ((p.bs.drop k).take n).length := by rw [List.length_take, List.length_drop]; omega
  by_cases hn : n = 0
  · subst hn
    rw [if_pos (by omega)]
    refine runs_bytes_string (e := 5) (by kernel_rfl) (by kernel_rfl) (by kernel_rfl) hlen ?_ hK
    rw [List.take_zero]
    trivial
  · rw [if_neg (by omega)]
    exact runs_bytes_string (e := 5) (by kernel_rfl) (by kernel_rfl) (by kernel_rfl) hlen (h.bytesAt hi k n) hK
end
theorem b8_part {p : Pt} (hp : PtOk p) (k n : Nat) : ∀ b ∈ (p.bs.drop k).take n, 0 ≤ b ∧ b < 256 := fun b hb => hp.b8 b (List.mem_of_mem_drop (List.mem_of_mem_take hb))
theorem part_len {p : Pt} (hp : PtOk p) {k n : Nat} (h : k + n ≤ p.r.s.toNat) : ((p.bs.drop k).take n).length = n := by
  rw [List.length_take, List.length_drop, hp.bl]
  omega
/-- The number of a stretch's text. -/
theorem word_part {p : Pt} (hp : PtOk p) {k n : Nat} (h : k + n ≤ p.r.s.toNat) (hn : 1 ≤ n ∧ n ≤ 8) (w : World) : Calls Tryz.prog word_Word.N #[.string (strOf ((p.bs.drop k).take n))] w (Gives (.tuple #[u64v (valB ((p.bs.drop k).take n)), i64v 0]) w) := by
  have hl := part_len hp h
  have hs : (strOf ((p.bs.drop k).take n)).size = n := by rw [strOf_size, hl]
  refine (word_Word_ok _ (by omega) w).mono fun e w' ⟨he, hl'⟩ => ⟨?_, hl'⟩
  rw [he, if_pos (by omega)]
  have : ((wordL (strOf ((p.bs.drop k).take n)).data.toList : Nat) : Int) = valB ((p.bs.drop k).take n) := by
    rw [← wordL_val _ (b8_part hp k n)]
    unfold strOf
    rw [List.toList_toArray]
  rw [this]
theorem any_step {l : List Bool} {j : Nat} {x : Bool} (h : l[j]? = some x) : (l.take (j + 1)).any id = ((l.take j).any id || x) := by
  rw [List.take_add_one, h]
  simp
theorem drop_get {α : Type} {l : List α} {k j n : Nat} {x : α} (h : ((l.drop k).take n)[j]? = some x) : l[k + j]? = some x := by
  rw [List.getElem?_take] at h
  split at h
  · rwa [List.getElem?_drop] at h
  · cases h
set_option maxHeartbeats 1600000 in
theorem mem_Load_ok {a b mb : Nat} {st : List Pt} (hne : 0 < st.length) {x n : Int} (hx : 0 ≤ x ∧ x < 18446744073709551616) {w : World} (hM : MemAt w a b mb st) :
    Calls Tryz.prog sacristy_mem_Mem_Load.N #[.pointer (some ⟨mb, 0, none⟩), u64v x, i64v n] w (Gives (.tuple #[u64v (loadM st x n).1, .bool (loadM st x n).2.1, i64v (loadM st x n).2.2]) w) := by
  obtain ⟨pb, q, off, bb, tb, BB, TB, h⟩ := hM
  refine sacristy_mem_Mem_Load.calls ?_
  unfold sacristy_mem_Mem_Load.vc
  refine (mem_right_ok _ n w).mono fun e w1 ⟨he, e1⟩ => ⟨_, he, ?_⟩
  subst e1
  by_cases hn : n < 1 ∨ 8 < n
  · rw [if_pos hn]
    refine cnd_true rfl ⟨?_, Later.refl _⟩
    rw [loadM, if_pos hn]
  rw [if_neg hn]
  refine cnd_false rfl ((mem_in_ok (n := n) hne hx h).mono fun e w2 ⟨he, g2⟩ => ?_)
  have h2 := h.later g2
  have eL : loadM st x n = match findM st x n with
    | none => (0, false, 40)
    | some (_, p) => if p.r.k = 1 then (0, false, 40) else (valB ((p.bs.drop (offR p x)).take n.toNat), ((p.ts.drop (offR p x)).take n.toNat).any id, 0) := by rw [loadM, if_neg hn] <;> rfl
  cases hf : findM st x n with
  | none =>
    rw [inV_none hf] at he
    rw [hf] at eL
    rw [eL]
    exact ⟨_, _, he, _, ptr_nil (by kernel_rfl) _ _ _, cnd_true rfl ⟨rfl, g2⟩⟩
  | some y =>
    obtain ⟨i, p⟩ := y
    rw [inV_some hf] at he
    rw [hf] at eL
    simp only at eL
    obtain ⟨hi, hh⟩ := findM_get hf
    have hp := h.ok.2 i p hi
    obtain ⟨f1, f2, f3, f4⟩ := hasR_facts hp hh
    have m := mayR_facts hp.may
    have hn64 : n % 18446744073709551616 = n := by omega
    rw [hn64] at f4
    have hk : offR p x + n.toNat ≤ p.r.s.toNat := by omega
    have hq := h2.pt i p hi
    obtain ⟨lb, lt⟩ := h.len hi
    refine ⟨_, _, he, _, ptr_nil (by kernel_rfl) _ _ _, cnd_false rfl (Deref_some rfl ⟨_, hq.cell (i := 2) rfl, cnd_of (fun hk1 => ⟨?_, g2⟩) fun hk1 => Deref_some rfl ⟨_, _, _, hq.cell (i := 4) rfl, ?_⟩⟩)⟩
    · rw [eL, if_pos (by simpa using hk1)]
    have hk1 : ¬ p.r.k = 1 := by simpa using hk1
    rw [if_neg hk1] at eL
    have hw : IntKind.i64.wrap ((offR p x : Int) + n) = ((offR p x + n.toNat : Nat) : Int) := by rw [i64_in (by omega) (by omega)]; omega
    rw [hw, Int.toNat_natCast, Int.toNat_natCast, reslice_at (by omega), show offR p x + n.toNat - offR p x = n.toNat by omega, if_neg (by omega)]
    refine ⟨by omega, by omega, by omega, ?_⟩
    have lts : ((p.ts.drop (offR p x)).take n.toNat).length = n.toNat := by rw [List.length_take, List.length_drop]; omega
    refine ⟨fun vs w' => ∃ j : Nat, j ≤ n.toNat ∧ vs = [.bool ((((p.ts.drop (offR p x)).take n.toNat).take j).any id), i64v j] ∧ w' = w2, fun vs _ => match vs with | [_, .int _ m] => n.toNat - m.toNat | _ => 0, ⟨0, by omega, by simp, rfl⟩, ?_⟩
    rintro g taint s50 w3 ⟨j, hj, hs', rfl⟩
    simp only [List.cons.injEq, Value.int.injEq, Value.bool.injEq, true_and, and_true] at hs'
    obtain ⟨rfl, rfl⟩ := hs'
    refine cnd_of (fun hlt => ?_) fun hge => ?_
    · have hlt : j < n.toNat := by simp only [decide_eq_true_eq] at hlt; omega
      have hg := List.getElem?_eq_getElem (l := (p.ts.drop (offR p x)).take n.toNat) (i := j) (by omega)
      generalize ((p.ts.drop (offR p x)).take n.toNat)[j] = t at hg
      have hst := any_step hg
      refine ⟨by omega, Deref_some rfl ⟨t, ?_, ?_⟩⟩
      · rw [add_block, Int.toNat_natCast, show off i + offR p x + j * 1 = off i + (offR p x + j) by omega]
        exact h2.taint hi (drop_get hg)
      have hw3 : IntKind.i64.wrap ((j : Int) + 1) = ((j + 1 : Nat) : Int) := by rw [i64_in (by omega) (by omega)]; omega
      rw [hw3]
      have dec : n.toNat - ((j + 1 : Nat) : Int).toNat < n.toNat - ((j : Nat) : Int).toNat := by omega
      refine cnd_of (fun ht => ⟨⟨j + 1, by omega, ?_, rfl⟩, dec⟩) fun ht => ⟨⟨j + 1, by omega, ?_, rfl⟩, dec⟩
      · rw [hst, ht]
        rfl
      · rw [hst, ht]
        rfl
    · have : j = n.toNat := by simp only [decide_eq_false_iff_not] at hge; omega
      subst this
      rw [List.take_of_length_le (by omega)]
      refine Deref_some rfl ⟨_, _, _, hq.cell (i := 3) rfl, by omega, by omega, by omega, ?_⟩
      rw [reslice_at (by omega)]
      refine h2.text hi hk ⟨_, rfl, ?_⟩
      refine (word_part hp hk (by omega) _).mono fun e w4 ⟨he, g4⟩ => ⟨_, _, he, ?_, g2.trans g4⟩
      rw [eL]
/-- What a writing call leaves. -/
def Wrote (v : Value) (w : World) (a b mb : Nat) (st : List Pt) (e : Ending) (w' : World) : Prop := e = .returned v ∧ Kept a b w w' ∧ MemAt w' a b mb st
theorem LayR.wrote {w w1 w' : World} {a b mb pb : Nat} {q off : Nat → Nat} {bb tb : Nat} {BB TB : List Value} {st st' : List Pt} (h : MA w a b mb pb q off bb tb BB TB st) (g : Later w w1) (hl : LayR w1 a b mb pb q off bb tb st' w') (v : Value) : Wrote v w a b mb st' (.returned v) w' := by
  obtain ⟨h1, BB', TB', h2⟩ := hl
  refine ⟨rfl, (g.kept a b).trans (h1.kept fun k hk => ?_), _, _, _, _, _, _, _, h2⟩
  rcases hk with rfl | rfl
  · exact h.rB
  · exact h.rT
theorem strB_bytesOf (v : Int) (n : Nat) : strB (bytesOf v n) = lowB v n := strB_strOf (lowB_b8 v n)
set_option maxHeartbeats 1600000 in
theorem mem_Store_ok {a b mb : Nat} {st : List Pt} (hne : 0 < st.length) {x n v : Int} {t : Bool} (hx : 0 ≤ x ∧ x < 18446744073709551616) (hv : 0 ≤ v ∧ v < 18446744073709551616) {w : World} (hM : MemAt w a b mb st) :
    Calls Tryz.prog sacristy_mem_Mem_Store.N #[.pointer (some ⟨mb, 0, none⟩), u64v x, i64v n, u64v v, .bool t] w (Wrote (i64v (storeM st x n v t).2) w a b mb (storeM st x n v t).1) := by
  have hM' := hM
  obtain ⟨pb, q, off, bb, tb, BB, TB, h⟩ := hM
  refine sacristy_mem_Mem_Store.calls ?_
  unfold sacristy_mem_Mem_Store.vc
  refine (mem_right_ok _ n w).mono fun e w1 ⟨he, e1⟩ => ⟨_, he, ?_⟩
  subst e1
  by_cases hn : n < 1 ∨ 8 < n
  · rw [if_pos hn]
    refine cnd_true rfl ?_
    rw [storeM, if_pos hn]
    exact ⟨rfl, Kept.refl _ _ _, hM'⟩
  rw [if_neg hn]
  refine cnd_false rfl ((mem_in_ok (n := n) hne hx h).mono fun e w2 ⟨he, g2⟩ => ?_)
  have h2 := h.later g2
  have eL : storeM st x n v t = match findM st x n with
    | none => (st, 40)
    | some (i, p) => if p.r.k = 3 ∨ p.r.k = 4 then (layM st i p (offR p x) (lowB v n.toNat) t, 0) else (st, 40) := by rw [storeM, if_neg hn] <;> rfl
  cases hf : findM st x n with
  | none =>
    rw [inV_none hf] at he
    rw [hf] at eL
    rw [eL]
    exact ⟨_, _, he, _, ptr_nil (by kernel_rfl) _ _ _, cnd_true rfl ⟨rfl, g2.kept _ _, hM'.later g2⟩⟩
  | some y =>
    obtain ⟨i, p⟩ := y
    rw [inV_some hf] at he
    rw [hf] at eL
    simp only at eL
    obtain ⟨hi, hh⟩ := findM_get hf
    have hp := h.ok.2 i p hi
    obtain ⟨f1, f2, f3, f4⟩ := hasR_facts hp hh
    have hn64 : n % 18446744073709551616 = n := by omega
    rw [hn64] at f4
    have hk : offR p x + n.toNat ≤ p.r.s.toNat := by omega
    have hq := h2.pt i p hi
    have write : p.r.k = 3 ∨ p.r.k = 4 → Calls Tryz.prog word_Bytes.N #[u64v v, i64v n] w2 fun e w' => ∃ (s : ByteArray) (n_3 : Int), e = .returned (.tuple #[.string s, .int .i64 n_3]) ∧
        Calls Tryz.prog sacristy_mem_part_lay.N #[.pointer (some ⟨q i, 0, none⟩), i64v (offR p x : Int), .string s, .bool t] w' fun e w' => e = .returned (.tuple #[]) ∧ Wrote (i64v (storeM st x n v t).2) w1 a b mb (storeM st x n v t).1 (.returned (i64v 0)) w' := by
      intro hk34
      rw [eL, if_pos hk34]
      refine (word_Bytes_ok v n hv.1 hv.2 w2).mono fun e w3 ⟨he, g3⟩ => ?_
      rw [if_pos (by omega)] at he
      refine ⟨_, _, he, ?_⟩
      have hsz : (bytesOf v n.toNat).size = n.toNat := by rw [← strB_length, strB_bytesOf, lowB_length]
      refine (mem_lay_ok (h2.later g3) hi (s := bytesOf v n.toNat) (by rw [hsz]; exact hk) t).mono fun e w4 ⟨he, hl⟩ => ⟨he, ?_⟩
      rw [strB_bytesOf] at hl
      exact LayR.wrote h (g2.trans g3) hl _
    refine ⟨_, _, he, _, ptr_nil (by kernel_rfl) _ _ _, cnd_false rfl (Deref_some rfl ⟨_, hq.cell (i := 2) rfl, cnd_of (fun hk3 => Deref_some rfl ⟨_, hq.cell (i := 2) rfl, cnd_of (fun hk4 => ?_) fun hk4 => ?_⟩) fun hk3 => ?_⟩)⟩
    · have h3 : ¬ p.r.k = 3 := by simpa using hk3
      have h4 : ¬ p.r.k = 4 := by simpa using hk4
      rw [if_neg (by omega)] at eL
      rw [eL]
      exact ⟨rfl, g2.kept _ _, hM'.later g2⟩
    · exact write (.inr (by simpa using hk4))
    · exact write (.inl (by simpa using hk3))
theorem val4_lt {l : List Int} (h : ∀ b ∈ l, 0 ≤ b ∧ b < 256) (hl : l.length = 4) : 0 ≤ valB l ∧ valB l < 4294967296 := by
  match l, hl with
  | [a, b, c, d], _ =>
    have h1 := h a (by simp)
    have h2 := h b (by simp)
    have h3 := h c (by simp)
    have h4 := h d (by simp)
    simp only [valB]
    omega
set_option maxHeartbeats 1600000 in
theorem mem_Fetch_ok {a b mb : Nat} {st : List Pt} (hne : 0 < st.length) {x : Int} (hx : 0 ≤ x ∧ x < 18446744073709551616) {w : World} (hM : MemAt w a b mb st) :
    Calls Tryz.prog sacristy_mem_Mem_Fetch.N #[.pointer (some ⟨mb, 0, none⟩), u64v x] w (Gives (.tuple #[.int .u32 (fetchM st x).1, i64v (fetchM st x).2]) w) := by
  obtain ⟨pb, q, off, bb, tb, BB, TB, h⟩ := hM
  refine sacristy_mem_Mem_Fetch.calls ?_
  unfold sacristy_mem_Mem_Fetch.vc
  refine ⟨_, ptr_nil (by kernel_rfl) _ _ _, cnd_false rfl (cnd_of (fun h4 => ?_) fun h4 => ?_)⟩
  · rw [tmod_nn _ hx.1] at h4
    have : ¬ x % 4 = 0 := by simpa using h4
    rw [fetchM, if_neg this]
    exact ⟨rfl, Later.refl _⟩
  rw [tmod_nn _ hx.1] at h4
  have h4 : x % 4 = 0 := by simpa using h4
  refine (mem_in_ok (n := 4) hne hx h).mono fun e w2 ⟨he, g2⟩ => ?_
  have h2 := h.later g2
  have eL : fetchM st x = match findM st x 4 with
    | none => (0, 40)
    | some (_, p) => if p.r.k = 1 then (valB ((p.bs.drop (offR p x)).take 4), 0) else (0, 40) := by rw [fetchM, if_pos h4] <;> rfl
  cases hf : findM st x 4 with
  | none =>
    rw [inV_none hf] at he
    rw [hf] at eL
    rw [eL]
    exact ⟨_, _, he, _, ptr_nil (by kernel_rfl) _ _ _, cnd_true rfl ⟨rfl, g2⟩⟩
  | some y =>
    obtain ⟨i, p⟩ := y
    rw [inV_some hf] at he
    rw [hf] at eL
    simp only at eL
    obtain ⟨hi, hh⟩ := findM_get hf
    have hp := h.ok.2 i p hi
    obtain ⟨f1, f2, f3, f4⟩ := hasR_facts hp hh
    have m := mayR_facts hp.may
    have hk : offR p x + 4 ≤ p.r.s.toNat := by omega
    have hq := h2.pt i p hi
    obtain ⟨lb, lt⟩ := h.len hi
    refine ⟨_, _, he, _, ptr_nil (by kernel_rfl) _ _ _, cnd_false rfl (Deref_some rfl ⟨_, hq.cell (i := 2) rfl, cnd_of (fun hk1 => ⟨?_, g2⟩) fun hk1 => Deref_some rfl ⟨_, _, _, hq.cell (i := 3) rfl, ?_⟩⟩)⟩
    · rw [eL, if_neg (by simpa using hk1)]
    have hk1 : p.r.k = 1 := by simpa using hk1
    rw [if_pos hk1] at eL
    have hw : IntKind.i64.wrap ((offR p x : Int) + 4) = ((offR p x + 4 : Nat) : Int) := by rw [i64_in (by omega) (by omega)]; omega
    rw [hw, Int.toNat_natCast, Int.toNat_natCast, reslice_at (by omega), show offR p x + 4 - offR p x = 4 by omega]
    refine ⟨by omega, by omega, by omega, h2.text hi hk ⟨_, rfl, ?_⟩⟩
    refine (word_part hp hk (by omega) _).mono fun e w4 ⟨he, g4⟩ => ⟨_, _, he, ?_, g2.trans g4⟩
    obtain ⟨v0, v1⟩ := val4_lt (b8_part hp (offR p x) 4) (part_len hp hk)
    rw [eL, u32_in v0 v1]
theorem mem_Set_ok {a b mb : Nat} {st : List Pt} (hne : 0 < st.length) {x : Int} {s : ByteArray} (hs : s.size < 9223372036854775808) {t : Bool} (hx : 0 ≤ x ∧ x < 18446744073709551616) {w : World} (hM : MemAt w a b mb st) :
    Calls Tryz.prog sacristy_mem_Mem_Set.N #[.pointer (some ⟨mb, 0, none⟩), u64v x, .string s, .bool t] w (Wrote (i64v (setM st x (strB s) t).2) w a b mb (setM st x (strB s) t).1) := by
  have hM' := hM
  obtain ⟨pb, q, off, bb, tb, BB, TB, h⟩ := hM
  refine sacristy_mem_Mem_Set.calls ?_
  unfold sacristy_mem_Mem_Set.vc
  refine ⟨_, ptr_nil (by kernel_rfl) _ _ _, cnd_false rfl ((mem_in_ok (n := (s.size : Int)) hne hx h).mono fun e w2 ⟨he, g2⟩ => ?_)⟩
  have h2 := h.later g2
  have eL : setM st x (strB s) t = match findM st x (s.size : Int) with
    | none => (st, 40)
    | some (i, p) => (layM st i p (offR p x) (strB s) t, 0) := by rw [setM, strB_length] <;> rfl
  cases hf : findM st x (s.size : Int) with
  | none =>
    rw [inV_none hf] at he
    rw [hf] at eL
    rw [eL]
    exact ⟨_, _, he, _, ptr_nil (by kernel_rfl) _ _ _, cnd_true rfl ⟨rfl, g2.kept _ _, hM'.later g2⟩⟩
  | some y =>
    obtain ⟨i, p⟩ := y
    rw [inV_some hf] at he
    rw [hf] at eL
    simp only at eL
    obtain ⟨hi, hh⟩ := findM_get hf
    have hp := h.ok.2 i p hi
    obtain ⟨f1, f2, f3, f4⟩ := hasR_facts hp hh
    have hk : offR p x + s.size ≤ p.r.s.toNat := by omega
    refine ⟨_, _, he, _, ptr_nil (by kernel_rfl) _ _ _, cnd_false rfl ?_⟩
    refine (mem_lay_ok h2 hi hk t).mono fun e w4 ⟨he, hl⟩ => ⟨he, ?_⟩
    rw [eL]
    exact LayR.wrote h g2 hl _
end Go.Proofs.YtcnnnlhoiodeaaaGreat

/-
The contracts of package mem, fifth part: Bytes, Regions.
Conditions: each theorem's hypotheses.
-/
namespace Go.Proofs.YtcnnnlhoiodeaaaGreat
open Go Go.Vc Go.RowKit
set_option maxRecDepth 100000

def boT : ElT Bool := ⟨1, by decide, fun a => [.bool a], fun _ => rfl, fun a u hu => by rw [List.mem_singleton.1 hu]; rfl⟩
theorem rtBo : RowTy Tryz.prog 61 4 1 1 := RowTy.of (.bool false) (by kernel_rfl) (by kernel_rfl) rfl (by decide)
theorem rtReg : RowTy Tryz.prog 85 128 3 24 := RowTy.of (.agg #[u64v 0, u64v 0, .int .u8 0]) (by kernel_rfl) (by kernel_rfl) rfl (by decide)
theorem slice_nil {t e : TypeId} (h : Tryz.prog.underlying t = some (.slice e)) (p : Option Addr) (n c : Nat) (xo yo : Operand) : EqRuns Tryz.prog .eql t xo yo (.slice p n c) (.slice none 0 0) p.isNone := by
  intro w
  rw [eqGuard_at_slice]
  simp only [Sem.run_bind, Sem.run_pure, Result.andThen_ok]
  simp only [binOp]
  simp [run_equal_slice_nil w t e p n c h]
theorem mem_Clone_ok {ad : Addr} {c : Nat} {l : List Bool} {w : World} (hr : ERow boT w (some ad) l) (hn : l.length ≤ 16777216) : Calls Tryz.prog slices_Clone.N #[.slice (some ad) l.length c] w fun e w' => ∃ b c', e = .returned (.slice b l.length c') ∧ Later w w' ∧ OwnE boT w w' 4 b c' l := by
  refine slices_Clone.calls ?_
  unfold slices_Clone.vc
  refine ⟨_, slice_nil (e := 4) (by kernel_rfl) _ _ _ _ _, cnd_false rfl fun w1 h1 => ?_⟩
  have L := (Trk.start w).alloc h1
  cases hl : l with
  | nil =>
    obtain ⟨i, z, hi, hz, hs, hby, hzs⟩ := rtBo.info
    refine RunsV_of (v := .slice (some ⟨w.heap.size, 0, none⟩) 0 0) (w' := w1) ?_ ⟨_, _, _, rfl, _, _, rfl, L.to, ?_⟩
    · exact run_append_nothing w1 _ _ _ _ i rtBo.under hi _ 0 0 (Nat.le_refl 0) (.slice (some ad) 0 c) ⟨.inl ⟨_, rtBo.under⟩, fun w' => by simp [Builtin.lenOf], by simp [Builtin.firstCells, loadCells, loadCellsFrom], by simp [Builtin.firstCells, loadCells, loadCellsFrom], by simp, by simp⟩
    · exact OwnE.new (T := boT) (l := []) (Later.refl w) h1 rfl (by decide)
  | cons x r =>
    rw [← hl]
    have hpos : 0 < l.length := by rw [hl]; simp
    refine OwnE.grow (T := boT) (w0 := w1) (l := []) (news := l) 61 rtBo (Later.refl w1) (show CellsAt w1 _ 0 [] from trivial) (hr.later L.to).all (by simpa using hpos) (by simp [maxLen]; omega) (by simp; omega) fun b c' w' ho hl' => ?_
    rw [List.nil_append] at ho ⊢
    exact ⟨_, _, _, rfl, _, _, rfl, L.to.trans hl', ho.weak (Later.size L.to)⟩
/-- What Bytes gives. -/
def BytesR (st : List Pt) (x n : Int) (w : World) (e : Ending) (w' : World) : Prop := Later w w' ∧ ∃ b c, e = .returned (.tuple #[.string (strOf (bytesM st x n).1), .slice b (bytesM st x n).2.1.length c, i64v (bytesM st x n).2.2]) ∧ OwnE boT w w' 4 b c (bytesM st x n).2.1
theorem bytes_none {st : List Pt} {x n : Int} {w w' : World} {k : Int} (h : bytesM st x n = ([], [], k)) (hl : Later w w') : BytesR st x n w (.returned (.tuple #[.string (ByteArray.mk #[]), .slice none 0 0, i64v k])) w' := by
  refine ⟨hl, none, 0, ?_, ?_⟩
  · rw [h]
    rfl
  · rw [h]
    exact OwnE.nil _ _ _
section
variable {w : World} {a b mb pb : Nat} {q off : Nat → Nat} {bb tb : Nat} {BB TB : List Value} {st : List Pt} (h : MA w a b mb pb q off bb tb BB TB st) {i : Nat} {p : Pt} (hi : st[i]? = some p)
include h hi
theorem MA.taintsAt (k n : Nat) : ERow boT w (some ⟨tb, off i + k, none⟩) ((p.ts.drop k).take n) := by
  intro j m hj
  refine ⟨_, rfl, fun x v hv => ?_⟩
  have hx : x < 1 := (List.getElem?_eq_some_iff.1 hv).1
  obtain rfl : x = 0 := by omega
  have hv : v = .bool m := by simpa [boT] using hv.symm
  rw [hv, addr_add_add, add_block, show off i + k + (j * boT.sz + 0) = off i + (k + j) by show off i + k + (j * 1 + 0) = _; omega]
  exact h.taint hi (drop_get hj)
end
set_option maxHeartbeats 1600000 in
theorem mem_Bytes_ok {a b mb : Nat} {st : List Pt} (hne : 0 < st.length) {x n : Int} (hx : 0 ≤ x ∧ x < 18446744073709551616) {w : World} (hM : MemAt w a b mb st) :
    Calls Tryz.prog sacristy_mem_Mem_Bytes.N #[.pointer (some ⟨mb, 0, none⟩), u64v x, i64v n] w (BytesR st x n w) := by
  obtain ⟨pb, q, off, bb, tb, BB, TB, h⟩ := hM
  refine sacristy_mem_Mem_Bytes.calls ?_
  unfold sacristy_mem_Mem_Bytes.vc
  refine ⟨_, ptr_nil (by kernel_rfl) _ _ _, cnd_false rfl (cnd_of (fun h1 => bytes_none ?_ (Later.refl _)) fun h1 => cnd_of (fun h2 => bytes_none ?_ (Later.refl _)) fun h2 => ?_)⟩
  · rw [bytesM, if_pos (.inl (by simpa using h1))]
  · rw [bytesM, if_pos (.inr (by simpa using h2))]
  have hn : ¬ (n < 0 ∨ 1048576 < n) := by simp only [decide_eq_false_iff_not] at h1 h2; omega
  refine (mem_in_ok (n := n) hne hx h).mono fun e w2 ⟨he, g2⟩ => ?_
  have h2 := h.later g2
  have eL : bytesM st x n = match findM st x n with
    | none => ([], [], 40)
    | some (_, p) => ((p.bs.drop (offR p x)).take n.toNat, (p.ts.drop (offR p x)).take n.toNat, 0) := by rw [bytesM, if_neg hn] <;> rfl
  cases hf : findM st x n with
  | none =>
    rw [inV_none hf] at he
    rw [hf] at eL
    exact ⟨_, _, he, _, ptr_nil (by kernel_rfl) _ _ _, cnd_true rfl (bytes_none eL g2)⟩
  | some y =>
    obtain ⟨i, p⟩ := y
    rw [inV_some hf] at he
    rw [hf] at eL
    simp only at eL
    obtain ⟨hi, hh⟩ := findM_get hf
    have hp := h.ok.2 i p hi
    obtain ⟨f1, f2, f3, f4⟩ := hasR_facts hp hh
    have m := mayR_facts hp.may
    have hn64 : n % 18446744073709551616 = n := by omega
    rw [hn64] at f4
    have hk : offR p x + n.toNat ≤ p.r.s.toNat := by omega
    have hq := h2.pt i p hi
    obtain ⟨lb, lt⟩ := h.len hi
    have hw : IntKind.i64.wrap ((offR p x : Int) + n) = ((offR p x + n.toNat : Nat) : Int) := by rw [i64_in (by omega) (by omega)]; omega
    refine ⟨_, _, he, _, ptr_nil (by kernel_rfl) _ _ _, cnd_false rfl (Deref_some rfl ⟨_, _, _, hq.cell (i := 3) rfl, ?_⟩)⟩
    rw [hw, Int.toNat_natCast, Int.toNat_natCast, reslice_at (by omega), show offR p x + n.toNat - offR p x = n.toNat by omega]
    refine ⟨by omega, by omega, by omega, h2.text hi hk ⟨_, rfl, Deref_some rfl ⟨_, _, _, hq.cell (i := 4) rfl, by omega, by omega, by omega, ?_⟩⟩⟩
    have lts : ((p.ts.drop (offR p x)).take n.toNat).length = n.toNat := by rw [List.length_take, List.length_drop]; omega
    have hrow : ∃ ad, (if offR p x + n.toNat = offR p x then some ⟨tb, off i, none⟩ else some ⟨tb, off i + offR p x, none⟩ : Option Addr) = some ad ∧ ERow boT w2 (some ad) ((p.ts.drop (offR p x)).take n.toNat) := by
      by_cases h0 : n.toNat = 0
      · refine ⟨⟨tb, off i, none⟩, by rw [if_pos (by omega)], ?_⟩
        rw [h0, List.take_zero]
        exact ERow.nil _ _
      · exact ⟨⟨tb, off i + offR p x, none⟩, by rw [if_neg (by omega)], h2.taintsAt hi _ _⟩
    rw [reslice_at (by omega)]
    obtain ⟨ad, ea, hrow⟩ := hrow
    rw [ea]
    have := mem_Clone_ok (c := n.toNat) hrow (by rw [lts]; omega)
    rw [lts] at this
    refine this.mono fun e w3 ⟨b, c', he, g3, ho⟩ => ⟨_, _, _, he, g2.trans g3, b, c', ?_, ?_⟩
    · rw [eL]
      show _ = Ending.returned (.tuple #[_, .slice b ((p.ts.drop (offR p x)).take n.toNat).length c', _])
      rw [lts]
    · rw [eL]
      exact ho.weak (Later.size g2)
/-! ### Regions -/
theorem cell_heap {w : World} {a : Addr} {v : Value} {b : Nat} (h : a.block ≠ b) : (w.setCell a v).heap[b]? = w.heap[b]? := by
  simp [World.setCell, Array.getElem?_modify, h]
end Go.Proofs.YtcnnnlhoiodeaaaGreat

/-
The contracts of package mem, sixth part: New.
Conditions: each theorem's hypotheses.
-/
namespace Go.Proofs.YtcnnnlhoiodeaaaGreat
open Go Go.Vc Go.RowKit
set_option maxRecDepth 100000

def sumS : List Reg → Nat
  | [] => 0
  | x :: l => x.s.toNat + sumS l
theorem sumS_append : ∀ a b : List Reg, sumS (a ++ b) = sumS a + sumS b
  | [], b => by simp [sumS]
  | x :: a, b => by simp only [List.cons_append, sumS, sumS_append a b]; omega
theorem sumS_take {l : List Reg} {k : Nat} {x : Reg} (h : l[k]? = some x) : sumS (l.take (k + 1)) = sumS (l.take k) + x.s.toNat := by
  rw [List.take_add_one, h, sumS_append]
  simp [sumS]
theorem sumS_bound : ∀ {l : List Reg}, (∀ x ∈ l, x.s.toNat ≤ 1048576) → sumS l ≤ l.length * 1048576
  | [], _ => by simp [sumS]
  | x :: l, h => by
    have h1 := h x List.mem_cons_self
    have h2 := sumS_bound (l := l) fun y hy => h y (List.mem_cons_of_mem x hy)
    simp only [sumS, List.length_cons]
    omega
theorem sumS_le {l : List Reg} {i j : Nat} (h : i ≤ j) : sumS (l.take i) ≤ sumS (l.take j) := by
  have : l.take j = l.take i ++ (l.take j).drop i := by
    have := (List.take_append_drop i (l.take j)).symm
    rwa [List.take_take, Nat.min_eq_left h] at this
  rw [this, sumS_append]
  omega
theorem sumS_all (l : List Reg) (i : Nat) : sumS (l.take i) ≤ sumS l := by
  rcases Nat.le_total i l.length with h | h
  · have := sumS_le (l := l) h
    rwa [List.take_length] at this
  · rw [List.take_of_length_le h]
    exact Nat.le_refl _
def ptrT : ElT Nat := ⟨1, by decide, fun q => [.pointer (some ⟨q, 0, none⟩)], fun _ => rfl, fun a u hu => by rw [List.mem_singleton.1 hu]; rfl⟩
theorem rtPtr : RowTy Tryz.prog 145 124 1 8 := RowTy.of (.pointer none) (by kernel_rfl) (by kernel_rfl) rfl (by decide)
def newP (x : Reg) : Pt := ⟨x, List.replicate x.s.toNat 0, List.replicate x.s.toNat false⟩
/-- What New leaves. -/
def NewR (l : List Reg) (w : World) (e : Ending) (w' : World) : Prop := Later w w' ∧ ((mayL l = true ∧ ∃ mb, e = .returned (.tuple #[.pointer (some ⟨mb, 0, none⟩), i64v 0]) ∧ MemAt w' w.heap.size w'.heap.size mb (newM l)) ∨ (mayL l = false ∧ e = .returned (.tuple #[.pointer none, i64v 2])))
theorem new_none {l : List Reg} {w w' : World} (h : mayL l = false) (hl : Later w w') : NewR l w (.returned (.tuple #[.pointer none, i64v 2])) w' := ⟨hl, .inr ⟨h, rfl⟩⟩
/-- While parts are laid. -/
structure Bld (w w2 : World) (l : List Reg) (bb tb mb : Nat) (W : World) (i : Nat) (P : Option Addr) (c : Nat) (qs : List Nat) : Prop where
  trk : Trk w W [(bb, List.replicate (sumS l) (.int .u8 0)), (tb, List.replicate (sumS l) (.bool false)), (mb, [.slice P i c])]
  own : OwnE ptrT w2 W 124 P c qs
  len : qs.length = i
  prt : ∀ (j qj : Nat) (x : Reg), qs[j]? = some qj → l[j]? = some x → Has W qj (ptC (newP x) bb tb (sumS (l.take j)))
  qge : ∀ (j qj : Nat), qs[j]? = some qj → w2.heap.size ≤ qj ∧ rowB P ≠ some qj
  le2 : w2.heap.size ≤ W.heap.size
theorem Bld.done {w w2 : World} {l : List Reg} {bb tb mb : Nat} {W : World} {P : Option Addr} {c : Nat} {qs : List Nat} (h : Bld w w2 l bb tb mb W l.length P c qs) (hl : RegsIn l) (hm : mayL l = true) (hlt : bb < w2.heap.size ∧ tb < w2.heap.size ∧ mb < w2.heap.size) (hw2 : w.heap.size ≤ w2.heap.size) : MemAt W w.heap.size W.heap.size mb (newM l) := by
  have hm' := hm
  simp only [mayL, Bool.and_eq_true, decide_eq_true_eq] at hm'
  obtain ⟨⟨n1, n16⟩, hok⟩ := hm'
  have hlen := h.len
  obtain ⟨g, rfl, -⟩ := h.own.split (by omega)
  have hg := h.own.lt (k := g) rfl
  have hnl : (newM l).length = l.length := by simp [newM]
  have hget : ∀ (i : Nat) (p : Pt), (newM l)[i]? = some p → ∃ x, l[i]? = some x ∧ p = newP x := by
    intro i p hi
    simp only [newM, List.getElem?_map, Option.map_eq_some_iff] at hi
    obtain ⟨x, hx, rfl⟩ := hi
    exact ⟨x, hx, rfl⟩
  have hq : ∀ i, i < l.length → ∃ qi, qs[i]? = some qi ∧ qs.getD i 0 = qi := by
    intro i hi
    have : i < qs.length := by omega
    exact ⟨qs[i], List.getElem?_eq_getElem this, by rw [List.getD_eq_getElem?_getD, List.getElem?_eq_getElem this]; rfl⟩
  have hb := h.trk.has 0 rfl
  have ht := h.trk.has 1 rfl
  have hmh := h.trk.has 2 rfl
  have gb := (h.trk.2.1 _ (List.mem_of_getElem? (i := 0) rfl)).1
  have gt := (h.trk.2.1 _ (List.mem_of_getElem? (i := 1) rfl)).1
  have gm := (h.trk.2.1 _ (List.mem_of_getElem? (i := 2) rfl)).1
  have nd := h.trk.2.2
  simp only [List.map_cons, List.map_nil, List.nodup_cons, List.mem_cons, List.not_mem_nil, or_false, not_or] at nd
  have hsum : ∀ (i : Nat) (x : Reg), l[i]? = some x → sumS (l.take i) + x.s.toNat ≤ sumS l := by
    intro i x hx
    have := sumS_all l (i + 1)
    rwa [sumS_take hx] at this
  refine ⟨g, fun i => qs.getD i 0, fun i => sumS (l.take i), bb, tb, _, _, ⟨newM_ok hl hm, ⟨gm, hmh.lt⟩, ⟨by omega, hg.2⟩, ⟨gb, hb.lt⟩, ⟨gt, ht.lt⟩, ?_, ⟨c, by rw [hnl]; exact hmh⟩, ?_, ?_, hb, ht, ?_, ?_, ?_, ⟨nd.1.1, nd.1.2, by omega⟩, ⟨nd.2.1, by omega⟩, ?_⟩⟩
  · intro i hi
    rw [hnl] at hi
    obtain ⟨qi, h1, h2⟩ := hq i hi
    rw [h2]
    obtain ⟨x, hx⟩ : ∃ x, l[i]? = some x := ⟨_, List.getElem?_eq_getElem hi⟩
    exact ⟨Nat.le_trans hw2 (h.qge i qi h1).1, (h.prt i qi x h1 hx).lt⟩
  · intro i hi
    rw [hnl] at hi
    obtain ⟨qi, h1, h2⟩ := hq i hi
    obtain ⟨ad, ha, hc⟩ := h.own.row i qi h1
    obtain rfl := Option.some.inj ha
    have := hc 0 _ rfl
    rw [addr_add_zero, add_block, Nat.zero_add] at this
    rw [h2]
    have e : i * ptrT.sz = i := Nat.mul_one i
    rw [e] at this
    exact this
  · intro i p hi
    obtain ⟨x, hx, rfl⟩ := hget i p hi
    obtain ⟨qi, h1, h2⟩ := hq i (List.getElem?_eq_some_iff.1 hx).1
    rw [h2]
    exact h.prt i qi x h1 hx
  · intro i p hi
    obtain ⟨x, hx, rfl⟩ := hget i p hi
    have hs := hsum i x hx
    have hlp : (newP x).bs.length = x.s.toNat := by simp [newP]
    refine ⟨fun j v hj => ?_, by rw [hlp, List.length_replicate]; exact hs⟩
    have hjl := (List.getElem?_eq_some_iff.1 hj).1
    rw [u8c_length, hlp] at hjl
    rw [List.getElem?_replicate, if_pos (by omega)]
    have : (u8c (newP x).bs)[j]? = some (.int .u8 0) := u8c_get (by simp [newP, List.getElem?_replicate, hjl])
    rw [← this, hj]
  · intro i p hi
    obtain ⟨x, hx, rfl⟩ := hget i p hi
    have hs := hsum i x hx
    have hlp : (newP x).ts.length = x.s.toNat := by simp [newP]
    refine ⟨fun j v hj => ?_, by rw [hlp, List.length_replicate]; exact hs⟩
    have hjl := (List.getElem?_eq_some_iff.1 hj).1
    rw [boc_length, hlp] at hjl
    rw [List.getElem?_replicate, if_pos (by omega)]
    have : (boc (newP x).ts)[j]? = some (.bool false) := boc_get (by simp [newP, List.getElem?_replicate, hjl])
    rw [← this, hj]
  · intro i j p p' hij hi hj
    obtain ⟨x, hx, rfl⟩ := hget i p hi
    have hlp : (newP x).bs.length = x.s.toNat := by simp [newP]
    rw [hlp]
    have := sumS_le (l := l) (show i + 1 ≤ j by omega)
    rw [sumS_take hx] at this
    exact this
  · intro i hi
    rw [hnl] at hi
    obtain ⟨qi, h1, h2⟩ := hq i hi
    rw [h2]
    have := (h.qge i qi h1).1
    omega
set_option maxHeartbeats 6400000 in
theorem mem_New_ok {l : List Reg} (hl : RegsIn l) {A : Option Addr} {c : Nat} (hc : l.length ≤ c) (hc2 : c < 9223372036854775808) {w : World} (hr : ERow regT w A l) : Calls Tryz.prog mem_New.N #[.slice A l.length c] w (NewR l w) := by
  refine mem_New.calls ?_
  unfold mem_New.vc
  refine cnd_of (fun h => new_none ?_ (Later.refl _)) fun h1 => cnd_of (fun h => new_none ?_ (Later.refl _)) fun h16 => ?_
  · have : l.length < 1 := by simp only [decide_eq_true_eq] at h; omega
    rw [mayL, decide_eq_false (by omega)]
    rfl
  · have : 16 < l.length := by simp only [decide_eq_true_eq] at h; omega
    rw [mayL, decide_eq_false (by omega)]
    rfl
  have n1 : 1 ≤ l.length := by simp only [decide_eq_false_iff_not] at h1; omega
  have n16 : l.length ≤ 16 := by simp only [decide_eq_false_iff_not] at h16; omega
  have bad : okUpto [] l = false → mayL l = false := fun h => by rw [mayL, h]; simp
  refine ⟨fun vs w' => ∃ k : Nat, k ≤ l.length ∧ vs = [u64v (sumS (l.take k) : Int), i64v k] ∧ okUpto [] (l.take k) = true ∧ Later w w', fun vs _ => match vs with | [_, .int _ n] => l.length - n.toNat | _ => 0, ⟨0, by omega, rfl, rfl, Later.refl _⟩, ?_⟩
  rintro g all s23 w1 ⟨k, hk, hs, hok, g1⟩
  simp only [List.cons.injEq, Value.int.injEq, true_and, and_true] at hs
  obtain ⟨rfl, rfl⟩ := hs
  have each : ∀ (i : Nat) (y : Reg), (l.take k)[i]? = some y → mayR y = true := fun i y hy => (okUpto_all hok hy).1
  have hsz : sumS (l.take k) ≤ 16777216 := by
    have := sumS_bound (l := l.take k) fun x hx => by
      obtain ⟨i, hi⟩ := List.getElem?_of_mem hx
      have := mayR_facts (each i x hi)
      omega
    rw [List.length_take] at this
    omega
  refine cnd_of (fun h => ?_) fun h => ?_
  · have hlt : k < l.length := by simp only [decide_eq_true_eq] at h; omega
    have hg := List.getElem?_eq_getElem hlt
    generalize l[k] = x at hg
    have hx := hl k x hg
    obtain ⟨ad, rfl, hcell⟩ := reg_cells (hr.later g1) hg
    refine ⟨by omega, Deref_some rfl ⟨_, _, _, hcell, fun w2 h2 => ?_⟩⟩
    have M := (Trk.start w1).alloc h2
    refine M.setAll (l := regC x) 0 rfl rfl (by simp [Value.oneCell', regC]) fun w3 M => ?_
    refine ⟨_, _, _, ⟨M.cell 0 rfl rfl, M.cell 0 rfl rfl, M.cell 0 rfl rfl, trivial⟩, ?_⟩
    refine (mem_may_ok hx w3).mono fun e w4 ⟨he, g4⟩ => ⟨_, he, ?_⟩
    have M := M.later g4
    refine cnd_of (fun hm => new_none (bad (okUpto_bad hg (.inl (by simpa using hm)))) (g1.trans M.to)) fun hm => ⟨by omega, ?_⟩
    have hm : mayR x = true := by simpa using hm
    have m := mayR_facts hm
    have hkl : (l.take k).length = k := by rw [List.length_take]; omega
    rw [reslice_zero, show ((k : Int).toNat - 0) = (l.take k).length by rw [hkl]; omega]
    refine (mem_contains_ok (l := l.take k) hx (fun i y hy => hl i y (by rw [List.getElem?_take] at hy; split at hy; exact hy; cases hy)) hm each (by omega) (M.has 0 rfl) (fun i y hy => ?_)).mono fun e w5 ⟨he, g5⟩ => ⟨_, he, ?_⟩
    · rw [List.getElem?_take] at hy
      split at hy
      · exact (hr.later (g1.trans M.to)) i y hy
      · cases hy
    have M := M.later g5
    refine cnd_of (fun ht => new_none (bad (okUpto_bad hg (.inr ht))) (g1.trans M.to)) fun ht => ⟨_, M.cell 0 rfl rfl, ?_⟩
    have hw1 : IntKind.u64.wrap ((sumS (l.take k) : Int) + x.s) = (sumS (l.take (k + 1)) : Int) := by rw [sumS_take hg, u64_in (by omega) (by omega)]; omega
    have hw2 : IntKind.i64.wrap ((k : Int) + 1) = ((k + 1 : Nat) : Int) := by rw [i64_in (by omega) (by omega)]; omega
    show Goes _ _ _ _ [u64v (IntKind.u64.wrap ((sumS (l.take k) : Int) + x.s)), _] _
    rw [hw1, hw2]
    refine ⟨⟨k + 1, by omega, rfl, ?_, g1.trans M.to⟩, by show l.length - ((k + 1 : Nat) : Int).toNat < l.length - ((k : Nat) : Int).toNat; omega⟩
    rw [okUpto_step hg, hok, hm, ht]
    rfl
  have hkl : k = l.length := by simp only [decide_eq_false_iff_not] at h; omega
  subst hkl
  rw [List.take_length] at hok hsz each ⊢
  have hmay : mayL l = true := by rw [mayL, decide_eq_true ⟨n1, n16⟩, hok]; rfl
  refine ⟨⟨by omega, rfl, by omega, by decide, rfl, by decide⟩, fun bb hbb => ⟨⟨by omega, rfl, by omega, by decide, rfl, by decide⟩, fun tb htb w2 hG w3 h3 => ?_⟩⟩
  rw [Int.toNat_natCast, repL_one, repL_one] at hG
  obtain ⟨gG, hin, hnd⟩ := hG
  have hT := hin _ List.mem_cons_self
  have hB := hin _ (List.mem_cons_of_mem _ List.mem_cons_self)
  have hBw : Has w2 bb (List.replicate (sumS l) (.int .u8 0)) := ⟨_, hB.2⟩
  have hTw : Has w2 tb (List.replicate (sumS l) (.bool false)) := ⟨_, hT.2⟩
  simp only [List.map_cons, List.map_nil, List.nodup_cons, List.mem_cons, List.not_mem_nil, or_false, not_false_iff, List.nodup_nil, and_true] at hnd
  have s1 := Later.size g1
  have L2 : Trk w w2 [(bb, List.replicate (sumS l) (.int .u8 0)), (tb, List.replicate (sumS l) (.bool false))] := by
    refine ⟨g1.trans gG, fun x hx => ?_, by simp; exact fun e => hnd e.symm⟩
    simp only [List.mem_cons, List.not_mem_nil, or_false] at hx
    rcases hx with rfl | rfl
    · exact ⟨by show w.heap.size ≤ bb; omega, hBw⟩
    · exact ⟨by show w.heap.size ≤ tb; omega, hTw⟩
  have L3 := L2.alloc h3
  have s23 : w2.heap.size < w3.heap.size := (L3.has 2 rfl).lt
  have B0 : Bld w w3 l bb tb w2.heap.size w3 0 none 0 [] := ⟨L3, OwnE.nil _ _ _, rfl, by simp, by simp, Nat.le_refl _⟩
  have hlt3 : bb < w3.heap.size ∧ tb < w3.heap.size ∧ w2.heap.size < w3.heap.size := ⟨(L3.has 0 rfl).lt, (L3.has 1 rfl).lt, s23⟩
  refine ⟨fun vs W => ∃ (i : Nat) (a1 a2 : Addr) (P : Option Addr) (cc : Nat) (qs : List Nat), i ≤ l.length ∧ vs = [.slice (some a1) (sumS l - sumS (l.take i)) (sumS l - sumS (l.take i)), .slice (some a2) (sumS l - sumS (l.take i)) (sumS l - sumS (l.take i)), i64v i] ∧
      (sumS (l.take i) < sumS l → a1 = ⟨bb, sumS (l.take i), none⟩ ∧ a2 = ⟨tb, sumS (l.take i), none⟩) ∧ Bld w w3 l bb tb w2.heap.size W i P cc qs, fun vs _ => match vs with | [_, _, .int _ n] => l.length - n.toNat | _ => 0,
    ⟨0, _, _, none, 0, [], by omega, rfl, fun _ => ⟨rfl, rfl⟩, B0⟩, ?_⟩
  rintro g' bytes bytesn bytesc taints taintsn taintsc s51 W ⟨i, a1, a2, P, cc, qs, hi, hvs, had, B⟩
  obtain rfl : qs.length = i := B.len
  simp only [List.cons.injEq, Value.slice.injEq, Value.int.injEq, true_and, and_true] at hvs
  obtain ⟨⟨rfl, rfl, rfl⟩, ⟨rfl, rfl, rfl⟩, rfl⟩ := hvs
  refine cnd_of (fun h => ?_) fun h => ?_
  · have hlt : qs.length < l.length := by simp only [decide_eq_true_eq] at h; omega
    have hg := List.getElem?_eq_getElem hlt
    generalize l[qs.length] = x at hg
    have hx := hl _ x hg
    have m := mayR_facts (each _ x hg)
    have hst := sumS_take hg
    have hall := sumS_all l (qs.length + 1)
    obtain ⟨rfl, rfl⟩ := had (by omega)
    obtain ⟨ad, rfl, hcell⟩ := reg_cells (hr.later B.trk.to) hg
    refine ⟨by omega, Deref_some rfl ⟨_, _, _, hcell, fun W2 e2 => ?_⟩⟩
    have M := B.trk.alloc e2
    have sW := B.le2
    obtain ⟨_, hLW⟩ := ((Trk.start W).alloc e2).setAllE (K := fun w2 => Later W w2) (l := regC x) 0 rfl rfl (by simp [Value.oneCell', regC]) (fun w2 _ t => t.to)
    refine M.setAllE (l := regC x) 3 rfl rfl (by simp [Value.oneCell', regC]) fun W3 e3 M => ⟨x.s, M.cell 3 rfl rfl, ?_⟩
    have gW3 := hLW W3 e3
    refine ⟨fun W' => Has W' w2.heap.size [.slice P qs.length cc] ∧ Has W' W.heap.size (regC x), fun W' hl' => ⟨(M.has 2 rfl).later hl', (M.has 3 rfl).later hl'⟩, fun W4 g4 => ?_⟩
    have M4 := M.later g4
    refine ⟨P, qs.length, cc, fun W' hC => hC.1.cell rfl, x.f, x.s, x.k, fun W' hC => ⟨hC.2.cell rfl, hC.2.cell (i := 1) rfl, hC.2.cell (i := 2) rfl, trivial⟩, by omega, by omega, by omega, by omega, fun W5 e5 => ?_⟩
    have M5 := M4.alloc e5
    have g5 : Later W4 W5 := e5 ▸ Later.alloc' _ _
    have gW5 : Later W W5 := (gW3.trans g4).trans g5
    refine ⟨⟨M5.has 2 rfl, M5.has 3 rfl⟩, fun W6 e6 => ?_⟩
    have M6 := M5.alloc e6
    refine ⟨⟨M6.has 2 rfl, M6.has 3 rfl⟩, ?_⟩
    have sP : ∀ k, rowB P = some k → w3.heap.size ≤ k ∧ k < W.heap.size := fun k hk => B.own.lt hk
    have s4 : W.heap.size ≤ W4.heap.size := Later.size (gW3.trans g4)
    have s45 : W4.heap.size < W5.heap.size := (M5.has 4 rfl).lt
    have sw3 : w.heap.size ≤ w3.heap.size := Later.size L3.to
    refine OwnE.pushG (T := ptrT) (w0 := w3) (w := W5) (w1 := W6) (l := qs) 145 rtPtr W4.heap.size (OwnS.later B.own gW5) (by omega) (by simp [maxLen]; omega) (by omega) (cs := #[.pointer (some ⟨W4.heap.size, 0, none⟩)]) e6 rfl fun b' c' W7 ho hbut hne4 => ?_
    have M5 : Trk w W5 [(bb, _), (tb, _), (w2.heap.size, _), (W.heap.size, _), (W4.heap.size, _)] := M5
    have L7 : Trk w W7 _ := M5.but hbut (fun k hk => by have := sP k hk; omega) (fun y hy => by
      simp only [List.mem_cons, List.not_mem_nil, or_false] at hy
      intro hk
      have := sP _ hk
      rcases hy with rfl | rfl | rfl | rfl | rfl <;> simp only at this <;> omega)
    refine ⟨_, _, _, rfl, ⟨L7.has 2 rfl, L7.has 3 rfl⟩, L7.set1E 2 rfl (by simp) fun W8 e8 L8 => ⟨by omega, by omega, fun W9 g9 => ?_⟩⟩
    have hb' : ∀ k, rowB b' = some k → w3.heap.size ≤ k := fun k hk => (ho.lt hk).1
    have ho8 : OwnE ptrT w3 W8 124 b' c' (qs ++ [W4.heap.size]) := OwnS.kept ho fun k hk => by rw [e8]; exact cell_heap fun e => by have := hb' k hk; simp only at e; omega
    have s57 := hbut.size
    have e87 : W8.heap.size = W7.heap.size := by rw [e8]; simp [World.setCell]
    have hw2 : IntKind.i64.wrap ((qs.length : Int) + 1) = ((qs.length + 1 : Nat) : Int) := by rw [i64_in (by omega) (by omega)]; omega
    rw [reslice_at (by omega), reslice_at (by omega), hw2]
    have rem : sumS l - sumS (l.take qs.length) - x.s.toNat = sumS l - sumS (l.take (qs.length + 1)) := by omega
    rw [rem]
    refine ⟨⟨qs.length + 1, if sumS l - sumS (l.take qs.length) = x.s.toNat then ⟨bb, sumS (l.take qs.length), none⟩ else ⟨bb, sumS (l.take qs.length) + x.s.toNat, none⟩, if sumS l - sumS (l.take qs.length) = x.s.toNat then ⟨tb, sumS (l.take qs.length), none⟩ else ⟨tb, sumS (l.take qs.length) + x.s.toNat, none⟩, b', c', qs ++ [W4.heap.size], by omega, ?_, ?_, ?_⟩, by show l.length - ((qs.length + 1 : Nat) : Int).toNat < l.length - ((qs.length : Nat) : Int).toNat; omega⟩
    · split <;> rfl
    · intro hpos
      rw [hst] at hpos
      rw [if_neg (by omega), if_neg (by omega), hst]
      exact ⟨rfl, rfl⟩
    · have hlen' : (qs ++ [W4.heap.size]).length = qs.length + 1 := by simp
      have hxp : regC x ++ [.slice (reslice (some ⟨bb, sumS (l.take qs.length), none⟩) 0 x.s.toNat 1) (x.s.toNat - 0) (x.s.toNat - 0), .slice (reslice (some ⟨tb, sumS (l.take qs.length), none⟩) 0 x.s.toNat 1) (x.s.toNat - 0) (x.s.toNat - 0)] = ptC (newP x) bb tb (sumS (l.take qs.length)) := by
        simp [reslice_zero, ptC, newP, regC]
      refine ⟨?_, OwnS.later ho8 g9, hlen', ?_, ?_, ?_⟩
      · rw [← hlen']
        exact (Trk.front (L := [(bb, _), (tb, _), (w2.heap.size, _)]) (M := [(W.heap.size, _), (W4.heap.size, _)]) L8).later g9
      · intro j qj y hj hy
        rw [List.getElem?_append] at hj
        split at hj
        · rename_i hjl
          have q1 := B.qge j qj hj
          have p1 := (B.prt j qj y hj hy).later gW5
          have p2 := hbut.has p1 q1.2
          have p3 : Has W8 qj (ptC (newP y) bb tb (sumS (l.take j))) := p2.kept (by rw [e8]; exact cell_heap fun e => by simp only at e; omega)
          exact p3.later g9
        · rename_i hjl
          have hjj : j = qs.length := by
            have := (List.getElem?_eq_some_iff.1 hj).1
            simp at this
            omega
          subst hjj
          rw [hg] at hy
          obtain rfl := Option.some.inj hy
          obtain rfl : W4.heap.size = qj := by simpa using hj
          rw [← hxp]
          exact (L8.has 4 rfl).later g9
      · intro j qj hj
        rw [List.getElem?_append] at hj
        split at hj
        · rename_i hjl
          have q1 := B.qge j qj hj
          obtain ⟨y, hy⟩ : ∃ y, l[j]? = some y := ⟨_, List.getElem?_eq_getElem (by omega)⟩
          have := (B.prt j qj y hj hy).lt
          exact ⟨q1.1, hne4 qj (by omega) q1.2⟩
        · have hjj : j = qs.length := by
            have := (List.getElem?_eq_some_iff.1 hj).1
            simp at this
            omega
          subst hjj
          obtain rfl : W4.heap.size = qj := by simpa using hj
          exact ⟨by omega, hne4 _ s45 fun hk => by have := sP _ hk; omega⟩
      · have := Later.size g9
        omega
  · have : qs.length = l.length := by simp only [decide_eq_false_iff_not] at h; omega
    rw [this] at B
    exact ⟨B.trk.to, .inl ⟨hmay, _, rfl, B.done hl hmay hlt3 (Later.size L3.to)⟩⟩
end Go.Proofs.YtcnnnlhoiodeaaaGreat

/-
The explicit conditions of some functions of the program, printed by this repo's own program over VcTop: what is proved is that each is the condition.
Conditions: none.
-/
namespace Go.Proofs.YtcnnnlhoiodeaaaGreat
open Go Go.Vc Go.RowKit
set_option maxRecDepth 100000

/- function 94: sacristy/sacristyref04.May -/
abbrev ref04_May.N : FuncId := 94
def ref04_May.H : Hints := { loops := [(3, [(3, .one (.int .i64))]), (9, [(5, .one (.int .i64))])] }
def ref04_May.vc (l' : Option Addr) (l'n l'c : Nat) (w : World) (R : Ending → World → Prop) : Prop := ∃ (I : List Value → World → Prop) (μ : List Value → World → Nat),
I [.int .i64 0] w ∧
∀ (g : Nat → Value) (i : Int) (w' : World),
I [.int .i64 i] w' →
cnd (decide (i < (↑l'n : Int))) ((0 ≤ i ∧ i < (↑l'n : Int)) ∧
Deref l' fun a =>
∃ (n n_1 n_2 : Int),
(w'.cell? (a.add (i.toNat * 3)) = some (.int .u64 n) ∧
w'.cell? ((a.add (i.toNat * 3)).add 1) = some (.int .u64 n_1) ∧
w'.cell? ((a.add (i.toNat * 3)).add 2) = some (.int .u8 n_2) ∧ True) ∧
∀ w'_1, w'_1 = w'.alloc (Obj.cells #[.int .u64 0, .int .u64 0, .int .u8 0] 128) →
SetsAt w'_1 (Addr.mk w'.heap.size 0 none) 0 [.int .u64 n, .int .u64 n_1, .int .u8 n_2] ∧
∀ w'_2, w'_2 = setCellsAt w'_1 (Addr.mk w'.heap.size 0 none) 0 [.int .u64 n, .int .u64 n_1, .int .u8 n_2] →
∃ (n : Int),
w'_2.cell? (Addr.mk w'.heap.size 2 none) = some (.int .u8 n) ∧
cnd (decide (n < 1)) (R (.returned (.bool false)) w'_2) (∃ (n : Int),
w'_2.cell? (Addr.mk w'.heap.size 2 none) = some (.int .u8 n) ∧
cnd (decide (n > 4)) (R (.returned (.bool false)) w'_2) (∃ (n : Int),
w'_2.cell? (Addr.mk w'.heap.size 1 none) = some (.int .u64 n) ∧
cnd (decide (n < 1)) (R (.returned (.bool false)) w'_2) (∃ (n : Int),
w'_2.cell? (Addr.mk w'.heap.size 1 none) = some (.int .u64 n) ∧
cnd (decide (n > 1048576)) (R (.returned (.bool false)) w'_2) (∃ (n : Int),
w'_2.cell? (Addr.mk w'.heap.size 0 none) = some (.int .u64 n) ∧
∃ (n_3 : Int),
w'_2.cell? (Addr.mk w'.heap.size 1 none) = some (.int .u64 n_3) ∧
cnd (decide (n > IntKind.u64.wrap (1099511627776 - n_3))) (R (.returned (.bool false)) w'_2) (∃ (I_1 : List Value → World → Prop) (μ_1 : List Value → World → Nat),
I_1 [.int .i64 0] w'_2 ∧
∀ (g : Nat → Value) (k : Int) (w'_3 : World),
I_1 [.int .i64 k] w'_3 →
cnd (decide (k < i)) (∃ (n : Int),
(∀ w'_4, Later w'_3 w'_4 →
w'_4.cell? (Addr.mk w'.heap.size 0 none) = some (.int .u64 n)) ∧
(0 ≤ k ∧ k < (↑l'n : Int)) ∧
Deref l' fun a =>
∃ (n_4 : Int),
(∀ w', Later w'_3 w' →
w'.cell? (a.add (k.toNat * 3)) = some (.int .u64 n_4)) ∧
(0 ≤ k ∧ k < (↑l'n : Int)) ∧
Deref l' fun a =>
∃ (n_5 : Int),
(∀ w', Later w'_3 w' →
w'.cell? ((a.add (k.toNat * 3)).add 1) = some (.int .u64 n_5)) ∧
cnd (decide (n < IntKind.u64.wrap (n_4 + n_5))) ((0 ≤ k ∧
k < (↑l'n : Int)) ∧
Deref l' fun a =>
∃ (n : Int),
(∀ w', Later w'_3 w' →
w'.cell? (a.add (k.toNat * 3)) = some (.int .u64 n)) ∧
∃ (n_6 : Int),
(∀ w'_4, Later w'_3 w'_4 →
w'_4.cell? (Addr.mk w'.heap.size 0 none) = some (.int .u64 n_6)) ∧
∃ (n_7 : Int),
(∀ w'_4, Later w'_3 w'_4 →
w'_4.cell? (Addr.mk w'.heap.size 1 none) = some (.int .u64 n_7)) ∧
∀ w', Later w'_3 w' →
cnd (decide (n < IntKind.u64.wrap (n_6 + n_7))) (R (.returned (.bool false)) w') (Goes I_1 μ_1 [.int .i64 k] w'_3 [.int .i64 (IntKind.i64.wrap (k + 1))] w')) (∀ w', Later w'_3 w' →
Goes I_1 μ_1 [.int .i64 k] w'_3 [.int .i64 (IntKind.i64.wrap (k + 1))] w')) (Goes I μ [.int .i64 i] w' [.int .i64 (IntKind.i64.wrap (i + 1))] w'_3))))))) (cnd (decide ((↑l'n : Int) ≥ 1)) (R (.returned (.bool (decide ((↑l'n : Int) ≤ 16)))) w') (R (.returned (.bool false)) w'))
theorem ref04_May.calls {l' : Option Addr} {l'n l'c : Nat} {w : World} {R : Ending → World → Prop} (h : ref04_May.vc l' l'n l'c w R) : Calls Tryz.prog 94 ([.slice l' l'n l'c] : List Value).toArray w R := calls_of_eq (show fnV Tryz.prog ref04_May.H 94 [.slice l' l'n l'c] w R = _ from by kernel_rfl) h

/- function 52: sacristy/sacristyref04.New -/
abbrev ref04_New.N : FuncId := 52
def ref04_New.H : Hints := { loops := [(6, [(5, .one (.int .i64))])], mixes := [(7, 1001), (8, 1001)] }
def ref04_New.vc (l' : Option Addr) (l'n l'c : Nat) (w : World) (R : Ending → World → Prop) : Prop := Calls Tryz.prog 94 #[.slice l' l'n l'c] w fun e w' =>
∃ (b : Bool),
e = .returned (.bool b) ∧
cnd (!b) (R (.returned (.tuple #[.pointer none, .int .i64 2])) w') (RunsV Tryz.prog (Builtin.append_ #[85, 85] 85 #[.slice none 0 0, .slice l' l'n l'c]) w' fun v w' =>
∃ (p : Option Addr) (n c : Nat),
v = .slice p n c ∧
∀ w'_1, w'_1 = w'.alloc (Obj.cells #[.slice p n c, .slice none 0 0, .slice none 0 0] 141) →
∃ (I : List Value → World → Prop) (μ : List Value → World → Nat),
I [.int .i64 0] w'_1 ∧
∀ (g : Nat → Value) (i : Int) (w'_2 : World),
I [.int .i64 i] w'_2 →
cnd (decide (i < (↑l'n : Int))) (∃ (C : World → Prop),
(∀ (w' : World), Later w'_2 w' → C w') ∧
∀ w'_3, Later w'_2 w'_3 →
∃ (p : Option Addr) (n c : Nat),
(∀ w'_4, C w'_4 →
w'_4.cell? (Addr.mk w'.heap.size 1 none) = some (.slice p n c)) ∧
(0 ≤ i ∧ i < (↑l'n : Int)) ∧
Deref l' fun a =>
∃ (n_1 : Int),
(∀ w', C w' →
w'.cell? ((a.add (i.toNat * 3)).add 1) = some (.int .u64 n_1)) ∧
RunsV Tryz.prog (Instr.makeSlice 90 (.int .i64 (IntKind.i64.wrap n_1)) (.int .i64 (IntKind.i64.wrap n_1))) w'_3 fun v w'_4 =>
∃ (p_1 : Option Addr) (n_2 c_1 : Nat),
v = .slice p_1 n_2 c_1 ∧
C w'_4 ∧
∀ w'_5, w'_5 = w'_4.alloc (Obj.cells #[.slice p_1 n_2 c_1] 90) →
C w'_5 ∧
RunsV Tryz.prog (Builtin.append_ #[138, 138] 138 #[.slice p n c,
Value.slice (some (Addr.mk w'_4.heap.size 0 none)) 1 1]) w'_5 fun v w'_6 =>
∃ (p : Option Addr) (n c : Nat),
v = .slice p n c ∧
C w'_6 ∧
((w'_6.cell? (Addr.mk w'.heap.size 1 none)).isSome = true ∧
w'_6.frozen? (Addr.mk w'.heap.size 1 none) = false) ∧
∀ w'_7, w'_7 = w'_6.setCell (Addr.mk w'.heap.size 1 none) (.slice p n c) →
∃ (C : World → Prop),
(∀ w', Later w'_7 w' →
C w') ∧
∀ w'_8, Later w'_7 w'_8 →
∃ (p : Option Addr) (n c : Nat),
(∀ w'_9, C w'_9 →
w'_9.cell? (Addr.mk w'.heap.size 2 none) = some (.slice p n c)) ∧
(0 ≤ i ∧
i < (↑l'n : Int)) ∧
Deref l' fun a =>
∃ (n_3 : Int),
(∀ w', C w' →
w'.cell? ((a.add (i.toNat * 3)).add 1) = some (.int .u64 n_3)) ∧
RunsV Tryz.prog (Instr.makeSlice 61 (.int .i64 (IntKind.i64.wrap n_3)) (.int .i64 (IntKind.i64.wrap n_3))) w'_8 fun v w'_9 =>
∃ (p_2 : Option Addr) (n_4 c_2 : Nat),
v = .slice p_2 n_4 c_2 ∧
C w'_9 ∧
∀ w'_10, w'_10 = w'_9.alloc (Obj.cells #[.slice p_2 n_4 c_2] 61) →
C w'_10 ∧
RunsV Tryz.prog (Builtin.append_ #[139,
139] 139 #[.slice p n c,
Value.slice (some (Addr.mk w'_9.heap.size 0 none)) 1 1]) w'_10 fun v w'_11 =>
∃ (p : Option Addr) (n c : Nat),
v = .slice p n c ∧
C w'_11 ∧
((w'_11.cell? (Addr.mk w'.heap.size 2 none)).isSome = true ∧
w'_11.frozen? (Addr.mk w'.heap.size 2 none) = false) ∧
∀ w'_12, w'_12 = w'_11.setCell (Addr.mk w'.heap.size 2 none) (.slice p n c) →
Goes I μ [.int .i64 i] w'_2 [.int .i64 (IntKind.i64.wrap (i + 1))] w'_12) (R (.returned (.tuple #[.pointer (some (Addr.mk w'.heap.size 0 none)), .int .i64 0])) w'_2))
theorem ref04_New.calls {l' : Option Addr} {l'n l'c : Nat} {w : World} {R : Ending → World → Prop} (h : ref04_New.vc l' l'n l'c w R) : Calls Tryz.prog 52 ([.slice l' l'n l'c] : List Value).toArray w R := calls_of_eq (show fnV Tryz.prog ref04_New.H 52 [.slice l' l'n l'c] w R = _ from by kernel_rfl) h

/- function 95: (*sacristy/sacristyref04.Mem).in -/
abbrev sacristy_ref04_Mem_in.N : FuncId := 95
def sacristy_ref04_Mem_in.H : Hints := { loops := [(3, [(8, .one (.int .i64))])] }
def sacristy_ref04_Mem_in.vc (m' : Option Addr) (at' n' : Int) (w : World) (R : Ending → World → Prop) : Prop := ∃ (I : List Value → World → Prop) (μ : List Value → World → Nat),
I [.int .i64 0] w ∧
∀ (g : Nat → Value) (i : Int) (w' : World),
I [.int .i64 i] w' →
Deref m' fun a =>
∃ (p : Option Addr) (n c : Nat),
w'.cell? a = some (.slice p n c) ∧
cnd (decide (i < (↑n : Int))) (Deref m' fun a =>
∃ (p : Option Addr) (n c : Nat),
w'.cell? a = some (.slice p n c) ∧
(0 ≤ i ∧ i < (↑n : Int)) ∧
Deref p fun a =>
∃ (n n_1 n_2 : Int),
(w'.cell? (a.add (i.toNat * 3)) = some (.int .u64 n) ∧
w'.cell? ((a.add (i.toNat * 3)).add 1) = some (.int .u64 n_1) ∧
w'.cell? ((a.add (i.toNat * 3)).add 2) = some (.int .u8 n_2) ∧
True) ∧
∀ w'_1, w'_1 = w'.alloc (Obj.cells #[.int .u64 0, .int .u64 0,
Value.int .u8 0] 128) →
SetsAt w'_1 (Addr.mk w'.heap.size 0 none) 0 [.int .u64 n, .int .u64 n_1,
Value.int .u8 n_2] ∧
∀ w'_2, w'_2 = setCellsAt w'_1 (Addr.mk w'.heap.size 0 none) 0 [.int .u64 n, .int .u64 n_1,
Value.int .u8 n_2] →
∃ (n : Int),
w'_2.cell? (Addr.mk w'.heap.size 0 none) = some (.int .u64 n) ∧
cnd (decide (at' ≥ n)) (∃ (n : Int),
w'_2.cell? (Addr.mk w'.heap.size 0 none) = some (.int .u64 n) ∧
∃ (n_3 : Int),
w'_2.cell? (Addr.mk w'.heap.size 1 none) = some (.int .u64 n_3) ∧
cnd (decide (at' < IntKind.u64.wrap (n + n_3))) (∃ (n : Int),
w'_2.cell? (Addr.mk w'.heap.size 0 none) = some (.int .u64 n) ∧
∃ (n_4 : Int),
w'_2.cell? (Addr.mk w'.heap.size 1 none) = some (.int .u64 n_4) ∧
cnd (decide (IntKind.u64.wrap n' ≤ IntKind.u64.wrap (IntKind.u64.wrap (n + n_4) - at'))) (∃ (n : Int),
(∀ w'_3, Later w'_2 w'_3 →
w'_3.cell? (Addr.mk w'.heap.size 0 none) = some (.int .u64 n)) ∧
∀ w', Later w'_2 w' →
R (.returned (.tuple #[.int .i64 i,
Value.int .i64 (IntKind.i64.wrap (IntKind.u64.wrap (at' - n)))])) w') (Goes I μ [.int .i64 i] w' [.int .i64 (IntKind.i64.wrap (i + 1))] w'_2)) (Goes I μ [.int .i64 i] w' [.int .i64 (IntKind.i64.wrap (i + 1))] w'_2)) (Goes I μ [.int .i64 i] w' [.int .i64 (IntKind.i64.wrap (i + 1))] w'_2)) (R (.returned (.tuple #[.int .i64 (-1), .int .i64 0])) w')
theorem sacristy_ref04_Mem_in.calls {m' : Option Addr} {at' n' : Int} {w : World} {R : Ending → World → Prop} (h : sacristy_ref04_Mem_in.vc m' at' n' w R) : Calls Tryz.prog 95 ([.pointer m', .int .u64 at', .int .i64 n'] : List Value).toArray w R := calls_of_eq (show fnV Tryz.prog sacristy_ref04_Mem_in.H 95 [.pointer m', .int .u64 at', .int .i64 n'] w R = _ from by kernel_rfl) h

/- function 127: (*sacristy/sacristyref04.Mem).Load -/
abbrev sacristy_ref04_Mem_Load.N : FuncId := 127
def sacristy_ref04_Mem_Load.H : Hints := { loops := [(10, [(11, .one (.int .u64)), (12, .one .bool), (13, .one (.int .i64))])] }
def sacristy_ref04_Mem_Load.vc (m' : Option Addr) (at' n' : Int) (w : World) (R : Ending → World → Prop) : Prop := cnd (decide (n' < 1)) (R (.returned (.tuple #[.int .u64 0, .bool false, .int .i64 2])) w) (cnd (decide (n' > 8)) (R (.returned (.tuple #[.int .u64 0, .bool false, .int .i64 2])) w) (Calls Tryz.prog 95 #[.pointer m', .int .u64 at', .int .i64 n'] w fun e w' =>
∃ (n n_1 : Int),
e = .returned (.tuple #[.int .i64 n, .int .i64 n_1]) ∧
cnd (decide (n < 0)) (R (.returned (.tuple #[.int .u64 0, .bool false, .int .i64 40])) w') (Deref m' fun a =>
∃ (p : Option Addr) (n_2 c : Nat),
w'.cell? a = some (.slice p n_2 c) ∧
(0 ≤ n ∧ n < (↑n_2 : Int)) ∧
Deref p fun a =>
∃ (n_3 : Int),
w'.cell? ((a.add (n.toNat * 3)).add 2) = some (.int .u8 n_3) ∧
cnd (n_3 == 1) (R (.returned (.tuple #[.int .u64 0, .bool false, .int .i64 40])) w') (∃ (I : List Value → World → Prop) (μ : List Value → World → Nat),
I [.int .u64 0, .bool false,
Value.int .i64 (IntKind.i64.wrap (n' - 1))] w' ∧
∀ (g : Nat → Value) (v : Int) (taint : Bool) (j : Int) (w' : World),
I [.int .u64 v, .bool taint, .int .i64 j] w' →
cnd (decide (j ≥ 0)) (Deref m' fun a =>
∃ (p : Option Addr) (n_4 c : Nat),
w'.cell? (a.add 1) = some (.slice p n_4 c) ∧
(0 ≤ n ∧ n < (↑n_4 : Int)) ∧
Deref p fun a =>
∃ (p : Option Addr) (n_5 c : Nat),
w'.cell? (a.add (n.toNat * 1)) = some (.slice p n_5 c) ∧
(0 ≤ IntKind.i64.wrap (n_1 + j) ∧
IntKind.i64.wrap (n_1 + j) < (↑n_5 : Int)) ∧
Deref p fun a =>
∃ (n_6 : Int),
w'.cell? (a.add ((IntKind.i64.wrap (n_1 + j)).toNat * 1)) = some (.int .u8 n_6) ∧
cnd taint (Goes I μ [.int .u64 v,
Value.bool taint,
Value.int .i64 j] w' [.int .u64 (IntKind.u64.wrap (IntKind.u64.wrap (256 * v) + IntKind.u64.wrap n_6)),
Value.bool true,
Value.int .i64 (IntKind.i64.wrap (j - 1))] w') (Deref m' fun a =>
∃ (p : Option Addr) (n_7 c : Nat),
w'.cell? (a.add 2) = some (.slice p n_7 c) ∧
(0 ≤ n ∧ n < (↑n_7 : Int)) ∧
Deref p fun a =>
∃ (p : Option Addr) (n_8 c : Nat),
w'.cell? (a.add (n.toNat * 1)) = some (.slice p n_8 c) ∧
(0 ≤ IntKind.i64.wrap (n_1 + j) ∧
IntKind.i64.wrap (n_1 + j) < (↑n_8 : Int)) ∧
Deref p fun a =>
∃ (b : Bool),
w'.cell? (a.add ((IntKind.i64.wrap (n_1 + j)).toNat * 1)) = some (.bool b) ∧
Goes I μ [.int .u64 v,
Value.bool taint,
Value.int .i64 j] w' [.int .u64 (IntKind.u64.wrap (IntKind.u64.wrap (256 * v) + IntKind.u64.wrap n_6)),
Value.bool b,
Value.int .i64 (IntKind.i64.wrap (j - 1))] w')) (R (.returned (.tuple #[.int .u64 v, .bool taint,
Value.int .i64 0])) w')))))
theorem sacristy_ref04_Mem_Load.calls {m' : Option Addr} {at' n' : Int} {w : World} {R : Ending → World → Prop} (h : sacristy_ref04_Mem_Load.vc m' at' n' w R) : Calls Tryz.prog 127 ([.pointer m', .int .u64 at', .int .i64 n'] : List Value).toArray w R := calls_of_eq (show fnV Tryz.prog sacristy_ref04_Mem_Load.H 127 [.pointer m', .int .u64 at', .int .i64 n'] w R = _ from by kernel_rfl) h

/- function 128: (*sacristy/sacristyref04.Mem).Store -/
abbrev sacristy_ref04_Mem_Store.N : FuncId := 128
def sacristy_ref04_Mem_Store.H : Hints := { loops := [(8, [(3, .one (.int .u64)), (13, .one (.int .i64))])] }
def sacristy_ref04_Mem_Store.vc (m' : Option Addr) (at' n' v' : Int) (taint' : Bool) (w : World) (R : Ending → World → Prop) : Prop := cnd (decide (n' < 1)) (R (.returned (.int .i64 2)) w) (cnd (decide (n' > 8)) (R (.returned (.int .i64 2)) w) (Calls Tryz.prog 95 #[.pointer m', .int .u64 at', .int .i64 n'] w fun e w' =>
∃ (n n_1 : Int),
e = .returned (.tuple #[.int .i64 n, .int .i64 n_1]) ∧
cnd (decide (n < 0)) (R (.returned (.int .i64 40)) w') (Deref m' fun a =>
∃ (p : Option Addr) (n_2 c : Nat),
w'.cell? a = some (.slice p n_2 c) ∧
(0 ≤ n ∧ n < (↑n_2 : Int)) ∧
Deref p fun a =>
∃ (n_3 : Int),
w'.cell? ((a.add (n.toNat * 3)).add 2) = some (.int .u8 n_3) ∧
cnd (n_3 != 3) (Deref m' fun a =>
∃ (p : Option Addr) (n_4 c : Nat),
w'.cell? a = some (.slice p n_4 c) ∧
(0 ≤ n ∧ n < (↑n_4 : Int)) ∧
Deref p fun a =>
∃ (n_5 : Int),
w'.cell? ((a.add (n.toNat * 3)).add 2) = some (.int .u8 n_5) ∧
cnd (n_5 != 4) (R (.returned (.int .i64 40)) w') (∃ (I : List Value → World → Prop) (μ : List Value → World → Nat),
I [.int .u64 v', .int .i64 0] w' ∧
∀ (g : Nat → Value) (v j : Int) (w' : World),
I [.int .u64 v, .int .i64 j] w' →
cnd (decide (j < n')) (Deref m' fun a =>
∃ (p : Option Addr) (n_6 c : Nat),
w'.cell? (a.add 1) = some (.slice p n_6 c) ∧
(0 ≤ n ∧ n < (↑n_6 : Int)) ∧
Deref p fun a =>
∃ (p : Option Addr) (n_7 c : Nat),
w'.cell? (a.add (n.toNat * 1)) = some (.slice p n_7 c) ∧
(0 ≤ IntKind.i64.wrap (n_1 + j) ∧
IntKind.i64.wrap (n_1 + j) < (↑n_7 : Int)) ∧
Deref p fun a =>
((w'.cell? (a.add ((IntKind.i64.wrap (n_1 + j)).toNat * 1))).isSome = true ∧
w'.frozen? (a.add ((IntKind.i64.wrap (n_1 + j)).toNat * 1)) = false) ∧
∀ w'_1, w'_1 = w'.setCell (a.add ((IntKind.i64.wrap (n_1 + j)).toNat * 1)) (.int .u8 (IntKind.u8.wrap (v.tmod 256))) →
Deref m' fun a =>
∃ (p : Option Addr) (n_8 c : Nat),
w'_1.cell? (a.add 2) = some (.slice p n_8 c) ∧
(0 ≤ n ∧
n < (↑n_8 : Int)) ∧
Deref p fun a =>
∃ (p : Option Addr) (n_9 c : Nat),
w'_1.cell? (a.add (n.toNat * 1)) = some (.slice p n_9 c) ∧
(0 ≤ IntKind.i64.wrap (n_1 + j) ∧
IntKind.i64.wrap (n_1 + j) < (↑n_9 : Int)) ∧
Deref p fun a =>
((w'_1.cell? (a.add ((IntKind.i64.wrap (n_1 + j)).toNat * 1))).isSome = true ∧
w'_1.frozen? (a.add ((IntKind.i64.wrap (n_1 + j)).toNat * 1)) = false) ∧
∀ w'_2, w'_2 = w'_1.setCell (a.add ((IntKind.i64.wrap (n_1 + j)).toNat * 1)) (.bool taint') →
Goes I μ [.int .u64 v,
Value.int .i64 j] w' [.int .u64 (IntKind.u64.wrap (v.tdiv 256)),
Value.int .i64 (IntKind.i64.wrap (j + 1))] w'_2) (R (.returned (.int .i64 0)) w'))) (∃ (I : List Value → World → Prop) (μ : List Value → World → Nat),
I [.int .u64 v', .int .i64 0] w' ∧
∀ (g : Nat → Value) (v j : Int) (w' : World),
I [.int .u64 v, .int .i64 j] w' →
cnd (decide (j < n')) (Deref m' fun a =>
∃ (p : Option Addr) (n_4 c : Nat),
w'.cell? (a.add 1) = some (.slice p n_4 c) ∧
(0 ≤ n ∧ n < (↑n_4 : Int)) ∧
Deref p fun a =>
∃ (p : Option Addr) (n_5 c : Nat),
w'.cell? (a.add (n.toNat * 1)) = some (.slice p n_5 c) ∧
(0 ≤ IntKind.i64.wrap (n_1 + j) ∧
IntKind.i64.wrap (n_1 + j) < (↑n_5 : Int)) ∧
Deref p fun a =>
((w'.cell? (a.add ((IntKind.i64.wrap (n_1 + j)).toNat * 1))).isSome = true ∧
w'.frozen? (a.add ((IntKind.i64.wrap (n_1 + j)).toNat * 1)) = false) ∧
∀ w'_1, w'_1 = w'.setCell (a.add ((IntKind.i64.wrap (n_1 + j)).toNat * 1)) (.int .u8 (IntKind.u8.wrap (v.tmod 256))) →
Deref m' fun a =>
∃ (p : Option Addr) (n_6 c : Nat),
w'_1.cell? (a.add 2) = some (.slice p n_6 c) ∧
(0 ≤ n ∧ n < (↑n_6 : Int)) ∧
Deref p fun a =>
∃ (p : Option Addr) (n_7 c : Nat),
w'_1.cell? (a.add (n.toNat * 1)) = some (.slice p n_7 c) ∧
(0 ≤ IntKind.i64.wrap (n_1 + j) ∧
IntKind.i64.wrap (n_1 + j) < (↑n_7 : Int)) ∧
Deref p fun a =>
((w'_1.cell? (a.add ((IntKind.i64.wrap (n_1 + j)).toNat * 1))).isSome = true ∧
w'_1.frozen? (a.add ((IntKind.i64.wrap (n_1 + j)).toNat * 1)) = false) ∧
∀ w'_2, w'_2 = w'_1.setCell (a.add ((IntKind.i64.wrap (n_1 + j)).toNat * 1)) (.bool taint') →
Goes I μ [.int .u64 v,
Value.int .i64 j] w' [.int .u64 (IntKind.u64.wrap (v.tdiv 256)),
Value.int .i64 (IntKind.i64.wrap (j + 1))] w'_2) (R (.returned (.int .i64 0)) w')))))
theorem sacristy_ref04_Mem_Store.calls {m' : Option Addr} {at' n' v' : Int} {taint' : Bool} {w : World} {R : Ending → World → Prop} (h : sacristy_ref04_Mem_Store.vc m' at' n' v' taint' w R) : Calls Tryz.prog 128 ([.pointer m', .int .u64 at', .int .i64 n', .int .u64 v', .bool taint'] : List Value).toArray w R := calls_of_eq (show fnV Tryz.prog sacristy_ref04_Mem_Store.H 128 [.pointer m', .int .u64 at', .int .i64 n', .int .u64 v', .bool taint'] w R = _ from by kernel_rfl) h

/- function 55: (*sacristy/sacristyref04.Mem).Fetch -/
abbrev sacristy_ref04_Mem_Fetch.N : FuncId := 55
def sacristy_ref04_Mem_Fetch.H : Hints := { loops := [(7, [(8, .one (.int .u32)), (9, .one (.int .i64))])] }
def sacristy_ref04_Mem_Fetch.vc (m' : Option Addr) (at' : Int) (w : World) (R : Ending → World → Prop) : Prop := Calls Tryz.prog 95 #[.pointer m', .int .u64 at', .int .i64 4] w fun e w' =>
∃ (n n_1 : Int),
e = .returned (.tuple #[.int .i64 n, .int .i64 n_1]) ∧
cnd (at'.tmod 4 != 0) (R (.returned (.tuple #[.int .u32 0, .int .i64 40])) w') (cnd (decide (n < 0)) (R (.returned (.tuple #[.int .u32 0, .int .i64 40])) w') (Deref m' fun a =>
∃ (p : Option Addr) (n_2 c : Nat),
w'.cell? a = some (.slice p n_2 c) ∧
(0 ≤ n ∧ n < (↑n_2 : Int)) ∧
Deref p fun a =>
∃ (n_3 : Int),
w'.cell? ((a.add (n.toNat * 3)).add 2) = some (.int .u8 n_3) ∧
cnd (n_3 != 1) (R (.returned (.tuple #[.int .u32 0, .int .i64 40])) w') (∃ (I : List Value → World → Prop) (μ : List Value → World → Nat),
I [.int .u32 0, .int .i64 3] w' ∧
∀ (g : Nat → Value) (v j : Int) (w' : World),
I [.int .u32 v, .int .i64 j] w' →
cnd (decide (j ≥ 0)) (Deref m' fun a =>
∃ (p : Option Addr) (n_4 c : Nat),
w'.cell? (a.add 1) = some (.slice p n_4 c) ∧
(0 ≤ n ∧ n < (↑n_4 : Int)) ∧
Deref p fun a =>
∃ (p : Option Addr) (n_5 c : Nat),
w'.cell? (a.add (n.toNat * 1)) = some (.slice p n_5 c) ∧
(0 ≤ IntKind.i64.wrap (n_1 + j) ∧
IntKind.i64.wrap (n_1 + j) < (↑n_5 : Int)) ∧
Deref p fun a =>
∃ (n : Int),
w'.cell? (a.add ((IntKind.i64.wrap (n_1 + j)).toNat * 1)) = some (.int .u8 n) ∧
Goes I μ [.int .u32 v,
Value.int .i64 j] w' [.int .u32 (IntKind.u32.wrap (IntKind.u32.wrap (256 * v) + IntKind.u32.wrap n)),
Value.int .i64 (IntKind.i64.wrap (j - 1))] w') (R (.returned (.tuple #[.int .u32 v, .int .i64 0])) w'))))
theorem sacristy_ref04_Mem_Fetch.calls {m' : Option Addr} {at' : Int} {w : World} {R : Ending → World → Prop} (h : sacristy_ref04_Mem_Fetch.vc m' at' w R) : Calls Tryz.prog 55 ([.pointer m', .int .u64 at'] : List Value).toArray w R := calls_of_eq (show fnV Tryz.prog sacristy_ref04_Mem_Fetch.H 55 [.pointer m', .int .u64 at'] w R = _ from by kernel_rfl) h

/- function 53: (*sacristy/sacristyref04.Mem).Set -/
abbrev sacristy_ref04_Mem_Set.N : FuncId := 53
def sacristy_ref04_Mem_Set.H : Hints := { loops := [(6, [(11, .one (.int .i64))])], tails := [(7, 14)] }
def sacristy_ref04_Mem_Set.vc (m' : Option Addr) (at' : Int) (s' : ByteArray) (taint' : Bool) (w : World) (R : Ending → World → Prop) : Prop := Calls Tryz.prog 95 #[.pointer m', .int .u64 at', .int .i64 (↑s'.size : Int)] w fun e w' =>
∃ (n n_1 : Int),
e = .returned (.tuple #[.int .i64 n, .int .i64 n_1]) ∧
cnd (decide (n < 0)) (R (.returned (.int .i64 40)) w') (∃ (I : List Value → World → Prop) (μ : List Value → World → Nat),
I [.int .i64 0] w' ∧
∀ (g : Nat → Value) (j : Int) (w' : World),
I [.int .i64 j] w' →
cnd (decide (j < (↑s'.size : Int))) (Deref m' fun a =>
∃ (p : Option Addr) (n_2 c : Nat),
(∀ (w'_1 : World), Later w' w'_1 → w'_1.cell? (a.add 1) = some (.slice p n_2 c)) ∧
(0 ≤ n ∧ n < (↑n_2 : Int)) ∧
Deref p fun a =>
∃ (p : Option Addr) (n_3 c : Nat),
(∀ w'_1, Later w' w'_1 →
w'_1.cell? (a.add (n.toNat * 1)) = some (.slice p n_3 c)) ∧
0 ≤ j ∧
∃ (b : UInt8),
s'[j.toNat]? = some b ∧
(0 ≤ IntKind.i64.wrap (n_1 + j) ∧
IntKind.i64.wrap (n_1 + j) < (↑n_3 : Int)) ∧
Deref p fun a =>
∀ w'_1, Later w' w'_1 →
((w'_1.cell? (a.add ((IntKind.i64.wrap (n_1 + j)).toNat * 1))).isSome = true ∧
w'_1.frozen? (a.add ((IntKind.i64.wrap (n_1 + j)).toNat * 1)) = false) ∧
∀ w'_2, w'_2 = w'_1.setCell (a.add ((IntKind.i64.wrap (n_1 + j)).toNat * 1)) (.int .u8 (↑b.toNat : Int)) →
Deref m' fun a =>
∃ (p : Option Addr) (n_4 c : Nat),
w'_2.cell? (a.add 2) = some (.slice p n_4 c) ∧
(0 ≤ n ∧ n < (↑n_4 : Int)) ∧
Deref p fun a =>
∃ (p : Option Addr) (n_5 c : Nat),
w'_2.cell? (a.add (n.toNat * 1)) = some (.slice p n_5 c) ∧
(0 ≤ IntKind.i64.wrap (n_1 + j) ∧
IntKind.i64.wrap (n_1 + j) < (↑n_5 : Int)) ∧
Deref p fun a =>
((w'_2.cell? (a.add ((IntKind.i64.wrap (n_1 + j)).toNat * 1))).isSome = true ∧
w'_2.frozen? (a.add ((IntKind.i64.wrap (n_1 + j)).toNat * 1)) = false) ∧
∀ w'_3, w'_3 = w'_2.setCell (a.add ((IntKind.i64.wrap (n_1 + j)).toNat * 1)) (.bool taint') →
Goes I μ [.int .i64 j] w' [.int .i64 (IntKind.i64.wrap (j + 1))] w'_3) (R (.returned (.int .i64 0)) w'))
theorem sacristy_ref04_Mem_Set.calls {m' : Option Addr} {at' : Int} {s' : ByteArray} {taint' : Bool} {w : World} {R : Ending → World → Prop} (h : sacristy_ref04_Mem_Set.vc m' at' s' taint' w R) : Calls Tryz.prog 53 ([.pointer m', .int .u64 at', .string s', .bool taint'] : List Value).toArray w R := calls_of_eq (show fnV Tryz.prog sacristy_ref04_Mem_Set.H 53 [.pointer m', .int .u64 at', .string s', .bool taint'] w R = _ from by kernel_rfl) h

/- function 25: sacristy/sacristyref04.Same -/
abbrev ref04_Same.N : FuncId := 25
def ref04_Same.H : Hints := { loops := [(5, [(5, .one (.int .i64))])] }
def ref04_Same.vc (a' : Option Addr) (a'n a'c : Nat) (b' : Option Addr) (b'n b'c : Nat) (w : World) (R : Ending → World → Prop) : Prop := cnd ((↑a'n : Int) != (↑b'n : Int)) (R (.returned (.bool false)) w) (∃ (I : List Value → World → Prop) (μ : List Value → World → Nat),
I [.int .i64 0] w ∧
∀ (g : Nat → Value) (i : Int) (w' : World),
I [.int .i64 i] w' →
cnd (decide (i < (↑a'n : Int))) ((0 ≤ i ∧ i < (↑a'n : Int)) ∧
Deref a' fun a =>
∃ (b : Bool),
(∀ (w'_1 : World), Later w' w'_1 → w'_1.cell? (a.add (i.toNat * 1)) = some (.bool b)) ∧
(0 ≤ i ∧ i < (↑b'n : Int)) ∧
Deref b' fun a =>
∃ (b_1 : Bool),
(∀ w'_1, Later w' w'_1 → w'_1.cell? (a.add (i.toNat * 1)) = some (.bool b_1)) ∧
∀ w'_1, Later w' w'_1 →
cnd (!b == b_1) (R (.returned (.bool false)) w'_1) (Goes I μ [.int .i64 i] w' [.int .i64 (IntKind.i64.wrap (i + 1))] w'_1)) (R (.returned (.bool true)) w'))
theorem ref04_Same.calls {a' : Option Addr} {a'n a'c : Nat} {b' : Option Addr} {b'n b'c : Nat} {w : World} {R : Ending → World → Prop} (h : ref04_Same.vc a' a'n a'c b' b'n b'c w R) : Calls Tryz.prog 25 ([.slice a' a'n a'c, .slice b' b'n b'c] : List Value).toArray w R := calls_of_eq (show fnV Tryz.prog ref04_Same.H 25 [.slice a' a'n a'c, .slice b' b'n b'c] w R = _ from by kernel_rfl) h

end Go.Proofs.YtcnnnlhoiodeaaaGreat

/-
Chapter 04's law package, first part: which regions may be by the reference, what is too large, the chapter's example.
Conditions: each theorem's hypotheses.
-/
namespace Go.Proofs.YtcnnnlhoiodeaaaGreat
open Go Go.Vc Go.RowKit
set_option maxRecDepth 100000

theorem any_take {l : List Reg} {x : Reg} {i k : Nat} {y : Reg} (hk : k < i) (hy : l[k]? = some y) (ht : touchR x y = true) : (l.take i).any (touchR x) = true :=
  List.any_eq_true.2 ⟨y, List.mem_of_getElem? (i := k) (by rw [List.getElem?_take, if_pos hk]; exact hy), ht⟩
theorem any_none {l : List Reg} {x : Reg} {i : Nat} (h : ∀ (k : Nat) (y : Reg), k < i → l[k]? = some y → touchR x y = false) : (l.take i).any (touchR x) = false := by
  rw [List.any_eq_false]
  intro y hy
  obtain ⟨k, hk⟩ := List.getElem?_of_mem hy
  rw [List.getElem?_take] at hk
  split at hk
  · rename_i hki
    rw [h k y hki hk]
    simp
  · cases hk
set_option maxHeartbeats 3200000 in
theorem ref04_May_ok {l : List Reg} (hl : RegsIn l) (hlen : l.length < 9223372036854775808) {A : Option Addr} {c : Nat} {w : World} (hr : ERow regT w A l) : Calls Tryz.prog ref04_May.N #[.slice A l.length c] w (Gives (.bool (mayL l)) w) := by
  refine ref04_May.calls ?_
  unfold ref04_May.vc
  have bad : ∀ {w' : World}, okUpto [] l = false → Later w w' → Gives (.bool (mayL l)) w (.returned (.bool false)) w' := fun h hl => ⟨by rw [mayL, h]; simp, hl⟩
  refine ⟨fun vs w' => ∃ k : Nat, k ≤ l.length ∧ vs = [i64v k] ∧ okUpto [] (l.take k) = true ∧ Later w w', fun vs _ => match vs with | [.int _ n] => l.length - n.toNat | _ => 0, ⟨0, by omega, rfl, rfl, Later.refl _⟩, ?_⟩
  rintro g i w1 ⟨k, hk, hs, hok, g1⟩
  simp only [List.cons.injEq, Value.int.injEq, true_and, and_true] at hs
  subst hs
  refine cnd_of (fun h => ?_) fun h => ?_
  · have hlt : k < l.length := by simp only [decide_eq_true_eq] at h; omega
    have hg := List.getElem?_eq_getElem hlt
    generalize l[k] = x at hg
    have hx := hl k x hg
    have := hx.f0; have := hx.f1; have := hx.s0; have := hx.s1
    obtain ⟨ad, rfl, hcell⟩ := reg_cells (hr.later g1) hg
    refine ⟨by omega, Deref_some rfl ⟨_, _, _, hcell, fun w2 h2 => ?_⟩⟩
    have M := (Trk.start w1).alloc h2
    refine M.setAll (l := regC x) 0 rfl rfl (by simp [Value.oneCell', regC]) fun w3 M => ?_
    have no : mayR x = false → Gives (.bool (mayL l)) w (.returned (.bool false)) w3 := fun hm => bad (okUpto_bad hg (.inl hm)) (g1.trans M.to)
    refine ⟨_, M.cell 0 rfl rfl, cnd_of (fun h1 => no ?_) fun h1 => ⟨_, M.cell 0 rfl rfl, cnd_of (fun h2 => no ?_) fun h2 => ⟨_, M.cell 0 rfl rfl, cnd_of (fun h3 => no ?_) fun h3 => ⟨_, M.cell 0 rfl rfl, cnd_of (fun h4 => no ?_) fun h4 => ⟨_, M.cell 0 rfl rfl, _, M.cell 0 rfl rfl, ?_⟩⟩⟩⟩⟩
    all_goals simp only [decide_eq_true_eq, decide_eq_false_iff_not] at *
    · rw [mayR, decide_eq_false (show ¬ (1 ≤ x.k ∧ x.k ≤ 4) by omega)]; rfl
    · rw [mayR, decide_eq_false (show ¬ (1 ≤ x.k ∧ x.k ≤ 4) by omega)]; rfl
    · rw [mayR, decide_eq_false (show ¬ (1 ≤ x.s ∧ x.s ≤ 1048576) by omega)]; simp
    · rw [mayR, decide_eq_false (show ¬ (1 ≤ x.s ∧ x.s ≤ 1048576) by omega)]; simp
    rw [u64_in (by omega) (by omega)]
    refine cnd_of (fun h5 => no ?_) fun h5 => ?_
    · rw [mayR, decide_eq_false (show ¬ (x.f ≤ 1099511627776 - x.s) by simpa using h5)]; simp
    have hm : mayR x = true := by
      rw [mayR, decide_eq_true (show 1 ≤ x.k ∧ x.k ≤ 4 by omega), decide_eq_true (show 1 ≤ x.s ∧ x.s ≤ 1048576 by omega), decide_eq_true (show x.f ≤ 1099511627776 - x.s by simpa using h5)]
      rfl
    have mx := mayR_facts hm
    refine ⟨fun vs w' => ∃ j : Nat, j ≤ k ∧ vs = [i64v j] ∧ (∀ (m : Nat) (y : Reg), m < j → l[m]? = some y → touchR x y = false) ∧ Later w3 w', fun vs _ => match vs with | [.int _ n] => k - n.toNat | _ => 0, ⟨0, by omega, rfl, fun m y hm => by omega, Later.refl _⟩, ?_⟩
    rintro g' s5 w4 ⟨j, hj, hs', hno, g4⟩
    simp only [List.cons.injEq, Value.int.injEq, true_and, and_true] at hs'
    subst hs'
    have M := M.later g4
    refine cnd_of (fun hjk => ?_) fun hjk => ?_
    · have hjk : j < k := by simp only [decide_eq_true_eq] at hjk; omega
      have hjl : j < l.length := by omega
      have hy := List.getElem?_eq_getElem hjl
      generalize l[j] = y at hy
      have my := mayR_facts (okUpto_all hok (i := j) (x := y) (by rw [List.getElem?_take, if_pos hjk]; exact hy)).1
      have iy := hl j y hy
      have := iy.f0
      obtain ⟨ad', ha', c1, c2, c3, -⟩ := reg_cells (hr.later (g1.trans M.to)) hy
      obtain rfl := Option.some.inj ha'
      refine ⟨x.f, fun w' hl' => (M.later hl').cell 0 rfl rfl, by omega, Deref_some rfl ⟨y.f, fun w' hl' => hl'.cell_some c1, by omega, Deref_some rfl ⟨y.s, fun w' hl' => hl'.cell_some c2, ?_⟩⟩⟩
      rw [u64_in (x := y.f + y.s) (by omega) (by omega)]
      have next : touchR x y = false → ∀ w', Later w4 w' → Goes (fun vs w' => ∃ j : Nat, j ≤ k ∧ vs = [i64v j] ∧ (∀ (m : Nat) (y : Reg), m < j → l[m]? = some y → touchR x y = false) ∧ Later w3 w') (fun vs _ => match vs with | [.int _ n] => k - n.toNat | _ => 0) [i64v j] w4 [i64v (IntKind.i64.wrap ((j : Int) + 1))] w' := by
        intro ht w' hl'
        have hw : IntKind.i64.wrap ((j : Int) + 1) = ((j + 1 : Nat) : Int) := by rw [i64_in (by omega) (by omega)]; omega
        rw [hw]
        refine ⟨⟨j + 1, by omega, rfl, fun m z hm hz => ?_, g4.trans hl'⟩, by show k - ((j + 1 : Nat) : Int).toNat < k - ((j : Nat) : Int).toNat; omega⟩
        by_cases hmj : m = j
        · subst hmj
          rw [hy] at hz
          rw [← Option.some.inj hz]
          exact ht
        · exact hno m z (by omega) hz
      refine cnd_of (fun t1 => ⟨by omega, Deref_some rfl ⟨y.f, fun w' hl' => hl'.cell_some c1, x.f, fun w' hl' => (M.later hl').cell 0 rfl rfl, x.s, fun w' hl' => (M.later hl').cell 0 rfl rfl, fun w' hl' => ?_⟩⟩) fun t1 w' hl' => next ?_ w' hl'
      · rw [u64_in (x := x.f + x.s) (by omega) (by omega)]
        refine cnd_of (fun t2 => bad (okUpto_bad hg (.inr (any_take hjk hy ?_))) (g1.trans (M.later hl').to)) fun t2 => next ?_ w' hl'
        · rw [touchR, t1, t2]; rfl
        · rw [touchR, t1, t2]; rfl
      · rw [touchR, t1]; rfl
    · have : j = k := by simp only [decide_eq_false_iff_not] at hjk; omega
      subst this
      have hw : IntKind.i64.wrap ((j : Int) + 1) = ((j + 1 : Nat) : Int) := by rw [i64_in (by omega) (by omega)]; omega
      rw [hw]
      refine ⟨⟨j + 1, by omega, rfl, ?_, g1.trans M.to⟩, by show l.length - ((j + 1 : Nat) : Int).toNat < l.length - ((j : Nat) : Int).toNat; omega⟩
      rw [okUpto_step hg, hok, hm, any_none hno]
      rfl
  · have : k = l.length := by simp only [decide_eq_false_iff_not] at h; omega
    subst this
    rw [List.take_length] at hok
    refine cnd_of (fun h1 => ⟨?_, g1⟩) fun h1 => ⟨?_, g1⟩
    · rw [mayL, hok, Bool.and_true]
      congr 2
      simp only [decide_eq_true_eq] at h1
      exact decide_eq_decide.2 (by omega)
    · simp only [decide_eq_false_iff_not] at h1
      rw [mayL, decide_eq_false (by omega)]
      rfl
def l0 : List Reg := [⟨100, 16, 3⟩, ⟨200, 8, 1⟩]
def s0 : List Pt := newM l0
def s1 : List Pt := (storeM s0 100 2 4660 true).1
end Go.Proofs.YtcnnnlhoiodeaaaGreat

/-
The reference's memory: how it lies in a world; where a stretch lies; loading, storing.
Conditions: each theorem's hypotheses.
-/
namespace Go.Proofs.YtcnnnlhoiodeaaaGreat
open Go Go.Vc Go.RowKit
set_option maxRecDepth 100000

structure RA (w : World) (a b rb lb Bb Tb : Nat) (bi ti : Nat → Nat) (st : List Pt) : Prop where
  ok : StOk st
  rr : a ≤ rb ∧ rb < b
  rl : a ≤ lb ∧ lb < b
  rB : a ≤ Bb ∧ Bb < b
  rT : a ≤ Tb ∧ Tb < b
  rbi : ∀ i, i < st.length → (a ≤ bi i ∧ bi i < b) ∧ (a ≤ ti i ∧ ti i < b)
  hr : ∃ c1 c2 c3, Has w rb [.slice (some ⟨lb, 0, none⟩) st.length c1, .slice (some ⟨Bb, 0, none⟩) st.length c2, .slice (some ⟨Tb, 0, none⟩) st.length c3]
  L : ERow regT w (some ⟨lb, 0, none⟩) (st.map (·.r))
  B : ∀ (i : Nat) (p : Pt), st[i]? = some p → w.cell? ⟨Bb, i, none⟩ = some (.slice (some ⟨bi i, 0, none⟩) p.bs.length p.bs.length)
  T : ∀ (i : Nat) (p : Pt), st[i]? = some p → w.cell? ⟨Tb, i, none⟩ = some (.slice (some ⟨ti i, 0, none⟩) p.ts.length p.ts.length)
  hB : ∀ (i : Nat) (p : Pt), st[i]? = some p → Has w (bi i) (u8c p.bs)
  hT : ∀ (i : Nat) (p : Pt), st[i]? = some p → Has w (ti i) (boc p.ts)
  apart : ∀ i j, i < st.length → j < st.length → i ≠ j → bi i ≠ bi j ∧ ti i ≠ ti j
  cross : ∀ i j, i < st.length → j < st.length → bi i ≠ ti j
  out : ∀ i, i < st.length → (bi i ≠ rb ∧ bi i ≠ lb ∧ bi i ≠ Bb ∧ bi i ≠ Tb) ∧ (ti i ≠ rb ∧ ti i ≠ lb ∧ ti i ≠ Bb ∧ ti i ≠ Tb)
section
variable {w : World} {a b rb lb Bb Tb : Nat} {bi ti : Nat → Nat} {st : List Pt}
theorem erow_kept {α : Type} {T : ElT α} {w w' : World} {k : Nat} {l : List α} (h : ERow T w (some ⟨k, 0, none⟩) l) (e : k < w.heap.size → w'.heap[k]? = w.heap[k]?) : ERow T w' (some ⟨k, 0, none⟩) l := by
  intro i m hi
  obtain ⟨ad, h1, h2⟩ := h i m hi
  obtain rfl := Option.some.inj h1
  refine ⟨_, rfl, fun j v hv => ?_⟩
  have := h2 j v hv
  rw [addr_add_add, add_block] at this ⊢
  exact cell_kept this (e (lt_of_cell this))
theorem RA.kept {w' : World} (h : RA w a b rb lb Bb Tb bi ti st) (hk : ∀ k, a ≤ k → k < b → k < w.heap.size → w'.heap[k]? = w.heap[k]?) : RA w' a b rb lb Bb Tb bi ti st := by
  have kh : ∀ {k : Nat} {cs : List Value}, a ≤ k ∧ k < b → Has w k cs → Has w' k cs := fun r hx => hx.kept (hk _ r.1 r.2 hx.lt)
  obtain ⟨c1, c2, c3, hr⟩ := h.hr
  exact ⟨h.ok, h.rr, h.rl, h.rB, h.rT, h.rbi, ⟨c1, c2, c3, kh h.rr hr⟩, erow_kept h.L fun hl => hk _ h.rl.1 h.rl.2 hl,
    fun i p hi => cell_kept (h.B i p hi) (hk _ h.rB.1 h.rB.2 (lt_of_cell (h.B i p hi))), fun i p hi => cell_kept (h.T i p hi) (hk _ h.rT.1 h.rT.2 (lt_of_cell (h.T i p hi))),
    fun i p hi => kh (h.rbi i (List.getElem?_eq_some_iff.1 hi).1).1 (h.hB i p hi), fun i p hi => kh (h.rbi i (List.getElem?_eq_some_iff.1 hi).1).2 (h.hT i p hi), h.apart, h.cross, h.out⟩
theorem RA.later {w' : World} (h : RA w a b rb lb Bb Tb bi ti st) (hl : Later w w') : RA w' a b rb lb Bb Tb bi ti st := h.kept fun k _ _ hk => hl.block hk
/-- One part is written over. -/
theorem RA.put {w' : World} (h : RA w a b rb lb Bb Tb bi ti st) {i : Nat} {p p' : Pt} (hi : st[i]? = some p) (hk : But (fun k => k = bi i ∨ k = ti i) w w') (hp : PtOk p') (er : p'.r = p.r) (hB : Has w' (bi i) (u8c p'.bs)) (hT : Has w' (ti i) (boc p'.ts)) : RA w' a b rb lb Bb Tb bi ti (st.set i p') := by
  have hil : i < st.length := (List.getElem?_eq_some_iff.1 hi).1
  have hlen : (st.set i p').length = st.length := by simp
  have ho := h.out i hil
  have hpo := h.ok.2 i p hi
  have lb' : p'.bs.length = p.bs.length := by rw [hp.bl, hpo.bl, er]
  have lt' : p'.ts.length = p.ts.length := by rw [hp.tl, hpo.tl, er]
  have hget : ∀ (j : Nat) (x : Pt), (st.set i p')[j]? = some x → (j = i ∧ x = p') ∨ (j ≠ i ∧ st[j]? = some x) := by
    intro j x hj
    rw [List.getElem?_set] at hj
    split at hj
    · rename_i e
      exact .inl ⟨e.symm, by simpa [hil] using hj.symm⟩
    · rename_i e
      exact .inr ⟨fun e' => e e'.symm, hj⟩
  obtain ⟨c1, c2, c3, hr⟩ := h.hr
  have em : (st.set i p').map (·.r) = st.map (·.r) := by
    apply List.ext_getElem?
    intro j
    rw [List.getElem?_map, List.getElem?_map, List.getElem?_set]
    by_cases hj : i = j
    · subst hj
      rw [if_pos rfl, if_pos hil, hi]
      simp [er]
    · rw [if_neg hj]
  refine ⟨⟨by rw [hlen]; exact h.ok.1, fun j x hj => ?_⟩, h.rr, h.rl, h.rB, h.rT, by rw [hlen]; exact h.rbi, ⟨c1, c2, c3, ?_⟩, ?_, ?_, ?_, ?_, ?_, by rw [hlen]; exact h.apart, by rw [hlen]; exact h.cross, by rw [hlen]; exact h.out⟩
  · rcases hget j x hj with ⟨_, rfl⟩ | ⟨_, hj⟩
    · exact hp
    · exact h.ok.2 j x hj
  · rw [hlen]
    exact hk.has hr (by omega)
  · rw [em]
    exact erow_kept h.L fun hl => hk.keep _ hl (by omega)
  · intro j x hj
    rcases hget j x hj with ⟨rfl, rfl⟩ | ⟨_, hj⟩
    · rw [lb']
      exact hk.cell (h.B _ p hi) (by show ¬ (Bb = bi _ ∨ Bb = ti _); omega)
    · exact hk.cell (h.B j x hj) (by show ¬ (Bb = bi _ ∨ Bb = ti _); omega)
  · intro j x hj
    rcases hget j x hj with ⟨rfl, rfl⟩ | ⟨_, hj⟩
    · rw [lt']
      exact hk.cell (h.T _ p hi) (by show ¬ (Tb = bi _ ∨ Tb = ti _); omega)
    · exact hk.cell (h.T j x hj) (by show ¬ (Tb = bi _ ∨ Tb = ti _); omega)
  · intro j x hj
    rcases hget j x hj with ⟨rfl, rfl⟩ | ⟨hne, hj⟩
    · exact hB
    · have hjl := (List.getElem?_eq_some_iff.1 hj).1
      have := h.apart j i hjl hil hne
      have := h.cross j i hjl hil
      exact hk.has (h.hB j x hj) (by omega)
  · intro j x hj
    rcases hget j x hj with ⟨rfl, rfl⟩ | ⟨hne, hj⟩
    · exact hT
    · have hjl := (List.getElem?_eq_some_iff.1 hj).1
      have := h.apart j i hjl hil hne
      have := h.cross i j hil hjl
      exact hk.has (h.hT j x hj) (by omega)
end
def RefAt (w : World) (a b rb : Nat) (st : List Pt) : Prop := ∃ lb Bb Tb bi ti, RA w a b rb lb Bb Tb bi ti st
theorem RefAt.kept {w w' : World} {a b rb : Nat} {st : List Pt} (h : RefAt w a b rb st) (hk : ∀ k, a ≤ k → k < b → k < w.heap.size → w'.heap[k]? = w.heap[k]?) : RefAt w' a b rb st := by
  obtain ⟨lb, Bb, Tb, bi, ti, h⟩ := h
  exact ⟨lb, Bb, Tb, bi, ti, h.kept hk⟩
theorem RefAt.later {w w' : World} {a b rb : Nat} {st : List Pt} (h : RefAt w a b rb st) (hl : Later w w') : RefAt w' a b rb st := h.kept fun k _ _ hk => hl.block hk
/-- What 'in' answers. -/
def refIn (st : List Pt) (x n : Int) : Value := match findM st x n with
  | none => .tuple #[i64v (-1), i64v 0]
  | some (i, p) => .tuple #[i64v i, i64v (offR p x : Int)]
theorem refIn_none {st : List Pt} {x n : Int} (h : findM st x n = none) : refIn st x n = .tuple #[i64v (-1), i64v 0] := by rw [refIn, h]
theorem refIn_some {st : List Pt} {x n : Int} {i : Nat} {p : Pt} (h : findM st x n = some (i, p)) : refIn st x n = .tuple #[i64v i, i64v (offR p x : Int)] := by rw [refIn, h]
theorem map_get {st : List Pt} {k : Nat} {p : Pt} (h : st[k]? = some p) : (st.map (·.r))[k]? = some p.r := by rw [List.getElem?_map, h]; rfl
set_option maxHeartbeats 1600000 in
theorem ref_in_ok {w : World} {a b rb lb Bb Tb : Nat} {bi ti : Nat → Nat} {st : List Pt} (h : RA w a b rb lb Bb Tb bi ti st) {x n : Int} (hx : 0 ≤ x ∧ x < 18446744073709551616) :
    Calls Tryz.prog sacristy_ref04_Mem_in.N #[.pointer (some ⟨rb, 0, none⟩), u64v x, i64v n] w (Gives (refIn st x n) w) := by
  refine sacristy_ref04_Mem_in.calls ?_
  unfold sacristy_ref04_Mem_in.vc
  have n16 := h.ok.1
  obtain ⟨c1, c2, c3, hr⟩ := h.hr
  refine ⟨fun vs w' => ∃ k : Nat, k ≤ st.length ∧ vs = [i64v k] ∧ (∀ (j : Nat) (q : Pt), j < k → st[j]? = some q → hasR q.r x n = false) ∧ Later w w', fun vs _ => match vs with | [.int _ m] => st.length - m.toNat | _ => 0, ⟨0, by omega, rfl, fun j q hj => by omega, Later.refl _⟩, ?_⟩
  rintro g i w1 ⟨k, hk, hs, hno, g1⟩
  simp only [List.cons.injEq, Value.int.injEq, true_and, and_true] at hs
  subst hs
  have hr1 := hr.later g1
  refine Deref_some rfl ⟨_, _, _, hr1.cell rfl, cnd_of (fun hlt => ?_) fun hge => ?_⟩
  · have hlt : k < st.length := by simp only [decide_eq_true_eq] at hlt; omega
    have hg := List.getElem?_eq_getElem hlt
    generalize st[k] = p at hg
    have hp := h.ok.2 k p hg
    have m := mayR_facts hp.may
    have := hp.inn.f0
    obtain ⟨ad, hA, hcell⟩ := reg_cells (h.L.later g1) (map_get hg)
    obtain rfl := Option.some.inj hA
    refine Deref_some rfl ⟨_, _, _, hr1.cell rfl, by omega, Deref_some rfl ⟨_, _, _, hcell, fun w2 h2 => ?_⟩⟩
    have M := (Trk.start w1).alloc h2
    refine M.setAll (l := regC p.r) 0 rfl rfl (by simp [Value.oneCell', regC]) fun w3 M => ?_
    have hw : IntKind.i64.wrap ((k : Int) + 1) = ((k + 1 : Nat) : Int) := by rw [i64_in (by omega) (by omega)]; omega
    have next : hasR p.r x n = false → Goes (fun vs w' => ∃ k : Nat, k ≤ st.length ∧ vs = [i64v k] ∧ (∀ (j : Nat) (q : Pt), j < k → st[j]? = some q → hasR q.r x n = false) ∧ Later w w') (fun vs _ => match vs with | [.int _ m] => st.length - m.toNat | _ => 0) [i64v k] w1 [i64v (IntKind.i64.wrap ((k : Int) + 1))] w3 := by
      intro hn
      rw [hw]
      refine ⟨⟨k + 1, by omega, rfl, fun j q hj hq => ?_, g1.trans M.to⟩, by show st.length - ((k + 1 : Nat) : Int).toNat < st.length - ((k : Nat) : Int).toNat; omega⟩
      by_cases hjk : j = k
      · subst hjk
        rw [hg] at hq
        rw [← Option.some.inj hq]
        exact hn
      · exact hno j q (by omega) hq
    refine ⟨_, M.cell 0 rfl rfl, cnd_of (fun h1 => ⟨_, M.cell 0 rfl rfl, _, M.cell 0 rfl rfl, ?_⟩) fun h1 => next ?_⟩
    · have h1 : x ≥ p.r.f := by simpa using h1
      rw [u64_in (x := p.r.f + p.r.s) (by omega) (by omega)]
      refine cnd_of (fun h2 => ⟨_, M.cell 0 rfl rfl, _, M.cell 0 rfl rfl, ?_⟩) fun h2 => next ?_
      · have h2 : x < p.r.f + p.r.s := by simpa using h2
        rw [u64_in (x := p.r.f + p.r.s) (by omega) (by omega), u64_in (x := p.r.f + p.r.s - x) (by omega) (by omega), wrap_u64]
        refine cnd_of (fun h3 => ⟨p.r.f, fun w' hl' => (M.later hl').cell 0 rfl rfl, fun w4 g4 => ?_⟩) fun h3 => next ?_
        · have h3 : n % 18446744073709551616 ≤ p.r.f + p.r.s - x := by simpa using h3
          have hh : hasR p.r x n = true := by
            simp only [hasR, Bool.and_eq_true, decide_eq_true_eq]
            omega
          rw [refIn_some (findM_some hg hh hno)]
          have : IntKind.i64.wrap (IntKind.u64.wrap (x - p.r.f)) = (offR p x : Int) := by
            rw [u64_in (by omega) (by omega), i64_in (by omega) (by omega)]
            unfold offR
            omega
          rw [this]
          exact ⟨rfl, (g1.trans M.to).trans g4⟩
        · have h3 : ¬ n % 18446744073709551616 ≤ p.r.f + p.r.s - x := by simpa using h3
          rw [hasR, decide_eq_false (show ¬ (n % 18446744073709551616 ≤ p.r.s - (x - p.r.f)) by omega)]
          simp
      · have h2 : ¬ x < p.r.f + p.r.s := by simpa using h2
        rw [hasR, decide_eq_false (show ¬ (x - p.r.f < p.r.s) by omega)]
        simp
    · have h1 : ¬ x ≥ p.r.f := by simpa using h1
      rw [hasR, decide_eq_false (show ¬ (p.r.f ≤ x) by omega)]
      simp
  · have : k = st.length := by simp only [decide_eq_false_iff_not] at hge; omega
    subst this
    rw [refIn_none (findM_none fun j q hq => hno j q (List.getElem?_eq_some_iff.1 hq).1 hq)]
    exact ⟨rfl, g1⟩
theorem valB_lt : ∀ l : List Int, (∀ b ∈ l, 0 ≤ b ∧ b < 256) → 0 ≤ valB l ∧ valB l < 2 ^ (8 * l.length)
  | [], _ => by simp [valB]
  | b :: l, h => by
    have ih := valB_lt l fun c hc => h c (List.mem_cons_of_mem b hc)
    have hb := h b List.mem_cons_self
    simp only [valB, List.length_cons]
    rw [show 8 * (l.length + 1) = 8 * l.length + 8 by omega, Int.pow_add, show (2 : Int) ^ 8 = 256 from rfl]
    omega
theorem pow_leI {k m : Nat} (h : k ≤ m) : (2 : Int) ^ k ≤ 2 ^ m := by
  have h1 : ((2 ^ k : Nat) : Int) ≤ ((2 ^ m : Nat) : Int) := Int.ofNat_le.2 (Nat.pow_le_pow_right (by decide) h)
  rwa [Int.natCast_pow, Int.natCast_pow] at h1
theorem pow_le64 {k : Nat} (h : k ≤ 64) : (2 : Int) ^ k ≤ 18446744073709551616 := by
  have h1 := pow_leI h
  rwa [show (2 : Int) ^ 64 = 18446744073709551616 by decide] at h1
/-- A stretch of a part. -/
theorem part_get {l : List Int} {k n j : Nat} (hk : k + n ≤ l.length) (hj : j < n) : ∃ x, l[k + j]? = some x ∧ ((l.drop k).take n).drop j = x :: ((l.drop k).take n).drop (j + 1) := by
  have hl : k + j < l.length := by omega
  refine ⟨l[k + j], List.getElem?_eq_getElem hl, ?_⟩
  have hl2 : j < ((l.drop k).take n).length := by simp; omega
  rw [List.drop_eq_getElem_cons hl2, List.getElem_take, List.getElem_drop]
theorem part_getB {l : List Bool} {k n j : Nat} (hk : k + n ≤ l.length) (hj : j < n) : ∃ x, l[k + j]? = some x ∧ ((l.drop k).take n).drop j = x :: ((l.drop k).take n).drop (j + 1) := by
  have hl : k + j < l.length := by omega
  refine ⟨l[k + j], List.getElem?_eq_getElem hl, ?_⟩
  have hl2 : j < ((l.drop k).take n).length := by simp; omega
  rw [List.drop_eq_getElem_cons hl2, List.getElem_take, List.getElem_drop]
section
variable {w : World} {a b rb lb Bb Tb : Nat} {bi ti : Nat → Nat} {st : List Pt} (h : RA w a b rb lb Bb Tb bi ti st) {i : Nat} {p : Pt} (hi : st[i]? = some p)
include h hi
theorem RA.byte {j : Nat} {x : Int} (hj : p.bs[j]? = some x) : w.cell? ⟨bi i, j, none⟩ = some (.int .u8 x) := (h.hB i p hi).cell (u8c_get hj)
theorem RA.taint {j : Nat} {x : Bool} (hj : p.ts[j]? = some x) : w.cell? ⟨ti i, j, none⟩ = some (.bool x) := (h.hT i p hi).cell (boc_get hj)
end
set_option maxHeartbeats 3200000 in
theorem ref_Load_ok {a b rb : Nat} {st : List Pt} {x n : Int} (hx : 0 ≤ x ∧ x < 18446744073709551616) {w : World} (hM : RefAt w a b rb st) :
    Calls Tryz.prog sacristy_ref04_Mem_Load.N #[.pointer (some ⟨rb, 0, none⟩), u64v x, i64v n] w (Gives (.tuple #[u64v (loadM st x n).1, .bool (loadM st x n).2.1, i64v (loadM st x n).2.2]) w) := by
  obtain ⟨lb, Bb, Tb, bi, ti, h⟩ := hM
  refine sacristy_ref04_Mem_Load.calls ?_
  unfold sacristy_ref04_Mem_Load.vc
  refine cnd_of (fun h1 => ⟨?_, Later.refl _⟩) fun h1 => cnd_of (fun h2 => ⟨?_, Later.refl _⟩) fun h2 => ?_
  · rw [loadM, if_pos (.inl (by simpa using h1))]
  · rw [loadM, if_pos (.inr (by simpa using h2))]
  have hn : ¬ (n < 1 ∨ 8 < n) := by simp only [decide_eq_false_iff_not] at h1 h2; omega
  have eL : loadM st x n = match findM st x n with
    | none => (0, false, 40)
    | some (_, p) => if p.r.k = 1 then (0, false, 40) else (valB ((p.bs.drop (offR p x)).take n.toNat), ((p.ts.drop (offR p x)).take n.toNat).any id, 0) := by rw [loadM, if_neg hn] <;> rfl
  refine (ref_in_ok h hx).mono fun e w2 ⟨he, g2⟩ => ?_
  have h2 := h.later g2
  have n16 := h.ok.1
  cases hf : findM st x n with
  | none =>
    rw [refIn_none hf] at he
    rw [hf] at eL
    rw [eL]
    exact ⟨_, _, he, cnd_true rfl ⟨rfl, g2⟩⟩
  | some y =>
    obtain ⟨i, p⟩ := y
    rw [refIn_some hf] at he
    rw [hf] at eL
    simp only at eL
    obtain ⟨hi, hh⟩ := findM_get hf
    have hil : i < st.length := (List.getElem?_eq_some_iff.1 hi).1
    have hp := h.ok.2 i p hi
    obtain ⟨f1, f2, f3, f4⟩ := hasR_facts hp hh
    have m := mayR_facts hp.may
    have hn64 : n % 18446744073709551616 = n := by omega
    rw [hn64] at f4
    have hk : offR p x + n.toNat ≤ p.r.s.toNat := by omega
    have lb' := hp.bl
    have lt' := hp.tl
    obtain ⟨c1, c2, c3, hr⟩ := h2.hr
    obtain ⟨ad, hA, d0, d1, d2, -⟩ := reg_cells h2.L (map_get hi)
    obtain rfl := Option.some.inj hA
    refine ⟨_, _, he, cnd_false (by rw [decide_eq_false_iff_not]; omega) (Deref_some rfl ⟨_, _, _, hr.cell rfl, by omega, Deref_some rfl ⟨_, d2, cnd_of (fun hk1 => ⟨?_, g2⟩) fun hk1 => ?_⟩⟩)⟩
    · rw [eL, if_pos (by simpa using hk1)]
    have hk1 : ¬ p.r.k = 1 := by simpa using hk1
    rw [if_neg hk1] at eL
    have hw0 : IntKind.i64.wrap (n - 1) = n - 1 := i64_in (by omega) (by omega)
    rw [hw0]
    let PB := (p.bs.drop (offR p x)).take n.toNat
    let PT := (p.ts.drop (offR p x)).take n.toNat
    have lPB : PB.length = n.toNat := by show ((p.bs.drop (offR p x)).take n.toNat).length = _; rw [List.length_take, List.length_drop]; omega
    have lPT : PT.length = n.toNat := by show ((p.ts.drop (offR p x)).take n.toNat).length = _; rw [List.length_take, List.length_drop]; omega
    refine ⟨fun vs w' => ∃ j : Nat, j ≤ n.toNat ∧ vs = [u64v (valB (PB.drop j)), .bool ((PT.drop j).any id), i64v ((j : Int) - 1)] ∧ w' = w2, fun vs _ => match vs with | [_, _, .int _ m] => (m + 1).toNat | _ => 0,
      ⟨n.toNat, by omega, ?_, rfl⟩, ?_⟩
    · rw [List.drop_of_length_le (by omega), List.drop_of_length_le (by omega)]
      have : ((n.toNat : Nat) : Int) - 1 = n - 1 := by omega
      rw [this]
      rfl
    rintro g v taint jj w3 ⟨j, hj, hs', rfl⟩
    simp only [List.cons.injEq, Value.int.injEq, Value.bool.injEq, true_and, and_true] at hs'
    obtain ⟨rfl, rfl, rfl⟩ := hs'
    refine cnd_of (fun hge => ?_) fun hlt => ?_
    · have hj1 : 1 ≤ j := by simp only [decide_eq_true_eq] at hge; omega
      obtain ⟨j, rfl⟩ : ∃ k, j = k + 1 := ⟨j - 1, by omega⟩
      have ej : (((j + 1 : Nat) : Int) - 1) = (j : Int) := by omega
      rw [ej]
      obtain ⟨xb, hxb, exb⟩ := part_get (l := p.bs) (k := offR p x) (n := n.toNat) (j := j) (by omega) (by omega)
      obtain ⟨xt, hxt, ext⟩ := part_getB (l := p.ts) (k := offR p x) (n := n.toNat) (j := j) (by omega) (by omega)
      have hw : IntKind.i64.wrap ((offR p x : Int) + (j : Int)) = ((offR p x + j : Nat) : Int) := by rw [i64_in (by omega) (by omega)]; omega
      have hw2 : IntKind.i64.wrap ((j : Int) - 1) = (j : Int) - 1 := i64_in (by omega) (by omega)
      rw [hw, hw2]
      have hb8 : ∀ b ∈ PB, 0 ≤ b ∧ b < 256 := b8_part hp _ _
      have hxb8 : 0 ≤ xb ∧ xb < 256 := hp.b8 xb (List.mem_of_getElem? hxb)
      have eB : valB (PB.drop j) = xb + 256 * valB (PB.drop (j + 1)) := by
        show valB (((p.bs.drop (offR p x)).take n.toNat).drop j) = _
        rw [exb]
        rfl
      have bnd : 0 ≤ valB (PB.drop j) ∧ valB (PB.drop j) < 18446744073709551616 := by
        have := valB_lt (PB.drop j) fun b hb => hb8 b (List.mem_of_mem_drop hb)
        have hl : (PB.drop j).length ≤ 8 := by rw [List.length_drop, lPB]; omega
        have := pow_le64 (k := 8 * (PB.drop j).length) (by omega)
        omega
      have bnd1 := (valB_lt (PB.drop (j + 1)) fun b hb => hb8 b (List.mem_of_mem_drop hb)).1
      have ev : IntKind.u64.wrap (IntKind.u64.wrap (256 * valB (PB.drop (j + 1))) + IntKind.u64.wrap xb) = valB (PB.drop j) := by
        rw [u64_in (x := 256 * valB (PB.drop (j + 1))) (by omega) (by omega), u64_in (x := xb) (by omega) (by omega), u64_in (by omega) (by omega), eB]
        omega
      have eT : (PT.drop j).any id = (xt || (PT.drop (j + 1)).any id) := by
        show (((p.ts.drop (offR p x)).take n.toNat).drop j).any id = _
        rw [ext]
        rfl
      have a1 : (⟨bi i, 0, none⟩ : Addr).add ((((offR p x + j : Nat) : Int)).toNat * 1) = ⟨bi i, offR p x + j, none⟩ := by rw [add_block]; simp
      have a2 : (⟨ti i, 0, none⟩ : Addr).add ((((offR p x + j : Nat) : Int)).toNat * 1) = ⟨ti i, offR p x + j, none⟩ := by rw [add_block]; simp
      have b1 : (⟨Bb, 0, none⟩ : Addr).add ((i : Int).toNat * 1) = ⟨Bb, i, none⟩ := by rw [add_block]; simp
      have b2 : (⟨Tb, 0, none⟩ : Addr).add ((i : Int).toNat * 1) = ⟨Tb, i, none⟩ := by rw [add_block]; simp
      have dec : (((j : Int) - 1) + 1).toNat < ((j : Int) + 1).toNat := by omega
      refine Deref_some rfl ⟨_, _, _, hr.cell (i := 1) rfl, by omega, Deref_some rfl ?_⟩
      rw [b1]
      refine ⟨_, _, _, h2.B i p hi, by omega, Deref_some rfl ?_⟩
      rw [a1]
      refine ⟨xb, h2.byte hi hxb, ?_⟩
      rw [ev]
      refine cnd_of (fun ht => ⟨⟨j, by omega, ?_, rfl⟩, by simpa using dec⟩) fun ht => ?_
      · rw [eT, ht]
        simp
      · refine Deref_some rfl ⟨_, _, _, hr.cell (i := 2) rfl, by omega, Deref_some rfl ?_⟩
        rw [b2]
        refine ⟨_, _, _, h2.T i p hi, by omega, Deref_some rfl ?_⟩
        rw [a2]
        refine ⟨xt, h2.taint hi hxt, ⟨j, by omega, ?_, rfl⟩, by simpa using dec⟩
        rw [eT, ht]
        simp
    · have : j = 0 := by simp only [decide_eq_false_iff_not] at hlt; omega
      subst this
      refine ⟨?_, g2⟩
      rw [eL]
      rfl
end Go.Proofs.YtcnnnlhoiodeaaaGreat

/-
The reference's memory: storing, fetching, setting, bytes; rows compared.
Conditions: each theorem's hypotheses.
-/
namespace Go.Proofs.YtcnnnlhoiodeaaaGreat
open Go Go.Vc Go.RowKit
set_option maxRecDepth 100000

theorem take_snoc {α : Type} {l : List α} {j : Nat} {x : α} (h : l[j]? = some x) : l.take (j + 1) = l.take j ++ [x] := by
  rw [List.take_add_one, h]
  rfl
theorem Has.setE {w w' : World} {b b' : Nat} {cs : List Value} (h : Has w b cs) (hb : b ≠ b') {i : Nat} {v : Value} (e : w' = w.setCell ⟨b', i, none⟩ v) : Has w' b cs := by
  rw [e]
  exact h.set_other hb i v
/-- While a part is written, cell by cell. -/
structure Wr (w : World) (bi ti : Nat) (p : Pt) (k : Nat) (l : List Int) (t : Bool) (j : Nat) (w' : World) : Prop where
  but : But (fun x => x = bi ∨ x = ti) w w'
  hB : Has w' bi (u8c (putL p.bs k (l.take j)))
  hT : Has w' ti (boc (putL p.ts k (List.replicate j t)))
section
variable {w : World} {a b rb lb Bb Tb : Nat} {bi ti : Nat → Nat} {st : List Pt} (h : RA w a b rb lb Bb Tb bi ti st) {i : Nat} {p : Pt} (hi : st[i]? = some p)
include h hi
theorem RA.wr0 (k : Nat) (l : List Int) (t : Bool) : Wr w (bi i) (ti i) p k l t 0 w := by
  refine ⟨But.refl _ _, ?_, ?_⟩
  · rw [List.take_zero, putL_nil]
    exact h.hB i p hi
  · show Has w (ti i) (boc (putL p.ts k []))
    rw [putL_nil]
    exact h.hT i p hi
theorem RA.wrote {k : Nat} {l : List Int} {t : Bool} {w' : World} (hw : Wr w (bi i) (ti i) p k l t l.length w') (hk : k + l.length ≤ p.r.s.toNat) (hl : ∀ b ∈ l, 0 ≤ b ∧ b < 256) : RefAt w' a b rb (layM st i p k l t) ∧ Kept a b w w' := by
  have hil : i < st.length := (List.getElem?_eq_some_iff.1 hi).1
  refine ⟨⟨lb, Bb, Tb, bi, ti, h.put hi hw.but (layP_ok (h.ok.2 i p hi) hk hl) rfl ?_ ?_⟩, hw.but.kept fun x hx => ?_⟩
  · have := hw.hB
    rw [List.take_length] at this
    exact this
  · exact hw.hT
  · have := h.rbi i hil
    rcases hx with rfl | rfl
    · exact this.1
    · exact this.2
end
/-- One round: a byte, and its taint. -/
theorem Wr.step {w w' w1 w2 : World} {bi ti : Nat} (hne : bi ≠ ti) {p : Pt} {k : Nat} {l : List Int} {t : Bool} {j : Nat} (hw : Wr w bi ti p k l t j w') {x : Int} (hx : l[j]? = some x) (hB : k + l.length ≤ p.bs.length) (hT : k + l.length ≤ p.ts.length)
    (e1 : w1 = w'.setCell ⟨bi, k + j, none⟩ (.int .u8 x)) (e2 : w2 = w1.setCell ⟨ti, k + j, none⟩ (.bool t)) : Wr w bi ti p k l t (j + 1) w2 := by
  have hj : j < l.length := (List.getElem?_eq_some_iff.1 hx).1
  have hlt : (l.take j).length = j := by rw [List.length_take]; omega
  have gB : k + j < (putL p.bs k (l.take j)).length := by rw [putL_length (by omega)]; omega
  have gT : k + j < (putL p.ts k (List.replicate j t)).length := by rw [putL_length (by rw [List.length_replicate]; omega)]; omega
  refine ⟨?_, ?_, ?_⟩
  · rw [e2, e1]
    exact (hw.but.trans (But.setCell _ _ (.inl rfl))).trans (But.setCell _ _ (.inr rfl))
  · have h1 := hw.hB.set (k + j) (.int .u8 x)
    rw [e2, e1]
    refine Has.set_other ?_ hne _ _
    have e : (u8c (putL p.bs k (l.take j))).set (k + j) (.int .u8 x) = u8c (putL p.bs k (l.take (j + 1))) := by
      have := putL_snoc (B := p.bs) (o := k) (vs := l.take j) (v := x) (by omega)
      rw [hlt, putL_one gB] at this
      rw [take_snoc hx, ← this]
      simp [u8c]
    rw [← e]
    exact h1
  · have h0 : Has w1 ti (boc (putL p.ts k (List.replicate j t))) := by rw [e1]; exact hw.hT.set_other (fun e => hne e.symm) _ _
    have h1 := h0.set (k + j) (.bool t)
    have e : (boc (putL p.ts k (List.replicate j t))).set (k + j) (.bool t) = boc (putL p.ts k (List.replicate (j + 1) t)) := by
      have := putL_snoc (B := p.ts) (o := k) (vs := List.replicate j t) (v := t) (by rw [List.length_replicate]; omega)
      rw [List.length_replicate, putL_one gT] at this
      rw [List.replicate_succ', ← this]
      simp [boc]
    rw [e2, ← e]
    exact h1
theorem addr_cell (x n : Nat) : (⟨x, 0, none⟩ : Addr).add (((n : Int)).toNat * 1) = ⟨x, n, none⟩ := by rw [add_block]; simp
/-- What a writing call of the reference's leaves. -/
def RWrote (v : Value) (w : World) (a b rb : Nat) (st : List Pt) (e : Ending) (w' : World) : Prop := e = .returned v ∧ Kept a b w w' ∧ RefAt w' a b rb st
theorem shift8 (v : Int) (j : Nat) : v / 2 ^ (8 * j) / 256 = v / 2 ^ (8 * (j + 1)) := by
  rw [show 8 * (j + 1) = 8 * j + 8 by omega, Int.pow_add, show (2 : Int) ^ 8 = 256 from rfl, Int.ediv_ediv_of_nonneg (Int.le_of_lt (two_pow_pos _))]
theorem shift_bound {v : Int} (hv : 0 ≤ v ∧ v < 18446744073709551616) (k : Nat) : 0 ≤ v / 2 ^ k ∧ v / 2 ^ k < 18446744073709551616 := by
  have hp := two_pow_pos k
  refine ⟨Int.ediv_nonneg hv.1 (Int.le_of_lt hp), ?_⟩
  have : v / 2 ^ k ≤ v := Int.ediv_le_self _ hv.1
  omega
set_option maxHeartbeats 3200000 in
/-- The reference's loop over a word's bytes. -/
theorem ref_loop {w2 : World} {a b rb lb Bb Tb : Nat} {bi ti : Nat → Nat} {st : List Pt} (h2 : RA w2 a b rb lb Bb Tb bi ti st) {i : Nat} {p : Pt} (hi : st[i]? = some p) (hne : bi i ≠ ti i) (hout : (bi i ≠ rb ∧ bi i ≠ lb ∧ bi i ≠ Bb ∧ bi i ≠ Tb) ∧ (ti i ≠ rb ∧ ti i ≠ lb ∧ ti i ≠ Bb ∧ ti i ≠ Tb)) (hil : i < st.length)
    {c1 c2 c3 : Nat} (hr : Has w2 rb [.slice (some ⟨lb, 0, none⟩) st.length c1, .slice (some ⟨Bb, 0, none⟩) st.length c2, .slice (some ⟨Tb, 0, none⟩) st.length c3]) {o : Nat} {oi : Int} (eo : oi = (o : Int)) {ii : Int} (ei : ii = (i : Int)) {v n : Int} {t : Bool} (hv : 0 ≤ v ∧ v < 18446744073709551616) (hn : 1 ≤ n ∧ n ≤ 8) (hk : o + n.toNat ≤ p.r.s.toNat) (lb' : p.bs.length = p.r.s.toNat) (lt' : p.ts.length = p.r.s.toNat) (hs20 : p.r.s.toNat ≤ 1048576) (n16 : st.length ≤ 16)
    {R : Ending → World → Prop} (hR : ∀ w', RefAt w' a b rb (layM st i p o (lowB v n.toNat) t) ∧ Kept a b w2 w' → R (.returned (i64v 0)) w') :
    ∃ (I : List Value → World → Prop), ∃ (μ : List Value → World → Nat), I [u64v v, i64v 0] w2 ∧ ∀ (g : Nat → Value) (v j : Int) (w' : World), I [u64v v, i64v j] w' →
      cnd (decide (j < n)) (Deref (some ⟨rb, 0, none⟩) fun (a : Addr) => ∃ (p : Option Addr), ∃ (n_6 : Nat), ∃ (c : Nat), w'.cell? (a.add 1) = some (.slice p n_6 c) ∧ (0 ≤ ii ∧ ii < (n_6 : Int)) ∧ Deref p fun (a : Addr) =>
        ∃ (p : Option Addr), ∃ (n_7 : Nat), ∃ (c : Nat), w'.cell? (a.add (ii.toNat * 1)) = some (.slice p n_7 c) ∧ (0 ≤ IntKind.i64.wrap (oi + j) ∧ IntKind.i64.wrap (oi + j) < (n_7 : Int)) ∧ Deref p fun (a : Addr) => ((w'.cell? (a.add ((IntKind.i64.wrap (oi + j)).toNat * 1))).isSome = true ∧ w'.frozen? (a.add ((IntKind.i64.wrap (oi + j)).toNat * 1)) = false) ∧
        ∀ (w'_1 : World), w'_1 = w'.setCell (a.add ((IntKind.i64.wrap (oi + j)).toNat * 1)) (.int .u8 (IntKind.u8.wrap (v.tmod 256))) → Deref (some ⟨rb, 0, none⟩) fun (a : Addr) =>
        ∃ (p : Option Addr), ∃ (n_8 : Nat), ∃ (c : Nat), w'_1.cell? (a.add 2) = some (.slice p n_8 c) ∧ (0 ≤ ii ∧ ii < (n_8 : Int)) ∧ Deref p fun (a : Addr) =>
        ∃ (p : Option Addr), ∃ (n_9 : Nat), ∃ (c : Nat), w'_1.cell? (a.add (ii.toNat * 1)) = some (.slice p n_9 c) ∧ (0 ≤ IntKind.i64.wrap (oi + j) ∧ IntKind.i64.wrap (oi + j) < (n_9 : Int)) ∧ Deref p fun (a : Addr) => ((w'_1.cell? (a.add ((IntKind.i64.wrap (oi + j)).toNat * 1))).isSome = true ∧ w'_1.frozen? (a.add ((IntKind.i64.wrap (oi + j)).toNat * 1)) = false) ∧
        ∀ (w'_2 : World), w'_2 = w'_1.setCell (a.add ((IntKind.i64.wrap (oi + j)).toNat * 1)) (.bool t) → Goes I μ [u64v v, i64v j] w' [u64v (IntKind.u64.wrap (v.tdiv 256)), i64v (IntKind.i64.wrap (j + 1))] w'_2)
      (R (.returned (i64v 0)) w') := by
  subst eo
  subst ei
  have ll := lowB_length v n.toNat
  refine ⟨fun vs w' => ∃ j : Nat, j ≤ n.toNat ∧ vs = [u64v (v / 2 ^ (8 * j)), i64v j] ∧ Wr w2 (bi i) (ti i) p o (lowB v n.toNat) t j w', fun vs _ => match vs with | [_, .int _ m] => n.toNat - m.toNat | _ => 0, ⟨0, by omega, by simp, h2.wr0 hi _ _ _⟩, ?_⟩
  rintro g v' jj w3 ⟨j, hj, hs', hW⟩
  simp only [List.cons.injEq, Value.int.injEq, true_and, and_true] at hs'
  obtain ⟨rfl, rfl⟩ := hs'
  refine cnd_of (fun hlt => ?_) fun hge => ?_
  · have hlt : j < n.toNat := by simp only [decide_eq_true_eq] at hlt; omega
    have hw : IntKind.i64.wrap ((o : Int) + (j : Int)) = ((o + j : Nat) : Int) := by rw [i64_in (by omega) (by omega)]; omega
    have hw2 : IntKind.i64.wrap ((j : Int) + 1) = ((j + 1 : Nat) : Int) := by rw [i64_in (by omega) (by omega)]; omega
    have sb := shift_bound hv (8 * j)
    have hx := lowB_get v n.toNat j hlt
    have eb : IntKind.u8.wrap ((v / 2 ^ (8 * j)).tmod 256) = v / 2 ^ (8 * j) % 256 := by
      rw [tmod_nn _ sb.1, wrap_u8]
      omega
    have ev : IntKind.u64.wrap ((v / 2 ^ (8 * j)).tdiv 256) = v / 2 ^ (8 * (j + 1)) := by
      have := shift_bound hv (8 * (j + 1))
      rw [tdiv_nn _ sb.1, shift8, u64_in this.1 this.2]
    rw [hw, hw2, eb, ev]
    have hr3 := hW.but.has hr (by show ¬ (rb = bi i ∨ rb = ti i); omega)
    have hB3 := hW.but.cell (h2.B i p hi) (by show ¬ (Bb = bi i ∨ Bb = ti i); omega)
    have hT3 := hW.but.cell (h2.T i p hi) (by show ¬ (Tb = bi i ∨ Tb = ti i); omega)
    have gB : o + j < (u8c (putL p.bs o ((lowB v n.toNat).take j))).length := by rw [u8c_length, putL_length (by rw [List.length_take]; omega)]; omega
    have gT : o + j < (boc (putL p.ts o (List.replicate j t))).length := by rw [boc_length, putL_length (by rw [List.length_replicate]; omega)]; omega
    refine Deref_some rfl ⟨_, _, _, hr3.cell (i := 1) rfl, by omega, Deref_some rfl ?_⟩
    rw [addr_cell]
    refine ⟨_, _, _, hB3, by omega, Deref_some rfl ?_⟩
    rw [addr_cell]
    refine ⟨⟨by rw [hW.hB.cell (List.getElem?_eq_getElem gB)]; rfl, hW.hB.frozen _⟩, fun w4 h4 => ?_⟩
    have hr4 := Has.setE hr3 (by omega) h4
    have hT4 : w4.cell? ⟨Tb, i, none⟩ = some (.slice (some ⟨ti i, 0, none⟩) p.ts.length p.ts.length) := by
      rw [h4]
      exact cell_kept hT3 (cell_heap (by show bi i ≠ Tb; omega))
    have hti4 := Has.setE hW.hT (fun e => hne e.symm) h4
    refine Deref_some rfl ⟨_, _, _, hr4.cell (i := 2) rfl, by omega, Deref_some rfl ?_⟩
    rw [addr_cell]
    refine ⟨_, _, _, hT4, by omega, Deref_some rfl ?_⟩
    rw [addr_cell]
    refine ⟨⟨by rw [hti4.cell (List.getElem?_eq_getElem gT)]; rfl, hti4.frozen _⟩, fun w5 h5 => ⟨⟨j + 1, by omega, rfl, hW.step hne hx (by omega) (by omega) h4 h5⟩, by show n.toNat - ((j + 1 : Nat) : Int).toNat < n.toNat - ((j : Nat) : Int).toNat; omega⟩⟩
  · have : j = n.toNat := by simp only [decide_eq_false_iff_not] at hge; omega
    subst this
    have hW' : Wr w2 (bi i) (ti i) p o (lowB v n.toNat) t (lowB v n.toNat).length w3 := by rw [ll]; exact hW
    exact hR _ (h2.wrote hi hW' (by rw [ll]; exact hk) (lowB_b8 v _))
set_option maxHeartbeats 3200000 in
theorem ref_Store_ok {a b rb : Nat} {st : List Pt} {x n v : Int} {t : Bool} (hx : 0 ≤ x ∧ x < 18446744073709551616) (hv : 0 ≤ v ∧ v < 18446744073709551616) {w : World} (hM : RefAt w a b rb st) :
    Calls Tryz.prog sacristy_ref04_Mem_Store.N #[.pointer (some ⟨rb, 0, none⟩), u64v x, i64v n, u64v v, .bool t] w (RWrote (i64v (storeM st x n v t).2) w a b rb (storeM st x n v t).1) := by
  have hM' := hM
  obtain ⟨lb, Bb, Tb, bi, ti, h⟩ := hM
  refine sacristy_ref04_Mem_Store.calls ?_
  unfold sacristy_ref04_Mem_Store.vc
  have two : (n < 1 ∨ 8 < n) → RWrote (i64v (storeM st x n v t).2) w a b rb (storeM st x n v t).1 (.returned (i64v 2)) w := fun hn => by
    rw [storeM, if_pos hn]
    exact ⟨rfl, Kept.refl _ _ _, hM'⟩
  refine cnd_of (fun h1 => two (.inl (by simpa using h1))) fun h1 => cnd_of (fun h2 => two (.inr (by simpa using h2))) fun h2 => ?_
  have hn : ¬ (n < 1 ∨ 8 < n) := by simp only [decide_eq_false_iff_not] at h1 h2; omega
  have eL : storeM st x n v t = match findM st x n with
    | none => (st, 40)
    | some (i, p) => if p.r.k = 3 ∨ p.r.k = 4 then (layM st i p (offR p x) (lowB v n.toNat) t, 0) else (st, 40) := by rw [storeM, if_neg hn] <;> rfl
  refine (ref_in_ok h hx).mono fun e w2 ⟨he, g2⟩ => ?_
  have h2 := h.later g2
  have n16 := h.ok.1
  cases hf : findM st x n with
  | none =>
    rw [refIn_none hf] at he
    rw [hf] at eL
    rw [eL]
    exact ⟨_, _, he, cnd_true rfl ⟨rfl, g2.kept _ _, hM'.later g2⟩⟩
  | some y =>
    obtain ⟨i, p⟩ := y
    rw [refIn_some hf] at he
    rw [hf] at eL
    simp only at eL
    obtain ⟨hi, hh⟩ := findM_get hf
    have hil : i < st.length := (List.getElem?_eq_some_iff.1 hi).1
    have hp := h.ok.2 i p hi
    obtain ⟨f1, f2, f3, f4⟩ := hasR_facts hp hh
    have m := mayR_facts hp.may
    have hn64 : n % 18446744073709551616 = n := by omega
    rw [hn64] at f4
    have hk : offR p x + n.toNat ≤ p.r.s.toNat := by omega
    have lb' := hp.bl
    have lt' := hp.tl
    have hne : bi i ≠ ti i := h.cross i i hil hil
    have hout := h.out i hil
    obtain ⟨c1, c2, c3, hr⟩ := h2.hr
    obtain ⟨ad, hA, d0, d1, d2, -⟩ := reg_cells h2.L (map_get hi)
    obtain rfl := Option.some.inj hA
    refine ⟨_, _, he, cnd_false (by rw [decide_eq_false_iff_not]; omega) (Deref_some rfl ⟨_, _, _, hr.cell rfl, by omega, Deref_some rfl ⟨_, d2, cnd_of (fun hk3 => Deref_some rfl ⟨_, _, _, hr.cell rfl, by omega, Deref_some rfl ⟨_, d2, cnd_of (fun hk4 => ?_) fun hk4 => ?_⟩⟩) fun hk3 => ?_⟩⟩)⟩
    · have h3 : ¬ p.r.k = 3 := by simpa using hk3
      have h4 : ¬ p.r.k = 4 := by simpa using hk4
      rw [if_neg (by omega)] at eL
      rw [eL]
      exact ⟨rfl, g2.kept _ _, hM'.later g2⟩
    · have hk34 : p.r.k = 3 ∨ p.r.k = 4 := .inr (by simpa using hk4)
      rw [if_pos hk34] at eL
      rw [eL]
      exact ref_loop h2 hi hne hout hil hr rfl rfl hv (by omega) hk (by omega) (by omega) (by omega) n16 (fun w' hl => ⟨rfl, (g2.kept a b).trans hl.2, hl.1⟩)
    · have hk34 : p.r.k = 3 ∨ p.r.k = 4 := .inl (by simpa using hk3)
      rw [if_pos hk34] at eL
      rw [eL]
      exact ref_loop h2 hi hne hout hil hr rfl rfl hv (by omega) hk (by omega) (by omega) (by omega) n16 (fun w' hl => ⟨rfl, (g2.kept a b).trans hl.2, hl.1⟩)
end Go.Proofs.YtcnnnlhoiodeaaaGreat

/-
The reference's memory: fetching, setting, bytes; rows compared.
Conditions: each theorem's hypotheses.
-/
namespace Go.Proofs.YtcnnnlhoiodeaaaGreat
open Go Go.Vc Go.RowKit
set_option maxRecDepth 100000

set_option maxHeartbeats 3200000 in
theorem ref_Fetch_ok {a b rb : Nat} {st : List Pt} {x : Int} (hx : 0 ≤ x ∧ x < 18446744073709551616) {w : World} (hM : RefAt w a b rb st) :
    Calls Tryz.prog sacristy_ref04_Mem_Fetch.N #[.pointer (some ⟨rb, 0, none⟩), u64v x] w (Gives (.tuple #[.int .u32 (fetchM st x).1, i64v (fetchM st x).2]) w) := by
  obtain ⟨lb, Bb, Tb, bi, ti, h⟩ := hM
  refine sacristy_ref04_Mem_Fetch.calls ?_
  unfold sacristy_ref04_Mem_Fetch.vc
  refine (ref_in_ok h hx).mono fun e w2 ⟨he, g2⟩ => ?_
  have h2 := h.later g2
  have n16 := h.ok.1
  rw [tmod_nn _ hx.1]
  have out : ∀ n n1 : Int, e = .returned (.tuple #[i64v n, i64v n1]) → ¬ x % 4 = 0 → ∃ n n_1, e = .returned (.tuple #[i64v n, i64v n_1]) ∧ True := fun n n1 h _ => ⟨n, n1, h, trivial⟩
  by_cases h4 : x % 4 = 0
  · have eL : fetchM st x = match findM st x 4 with
      | none => (0, 40)
      | some (_, p) => if p.r.k = 1 then (valB ((p.bs.drop (offR p x)).take 4), 0) else (0, 40) := by rw [fetchM, if_pos h4] <;> rfl
    cases hf : findM st x 4 with
    | none =>
      rw [refIn_none hf] at he
      rw [hf] at eL
      rw [eL]
      exact ⟨_, _, he, cnd_false (by simp [h4]) (cnd_true rfl ⟨rfl, g2⟩)⟩
    | some y =>
      obtain ⟨i, p⟩ := y
      rw [refIn_some hf] at he
      rw [hf] at eL
      simp only at eL
      obtain ⟨hi, hh⟩ := findM_get hf
      have hil : i < st.length := (List.getElem?_eq_some_iff.1 hi).1
      have hp := h.ok.2 i p hi
      obtain ⟨f1, f2, f3, f4⟩ := hasR_facts hp hh
      have m := mayR_facts hp.may
      have hk : offR p x + 4 ≤ p.r.s.toNat := by omega
      have lb' := hp.bl
      obtain ⟨c1, c2, c3, hr⟩ := h2.hr
      obtain ⟨ad, hA, d0, d1, d2, -⟩ := reg_cells h2.L (map_get hi)
      obtain rfl := Option.some.inj hA
      refine ⟨_, _, he, cnd_false (by simp [h4]) (cnd_false (by rw [decide_eq_false_iff_not]; omega) (Deref_some rfl ⟨_, _, _, hr.cell rfl, by omega, Deref_some rfl ⟨_, d2, cnd_of (fun hk1 => ⟨?_, g2⟩) fun hk1 => ?_⟩⟩))⟩
      · rw [eL, if_neg (by simpa using hk1)]
      have hk1 : p.r.k = 1 := by simpa using hk1
      rw [if_pos hk1] at eL
      let PB := (p.bs.drop (offR p x)).take 4
      have lPB : PB.length = 4 := by show ((p.bs.drop (offR p x)).take 4).length = _; rw [List.length_take, List.length_drop]; omega
      refine ⟨fun vs w' => ∃ j : Nat, j ≤ 4 ∧ vs = [.int .u32 (valB (PB.drop j)), i64v ((j : Int) - 1)] ∧ w' = w2, fun vs _ => match vs with | [_, .int _ m] => (m + 1).toNat | _ => 0,
        ⟨4, by omega, by rw [List.drop_of_length_le (by omega)]; rfl, rfl⟩, ?_⟩
      rintro g v jj w3 ⟨j, hj, hs', rfl⟩
      simp only [List.cons.injEq, Value.int.injEq, true_and, and_true] at hs'
      obtain ⟨rfl, rfl⟩ := hs'
      refine cnd_of (fun hge => ?_) fun hlt => ?_
      · have hj1 : 1 ≤ j := by simp only [decide_eq_true_eq] at hge; omega
        obtain ⟨j, rfl⟩ : ∃ k, j = k + 1 := ⟨j - 1, by omega⟩
        have ej : (((j + 1 : Nat) : Int) - 1) = (j : Int) := by omega
        rw [ej]
        obtain ⟨xb, hxb, exb⟩ := part_get (l := p.bs) (k := offR p x) (n := 4) (j := j) (by omega) (by omega)
        have hw : IntKind.i64.wrap ((offR p x : Int) + (j : Int)) = ((offR p x + j : Nat) : Int) := by rw [i64_in (by omega) (by omega)]; omega
        have hw2 : IntKind.i64.wrap ((j : Int) - 1) = (j : Int) - 1 := i64_in (by omega) (by omega)
        rw [hw, hw2]
        have hb8 : ∀ b ∈ PB, 0 ≤ b ∧ b < 256 := b8_part hp _ _
        have hxb8 : 0 ≤ xb ∧ xb < 256 := hp.b8 xb (List.mem_of_getElem? hxb)
        have eB : valB (PB.drop j) = xb + 256 * valB (PB.drop (j + 1)) := by
          show valB (((p.bs.drop (offR p x)).take 4).drop j) = _
          rw [exb]
          rfl
        have bnd : 0 ≤ valB (PB.drop j) ∧ valB (PB.drop j) < 4294967296 := by
          have h1 := valB_lt (PB.drop j) fun b hb => hb8 b (List.mem_of_mem_drop hb)
          have hl : (PB.drop j).length ≤ 4 := by rw [List.length_drop, lPB]; omega
          have : (2 : Int) ^ (8 * (PB.drop j).length) ≤ 4294967296 := by
            have h1 := pow_leI (show 8 * (PB.drop j).length ≤ 32 by omega)
            rwa [show (2 : Int) ^ 32 = 4294967296 by decide] at h1
          omega
        have bnd1 := (valB_lt (PB.drop (j + 1)) fun b hb => hb8 b (List.mem_of_mem_drop hb)).1
        have ev : IntKind.u32.wrap (IntKind.u32.wrap (256 * valB (PB.drop (j + 1))) + IntKind.u32.wrap xb) = valB (PB.drop j) := by
          rw [u32_in (x := 256 * valB (PB.drop (j + 1))) (by omega) (by omega), u32_in (x := xb) (by omega) (by omega), u32_in (by omega) (by omega), eB]
          omega
        have dec : (((j : Int) - 1) + 1).toNat < ((j : Int) + 1).toNat := by omega
        refine Deref_some rfl ⟨_, _, _, hr.cell (i := 1) rfl, by omega, Deref_some rfl ?_⟩
        rw [addr_cell]
        refine ⟨_, _, _, h2.B i p hi, by omega, Deref_some rfl ?_⟩
        rw [addr_cell]
        refine ⟨xb, h2.byte hi hxb, ?_⟩
        rw [ev]
        exact ⟨⟨j, by omega, rfl, rfl⟩, by simpa using dec⟩
      · have : j = 0 := by simp only [decide_eq_false_iff_not] at hlt; omega
        subst this
        refine ⟨?_, g2⟩
        rw [eL]
        rfl
  · rw [fetchM, if_neg h4]
    cases hf : findM st x 4 with
    | none =>
      rw [refIn_none hf] at he
      exact ⟨_, _, he, cnd_true (by simpa using h4) ⟨rfl, g2⟩⟩
    | some y =>
      obtain ⟨i, p⟩ := y
      rw [refIn_some hf] at he
      exact ⟨_, _, he, cnd_true (by simpa using h4) ⟨rfl, g2⟩⟩
theorem Wr.later {w w' w'' : World} {bi ti : Nat} {p : Pt} {k : Nat} {l : List Int} {t : Bool} {j : Nat} (h : Wr w bi ti p k l t j w') (hl : Later w' w'') : Wr w bi ti p k l t j w'' := ⟨h.but.trans (hl.but _), h.hB.later hl, h.hT.later hl⟩
theorem strB_at {s : ByteArray} {j : Nat} (h : j < s.size) : ∃ b : UInt8, s[j]? = some b ∧ (strB s)[j]? = some (b.toNat : Int) := by
  refine ⟨_, get_byte h, ?_⟩
  unfold strB
  rw [List.getElem?_map, List.getElem?_eq_getElem (by simpa using h)]
  rfl
set_option maxHeartbeats 3200000 in
theorem ref_Set_ok {a b rb : Nat} {st : List Pt} {x : Int} {s : ByteArray} (hs : s.size < 9223372036854775808) {t : Bool} (hx : 0 ≤ x ∧ x < 18446744073709551616) {w : World} (hM : RefAt w a b rb st) :
    Calls Tryz.prog sacristy_ref04_Mem_Set.N #[.pointer (some ⟨rb, 0, none⟩), u64v x, .string s, .bool t] w (RWrote (i64v (setM st x (strB s) t).2) w a b rb (setM st x (strB s) t).1) := by
  have hM' := hM
  obtain ⟨lb, Bb, Tb, bi, ti, h⟩ := hM
  refine sacristy_ref04_Mem_Set.calls ?_
  unfold sacristy_ref04_Mem_Set.vc
  have eL : setM st x (strB s) t = match findM st x (s.size : Int) with
    | none => (st, 40)
    | some (i, p) => (layM st i p (offR p x) (strB s) t, 0) := by rw [setM, strB_length] <;> rfl
  refine (ref_in_ok h hx).mono fun e w2 ⟨he, g2⟩ => ?_
  have h2 := h.later g2
  have n16 := h.ok.1
  cases hf : findM st x (s.size : Int) with
  | none =>
    rw [refIn_none hf] at he
    rw [hf] at eL
    rw [eL]
    exact ⟨_, _, he, cnd_true rfl ⟨rfl, g2.kept _ _, hM'.later g2⟩⟩
  | some y =>
    obtain ⟨i, p⟩ := y
    rw [refIn_some hf] at he
    rw [hf] at eL
    simp only at eL
    obtain ⟨hi, hh⟩ := findM_get hf
    have hil : i < st.length := (List.getElem?_eq_some_iff.1 hi).1
    have hp := h.ok.2 i p hi
    obtain ⟨f1, f2, f3, f4⟩ := hasR_facts hp hh
    have m := mayR_facts hp.may
    have hk : offR p x + s.size ≤ p.r.s.toNat := by omega
    have lb' := hp.bl
    have lt' := hp.tl
    have hne : bi i ≠ ti i := h.cross i i hil hil
    have hout := h.out i hil
    obtain ⟨c1, c2, c3, hr⟩ := h2.hr
    have ls := strB_length s
    refine ⟨_, _, he, cnd_false (by rw [decide_eq_false_iff_not]; omega) ?_⟩
    refine ⟨fun vs w' => ∃ j : Nat, j ≤ s.size ∧ vs = [i64v j] ∧ Wr w2 (bi i) (ti i) p (offR p x) (strB s) t j w', fun vs _ => match vs with | [.int _ m] => s.size - m.toNat | _ => 0, ⟨0, by omega, rfl, h2.wr0 hi _ _ _⟩, ?_⟩
    rintro g jj w3 ⟨j, hj, hs', hW⟩
    simp only [List.cons.injEq, Value.int.injEq, true_and, and_true] at hs'
    subst hs'
    refine cnd_of (fun hlt => ?_) fun hge => ?_
    · have hlt : j < s.size := by simp only [decide_eq_true_eq] at hlt; omega
      have hw : IntKind.i64.wrap ((offR p x : Int) + (j : Int)) = ((offR p x + j : Nat) : Int) := by rw [i64_in (by omega) (by omega)]; omega
      have hw2 : IntKind.i64.wrap ((j : Int) + 1) = ((j + 1 : Nat) : Int) := by rw [i64_in (by omega) (by omega)]; omega
      rw [hw, hw2]
      obtain ⟨bt, hbt, hx'⟩ := strB_at hlt
      have hr3 := hW.but.has hr (by show ¬ (rb = bi i ∨ rb = ti i); omega)
      have hB3 := hW.but.cell (h2.B i p hi) (by show ¬ (Bb = bi i ∨ Bb = ti i); omega)
      have hT3 := hW.but.cell (h2.T i p hi) (by show ¬ (Tb = bi i ∨ Tb = ti i); omega)
      have gB : offR p x + j < (u8c (putL p.bs (offR p x) ((strB s).take j))).length := by rw [u8c_length, putL_length (by rw [List.length_take]; omega)]; omega
      have gT : offR p x + j < (boc (putL p.ts (offR p x) (List.replicate j t))).length := by rw [boc_length, putL_length (by rw [List.length_replicate]; omega)]; omega
      refine Deref_some rfl ⟨_, _, _, fun w' hl => (hr3.later hl).cell (i := 1) rfl, by omega, Deref_some rfl ?_⟩
      rw [addr_cell]
      refine ⟨_, _, _, fun w' hl => hl.cell_some hB3, by omega, bt, by rw [Int.toNat_natCast]; exact hbt, by omega, Deref_some rfl ?_⟩
      rw [addr_cell]
      intro w3' hl3
      have hW := hW.later hl3
      have hr3 := hr3.later hl3
      have hT3 := hl3.cell_some hT3
      refine ⟨⟨by rw [hW.hB.cell (List.getElem?_eq_getElem gB)]; rfl, hW.hB.frozen _⟩, fun w4 h4 => ?_⟩
      have hr4 := Has.setE hr3 (by omega) h4
      have hT4 : w4.cell? ⟨Tb, i, none⟩ = some (.slice (some ⟨ti i, 0, none⟩) p.ts.length p.ts.length) := by
        rw [h4]
        exact cell_kept hT3 (cell_heap (by show bi i ≠ Tb; omega))
      have hti4 := Has.setE hW.hT (fun e => hne e.symm) h4
      refine Deref_some rfl ⟨_, _, _, hr4.cell (i := 2) rfl, by omega, Deref_some rfl ?_⟩
      rw [addr_cell]
      refine ⟨_, _, _, hT4, by omega, Deref_some rfl ?_⟩
      rw [addr_cell]
      refine ⟨⟨by rw [hti4.cell (List.getElem?_eq_getElem gT)]; rfl, hti4.frozen _⟩, fun w5 h5 => ⟨⟨j + 1, by omega, rfl, hW.step hne hx' (by omega) (by omega) h4 h5⟩, by show s.size - ((j + 1 : Nat) : Int).toNat < s.size - ((j : Nat) : Int).toNat; omega⟩⟩
    · have : j = s.size := by simp only [decide_eq_false_iff_not] at hge; omega
      subst this
      have hW' : Wr w2 (bi i) (ti i) p (offR p x) (strB s) t (strB s).length w3 := by rw [ls]; exact hW
      obtain ⟨r1, r2⟩ := h2.wrote hi hW' (by rw [ls]; exact hk) (strB_b8 s)
      rw [eL]
      exact ⟨rfl, (g2.kept a b).trans r2, r1⟩
theorem ref_Same_ok {l k : List Bool} {A B : Option Addr} {c1 c2 : Nat} (hl : l.length ≤ 16777216) {w : World} (hr : ERow boT w A l) (hq : ERow boT w B k) : Calls Tryz.prog ref04_Same.N #[.slice A l.length c1, .slice B k.length c2] w (Gives (.bool (decide (l = k))) w) := by
  refine ref04_Same.calls ?_
  unfold ref04_Same.vc
  refine cnd_of (fun h => ⟨?_, Later.refl _⟩) fun h => ?_
  · have : l ≠ k := fun e => by rw [e] at h; simp at h
    rw [decide_eq_false this]
  have hlk : l.length = k.length := by
    have : ((l.length : Int) = (k.length : Int)) := by simpa using h
    omega
  refine ⟨fun vs w' => ∃ j : Nat, j ≤ l.length ∧ vs = [i64v j] ∧ (∀ i, i < j → l[i]? = k[i]?) ∧ Later w w', fun vs _ => match vs with | [.int _ n] => l.length - n.toNat | _ => 0, ⟨0, by omega, rfl, fun i hi => by omega, Later.refl _⟩, ?_⟩
  rintro g i w1 ⟨j, hj, hs, hno, g1⟩
  simp only [List.cons.injEq, Value.int.injEq, true_and, and_true] at hs
  subst hs
  refine cnd_of (fun hlt => ?_) fun hge => ?_
  · have hlt : j < l.length := by simp only [decide_eq_true_eq] at hlt; omega
    have e1 := List.getElem?_eq_getElem hlt
    have e2 := List.getElem?_eq_getElem (l := k) (i := j) (by omega)
    generalize l[j] = x at e1
    generalize k[j]'(by omega) = y at e2
    obtain ⟨ad, rfl, ha⟩ := hr j x e1
    obtain ⟨bd, rfl, hb⟩ := hq j y e2
    have ha := ha 0 _ rfl
    have hb := hb 0 _ rfl
    rw [addr_add_zero] at ha hb
    have hw : IntKind.i64.wrap ((j : Int) + 1) = ((j + 1 : Nat) : Int) := by rw [i64_in (by omega) (by omega)]; omega
    rw [hw]
    refine ⟨by omega, Deref_some rfl ⟨x, fun w' hl' => (g1.trans hl').cell_some (by simpa [boT] using ha), by omega, Deref_some rfl ⟨y, fun w' hl' => (g1.trans hl').cell_some (by simpa [boT] using hb), fun w2 g2 => ?_⟩⟩⟩
    refine cnd_of (fun hne => ⟨?_, g1.trans g2⟩) fun heq => ⟨⟨j + 1, by omega, rfl, fun i hi => ?_, g1.trans g2⟩, by show l.length - ((j + 1 : Nat) : Int).toNat < l.length - ((j : Nat) : Int).toNat; omega⟩
    · have : l ≠ k := fun e => by
        rw [e, e2] at e1
        have := Option.some.inj e1
        subst this
        simp at hne
      rw [decide_eq_false this]
    · by_cases hij : i = j
      · subst hij
        have : x = y := by simpa using heq
        rw [e1, e2, this]
      · exact hno i (by omega)
  · have : j = l.length := by simp only [decide_eq_false_iff_not] at hge; omega
    subst this
    refine ⟨?_, g1⟩
    have : l = k := List.ext_getElem? fun i => by
      by_cases hi : i < l.length
      · exact hno i hi
      · rw [List.getElem?_eq_none (by omega), List.getElem?_eq_none (by omega)]
    rw [decide_eq_true this]
end Go.Proofs.YtcnnnlhoiodeaaaGreat

/-
The reference's memory: New.
Conditions: each theorem's hypotheses.
-/
namespace Go.Proofs.YtcnnnlhoiodeaaaGreat
open Go Go.Vc Go.RowKit
set_option maxRecDepth 100000

def slT : ElT (Nat × Nat) := ⟨1, by decide, fun e => [.slice (some ⟨e.1, 0, none⟩) e.2 e.2], fun _ => rfl, fun a u hu => by rw [List.mem_singleton.1 hu]; rfl⟩
theorem rtBB : RowTy Tryz.prog 138 90 1 24 := RowTy.of (.slice none 0 0) (by kernel_rfl) (by kernel_rfl) rfl (by decide)
theorem rtTT : RowTy Tryz.prog 139 61 1 24 := RowTy.of (.slice none 0 0) (by kernel_rfl) (by kernel_rfl) rfl (by decide)
structure RBld (w w3 : World) (l : List Reg) (rb lb cL : Nat) (W : World) (iB iT : Nat) (PB : Option Addr) (cB : Nat) (PT : Option Addr) (cT : Nat) (eB eT : List (Nat × Nat)) : Prop where
  trk : Trk w W [(rb, [.slice (some ⟨lb, 0, none⟩) l.length cL, .slice PB iB cB, .slice PT iT cT])]
  L : ERow regT W (some ⟨lb, 0, none⟩) l
  lbr : w.heap.size ≤ lb ∧ lb < w3.heap.size ∧ lb ≠ rb ∧ rb < w3.heap.size
  ownB : OwnE slT w3 W 90 PB cB eB
  ownT : OwnE slT w3 W 61 PT cT eT
  lenB : eB.length = iB
  lenT : eT.length = iT
  prtB : ∀ (j : Nat) (e : Nat × Nat) (x : Reg), eB[j]? = some e → l[j]? = some x → e.2 = x.s.toNat ∧ Has W e.1 (u8c (List.replicate x.s.toNat 0))
  prtT : ∀ (j : Nat) (e : Nat × Nat) (x : Reg), eT[j]? = some e → l[j]? = some x → e.2 = x.s.toNat ∧ Has W e.1 (boc (List.replicate x.s.toNat false))
  ltB : ∀ e ∈ eB, e.1 < W.heap.size
  ltT : ∀ e ∈ eT, e.1 < W.heap.size
  nod : (eB.map (·.1) ++ eT.map (·.1)).Nodup
  geB : ∀ e ∈ eB, w3.heap.size ≤ e.1 ∧ rowB PB ≠ some e.1 ∧ rowB PT ≠ some e.1
  geT : ∀ e ∈ eT, w3.heap.size ≤ e.1 ∧ rowB PB ≠ some e.1 ∧ rowB PT ≠ some e.1
  ne : ∀ k, rowB PB = some k → rowB PT = some k → False
  le : w3.heap.size ≤ W.heap.size
theorem RBld.stepB {w w3 : World} {l : List Reg} {rb lb cL : Nat} {W : World} {iB iT : Nat} {PB : Option Addr} {cB : Nat} {PT : Option Addr} {cT : Nat} {eB eT : List (Nat × Nat)} (h : RBld w w3 l rb lb cL W iB iT PB cB PT cT eB eT) {x : Reg} (hx : l[eB.length]? = some x)
    {W4 W6 W7 : World} {b : Nat} (g4 : Later W W4) (hb : Has W4 b (u8c (List.replicate x.s.toNat 0))) (hbW : W.heap.size ≤ b) {P' : Option Addr} {c' : Nat} (ho : OwnE slT w3 W6 90 P' c' (eB ++ [(b, x.s.toNat)])) (hbut : But (fun k => rowB PB = some k) W4 W6) (hne : ∀ k, k < W4.heap.size → rowB PB ≠ some k → rowB P' ≠ some k)
    (e7 : W7 = W6.setCell ⟨rb, 1, none⟩ (.slice P' (eB ++ [(b, x.s.toNat)]).length c')) : RBld w w3 l rb lb cL W7 (eB ++ [(b, x.s.toNat)]).length iT P' c' PT cT (eB ++ [(b, x.s.toNat)]) eT := by
  have hw3 : w.heap.size ≤ w3.heap.size := by have := h.lbr; omega
  have sB : ∀ k, rowB PB = some k → w3.heap.size ≤ k ∧ k < W.heap.size := fun k hk => h.ownB.lt hk
  have sT : ∀ k, rowB PT = some k → w3.heap.size ≤ k ∧ k < W.heap.size := fun k hk => h.ownT.lt hk
  have sP : ∀ k, rowB P' = some k → w3.heap.size ≤ k := fun k hk => (ho.lt hk).1
  have s4 := Later.size g4
  have s6 := hbut.size
  have e67 : W7.heap.size = W6.heap.size := by rw [e7]; simp [World.setCell]
  have hrb := h.lbr.2.2.2
  -- a block that is neither the row's nor rb's
  have keep : ∀ {k : Nat} {cs : List Value}, Has W4 k cs → rowB PB ≠ some k → k ≠ rb → Has W7 k cs := fun hk hn hr => Has.setE (hbut.has hk hn) hr e7
  have L4 := h.trk.later g4
  have L6 : Trk w W6 _ := L4.but hbut (fun k hk => by have := sB k hk; omega) (fun y hy => by
    obtain rfl : y = _ := by simpa using hy
    intro hk
    have := sB _ hk
    omega)
  have L7 := L6.setCell (i := 1) 0 (.slice P' (eB ++ [(b, x.s.toNat)]).length c') rfl
  rw [← e7] at L7
  refine ⟨L7, ?_, h.lbr, ?_, ?_, rfl, h.lenT, ?_, ?_, ?_, ?_, ?_, ?_, ?_, ?_, by have := h.le; omega⟩
  · refine erow_kept h.L fun hl => ?_
    rw [e7, cell_heap (by show rb ≠ lb; exact fun e => h.lbr.2.2.1 e.symm), hbut.keep lb (by omega) fun hk => by have := sB _ hk; have := h.lbr; omega]
    exact Later.block g4 hl
  · exact OwnS.kept ho fun k hk => by rw [e7]; exact cell_heap (by have := sP k hk; show rb ≠ k; omega)
  · refine OwnS.kept (OwnS.later h.ownT g4) fun k hk => ?_
    rw [e7, cell_heap (by have := sT k hk; show rb ≠ k; omega)]
    exact hbut.keep k (by have := sT k hk; omega) fun hk2 => h.ne k hk2 hk
  · intro j e y hj hy
    rw [List.getElem?_append] at hj
    split at hj
    · obtain ⟨q1, q2⟩ := h.prtB j e y hj hy
      have ge := h.geB e (List.mem_of_getElem? hj)
      exact ⟨q1, keep (q2.later g4) ge.2.1 (by omega)⟩
    · have hjj : j = eB.length := by
        have := (List.getElem?_eq_some_iff.1 hj).1
        simp at this
        omega
      subst hjj
      rw [hx] at hy
      obtain rfl := Option.some.inj hy
      obtain rfl : (b, x.s.toNat) = e := by simpa using hj
      exact ⟨rfl, keep hb (fun hk => by have := sB _ hk; omega) (by show b ≠ rb; have := h.le; omega)⟩
  · intro j e y hj hy
    obtain ⟨q1, q2⟩ := h.prtT j e y hj hy
    have ge := h.geT e (List.mem_of_getElem? hj)
    exact ⟨q1, keep (q2.later g4) ge.2.1 (by omega)⟩
  · intro e he
    rcases List.mem_append.1 he with he | he
    · have := h.ltB e he
      omega
    · obtain rfl : e = (b, x.s.toNat) := by simpa using he
      have := hb.lt
      show b < _
      omega
  · intro e he
    have := h.ltT e he
    omega
  · have hn := h.nod
    rw [List.map_append, List.map_cons, List.map_nil, List.append_assoc]
    rw [List.nodup_append] at hn ⊢
    obtain ⟨n1, n2, n3⟩ := hn
    refine ⟨n1, ?_, ?_⟩
    · rw [List.cons_append, List.nil_append, List.nodup_cons]
      refine ⟨fun hm => ?_, n2⟩
      obtain ⟨e, he, e1⟩ := List.mem_map.1 hm
      have := h.ltT e he
      omega
    · intro y hy z hz
      rcases List.mem_cons.1 hz with rfl | hz
      · obtain ⟨e, he, rfl⟩ := List.mem_map.1 hy
        have := h.ltB e he
        omega
      · exact n3 y hy z hz
  · intro e he
    rcases List.mem_append.1 he with he | he
    · have ge := h.geB e he
      have lt := h.ltB e he
      exact ⟨ge.1, hne _ (by omega) ge.2.1, ge.2.2⟩
    · obtain rfl : e = (b, x.s.toNat) := by simpa using he
      exact ⟨by have := h.le; show _ ≤ b; omega, hne b hb.lt fun hk => by have := sB _ hk; omega, fun hk => by have := sT _ hk; simp only at this; omega⟩
  · intro e he
    have ge := h.geT e he
    have lt := h.ltT e he
    exact ⟨ge.1, hne _ (by omega) ge.2.1, ge.2.2⟩
  · intro k h1 h2
    have := sT k h2
    exact hne k (by omega) (fun hk => h.ne k hk h2) h1
theorem RBld.stepT {w w3 : World} {l : List Reg} {rb lb cL : Nat} {W : World} {iB iT : Nat} {PB : Option Addr} {cB : Nat} {PT : Option Addr} {cT : Nat} {eB eT : List (Nat × Nat)} (h : RBld w w3 l rb lb cL W iB iT PB cB PT cT eB eT) {x : Reg} (hx : l[eT.length]? = some x)
    {W4 W6 W7 : World} {b : Nat} (g4 : Later W W4) (hb : Has W4 b (boc (List.replicate x.s.toNat false))) (hbW : W.heap.size ≤ b) {P' : Option Addr} {c' : Nat} (ho : OwnE slT w3 W6 61 P' c' (eT ++ [(b, x.s.toNat)])) (hbut : But (fun k => rowB PT = some k) W4 W6) (hne : ∀ k, k < W4.heap.size → rowB PT ≠ some k → rowB P' ≠ some k)
    (e7 : W7 = W6.setCell ⟨rb, 2, none⟩ (.slice P' (eT ++ [(b, x.s.toNat)]).length c')) : RBld w w3 l rb lb cL W7 iB (eT ++ [(b, x.s.toNat)]).length PB cB P' c' eB (eT ++ [(b, x.s.toNat)]) := by
  have hw3 : w.heap.size ≤ w3.heap.size := by have := h.lbr; omega
  have sB : ∀ k, rowB PB = some k → w3.heap.size ≤ k ∧ k < W.heap.size := fun k hk => h.ownB.lt hk
  have sT : ∀ k, rowB PT = some k → w3.heap.size ≤ k ∧ k < W.heap.size := fun k hk => h.ownT.lt hk
  have sP : ∀ k, rowB P' = some k → w3.heap.size ≤ k := fun k hk => (ho.lt hk).1
  have s4 := Later.size g4
  have s6 := hbut.size
  have e67 : W7.heap.size = W6.heap.size := by rw [e7]; simp [World.setCell]
  have hrb := h.lbr.2.2.2
  have keep : ∀ {k : Nat} {cs : List Value}, Has W4 k cs → rowB PT ≠ some k → k ≠ rb → Has W7 k cs := fun hk hn hr => Has.setE (hbut.has hk hn) hr e7
  have L4 := h.trk.later g4
  have L6 : Trk w W6 _ := L4.but hbut (fun k hk => by have := sT k hk; omega) (fun y hy => by
    obtain rfl : y = _ := by simpa using hy
    intro hk
    have := sT _ hk
    omega)
  have L7 := L6.setCell (i := 2) 0 (.slice P' (eT ++ [(b, x.s.toNat)]).length c') rfl
  rw [← e7] at L7
  refine ⟨L7, ?_, h.lbr, ?_, ?_, h.lenB, rfl, ?_, ?_, ?_, ?_, ?_, ?_, ?_, ?_, by have := h.le; omega⟩
  · refine erow_kept h.L fun hl => ?_
    rw [e7, cell_heap (by show rb ≠ lb; exact fun e => h.lbr.2.2.1 e.symm), hbut.keep lb (by omega) fun hk => by have := sT _ hk; have := h.lbr; omega]
    exact Later.block g4 hl
  · refine OwnS.kept (OwnS.later h.ownB g4) fun k hk => ?_
    rw [e7, cell_heap (by have := sB k hk; show rb ≠ k; omega)]
    exact hbut.keep k (by have := sB k hk; omega) fun hk2 => h.ne k hk hk2
  · exact OwnS.kept ho fun k hk => by rw [e7]; exact cell_heap (by have := sP k hk; show rb ≠ k; omega)
  · intro j e y hj hy
    obtain ⟨q1, q2⟩ := h.prtB j e y hj hy
    have ge := h.geB e (List.mem_of_getElem? hj)
    exact ⟨q1, keep (q2.later g4) ge.2.2 (by omega)⟩
  · intro j e y hj hy
    rw [List.getElem?_append] at hj
    split at hj
    · obtain ⟨q1, q2⟩ := h.prtT j e y hj hy
      have ge := h.geT e (List.mem_of_getElem? hj)
      exact ⟨q1, keep (q2.later g4) ge.2.2 (by omega)⟩
    · have hjj : j = eT.length := by
        have := (List.getElem?_eq_some_iff.1 hj).1
        simp at this
        omega
      subst hjj
      rw [hx] at hy
      obtain rfl := Option.some.inj hy
      obtain rfl : (b, x.s.toNat) = e := by simpa using hj
      exact ⟨rfl, keep hb (fun hk => by have := sT _ hk; omega) (by show b ≠ rb; have := h.le; omega)⟩
  · intro e he
    have := h.ltB e he
    omega
  · intro e he
    rcases List.mem_append.1 he with he | he
    · have := h.ltT e he
      omega
    · obtain rfl : e = (b, x.s.toNat) := by simpa using he
      have := hb.lt
      show b < _
      omega
  · have hn := h.nod
    rw [List.map_append, List.map_cons, List.map_nil]
    rw [List.nodup_append] at hn ⊢
    obtain ⟨n1, n2, n3⟩ := hn
    refine ⟨n1, ?_, ?_⟩
    · rw [List.nodup_append]
      refine ⟨n2, by simp, fun y hy z hz => ?_⟩
      obtain rfl : z = b := by simpa using hz
      obtain ⟨e, he, rfl⟩ := List.mem_map.1 hy
      have := h.ltT e he
      omega
    · intro y hy z hz
      rcases List.mem_append.1 hz with hz | hz
      · exact n3 y hy z hz
      · obtain rfl : z = b := by simpa using hz
        obtain ⟨e, he, rfl⟩ := List.mem_map.1 hy
        have := h.ltB e he
        omega
  · intro e he
    have ge := h.geB e he
    have lt := h.ltB e he
    exact ⟨ge.1, ge.2.1, hne _ (by omega) ge.2.2⟩
  · intro e he
    rcases List.mem_append.1 he with he | he
    · have ge := h.geT e he
      have lt := h.ltT e he
      exact ⟨ge.1, ge.2.1, hne _ (by omega) ge.2.2⟩
    · obtain rfl : e = (b, x.s.toNat) := by simpa using he
      exact ⟨by have := h.le; show _ ≤ b; omega, fun hk => by have := sB _ hk; simp only at this; omega, hne b hb.lt fun hk => by have := sT _ hk; omega⟩
  · intro k h1 h2
    have := sB k h1
    exact hne k (by omega) (fun hk => h.ne k h1 hk) h2
theorem RBld.done {w w3 : World} {l : List Reg} {rb lb cL : Nat} {W : World} {PB : Option Addr} {cB : Nat} {PT : Option Addr} {cT : Nat} {eB eT : List (Nat × Nat)} (h : RBld w w3 l rb lb cL W l.length l.length PB cB PT cT eB eT) (hl : RegsIn l) (hm : mayL l = true) : RefAt W w.heap.size W.heap.size rb (newM l) := by
  have hm' := hm
  simp only [mayL, Bool.and_eq_true, decide_eq_true_eq] at hm'
  obtain ⟨⟨n1, n16⟩, hok⟩ := hm'
  have lB := h.lenB
  have lT := h.lenT
  obtain ⟨gB, rfl, -⟩ := h.ownB.split (by omega)
  obtain ⟨gT, rfl, -⟩ := h.ownT.split (by omega)
  have hgB := h.ownB.lt (k := gB) rfl
  have hgT := h.ownT.lt (k := gT) rfl
  have hnl : (newM l).length = l.length := by simp [newM]
  have hget : ∀ (i : Nat) (p : Pt), (newM l)[i]? = some p → ∃ x, l[i]? = some x ∧ p = newP x := by
    intro i p hi
    simp only [newM, List.getElem?_map, Option.map_eq_some_iff] at hi
    obtain ⟨x, hx, rfl⟩ := hi
    exact ⟨x, hx, rfl⟩
  have qB : ∀ i, i < l.length → ∃ e, eB[i]? = some e ∧ eB.getD i (0, 0) = e := by
    intro i hi
    have : i < eB.length := by omega
    exact ⟨eB[i], List.getElem?_eq_getElem this, by rw [List.getD_eq_getElem?_getD, List.getElem?_eq_getElem this]; rfl⟩
  have qT : ∀ i, i < l.length → ∃ e, eT[i]? = some e ∧ eT.getD i (0, 0) = e := by
    intro i hi
    have : i < eT.length := by omega
    exact ⟨eT[i], List.getElem?_eq_getElem this, by rw [List.getD_eq_getElem?_getD, List.getElem?_eq_getElem this]; rfl⟩
  have hrb := h.trk.has 0 rfl
  have grb := (h.trk.2.1 _ (List.mem_of_getElem? (i := 0) rfl)).1
  have hlb := h.lbr
  have hle := h.le
  have hn := h.nod
  rw [List.nodup_append] at hn
  obtain ⟨nB, nT, nX⟩ := hn
  refine ⟨lb, gB, gT, fun i => (eB.getD i (0, 0)).1, fun i => (eT.getD i (0, 0)).1, ⟨newM_ok hl hm, ⟨grb, hrb.lt⟩, ⟨hlb.1, by omega⟩, ⟨by omega, hgB.2⟩, ⟨by omega, hgT.2⟩, ?_, ⟨cL, cB, cT, by rw [hnl]; exact hrb⟩, ?_, ?_, ?_, ?_, ?_, ?_, ?_, ?_⟩⟩
  · intro i hi
    rw [hnl] at hi
    obtain ⟨e, h1, h2⟩ := qB i hi
    obtain ⟨f, h3, h4⟩ := qT i hi
    rw [h2, h4]
    have m1 := List.mem_of_getElem? h1
    have m2 := List.mem_of_getElem? h3
    have a1 := h.geB e m1
    have a2 := h.ltB e m1
    have a3 := h.geT f m2
    have a4 := h.ltT f m2
    omega
  · have : (newM l).map (·.r) = l := by
      simp only [newM, List.map_map]
      conv => rhs; rw [← List.map_id l]
      rfl
    rw [this]
    exact h.L
  · intro i p hi
    obtain ⟨x, hx, rfl⟩ := hget i p hi
    obtain ⟨e, h1, h2⟩ := qB i (List.getElem?_eq_some_iff.1 hx).1
    obtain ⟨ad, ha, hc⟩ := h.ownB.row i e h1
    obtain rfl := Option.some.inj ha
    have := hc 0 _ rfl
    rw [addr_add_zero, add_block, Nat.zero_add] at this
    have e1 : i * slT.sz = i := Nat.mul_one i
    rw [e1] at this
    rw [h2]
    have e2 := (h.prtB i e x h1 hx).1
    have e3 : (newP x).bs.length = x.s.toNat := by simp [newP]
    rw [e3, ← e2]
    exact this
  · intro i p hi
    obtain ⟨x, hx, rfl⟩ := hget i p hi
    obtain ⟨e, h1, h2⟩ := qT i (List.getElem?_eq_some_iff.1 hx).1
    obtain ⟨ad, ha, hc⟩ := h.ownT.row i e h1
    obtain rfl := Option.some.inj ha
    have := hc 0 _ rfl
    rw [addr_add_zero, add_block, Nat.zero_add] at this
    have e1 : i * slT.sz = i := Nat.mul_one i
    rw [e1] at this
    rw [h2]
    have e2 := (h.prtT i e x h1 hx).1
    have e3 : (newP x).ts.length = x.s.toNat := by simp [newP]
    rw [e3, ← e2]
    exact this
  · intro i p hi
    obtain ⟨x, hx, rfl⟩ := hget i p hi
    obtain ⟨e, h1, h2⟩ := qB i (List.getElem?_eq_some_iff.1 hx).1
    rw [h2]
    exact (h.prtB i e x h1 hx).2
  · intro i p hi
    obtain ⟨x, hx, rfl⟩ := hget i p hi
    obtain ⟨e, h1, h2⟩ := qT i (List.getElem?_eq_some_iff.1 hx).1
    rw [h2]
    exact (h.prtT i e x h1 hx).2
  · intro i j hi hj hij
    rw [hnl] at hi hj
    obtain ⟨e, h1, h2⟩ := qB i hi
    obtain ⟨f, h3, h4⟩ := qB j hj
    obtain ⟨e', h1', h2'⟩ := qT i hi
    obtain ⟨f', h3', h4'⟩ := qT j hj
    rw [h2, h4, h2', h4']
    refine ⟨fun he => hij ?_, fun he => hij ?_⟩
    · have a1 : (eB.map (·.1))[i]? = some e.1 := by rw [List.getElem?_map, h1]; rfl
      have a2 : (eB.map (·.1))[j]? = some e.1 := by rw [List.getElem?_map, h3, he]; rfl
      exact (List.getElem?_inj (List.getElem?_eq_some_iff.1 a1).1 nB).1 (a1.trans a2.symm)
    · have a1 : (eT.map (·.1))[i]? = some e'.1 := by rw [List.getElem?_map, h1']; rfl
      have a2 : (eT.map (·.1))[j]? = some e'.1 := by rw [List.getElem?_map, h3', he]; rfl
      exact (List.getElem?_inj (List.getElem?_eq_some_iff.1 a1).1 nT).1 (a1.trans a2.symm)
  · intro i j hi hj
    rw [hnl] at hi hj
    obtain ⟨e, h1, h2⟩ := qB i hi
    obtain ⟨f, h3, h4⟩ := qT j hj
    rw [h2, h4]
    exact nX _ (List.mem_map_of_mem (List.mem_of_getElem? h1)) _ (List.mem_map_of_mem (List.mem_of_getElem? h3))
  · intro i hi
    rw [hnl] at hi
    obtain ⟨e, h1, h2⟩ := qB i hi
    obtain ⟨f, h3, h4⟩ := qT i hi
    rw [h2, h4]
    have a1 := h.geB e (List.mem_of_getElem? h1)
    have a3 := h.geT f (List.mem_of_getElem? h3)
    refine ⟨⟨by omega, by omega, fun he => a1.2.1 (by rw [he]; rfl), fun he => a1.2.2 (by rw [he]; rfl)⟩, ⟨by omega, by omega, fun he => a3.2.1 (by rw [he]; rfl), fun he => a3.2.2 (by rw [he]; rfl)⟩⟩
/-- What the reference's New leaves. -/
def RNewR (l : List Reg) (w : World) (e : Ending) (w' : World) : Prop := Later w w' ∧ ((mayL l = true ∧ ∃ rb, e = .returned (.tuple #[.pointer (some ⟨rb, 0, none⟩), i64v 0]) ∧ RefAt w' w.heap.size w'.heap.size rb (newM l)) ∨ (mayL l = false ∧ e = .returned (.tuple #[.pointer none, i64v 2])))
set_option maxHeartbeats 6400000 in
theorem ref_New_ok {l : List Reg} (hl : RegsIn l) {A : Option Addr} {c : Nat} (hlen : l.length < 9223372036854775808) {w : World} (hr : ERow regT w A l) : Calls Tryz.prog ref04_New.N #[.slice A l.length c] w (RNewR l w) := by
  refine ref04_New.calls ?_
  unfold ref04_New.vc
  refine (ref04_May_ok hl hlen hr).mono fun e w1 ⟨he, g1⟩ => ⟨_, he, cnd_of (fun hb => ?_) fun hb => ?_⟩
  · exact ⟨g1, .inr ⟨by simpa using hb, rfl⟩⟩
  have hmay : mayL l = true := by simpa using hb
  have hm' := hmay
  simp only [mayL, Bool.and_eq_true, decide_eq_true_eq] at hm'
  obtain ⟨⟨n1, n16⟩, hok⟩ := hm'
  have each : ∀ (i : Nat) (y : Reg), l[i]? = some y → mayR y = true := fun i y hy => (okUpto_all hok hy).1
  refine ERow.copy (T := regT) 85 rtReg (by simp only [maxLen]; omega) (by omega) (hr.later g1) fun PL cL w2 hL g2 => ⟨_, _, _, rfl, fun w3 h3 => ?_⟩
  obtain ⟨lb, rfl, -⟩ := hL.split (by omega)
  have hlb := hL.lt (k := lb) rfl
  have s1 := Later.size g1
  have L3 := (Trk.here (g1.trans g2)).alloc h3
  have s23 : w2.heap.size < w3.heap.size := (L3.has 0 rfl).lt
  have B0 : RBld w w3 l w2.heap.size lb cL w3 0 0 none 0 none 0 [] [] := ⟨L3, (hL.row).later (h3 ▸ Later.alloc' _ _), ⟨by omega, by omega, by omega, s23⟩, OwnE.nil _ _ _, OwnE.nil _ _ _, rfl, rfl, by simp, by simp, by simp, by simp, by simp, by simp, by simp, by simp, Nat.le_refl _⟩
  refine ⟨fun vs W => ∃ (PB : Option Addr) (cB : Nat) (PT : Option Addr) (cT : Nat) (eB eT : List (Nat × Nat)), eB.length ≤ l.length ∧ eB.length = eT.length ∧ vs = [i64v eB.length] ∧ RBld w w3 l w2.heap.size lb cL W eB.length eT.length PB cB PT cT eB eT, fun vs _ => match vs with | [.int _ m] => l.length - m.toNat | _ => 0,
    ⟨none, 0, none, 0, [], [], by simp, rfl, rfl, B0⟩, ?_⟩
  rintro g i W ⟨PB, cB, PT, cT, eB, eT, hk, heq, hvs, B⟩
  simp only [List.cons.injEq, Value.int.injEq, true_and, and_true] at hvs
  subst hvs
  refine cnd_of (fun h => ?_) fun h => ?_
  · have hlt : eB.length < l.length := by simp only [decide_eq_true_eq] at h; omega
    have hg := List.getElem?_eq_getElem hlt
    generalize l[eB.length] = x at hg
    have m := mayR_facts (each _ x hg)
    have hgT : l[eT.length]? = some x := by rw [← heq]; exact hg
    have sB : ∀ k, rowB PB = some k → w3.heap.size ≤ k ∧ k < W.heap.size := fun k hk => B.ownB.lt hk
    have sT : ∀ k, rowB PT = some k → w3.heap.size ≤ k ∧ k < W.heap.size := fun k hk => B.ownT.lt hk
    have hle := B.le
    have sww : w.heap.size ≤ w3.heap.size := Later.size L3.to
    obtain ⟨ad, rfl, c0, c1, c2, -⟩ := reg_cells hr hg
    have hw1 : IntKind.i64.wrap x.s = ((x.s.toNat : Nat) : Int) := by rw [i64_in (by omega) (by omega)]; omega
    refine ⟨fun W' => Has W' w2.heap.size [.slice (some ⟨lb, 0, none⟩) l.length cL, .slice PB eB.length cB, .slice PT eT.length cT] ∧ Later w W', fun W' hl' => ⟨(B.trk.has 0 rfl).later hl', B.trk.to.trans hl'⟩, fun W3 g3 => ?_⟩
    refine ⟨PB, eB.length, cB, fun W' hC => hC.1.cell (i := 1) rfl, by omega, Deref_some rfl ⟨x.s, fun W' hC => hC.2.cell_some c1, ?_⟩⟩
    rw [hw1]
    refine RunsV_makeSlice (e := 5) (size := 1) (bytes := 1) (.int .u8 0) (by kernel_rfl) (by kernel_rfl) rfl (by decide) (by decide) (by omega) fun b W4 eb g4 hb => ⟨_, _, _, rfl, ⟨(B.trk.has 0 rfl).later (g3.trans g4), (B.trk.to.trans g3).trans g4⟩, fun W5 h5 => ⟨⟨(B.trk.has 0 rfl).later ((g3.trans g4).trans (h5 ▸ Later.alloc' _ _)), ((B.trk.to.trans g3).trans g4).trans (h5 ▸ Later.alloc' _ _)⟩, ?_⟩⟩
    have hb' : Has W4 b (u8c (List.replicate x.s.toNat 0)) := by
      have e : repL (Value.int .u8 0).cells.toList x.s.toNat = u8c (List.replicate x.s.toNat 0) := by
        show repL [Value.int .u8 0] _ = _
        rw [repL_one]
        simp [u8c]
      rw [← e]
      exact hb
    refine OwnE.pushG (T := slT) (w0 := w3) (w := W4) (w1 := W5) (l := eB) 138 rtBB (b, x.s.toNat) (OwnS.later B.ownB (g3.trans g4)) (by have := Later.size (g3.trans g4); omega) (by simp [maxLen]; omega) (by omega) (cs := #[.slice (some ⟨b, 0, none⟩) x.s.toNat x.s.toNat]) h5 rfl fun P' c' W6 ho hbut hne => ⟨_, _, _, rfl, ?_⟩
    have hrb6 : Has W6 w2.heap.size [.slice (some ⟨lb, 0, none⟩) l.length cL, .slice PB eB.length cB, .slice PT eT.length cT] := hbut.has ((B.trk.has 0 rfl).later (g3.trans g4)) fun hk => by have := sB _ hk; omega
    refine ⟨⟨hrb6, hbut.later ((B.trk.to.trans g3).trans g4) fun k hk => by have := sB k hk; omega⟩, ⟨by rw [hrb6.cell (i := 1) rfl]; rfl, hrb6.frozen _⟩, fun W7 h7 => ?_⟩
    have B7 := B.stepB hg (g3.trans g4) hb' (by rw [eb]; exact Later.size g3) ho hbut hne h7
    have hL7 : (eB ++ [(b, x.s.toNat)]).length = eB.length + 1 := by simp
    have sB7 : ∀ k, rowB P' = some k → w3.heap.size ≤ k ∧ k < W7.heap.size := fun k hk => B7.ownB.lt hk
    have sT7 : ∀ k, rowB PT = some k → w3.heap.size ≤ k ∧ k < W7.heap.size := fun k hk => B7.ownT.lt hk
    refine ⟨fun W' => Has W' w2.heap.size [.slice (some ⟨lb, 0, none⟩) l.length cL, .slice P' (eB ++ [(b, x.s.toNat)]).length c', .slice PT eT.length cT] ∧ Later w W', fun W' hl' => ⟨(B7.trk.has 0 rfl).later hl', B7.trk.to.trans hl'⟩, fun W8 g8 => ?_⟩
    refine ⟨PT, eT.length, cT, fun W' hC => hC.1.cell (i := 2) rfl, by omega, Deref_some rfl ⟨x.s, fun W' hC => hC.2.cell_some c1, ?_⟩⟩
    rw [hw1]
    refine RunsV_makeSlice (e := 4) (size := 1) (bytes := 1) (.bool false) (by kernel_rfl) (by kernel_rfl) rfl (by decide) (by decide) (by omega) fun b2 W9 eb2 g9 hb2 => ⟨_, _, _, rfl, ⟨(B7.trk.has 0 rfl).later (g8.trans g9), (B7.trk.to.trans g8).trans g9⟩, fun W10 h10 => ⟨⟨(B7.trk.has 0 rfl).later ((g8.trans g9).trans (h10 ▸ Later.alloc' _ _)), ((B7.trk.to.trans g8).trans g9).trans (h10 ▸ Later.alloc' _ _)⟩, ?_⟩⟩
    have hb2' : Has W9 b2 (boc (List.replicate x.s.toNat false)) := by
      have e : repL (Value.bool false).cells.toList x.s.toNat = boc (List.replicate x.s.toNat false) := by
        show repL [Value.bool false] _ = _
        rw [repL_one]
        simp [boc]
      rw [← e]
      exact hb2
    have hle7 := B7.le
    refine OwnE.pushG (T := slT) (w0 := w3) (w := W9) (w1 := W10) (l := eT) 139 rtTT (b2, x.s.toNat) (OwnS.later B7.ownT (g8.trans g9)) (by have := Later.size (g8.trans g9); omega) (by simp [maxLen]; omega) (by omega) (cs := #[.slice (some ⟨b2, 0, none⟩) x.s.toNat x.s.toNat]) h10 rfl fun P2 c2' W11 ho2 hbut2 hne2 => ⟨_, _, _, rfl, ?_⟩
    have hrb11 : Has W11 w2.heap.size [.slice (some ⟨lb, 0, none⟩) l.length cL, .slice P' (eB ++ [(b, x.s.toNat)]).length c', .slice PT eT.length cT] := hbut2.has ((B7.trk.has 0 rfl).later (g8.trans g9)) fun hk => by have := sT7 _ hk; omega
    refine ⟨⟨hrb11, hbut2.later ((B7.trk.to.trans g8).trans g9) fun k hk => by have := sT7 k hk; omega⟩, ⟨by rw [hrb11.cell (i := 2) rfl]; rfl, hrb11.frozen _⟩, fun W12 h12 => ?_⟩
    have B12 := B7.stepT hgT (g8.trans g9) hb2' (by rw [eb2]; exact Later.size g8) ho2 hbut2 hne2 h12
    have hw2 : IntKind.i64.wrap ((eB.length : Int) + 1) = ((eB.length + 1 : Nat) : Int) := by rw [i64_in (by omega) (by omega)]; omega
    rw [hw2]
    refine ⟨⟨P', c', P2, c2', eB ++ [(b, x.s.toNat)], eT ++ [(b2, x.s.toNat)], by rw [hL7]; omega, by simp [heq], by rw [hL7], B12⟩, by show l.length - ((eB.length + 1 : Nat) : Int).toNat < l.length - ((eB.length : Nat) : Int).toNat; omega⟩
  · have : eB.length = l.length := by simp only [decide_eq_false_iff_not] at h; omega
    rw [← heq, this] at B
    exact ⟨B.trk.to, .inl ⟨hmay, _, rfl, B.done hl hmay⟩⟩
end Go.Proofs.YtcnnnlhoiodeaaaGreat
