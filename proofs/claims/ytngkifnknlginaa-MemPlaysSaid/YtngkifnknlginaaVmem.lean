/-
The explicit conditions of some functions of the program, printed by this repo's own program over VcTop: what is proved is that each is the condition.
Conditions: none.
-/
import Derived.Test.YtngkifnknlginaaVcRange
import Derived.Test.YtngkifnknlginaaProg
namespace Go.Proofs.Ytngkifnknlginaa
open Go Go.Vc Go.RowKit
set_option linter.unusedVariables false
set_option maxRecDepth 100000

/- function 21: sacristy/mem.may -/
abbrev mem_may.N : FuncId := 21
def mem_may.H : Hints := {  }
def mem_may.vc (x'_0 : Int) (x'_1 : Int) (x'_2 : Int) (w : World) (R : Ending → World → Prop) : Prop :=
  ∀ (w' : World),
  w' = w.alloc (Obj.cells #[Value.int IntKind.u64 x'_0, Value.int IntKind.u64 x'_1, Value.int IntKind.u8 x'_2] 42) →
  ∃ (n : Int),
  w'.cell? (Addr.mk w.heap.size 2 none) = some (Value.int IntKind.u8 n) ∧
  cnd (decide (n ≥ 1))
  (∃ (n : Int),
  w'.cell? (Addr.mk w.heap.size 2 none) = some (Value.int IntKind.u8 n) ∧
  cnd (decide (n ≤ 4))
  (∃ (n : Int),
  w'.cell? (Addr.mk w.heap.size 1 none) = some (Value.int IntKind.u64 n) ∧
  cnd (decide (n ≥ 1))
  (∃ (n : Int),
  w'.cell? (Addr.mk w.heap.size 1 none) = some (Value.int IntKind.u64 n) ∧
  cnd (decide (n ≤ 1048576))
  (∃ (n : Int),
  w'.cell? (Addr.mk w.heap.size 0 none) = some (Value.int IntKind.u64 n) ∧
  ∃ (n_1 : Int),
  w'.cell? (Addr.mk w.heap.size 1 none) = some (Value.int IntKind.u64 n_1) ∧
  R
  (Ending.returned
  (Value.bool (decide (n ≤ IntKind.u64.wrap (1099511627776 - n_1)))))
  w')
  (R (Ending.returned (Value.bool false)) w'))
  (R (Ending.returned (Value.bool false)) w'))
  (R (Ending.returned (Value.bool false)) w'))
  (R (Ending.returned (Value.bool false)) w')
theorem mem_may.vc_eq (x'_0 : Int) (x'_1 : Int) (x'_2 : Int) (w : World) (R : Ending → World → Prop) : fnV Try.prog mem_may.H 21 [Value.agg #[Value.int IntKind.u64 x'_0, Value.int IntKind.u64 x'_1, Value.int IntKind.u8 x'_2]] w R = mem_may.vc x'_0 x'_1 x'_2 w R := by kernel_rfl
theorem mem_may.calls {x'_0 : Int} {x'_1 : Int} {x'_2 : Int} {w : World} {R : Ending → World → Prop} (h : mem_may.vc x'_0 x'_1 x'_2 w R) : Calls Try.prog 21 ([Value.agg #[Value.int IntKind.u64 x'_0, Value.int IntKind.u64 x'_1, Value.int IntKind.u8 x'_2]] : List Value).toArray w R := calls_of_eq (mem_may.vc_eq x'_0 x'_1 x'_2 w R) h

/- function 24: sacristy/mem.touch -/
abbrev mem_touch.N : FuncId := 24
def mem_touch.H : Hints := {  }
def mem_touch.vc (x'_0 : Int) (x'_1 : Int) (x'_2 : Int) (y'_0 : Int) (y'_1 : Int) (y'_2 : Int) (w : World) (R : Ending → World → Prop) : Prop :=
  ∀ (w' : World),
  w' = w.alloc (Obj.cells #[Value.int IntKind.u64 x'_0, Value.int IntKind.u64 x'_1, Value.int IntKind.u8 x'_2] 42) →
  ∀ (w'_1 : World),
  w'_1 =
  w'.alloc (Obj.cells #[Value.int IntKind.u64 y'_0, Value.int IntKind.u64 y'_1, Value.int IntKind.u8 y'_2] 42) →
  ∃ (n : Int),
  w'_1.cell? (Addr.mk w.heap.size 0 none) = some (Value.int IntKind.u64 n) ∧
  ∃ (n_1 : Int),
  w'_1.cell? (Addr.mk w'.heap.size 0 none) = some (Value.int IntKind.u64 n_1) ∧
  ∃ (n_2 : Int),
  w'_1.cell? (Addr.mk w'.heap.size 1 none) = some (Value.int IntKind.u64 n_2) ∧
  cnd (decide (n < IntKind.u64.wrap (n_1 + n_2)))
  (∃ (n : Int),
  w'_1.cell? (Addr.mk w'.heap.size 0 none) = some (Value.int IntKind.u64 n) ∧
  ∃ (n_3 : Int),
  w'_1.cell? (Addr.mk w.heap.size 0 none) = some (Value.int IntKind.u64 n_3) ∧
  ∃ (n_4 : Int),
  w'_1.cell? (Addr.mk w.heap.size 1 none) = some (Value.int IntKind.u64 n_4) ∧
  R (Ending.returned (Value.bool (decide (n < IntKind.u64.wrap (n_3 + n_4))))) w'_1)
  (R (Ending.returned (Value.bool false)) w'_1)
theorem mem_touch.vc_eq (x'_0 : Int) (x'_1 : Int) (x'_2 : Int) (y'_0 : Int) (y'_1 : Int) (y'_2 : Int) (w : World) (R : Ending → World → Prop) : fnV Try.prog mem_touch.H 24 [Value.agg #[Value.int IntKind.u64 x'_0, Value.int IntKind.u64 x'_1, Value.int IntKind.u8 x'_2],
  Value.agg #[Value.int IntKind.u64 y'_0, Value.int IntKind.u64 y'_1, Value.int IntKind.u8 y'_2]] w R = mem_touch.vc x'_0 x'_1 x'_2 y'_0 y'_1 y'_2 w R := by kernel_rfl
theorem mem_touch.calls {x'_0 : Int} {x'_1 : Int} {x'_2 : Int} {y'_0 : Int} {y'_1 : Int} {y'_2 : Int} {w : World} {R : Ending → World → Prop} (h : mem_touch.vc x'_0 x'_1 x'_2 y'_0 y'_1 y'_2 w R) : Calls Try.prog 24 ([Value.agg #[Value.int IntKind.u64 x'_0, Value.int IntKind.u64 x'_1, Value.int IntKind.u8 x'_2],
  Value.agg #[Value.int IntKind.u64 y'_0, Value.int IntKind.u64 y'_1, Value.int IntKind.u8 y'_2]] : List Value).toArray w R := calls_of_eq (mem_touch.vc_eq x'_0 x'_1 x'_2 y'_0 y'_1 y'_2 w R) h

/- function 23: sacristy/mem.New$1 -/
abbrev mem_New_1.N : FuncId := 23
def mem_New_1.H : Hints := {  }
def mem_New_1.vc (y'_0 : Int) (y'_1 : Int) (y'_2 : Int) (c0 : Option Addr) (w : World) (R : Ending → World → Prop) : Prop :=
  ∀ (w' : World),
  w' = w.alloc (Obj.cells #[Value.int IntKind.u64 y'_0, Value.int IntKind.u64 y'_1, Value.int IntKind.u8 y'_2] 42) →
  Deref c0 fun (ad : Addr) =>
  ∃ (n : Int),
  ∃ (n_1 : Int),
  ∃ (n_2 : Int),
  (w'.cell? ad = some (Value.int IntKind.u64 n) ∧
  w'.cell? (ad.add 1) = some (Value.int IntKind.u64 n_1) ∧
  w'.cell? (ad.add 2) = some (Value.int IntKind.u8 n_2) ∧ True) ∧
  ∃ (n_3 : Int),
  ∃ (n_4 : Int),
  ∃ (n_5 : Int),
  (w'.cell? (Addr.mk w.heap.size 0 none) = some (Value.int IntKind.u64 n_3) ∧
  w'.cell? (Addr.mk w.heap.size 1 none) = some (Value.int IntKind.u64 n_4) ∧
  w'.cell? (Addr.mk w.heap.size 2 none) = some (Value.int IntKind.u8 n_5) ∧ True) ∧
  Calls Proofs.Try.prog 24
  #[Value.agg #[Value.int IntKind.u64 n, Value.int IntKind.u64 n_1, Value.int IntKind.u8 n_2],
  Value.agg #[Value.int IntKind.u64 n_3, Value.int IntKind.u64 n_4, Value.int IntKind.u8 n_5]]
  w' fun (e : Ending) (w' : World) =>
  ∃ (b : Bool), e = Ending.returned (Value.bool b) ∧ R (Ending.returned (Value.bool b)) w'
theorem mem_New_1.vc_eq (y'_0 : Int) (y'_1 : Int) (y'_2 : Int) (c0 : Option Addr) (w : World) (R : Ending → World → Prop) : fnV Try.prog mem_New_1.H 23 [Value.agg #[Value.int IntKind.u64 y'_0, Value.int IntKind.u64 y'_1, Value.int IntKind.u8 y'_2], Value.pointer c0] w R = mem_New_1.vc y'_0 y'_1 y'_2 c0 w R := by kernel_rfl
theorem mem_New_1.calls {y'_0 : Int} {y'_1 : Int} {y'_2 : Int} {c0 : Option Addr} {w : World} {R : Ending → World → Prop} (h : mem_New_1.vc y'_0 y'_1 y'_2 c0 w R) : Calls Try.prog 23 ([Value.agg #[Value.int IntKind.u64 y'_0, Value.int IntKind.u64 y'_1, Value.int IntKind.u8 y'_2], Value.pointer c0] : List Value).toArray w R := calls_of_eq (mem_New_1.vc_eq y'_0 y'_1 y'_2 c0 w R) h

/- function 22: slices.ContainsFunc[[]sacristy/api.Region,sacristy/api.Region] -/
abbrev slices_ContainsFunc.N : FuncId := 22
def slices_ContainsFunc.H : Hints := {  }
def slices_ContainsFunc.vc (s' : Option Addr) (s'n : Nat) (s'c : Nat) (f' : Value) (w : World) (R : Ending → World → Prop) : Prop :=
  Calls Proofs.Try.prog 38 #[Value.slice s' s'n s'c, f'] w fun (e : Ending) (w' : World) =>
  ∃ (n : Int), e = Ending.returned (Value.int IntKind.i64 n) ∧ R (Ending.returned (Value.bool (decide (n ≥ 0)))) w'
theorem slices_ContainsFunc.vc_eq (s' : Option Addr) (s'n : Nat) (s'c : Nat) (f' : Value) (w : World) (R : Ending → World → Prop) : fnV Try.prog slices_ContainsFunc.H 22 [Value.slice s' s'n s'c, f'] w R = slices_ContainsFunc.vc s' s'n s'c f' w R := by kernel_rfl
theorem slices_ContainsFunc.calls {s' : Option Addr} {s'n : Nat} {s'c : Nat} {f' : Value} {w : World} {R : Ending → World → Prop} (h : slices_ContainsFunc.vc s' s'n s'c f' w R) : Calls Try.prog 22 ([Value.slice s' s'n s'c, f'] : List Value).toArray w R := calls_of_eq (slices_ContainsFunc.vc_eq s' s'n s'c f' w R) h

/- function 38: slices.IndexFunc[[]sacristy/api.Region,sacristy/api.Region] -/
abbrev slices_IndexFunc.N : FuncId := 38
def slices_IndexFunc.H : Hints := { loops := [(3, [(8, .one (.int .i64))])] }
def slices_IndexFunc.vc (s' : Option Addr) (s'n : Nat) (s'c : Nat) (f' : Value) (w : World) (R : Ending → World → Prop) : Prop :=
  ∃ (I : List Value → World → Prop),
  ∃ (μ : List Value → World → Nat),
  I [Value.int IntKind.i64 0] w ∧
  ∀ (g : Nat → Value) (s8 : Int) (w' : World),
  I [Value.int IntKind.i64 s8] w' →
  cnd (decide (s8 < (↑s'n : Int)))
  ((0 ≤ s8 ∧ s8 < (↑s'n : Int)) ∧
  Deref s' fun (a : Addr) =>
  ∃ (n : Int),
  ∃ (n_1 : Int),
  ∃ (n_2 : Int),
  (w'.cell? (a.add (s8.toNat * 3)) = some (Value.int IntKind.u64 n) ∧
  w'.cell? ((a.add (s8.toNat * 3)).add 1) = some (Value.int IntKind.u64 n_1) ∧
  w'.cell? ((a.add (s8.toNat * 3)).add 2) = some (Value.int IntKind.u8 n_2) ∧ True) ∧
  AsFn f' fun (f : FuncId) (fi ca : Array Value) =>
  cnd (entersB Proofs.Try.prog f)
  (Calls Proofs.Try.prog f
  (fi ++
  #[Value.agg
  #[Value.int IntKind.u64 n, Value.int IntKind.u64 n_1,
  Value.int IntKind.u8 n_2]] ++
  ca)
  w' fun (e : Ending) (w'_1 : World) =>
  ∃ (b : Bool),
  e = Ending.returned (Value.bool b) ∧
  cnd b (R (Ending.returned (Value.int IntKind.i64 s8)) w'_1)
  (Goes I μ [Value.int IntKind.i64 s8] w'
  [Value.int IntKind.i64 (IntKind.i64.wrap (s8 + 1))] w'_1))
  (RunsC Proofs.Try.prog f
  (fi ++
  #[Value.agg
  #[Value.int IntKind.u64 n, Value.int IntKind.u64 n_1,
  Value.int IntKind.u8 n_2]] ++
  ca)
  w' fun (v : Value) (w'_1 : World) =>
  ∃ (b : Bool),
  v = Value.bool b ∧
  cnd b (R (Ending.returned (Value.int IntKind.i64 s8)) w'_1)
  (Goes I μ [Value.int IntKind.i64 s8] w'
  [Value.int IntKind.i64 (IntKind.i64.wrap (s8 + 1))] w'_1)))
  (R (Ending.returned (Value.int IntKind.i64 (-1))) w')
theorem slices_IndexFunc.vc_eq (s' : Option Addr) (s'n : Nat) (s'c : Nat) (f' : Value) (w : World) (R : Ending → World → Prop) : fnV Try.prog slices_IndexFunc.H 38 [Value.slice s' s'n s'c, f'] w R = slices_IndexFunc.vc s' s'n s'c f' w R := by kernel_rfl
theorem slices_IndexFunc.calls {s' : Option Addr} {s'n : Nat} {s'c : Nat} {f' : Value} {w : World} {R : Ending → World → Prop} (h : slices_IndexFunc.vc s' s'n s'c f' w R) : Calls Try.prog 38 ([Value.slice s' s'n s'c, f'] : List Value).toArray w R := calls_of_eq (slices_IndexFunc.vc_eq s' s'n s'c f' w R) h

/- function 10: sacristy/mem.New -/
abbrev mem_New.N : FuncId := 10
def mem_New.H : Hints := { loops := [(6, [(4, .one (.int .u64)), (23, .one (.int .i64))]), (15, [(7, .one .slice), (8, .one .slice), (51, .one (.int .i64))])], mixes := [(11, 5), (17, 1001)] }
def mem_New.vc (l' : Option Addr) (l'n : Nat) (l'c : Nat) (w : World) (R : Ending → World → Prop) : Prop :=
  cnd (decide ((↑l'n : Int) < 1)) (R (Ending.returned (Value.tuple #[Value.pointer none, Value.int IntKind.i64 2])) w)
  (cnd (decide ((↑l'n : Int) > 16)) (R (Ending.returned (Value.tuple #[Value.pointer none, Value.int IntKind.i64 2])) w)
  (∃ (I : List Value → World → Prop),
  ∃ (μ : List Value → World → Nat),
  I [Value.int IntKind.u64 0, Value.int IntKind.i64 0] w ∧
  ∀ (g : Nat → Value) (all s23 : Int) (w' : World),
  I [Value.int IntKind.u64 all, Value.int IntKind.i64 s23] w' →
  cnd (decide (s23 < (↑l'n : Int)))
  ((0 ≤ s23 ∧ s23 < (↑l'n : Int)) ∧
  Deref l' fun (a : Addr) =>
  ∃ (n : Int),
  ∃ (n_1 : Int),
  ∃ (n_2 : Int),
  (w'.cell? (a.add (s23.toNat * 3)) = some (Value.int IntKind.u64 n) ∧
  w'.cell? ((a.add (s23.toNat * 3)).add 1) = some (Value.int IntKind.u64 n_1) ∧
  w'.cell? ((a.add (s23.toNat * 3)).add 2) = some (Value.int IntKind.u8 n_2) ∧ True) ∧
  ∀ (w'_1 : World),
  w'_1 =
  w'.alloc
  (Obj.cells
  #[Value.int IntKind.u64 0, Value.int IntKind.u64 0, Value.int IntKind.u8 0] 42) →
  SetsAt w'_1 (Addr.mk w'.heap.size 0 none) 0
  [Value.int IntKind.u64 n, Value.int IntKind.u64 n_1, Value.int IntKind.u8 n_2] ∧
  ∀ (w'_2 : World),
  w'_2 =
  setCellsAt w'_1 (Addr.mk w'.heap.size 0 none) 0
  [Value.int IntKind.u64 n, Value.int IntKind.u64 n_1,
  Value.int IntKind.u8 n_2] →
  ∃ (n : Int),
  ∃ (n_3 : Int),
  ∃ (n_4 : Int),
  (w'_2.cell? (Addr.mk w'.heap.size 0 none) = some (Value.int IntKind.u64 n) ∧
  w'_2.cell? (Addr.mk w'.heap.size 1 none) =
  some (Value.int IntKind.u64 n_3) ∧
  w'_2.cell? (Addr.mk w'.heap.size 2 none) =
  some (Value.int IntKind.u8 n_4) ∧
  True) ∧
  Calls Proofs.Try.prog 21
  #[Value.agg
  #[Value.int IntKind.u64 n, Value.int IntKind.u64 n_3,
  Value.int IntKind.u8 n_4]]
  w'_2 fun (e : Ending) (w'_3 : World) =>
  ∃ (b : Bool),
  e = Ending.returned (Value.bool b) ∧
  cnd (!b)
  (R
  (Ending.returned
  (Value.tuple #[Value.pointer none, Value.int IntKind.i64 2]))
  w'_3)
  ((0 ≤ s23 ∧ s23 ≤ (↑l'c : Int)) ∧
  Calls Proofs.Try.prog 22
  #[Value.slice (reslice l' 0 l'c 3) (s23.toNat - 0) (l'c - 0),
  Value.func (Fn.func 23) #[]
  #[Value.pointer (some (Addr.mk w'.heap.size 0 none))]]
  w'_3 fun (e : Ending) (w'_4 : World) =>
  ∃ (b : Bool),
  e = Ending.returned (Value.bool b) ∧
  cnd b
  (R
  (Ending.returned
  (Value.tuple
  #[Value.pointer none, Value.int IntKind.i64 2]))
  w'_4)
  (∃ (n : Int),
  w'_4.cell? (Addr.mk w'.heap.size 1 none) =
  some (Value.int IntKind.u64 n) ∧
  Goes I μ
  [Value.int IntKind.u64 all,
  Value.int IntKind.i64 s23]
  w'
  [Value.int IntKind.u64
  (IntKind.u64.wrap (all + n)),
  Value.int IntKind.i64
  (IntKind.i64.wrap (s23 + 1))]
  w'_4)))
  ((0 ≤ all ∧ all = all ∧ all ≤ 16777216 ∧ 1 ≤ 1024 ∧ 1 = 1 ∧ 0 < 1) ∧
  ∀ (k : Nat),
  w'.heap.size ≤ k →
  (0 ≤ all ∧ all = all ∧ all ≤ 16777216 ∧ 1 ≤ 1024 ∧ 1 = 1 ∧ 0 < 1) ∧
  ∀ (k_1 : Nat),
  w'.heap.size ≤ k_1 →
  ∀ (w'_1 : World),
  Vc.Good w'
  [(k_1, Obj.cells (repL [Value.bool false] all.toNat).toArray 4),
  (k, Obj.cells (repL [Value.int IntKind.u8 0] all.toNat).toArray 5)]
  w'_1 →
  ∀ (w' : World),
  w' = w'_1.alloc (Obj.cells #[Value.slice none 0 0] 63) →
  ∃ (I : List Value → World → Prop),
  ∃ (μ : List Value → World → Nat),
  I
  [Value.slice (some (Addr.mk k 0 none)) all.toNat all.toNat,
  Value.slice (some (Addr.mk k_1 0 none)) all.toNat all.toNat,
  Value.int IntKind.i64 0]
  w' ∧
  ∀ (g : Nat → Value) (bytes : Option Addr) (bytesn bytesc : Nat)
  (taints : Option Addr) (taintsn taintsc : Nat) (s51 : Int) (w' : World),
  I
  [Value.slice bytes bytesn bytesc, Value.slice taints taintsn taintsc,
  Value.int IntKind.i64 s51]
  w' →
  cnd (decide (s51 < (↑l'n : Int)))
  ((0 ≤ s51 ∧ s51 < (↑l'n : Int)) ∧
  Deref l' fun (a : Addr) =>
  ∃ (n : Int),
  ∃ (n_1 : Int),
  ∃ (n_2 : Int),
  (w'.cell? (a.add (s51.toNat * 3)) =
  some (Value.int IntKind.u64 n) ∧
  w'.cell? ((a.add (s51.toNat * 3)).add 1) =
  some (Value.int IntKind.u64 n_1) ∧
  w'.cell? ((a.add (s51.toNat * 3)).add 2) =
  some (Value.int IntKind.u8 n_2) ∧
  True) ∧
  ∀ (w'_2 : World),
  w'_2 =
  w'.alloc
  (Obj.cells
  #[Value.int IntKind.u64 0,
  Value.int IntKind.u64 0, Value.int IntKind.u8 0]
  42) →
  SetsAt w'_2 (Addr.mk w'.heap.size 0 none) 0
  [Value.int IntKind.u64 n, Value.int IntKind.u64 n_1,
  Value.int IntKind.u8 n_2] ∧
  ∀ (w'_3 : World),
  w'_3 =
  setCellsAt w'_2 (Addr.mk w'.heap.size 0 none) 0
  [Value.int IntKind.u64 n,
  Value.int IntKind.u64 n_1,
  Value.int IntKind.u8 n_2] →
  ∃ (n : Int),
  w'_3.cell? (Addr.mk w'.heap.size 1 none) =
  some (Value.int IntKind.u64 n) ∧
  ∃ (C : World → Prop),
  (∀ (w' : World), Later w'_3 w' → C w') ∧
  ∀ (w'_4 : World),
  Later w'_3 w'_4 →
  ∃ (p : Option Addr),
  ∃ (n_3 : Nat),
  ∃ (c : Nat),
  (∀ (w' : World),
  C w' →
  w'.cell?
  (Addr.mk
  w'_1.heap.size 0
  none) =
  some
  (Value.slice p n_3
  c)) ∧
  ∃ (n_4 : Int),
  ∃ (n_5 : Int),
  ∃ (n_6 : Int),
  (∀ (w'_5 : World),
  C w'_5 →
  w'_5.cell?
  (Addr.mk
  w'.heap.size
  0 none) =
  some
  (Value.int
  IntKind.u64
  n_4) ∧
  w'_5.cell?
  (Addr.mk
  w'.heap.size
  1
  none) =
  some
  (Value.int
  IntKind.u64
  n_5) ∧
  w'_5.cell?
  (Addr.mk
  w'.heap.size
  2
  none) =
  some
  (Value.int
  IntKind.u8
  n_6) ∧
  True) ∧
  (0 ≤ n ∧
  n ≤
  (↑bytesc :
  Int)) ∧
  (0 ≤ n ∧
  n ≤
  (↑n.toNat :
  Int)) ∧
  (0 ≤ n ∧
  n ≤
  (↑taintsc :
  Int)) ∧
  (0 ≤ n ∧
  n ≤
  (↑n.toNat :
  Int)) ∧
  ∀
  (w'_5 :
  World),
  w'_5 =
  w'_4.alloc
  (Obj.cells
  #[Value.int
  IntKind.u64
  n_4,
  Value.int
  IntKind.u64
  n_5,
  Value.int
  IntKind.u8
  n_6,
  Value.slice
  (reslice
  bytes
  0
  n.toNat
  1)
  (n.toNat -
  0)
  (n.toNat -
  0),
  Value.slice
  (reslice
  taints
  0
  n.toNat
  1)
  (n.toNat -
  0)
  (n.toNat -
  0)]
  66) →
  C w'_5 ∧
  ∀
  (w'_6 :
  World),
  w'_6 =
  w'_5.alloc
  (Obj.cells
  #[Value.pointer
  (some
  (Addr.mk
  w'_4.heap.size
  0
  none))]
  64) →
  C
  w'_6 ∧
  RunsV
  Proofs.Try.prog
  (Builtin.append_
  #[61,
  61]
  61
  #[Value.slice
  p
  n_3
  c,
  Value.slice
  (some
  (Addr.mk
  w'_5.heap.size
  0
  none))
  1
  1])
  w'_6
  fun
  (v :
  Value)
  (w'_7 :
  World) =>
  ∃
  (p
  :
  Option
  Addr),
  ∃
  (n_7
  :
  Nat),
  ∃
  (c
  :
  Nat),
  v =
  Value.slice
  p
  n_7
  c ∧
  C
  w'_7 ∧
  ((w'_7.cell?
  (Addr.mk
  w'_1.heap.size
  0
  none)).isSome =
  true ∧
  w'_7.frozen?
  (Addr.mk
  w'_1.heap.size
  0
  none) =
  false) ∧
  ∀
  (w'_8 :
  World),
  w'_8 =
  w'_7.setCell
  (Addr.mk
  w'_1.heap.size
  0
  none)
  (Value.slice
  p
  n_7
  c) →
  (0 ≤
  n ∧
  n ≤
  (↑bytesn :
  Int)) ∧
  (0 ≤
  n ∧
  n ≤
  (↑taintsn :
  Int)) ∧
  ∀
  (w'_9 :
  World),
  Later
  w'_8
  w'_9 →
  Goes
  I
  μ
  [Value.slice
  bytes
  bytesn
  bytesc,
  Value.slice
  taints
  taintsn
  taintsc,
  Value.int
  IntKind.i64
  s51]
  w'
  [Value.slice
  (reslice
  bytes
  n.toNat
  bytesc
  1)
  (bytesn -
  n.toNat)
  (bytesc -
  n.toNat),
  Value.slice
  (reslice
  taints
  n.toNat
  taintsc
  1)
  (taintsn -
  n.toNat)
  (taintsc -
  n.toNat),
  Value.int
  IntKind.i64
  (IntKind.i64.wrap
  (s51 +
  1))]
  w'_9)
  (R
  (Ending.returned
  (Value.tuple
  #[Value.pointer (some (Addr.mk w'_1.heap.size 0 none)),
  Value.int IntKind.i64 0]))
  w'))))
theorem mem_New.vc_eq (l' : Option Addr) (l'n : Nat) (l'c : Nat) (w : World) (R : Ending → World → Prop) : fnV Try.prog mem_New.H 10 [Value.slice l' l'n l'c] w R = mem_New.vc l' l'n l'c w R := by kernel_rfl
theorem mem_New.calls {l' : Option Addr} {l'n : Nat} {l'c : Nat} {w : World} {R : Ending → World → Prop} (h : mem_New.vc l' l'n l'c w R) : Calls Try.prog 10 ([Value.slice l' l'n l'c] : List Value).toArray w R := calls_of_eq (mem_New.vc_eq l' l'n l'c w R) h

/- function 37: (*sacristy/mem.Mem).each -/
abbrev sacristy_mem_Mem_each.N : FuncId := 37
def sacristy_mem_Mem_each.H : Hints := {  }
def sacristy_mem_Mem_each.vc (m' : Option Addr) (w : World) (R : Ending → World → Prop) : Prop :=
  ∀ (w' : World),
  w' = w.alloc (Obj.cells #[Value.pointer m'] 28) →
  R (Ending.returned (Value.func (Fn.func 41) #[] #[Value.pointer (some (Addr.mk w.heap.size 0 none))])) w'
theorem sacristy_mem_Mem_each.vc_eq (m' : Option Addr) (w : World) (R : Ending → World → Prop) : fnV Try.prog sacristy_mem_Mem_each.H 37 [Value.pointer m'] w R = sacristy_mem_Mem_each.vc m' w R := by kernel_rfl
theorem sacristy_mem_Mem_each.calls {m' : Option Addr} {w : World} {R : Ending → World → Prop} (h : sacristy_mem_Mem_each.vc m' w R) : Calls Try.prog 37 ([Value.pointer m'] : List Value).toArray w R := calls_of_eq (sacristy_mem_Mem_each.vc_eq m' w R) h

/- function 41: (*sacristy/mem.Mem).each$1 -/
abbrev sacristy_mem_Mem_each_1.N : FuncId := 41
def sacristy_mem_Mem_each_1.H : Hints := { loops := [(3, [(12, .one (.int .i64))])], raw := [4], yields := [(4, 2)] }
def sacristy_mem_Mem_each_1.vc (yield' : Value) (c0 : Option Addr) (w : World) (R : Ending → World → Prop) : Prop :=
  Deref c0 fun (ad : Addr) =>
  ∃ (p : Option Addr),
  w.cell? ad = some (Value.pointer p) ∧
  ∃ (b : Bool),
  EqRuns Proofs.Try.prog BinOp.eql 28 (Operand.tmp 5) (Operand.const (Value.pointer none)) (Value.pointer p)
  (Value.pointer none) b ∧
  cnd b (R (Ending.returned (Value.tuple #[])) w)
  (Deref c0 fun (ad : Addr) =>
  ∃ (p : Option Addr),
  w.cell? ad = some (Value.pointer p) ∧
  Deref p fun (a : Addr) =>
  ∃ (p : Option Addr),
  ∃ (n : Nat),
  ∃ (c : Nat),
  w.cell? a = some (Value.slice p n c) ∧
  ∃ (I : List Value → World → Prop),
  ∃ (μ : List Value → World → Nat),
  I [Value.int IntKind.i64 0] w ∧
  ∀ (g : Nat → Value) (s12 : Int) (w' : World),
  I [Value.int IntKind.i64 s12] w' →
  cnd (decide (s12 < (↑n : Int)))
  ((0 ≤ s12 ∧ s12 < (↑n : Int)) ∧
  Deref p fun (a : Addr) =>
  ∃ (p : Option Addr),
  w'.cell? (a.add (s12.toNat * 1)) = some (Value.pointer p) ∧
  AsYield yield' fun (l : Nat) =>
  YieldC Proofs.Try.prog l #[Value.pointer p] w'
  fun (b : Bool) (w'_1 : World) =>
  cnd (!b) (R (Ending.returned (Value.tuple #[])) w'_1)
  (Goes I μ [Value.int IntKind.i64 s12] w'
  [Value.int IntKind.i64 (IntKind.i64.wrap (s12 + 1))] w'_1))
  (R (Ending.returned (Value.tuple #[])) w'))
theorem sacristy_mem_Mem_each_1.vc_eq (yield' : Value) (c0 : Option Addr) (w : World) (R : Ending → World → Prop) : fnV Try.prog sacristy_mem_Mem_each_1.H 41 [yield', Value.pointer c0] w R = sacristy_mem_Mem_each_1.vc yield' c0 w R := by kernel_rfl
theorem sacristy_mem_Mem_each_1.calls {yield' : Value} {c0 : Option Addr} {w : World} {R : Ending → World → Prop} (h : sacristy_mem_Mem_each_1.vc yield' c0 w R) : Calls Try.prog 41 ([yield', Value.pointer c0] : List Value).toArray w R := calls_of_eq (sacristy_mem_Mem_each_1.vc_eq yield' c0 w R) h

/- function 19: (*sacristy/mem.Mem).Regions -/
abbrev sacristy_mem_Mem_Regions.N : FuncId := 19
def sacristy_mem_Mem_Regions.H : Hints := { rngs := [(6, [(6, .one .ptr)], [(3, .one .ptr)])], mixes := [(3, 1001)] }
def sacristy_mem_Mem_Regions.vc (m' : Option Addr) (w : World) (R : Ending → World → Prop) : Prop :=
  ∀ (w' : World),
  w' = w.alloc (Obj.cells #[Value.slice none 0 0] 22) →
  Calls Proofs.Try.prog 37 #[Value.pointer m'] w' fun (e : Ending) (w' : World) =>
  ∃ (v : Value),
  e = Ending.returned v ∧
  AsFn v fun (gf : FuncId) (fi lb : Array Value) =>
  cnd (entersB Proofs.Try.prog gf)
  (fi = #[] ∧
  ∃ (r : Rounds Proofs.Try.prog gf lb w'),
  (∀ (x : Fin r.N), okV [(6, Shape.one Sh.ptr)] (r.enc x) = true) ∧
  (∀ (s6 : Option Addr) (pre : List (Fin r.N)) (x : Fin r.N) (w1 : World),
  r.enc x = [Value.pointer s6] →
  r.I pre w1 →
  KeepsFrom w'.heap.size w1 w1 ∧
  KpS r.Ks w1 w1 ∧ r.I pre w1 ∧ r.Mid x [Value.pointer s6] w1) ∧
  (∀ (s6 : Option Addr) (pre : List (Fin r.N)) (x : Fin r.N),
  r.enc x = [Value.pointer s6] →
  pre.length < r.N →
  ∀ (g : Nat → Value) (p : Option Addr) (w'_1 : World),
  r.I pre w'_1 ∧ r.Mid x [Value.pointer p] w'_1 →
  ∃ (C : World → Prop),
  (∀ (w' : World), Later w'_1 w' → C w') ∧
  ∀ (w'_2 : World),
  Later w'_1 w'_2 →
  ∃ (p_1 : Option Addr),
  ∃ (n : Nat),
  ∃ (c : Nat),
  (∀ (w' : World),
  C w' →
  w'.cell? (Addr.mk w.heap.size 0 none) =
  some (Value.slice p_1 n c)) ∧
  Deref p fun (a : Addr) =>
  ∃ (n_1 : Int),
  ∃ (n_2 : Int),
  ∃ (n_3 : Int),
  (∀ (w' : World),
  C w' →
  w'.cell? a = some (Value.int IntKind.u64 n_1) ∧
  w'.cell? (a.add 1) =
  some (Value.int IntKind.u64 n_2) ∧
  w'.cell? (a.add 2) =
  some (Value.int IntKind.u8 n_3) ∧
  True) ∧
  ∀ (w'_3 : World),
  w'_3 =
  w'_2.alloc
  (Obj.cells
  #[Value.int IntKind.u64 n_1,
  Value.int IntKind.u64 n_2,
  Value.int IntKind.u8 n_3]
  42) →
  C w'_3 ∧
  RunsV Proofs.Try.prog
  (Builtin.append_ #[22, 22] 22
  #[Value.slice p_1 n c,
  Value.slice
  (some (Addr.mk w'_2.heap.size 0 none)) 1 1])
  w'_3 fun (v : Value) (w'_4 : World) =>
  ∃ (p : Option Addr),
  ∃ (n : Nat),
  ∃ (c : Nat),
  v = Value.slice p n c ∧
  C w'_4 ∧
  ((w'_4.cell?
  (Addr.mk w.heap.size 0
  none)).isSome =
  true ∧
  w'_4.frozen?
  (Addr.mk w.heap.size 0 none) =
  false) ∧
  ∀ (w'_5 : World),
  w'_5 =
  w'_4.setCell
  (Addr.mk w.heap.size 0 none)
  (Value.slice p n c) →
  KeepsFrom w'.heap.size w'_1 w'_5 ∧
  KpS r.Ks w'_1 w'_5 ∧
  r.I (pre ++ [x]) w'_5) ∧
  (∀ (D : Nat) (w1 : World),
  w'.heap.size ≤ D →
  r.I (List.finRange r.N) w1 →
  w1.heap[D]? = some (Obj.deferred (some [])) →
  ∃ (p : Option Addr),
  ∃ (n : Nat),
  ∃ (c : Nat),
  w1.cell? (Addr.mk w.heap.size 0 none) = some (Value.slice p n c) ∧
  ((w1.cell? (Addr.mk w.heap.size 0 none)).isSome = true ∧
  w1.frozen? (Addr.mk w.heap.size 0 none) = false) ∧
  ∀ (w' : World),
  w' = w1.setCell (Addr.mk w.heap.size 0 none) (Value.slice p n c) →
  w'.heap[D]? = some (Obj.deferred (some [])) ∧
  ∀ (w'_1 : World),
  w'_1 = w'.putObj D (Obj.deferred none) →
  ∃ (p : Option Addr),
  ∃ (n : Nat),
  ∃ (c : Nat),
  w'_1.cell? (Addr.mk w.heap.size 0 none) =
  some (Value.slice p n c) ∧
  R (Ending.returned (Value.slice p n c)) w'_1) ∧
  ∀ (D : Nat) (pre : List (Fin r.N)) (w1 : World),
  w'.heap.size ≤ D →
  (∃ (t : List (Fin r.N)), pre ++ t = List.finRange r.N) →
  r.Ix pre w1 →
  w1.heap[D]? = some (Obj.deferred (some [])) →
  w1.heap[D]? = some (Obj.deferred (some [])) ∧
  ∀ (w' : World),
  w' = w1.putObj D (Obj.deferred none) →
  ∃ (p : Option Addr),
  ∃ (n : Nat),
  ∃ (c : Nat),
  w'.cell? (Addr.mk w.heap.size 0 none) = some (Value.slice p n c) ∧
  R (Ending.returned (Value.slice p n c)) w')
  False
theorem sacristy_mem_Mem_Regions.vc_eq (m' : Option Addr) (w : World) (R : Ending → World → Prop) : fnM Try.prog sacristy_mem_Mem_Regions.H 19 [Value.pointer m'] w R = sacristy_mem_Mem_Regions.vc m' w R := by kernel_rfl
theorem sacristy_mem_Mem_Regions.calls {m' : Option Addr} {w : World} {R : Ending → World → Prop} (h : sacristy_mem_Mem_Regions.vc m' w R) : Calls Try.prog 19 ([Value.pointer m'] : List Value).toArray w R := calls_of_eqM (sacristy_mem_Mem_Regions.vc_eq m' w R) h

/- function 39: (*sacristy/mem.part).has -/
abbrev sacristy_mem_part_has.N : FuncId := 39
def sacristy_mem_part_has.H : Hints := {  }
def sacristy_mem_part_has.vc (p' : Option Addr) (at' : Int) (n' : Int) (w : World) (R : Ending → World → Prop) : Prop :=
  Deref p' fun (a : Addr) =>
  ∃ (n : Int),
  (∀ (w' : World), Later w w' → w'.cell? a = some (Value.int IntKind.u64 n)) ∧
  cnd (decide (at' ≥ n))
  (Deref p' fun (a : Addr) =>
  ∃ (n : Int),
  (∀ (w' : World), Later w w' → w'.cell? a = some (Value.int IntKind.u64 n)) ∧
  Deref p' fun (a : Addr) =>
  ∃ (n_1 : Int),
  (∀ (w' : World), Later w w' → w'.cell? (a.add 1) = some (Value.int IntKind.u64 n_1)) ∧
  cnd (decide (IntKind.u64.wrap (at' - n) < n_1))
  (Deref p' fun (a : Addr) =>
  ∃ (n : Int),
  (∀ (w' : World), Later w w' → w'.cell? (a.add 1) = some (Value.int IntKind.u64 n)) ∧
  Deref p' fun (a : Addr) =>
  ∃ (n_2 : Int),
  (∀ (w' : World), Later w w' → w'.cell? a = some (Value.int IntKind.u64 n_2)) ∧
  ∀ (w' : World),
  Later w w' →
  R
  (Ending.returned
  (Value.bool
  (decide
  (IntKind.u64.wrap n' ≤
  IntKind.u64.wrap (n - IntKind.u64.wrap (at' - n_2))))))
  w')
  (∀ (w' : World), Later w w' → R (Ending.returned (Value.bool false)) w'))
  (∀ (w' : World), Later w w' → R (Ending.returned (Value.bool false)) w')
theorem sacristy_mem_part_has.vc_eq (p' : Option Addr) (at' : Int) (n' : Int) (w : World) (R : Ending → World → Prop) : fnV Try.prog sacristy_mem_part_has.H 39 [Value.pointer p', Value.int IntKind.u64 at', Value.int IntKind.i64 n'] w R = sacristy_mem_part_has.vc p' at' n' w R := by kernel_rfl
theorem sacristy_mem_part_has.calls {p' : Option Addr} {at' : Int} {n' : Int} {w : World} {R : Ending → World → Prop} (h : sacristy_mem_part_has.vc p' at' n' w R) : Calls Try.prog 39 ([Value.pointer p', Value.int IntKind.u64 at', Value.int IntKind.i64 n'] : List Value).toArray w R := calls_of_eq (sacristy_mem_part_has.vc_eq p' at' n' w R) h

/- function 25: (*sacristy/mem.Mem).in -/
abbrev sacristy_mem_Mem_in.N : FuncId := 25
def sacristy_mem_Mem_in.H : Hints := { rngs := [(11, [(11, .one .ptr)], [(8, .one .ptr)])], mixes := [(4, 1001)] }
def sacristy_mem_Mem_in.vc (m' : Option Addr) (at' : Int) (n' : Int) (w : World) (R : Ending → World → Prop) : Prop :=
  ∀ (w' : World),
  w' = w.alloc (Obj.cells #[Value.int IntKind.u64 at'] 24) →
  ∀ (w'_1 : World),
  w'_1 = w'.alloc (Obj.cells #[Value.int IntKind.i64 n'] 3) →
  ∀ (w'_2 : World),
  w'_2 = w'_1.alloc (Obj.cells #[Value.pointer none] 64) →
  ∀ (w'_3 : World),
  w'_3 = w'_2.alloc (Obj.cells #[Value.int IntKind.i64 0] 3) →
  Calls Proofs.Try.prog 37 #[Value.pointer m'] w'_3 fun (e : Ending) (w'_4 : World) =>
  ∃ (v : Value),
  e = Ending.returned v ∧
  AsFn v fun (gf : FuncId) (fi lb : Array Value) =>
  cnd (entersB Proofs.Try.prog gf)
  (fi = #[] ∧
  ∃ (r : Rounds Proofs.Try.prog gf lb w'_4),
  (∀ (x : Fin r.N), okV [(11, Shape.one Sh.ptr)] (r.enc x) = true) ∧
  (∀ (s11 : Option Addr) (pre : List (Fin r.N)) (x : Fin r.N) (w1 : World),
  r.enc x = [Value.pointer s11] →
  r.I pre w1 →
  KeepsFrom w'_4.heap.size w1 w1 ∧
  KpS r.Ks w1 w1 ∧ r.I pre w1 ∧ r.Mid x [Value.pointer s11] w1) ∧
  (∀ (s11 : Option Addr) (pre : List (Fin r.N)) (x : Fin r.N),
  r.enc x = [Value.pointer s11] →
  pre.length < r.N →
  ∀ (g : Nat → Value) (p : Option Addr) (w'_5 : World),
  r.I pre w'_5 ∧ r.Mid x [Value.pointer p] w'_5 →
  ∃ (n : Int),
  w'_5.cell? (Addr.mk w.heap.size 0 none) =
  some (Value.int IntKind.u64 n) ∧
  ∃ (n_1 : Int),
  w'_5.cell? (Addr.mk w'.heap.size 0 none) =
  some (Value.int IntKind.i64 n_1) ∧
  Calls Proofs.Try.prog 39
  #[Value.pointer p, Value.int IntKind.u64 n,
  Value.int IntKind.i64 n_1]
  w'_5 fun (e : Ending) (w' : World) =>
  ∃ (b : Bool),
  e = Ending.returned (Value.bool b) ∧
  cnd b
  (∃ (C : World → Prop),
  (∀ (w'_6 : World), Later w' w'_6 → C w'_6) ∧
  ∀ (w'_6 : World),
  Later w' w'_6 →
  ∃ (n : Int),
  (∀ (w' : World),
  C w' →
  w'.cell? (Addr.mk w.heap.size 0 none) =
  some (Value.int IntKind.u64 n)) ∧
  Deref p fun (a : Addr) =>
  ∃ (n_2 : Int),
  (∀ (w' : World),
  C w' →
  w'.cell? a =
  some
  (Value.int IntKind.u64 n_2)) ∧
  ((w'_6.cell?
  (Addr.mk w'_1.heap.size 0
  none)).isSome =
  true ∧
  w'_6.frozen?
  (Addr.mk w'_1.heap.size 0
  none) =
  false) ∧
  ∀ (w' : World),
  w' =
  w'_6.setCell
  (Addr.mk w'_1.heap.size 0
  none)
  (Value.pointer p) →
  C w' ∧
  ((w'.cell?
  (Addr.mk
  w'_2.heap.size 0
  none)).isSome =
  true ∧
  w'.frozen?
  (Addr.mk w'_2.heap.size
  0 none) =
  false) ∧
  ∀ (w'_7 : World),
  w'_7 =
  w'.setCell
  (Addr.mk
  w'_2.heap.size 0
  none)
  (Value.int IntKind.i64
  (IntKind.i64.wrap
  (IntKind.u64.wrap
  (n - n_2)))) →
  KeepsFrom w'_4.heap.size
  w'_5 w'_7 ∧
  r.Ix (pre ++ [x]) w'_7)
  (KeepsFrom w'_4.heap.size w'_5 w' ∧
  KpS r.Ks w'_5 w' ∧ r.I (pre ++ [x]) w')) ∧
  (∀ (D : Nat) (w1 : World),
  w'_4.heap.size ≤ D →
  r.I (List.finRange r.N) w1 →
  w1.heap[D]? = some (Obj.deferred (some [])) →
  ((w1.cell? (Addr.mk w'_1.heap.size 0 none)).isSome = true ∧
  w1.frozen? (Addr.mk w'_1.heap.size 0 none) = false) ∧
  ∀ (w' : World),
  w' = w1.setCell (Addr.mk w'_1.heap.size 0 none) (Value.pointer none) →
  ((w'.cell? (Addr.mk w'_2.heap.size 0 none)).isSome = true ∧
  w'.frozen? (Addr.mk w'_2.heap.size 0 none) = false) ∧
  ∀ (w'_5 : World),
  w'_5 =
  w'.setCell (Addr.mk w'_2.heap.size 0 none)
  (Value.int IntKind.i64 0) →
  w'_5.heap[D]? = some (Obj.deferred (some [])) ∧
  ∀ (w' : World),
  w' = w'_5.putObj D (Obj.deferred none) →
  ∃ (p : Option Addr),
  w'.cell? (Addr.mk w'_1.heap.size 0 none) =
  some (Value.pointer p) ∧
  ∃ (n : Int),
  w'.cell? (Addr.mk w'_2.heap.size 0 none) =
  some (Value.int IntKind.i64 n) ∧
  R
  (Ending.returned
  (Value.tuple
  #[Value.pointer p,
  Value.int IntKind.i64 n]))
  w') ∧
  ∀ (D : Nat) (pre : List (Fin r.N)) (w1 : World),
  w'_4.heap.size ≤ D →
  (∃ (t : List (Fin r.N)), pre ++ t = List.finRange r.N) →
  r.Ix pre w1 →
  w1.heap[D]? = some (Obj.deferred (some [])) →
  w1.heap[D]? = some (Obj.deferred (some [])) ∧
  ∀ (w' : World),
  w' = w1.putObj D (Obj.deferred none) →
  ∃ (p : Option Addr),
  w'.cell? (Addr.mk w'_1.heap.size 0 none) =
  some (Value.pointer p) ∧
  ∃ (n : Int),
  w'.cell? (Addr.mk w'_2.heap.size 0 none) =
  some (Value.int IntKind.i64 n) ∧
  R
  (Ending.returned
  (Value.tuple
  #[Value.pointer p, Value.int IntKind.i64 n]))
  w')
  False
theorem sacristy_mem_Mem_in.vc_eq (m' : Option Addr) (at' : Int) (n' : Int) (w : World) (R : Ending → World → Prop) : fnM Try.prog sacristy_mem_Mem_in.H 25 [Value.pointer m', Value.int IntKind.u64 at', Value.int IntKind.i64 n'] w R = sacristy_mem_Mem_in.vc m' at' n' w R := by kernel_rfl
theorem sacristy_mem_Mem_in.calls {m' : Option Addr} {at' : Int} {n' : Int} {w : World} {R : Ending → World → Prop} (h : sacristy_mem_Mem_in.vc m' at' n' w R) : Calls Try.prog 25 ([Value.pointer m', Value.int IntKind.u64 at', Value.int IntKind.i64 n'] : List Value).toArray w R := calls_of_eqM (sacristy_mem_Mem_in.vc_eq m' at' n' w R) h

/- function 27: (*sacristy/mem.Mem).right -/
abbrev sacristy_mem_Mem_right.N : FuncId := 27
def sacristy_mem_Mem_right.H : Hints := {  }
def sacristy_mem_Mem_right.vc (m' : Option Addr) (n' : Int) (w : World) (R : Ending → World → Prop) : Prop :=
  ∃ (b : Bool),
  EqRuns Proofs.Try.prog BinOp.eql 28 (Operand.tmp 6) (Operand.const (Value.pointer none)) (Value.pointer m')
  (Value.pointer none) b ∧
  cnd b (R (Ending.returned (Value.int IntKind.i64 1)) w)
  (cnd (decide (n' < 1)) (R (Ending.returned (Value.int IntKind.i64 2)) w)
  (cnd (decide (n' > 8)) (R (Ending.returned (Value.int IntKind.i64 2)) w)
  (R (Ending.returned (Value.int IntKind.i64 0)) w)))
theorem sacristy_mem_Mem_right.vc_eq (m' : Option Addr) (n' : Int) (w : World) (R : Ending → World → Prop) : fnV Try.prog sacristy_mem_Mem_right.H 27 [Value.pointer m', Value.int IntKind.i64 n'] w R = sacristy_mem_Mem_right.vc m' n' w R := by kernel_rfl
theorem sacristy_mem_Mem_right.calls {m' : Option Addr} {n' : Int} {w : World} {R : Ending → World → Prop} (h : sacristy_mem_Mem_right.vc m' n' w R) : Calls Try.prog 27 ([Value.pointer m', Value.int IntKind.i64 n'] : List Value).toArray w R := calls_of_eq (sacristy_mem_Mem_right.vc_eq m' n' w R) h

/- function 13: (*sacristy/mem.Mem).Load -/
abbrev sacristy_mem_Mem_Load.N : FuncId := 13
def sacristy_mem_Mem_Load.H : Hints := { loops := [(9, [(7, .one .bool), (50, .one (.int .i64))])] }
def sacristy_mem_Mem_Load.vc (m' : Option Addr) (at' : Int) (n' : Int) (w : World) (R : Ending → World → Prop) : Prop :=
  Calls Proofs.Try.prog 27 #[Value.pointer m', Value.int IntKind.i64 n'] w fun (e : Ending) (w' : World) =>
  ∃ (n : Int),
  e = Ending.returned (Value.int IntKind.i64 n) ∧
  cnd (n != 0)
  (R (Ending.returned (Value.tuple #[Value.int IntKind.u64 0, Value.bool false, Value.int IntKind.i64 n])) w')
  (Calls Proofs.Try.prog 25 #[Value.pointer m', Value.int IntKind.u64 at', Value.int IntKind.i64 n'] w'
  fun (e : Ending) (w' : World) =>
  ∃ (p : Option Addr),
  ∃ (n : Int),
  e = Ending.returned (Value.tuple #[Value.pointer p, Value.int IntKind.i64 n]) ∧
  ∃ (b : Bool),
  EqRuns Proofs.Try.prog BinOp.eql 64 (Operand.tmp 27) (Operand.const (Value.pointer none))
  (Value.pointer p) (Value.pointer none) b ∧
  cnd b
  (R
  (Ending.returned
  (Value.tuple #[Value.int IntKind.u64 0, Value.bool false, Value.int IntKind.i64 40]))
  w')
  (Deref p fun (a : Addr) =>
  ∃ (n_1 : Int),
  w'.cell? (a.add 2) = some (Value.int IntKind.u8 n_1) ∧
  cnd (n_1 == 1)
  (R
  (Ending.returned
  (Value.tuple #[Value.int IntKind.u64 0, Value.bool false, Value.int IntKind.i64 40]))
  w')
  (Deref p fun (a : Addr) =>
  ∃ (p_1 : Option Addr),
  ∃ (n_2 : Nat),
  ∃ (c : Nat),
  w'.cell? (a.add 4) = some (Value.slice p_1 n_2 c) ∧
  (0 ≤ IntKind.i64.wrap (n + n') ∧ IntKind.i64.wrap (n + n') ≤ (↑c : Int)) ∧
  (0 ≤ IntKind.i64.wrap (n + n') ∧
  IntKind.i64.wrap (n + n') ≤ (↑(IntKind.i64.wrap (n + n')).toNat : Int)) ∧
  (0 ≤ n ∧ n ≤ (↑(IntKind.i64.wrap (n + n')).toNat : Int)) ∧
  ∃ (I : List Value → World → Prop),
  ∃ (μ : List Value → World → Nat),
  I [Value.bool false, Value.int IntKind.i64 0] w' ∧
  ∀ (g : Nat → Value) (taint : Bool) (s50 : Int) (w' : World),
  I [Value.bool taint, Value.int IntKind.i64 s50] w' →
  cnd
  (decide
  (s50 <
  (↑((IntKind.i64.wrap (n + n')).toNat - n.toNat) : Int)))
  ((0 ≤ s50 ∧
  s50 <
  (↑((IntKind.i64.wrap (n + n')).toNat - n.toNat) :
  Int)) ∧
  Deref
  (reslice p_1 n.toNat (IntKind.i64.wrap (n + n')).toNat 1)
  fun (a : Addr) =>
  ∃ (b : Bool),
  w'.cell? (a.add (s50.toNat * 1)) = some (Value.bool b) ∧
  cnd taint
  (Goes I μ
  [Value.bool taint, Value.int IntKind.i64 s50] w'
  [Value.bool true,
  Value.int IntKind.i64
  (IntKind.i64.wrap (s50 + 1))]
  w')
  (Goes I μ
  [Value.bool taint, Value.int IntKind.i64 s50] w'
  [Value.bool b,
  Value.int IntKind.i64
  (IntKind.i64.wrap (s50 + 1))]
  w'))
  (Deref p fun (a : Addr) =>
  ∃ (p : Option Addr),
  ∃ (n_3 : Nat),
  ∃ (c : Nat),
  w'.cell? (a.add 3) = some (Value.slice p n_3 c) ∧
  (0 ≤ IntKind.i64.wrap (n + n') ∧
  IntKind.i64.wrap (n + n') ≤ (↑c : Int)) ∧
  (0 ≤ IntKind.i64.wrap (n + n') ∧
  IntKind.i64.wrap (n + n') ≤
  (↑(IntKind.i64.wrap (n + n')).toNat :
  Int)) ∧
  (0 ≤ n ∧
  n ≤
  (↑(IntKind.i64.wrap (n + n')).toNat :
  Int)) ∧
  RunsV Proofs.Try.prog
  (convert 60 9
  (Value.slice
  (reslice p n.toNat
  (IntKind.i64.wrap (n + n')).toNat 1)
  ((IntKind.i64.wrap (n + n')).toNat -
  n.toNat)
  ((IntKind.i64.wrap (n + n')).toNat -
  n.toNat)))
  w' fun (v : Value) (w' : World) =>
  ∃ (s : ByteArray),
  v = Value.string s ∧
  Calls Proofs.Try.prog 29
  #[Value.string s] w'
  fun (e : Ending) (w' : World) =>
  ∃ (n : Int),
  ∃ (n_4 : Int),
  e =
  Ending.returned
  (Value.tuple
  #[Value.int IntKind.u64 n,
  Value.int IntKind.i64
  n_4]) ∧
  R
  (Ending.returned
  (Value.tuple
  #[Value.int IntKind.u64 n,
  Value.bool taint,
  Value.int IntKind.i64
  n_4]))
  w'))))
theorem sacristy_mem_Mem_Load.vc_eq (m' : Option Addr) (at' : Int) (n' : Int) (w : World) (R : Ending → World → Prop) : fnV Try.prog sacristy_mem_Mem_Load.H 13 [Value.pointer m', Value.int IntKind.u64 at', Value.int IntKind.i64 n'] w R = sacristy_mem_Mem_Load.vc m' at' n' w R := by kernel_rfl
theorem sacristy_mem_Mem_Load.calls {m' : Option Addr} {at' : Int} {n' : Int} {w : World} {R : Ending → World → Prop} (h : sacristy_mem_Mem_Load.vc m' at' n' w R) : Calls Try.prog 13 ([Value.pointer m', Value.int IntKind.u64 at', Value.int IntKind.i64 n'] : List Value).toArray w R := calls_of_eq (sacristy_mem_Mem_Load.vc_eq m' at' n' w R) h

/- function 26: (*sacristy/mem.part).lay -/
abbrev sacristy_mem_part_lay.N : FuncId := 26
def sacristy_mem_part_lay.H : Hints := { loops := [(2, [(25, .one (.int .i64))])] }
def sacristy_mem_part_lay.vc (p' : Option Addr) (k' : Int) (s' : ByteArray) (taint' : Bool) (w : World) (R : Ending → World → Prop) : Prop :=
  Deref p' fun (a : Addr) =>
  ∃ (p : Option Addr),
  ∃ (n : Nat),
  ∃ (c : Nat),
  w.cell? (a.add 3) = some (Value.slice p n c) ∧
  (0 ≤ IntKind.i64.wrap (k' + (↑s'.size : Int)) ∧ IntKind.i64.wrap (k' + (↑s'.size : Int)) ≤ (↑c : Int)) ∧
  (0 ≤ IntKind.i64.wrap (k' + (↑s'.size : Int)) ∧
  IntKind.i64.wrap (k' + (↑s'.size : Int)) ≤ (↑(IntKind.i64.wrap (k' + (↑s'.size : Int))).toNat : Int)) ∧
  (0 ≤ k' ∧ k' ≤ (↑(IntKind.i64.wrap (k' + (↑s'.size : Int))).toNat : Int)) ∧
  RunsV Proofs.Try.prog
  (Builtin.copy_ #[60, 9] 3
  #[Value.slice (reslice p k'.toNat (IntKind.i64.wrap (k' + (↑s'.size : Int))).toNat 1)
  ((IntKind.i64.wrap (k' + (↑s'.size : Int))).toNat - k'.toNat)
  ((IntKind.i64.wrap (k' + (↑s'.size : Int))).toNat - k'.toNat),
  Value.string s'])
  w fun (v : Value) (w' : World) =>
  ∃ (n : Int),
  v = Value.int IntKind.i64 n ∧
  ∃ (I : List Value → World → Prop),
  ∃ (μ : List Value → World → Nat),
  I [Value.int IntKind.i64 0] w' ∧
  ∀ (g : Nat → Value) (s25 : Int) (w' : World),
  I [Value.int IntKind.i64 s25] w' →
  cnd (decide (s25 < n))
  (Deref p' fun (a : Addr) =>
  ∃ (p : Option Addr),
  ∃ (n : Nat),
  ∃ (c : Nat),
  w'.cell? (a.add 4) = some (Value.slice p n c) ∧
  (0 ≤ IntKind.i64.wrap (k' + s25) ∧
  IntKind.i64.wrap (k' + s25) < (↑n : Int)) ∧
  Deref p fun (a : Addr) =>
  ((w'.cell? (a.add ((IntKind.i64.wrap (k' + s25)).toNat * 1))).isSome =
  true ∧
  w'.frozen? (a.add ((IntKind.i64.wrap (k' + s25)).toNat * 1)) =
  false) ∧
  ∀ (w'_1 : World),
  w'_1 =
  w'.setCell (a.add ((IntKind.i64.wrap (k' + s25)).toNat * 1))
  (Value.bool taint') →
  Goes I μ [Value.int IntKind.i64 s25] w'
  [Value.int IntKind.i64 (IntKind.i64.wrap (s25 + 1))] w'_1)
  (R (Ending.returned (Value.tuple #[])) w')
theorem sacristy_mem_part_lay.vc_eq (p' : Option Addr) (k' : Int) (s' : ByteArray) (taint' : Bool) (w : World) (R : Ending → World → Prop) : fnV Try.prog sacristy_mem_part_lay.H 26 [Value.pointer p', Value.int IntKind.i64 k', Value.string s', Value.bool taint'] w R = sacristy_mem_part_lay.vc p' k' s' taint' w R := by kernel_rfl
theorem sacristy_mem_part_lay.calls {p' : Option Addr} {k' : Int} {s' : ByteArray} {taint' : Bool} {w : World} {R : Ending → World → Prop} (h : sacristy_mem_part_lay.vc p' k' s' taint' w R) : Calls Try.prog 26 ([Value.pointer p', Value.int IntKind.i64 k', Value.string s', Value.bool taint'] : List Value).toArray w R := calls_of_eq (sacristy_mem_part_lay.vc_eq p' k' s' taint' w R) h

/- function 12: (*sacristy/mem.Mem).Store -/
abbrev sacristy_mem_Mem_Store.N : FuncId := 12
def sacristy_mem_Mem_Store.H : Hints := {  }
def sacristy_mem_Mem_Store.vc (m' : Option Addr) (at' : Int) (n' : Int) (v' : Int) (taint' : Bool) (w : World) (R : Ending → World → Prop) : Prop :=
  Calls Proofs.Try.prog 27 #[Value.pointer m', Value.int IntKind.i64 n'] w fun (e : Ending) (w' : World) =>
  ∃ (n : Int),
  e = Ending.returned (Value.int IntKind.i64 n) ∧
  cnd (n != 0) (R (Ending.returned (Value.int IntKind.i64 n)) w')
  (Calls Proofs.Try.prog 25 #[Value.pointer m', Value.int IntKind.u64 at', Value.int IntKind.i64 n'] w'
  fun (e : Ending) (w' : World) =>
  ∃ (p : Option Addr),
  ∃ (n : Int),
  e = Ending.returned (Value.tuple #[Value.pointer p, Value.int IntKind.i64 n]) ∧
  ∃ (b : Bool),
  EqRuns Proofs.Try.prog BinOp.eql 64 (Operand.tmp 29) (Operand.const (Value.pointer none))
  (Value.pointer p) (Value.pointer none) b ∧
  cnd b (R (Ending.returned (Value.int IntKind.i64 40)) w')
  (Deref p fun (a : Addr) =>
  ∃ (n_1 : Int),
  w'.cell? (a.add 2) = some (Value.int IntKind.u8 n_1) ∧
  cnd (n_1 != 3)
  (Deref p fun (a : Addr) =>
  ∃ (n_2 : Int),
  w'.cell? (a.add 2) = some (Value.int IntKind.u8 n_2) ∧
  cnd (n_2 != 4) (R (Ending.returned (Value.int IntKind.i64 40)) w')
  (Calls Proofs.Try.prog 28 #[Value.int IntKind.u64 v', Value.int IntKind.i64 n'] w'
  fun (e : Ending) (w' : World) =>
  ∃ (s : ByteArray),
  ∃ (n_3 : Int),
  e =
  Ending.returned
  (Value.tuple #[Value.string s, Value.int IntKind.i64 n_3]) ∧
  Calls Proofs.Try.prog 26
  #[Value.pointer p, Value.int IntKind.i64 n, Value.string s,
  Value.bool taint']
  w' fun (e : Ending) (w' : World) =>
  e = Ending.returned (Value.tuple #[]) ∧
  R (Ending.returned (Value.int IntKind.i64 0)) w'))
  (Calls Proofs.Try.prog 28 #[Value.int IntKind.u64 v', Value.int IntKind.i64 n'] w'
  fun (e : Ending) (w' : World) =>
  ∃ (s : ByteArray),
  ∃ (n_2 : Int),
  e = Ending.returned (Value.tuple #[Value.string s, Value.int IntKind.i64 n_2]) ∧
  Calls Proofs.Try.prog 26
  #[Value.pointer p, Value.int IntKind.i64 n, Value.string s, Value.bool taint']
  w' fun (e : Ending) (w' : World) =>
  e = Ending.returned (Value.tuple #[]) ∧
  R (Ending.returned (Value.int IntKind.i64 0)) w')))
theorem sacristy_mem_Mem_Store.vc_eq (m' : Option Addr) (at' : Int) (n' : Int) (v' : Int) (taint' : Bool) (w : World) (R : Ending → World → Prop) : fnV Try.prog sacristy_mem_Mem_Store.H 12 [Value.pointer m', Value.int IntKind.u64 at', Value.int IntKind.i64 n', Value.int IntKind.u64 v', Value.bool taint'] w R = sacristy_mem_Mem_Store.vc m' at' n' v' taint' w R := by kernel_rfl
theorem sacristy_mem_Mem_Store.calls {m' : Option Addr} {at' : Int} {n' : Int} {v' : Int} {taint' : Bool} {w : World} {R : Ending → World → Prop} (h : sacristy_mem_Mem_Store.vc m' at' n' v' taint' w R) : Calls Try.prog 12 ([Value.pointer m', Value.int IntKind.u64 at', Value.int IntKind.i64 n', Value.int IntKind.u64 v', Value.bool taint'] : List Value).toArray w R := calls_of_eq (sacristy_mem_Mem_Store.vc_eq m' at' n' v' taint' w R) h

/- function 15: (*sacristy/mem.Mem).Fetch -/
abbrev sacristy_mem_Mem_Fetch.N : FuncId := 15
def sacristy_mem_Mem_Fetch.H : Hints := {  }
def sacristy_mem_Mem_Fetch.vc (m' : Option Addr) (at' : Int) (w : World) (R : Ending → World → Prop) : Prop :=
  ∃ (b : Bool),
  EqRuns Proofs.Try.prog BinOp.eql 28 (Operand.tmp 10) (Operand.const (Value.pointer none)) (Value.pointer m')
  (Value.pointer none) b ∧
  cnd b (R (Ending.returned (Value.tuple #[Value.int IntKind.u32 0, Value.int IntKind.i64 1])) w)
  (cnd (at'.tmod 4 != 0) (R (Ending.returned (Value.tuple #[Value.int IntKind.u32 0, Value.int IntKind.i64 40])) w)
  (Calls Proofs.Try.prog 25 #[Value.pointer m', Value.int IntKind.u64 at', Value.int IntKind.i64 4] w
  fun (e : Ending) (w' : World) =>
  ∃ (p : Option Addr),
  ∃ (n : Int),
  e = Ending.returned (Value.tuple #[Value.pointer p, Value.int IntKind.i64 n]) ∧
  ∃ (b : Bool),
  EqRuns Proofs.Try.prog BinOp.eql 64 (Operand.tmp 21) (Operand.const (Value.pointer none))
  (Value.pointer p) (Value.pointer none) b ∧
  cnd b (R (Ending.returned (Value.tuple #[Value.int IntKind.u32 0, Value.int IntKind.i64 40])) w')
  (Deref p fun (a : Addr) =>
  ∃ (n_1 : Int),
  w'.cell? (a.add 2) = some (Value.int IntKind.u8 n_1) ∧
  cnd (n_1 != 1)
  (R (Ending.returned (Value.tuple #[Value.int IntKind.u32 0, Value.int IntKind.i64 40]))
  w')
  (Deref p fun (a : Addr) =>
  ∃ (p : Option Addr),
  ∃ (n_2 : Nat),
  ∃ (c : Nat),
  w'.cell? (a.add 3) = some (Value.slice p n_2 c) ∧
  (0 ≤ IntKind.i64.wrap (n + 4) ∧ IntKind.i64.wrap (n + 4) ≤ (↑c : Int)) ∧
  (0 ≤ IntKind.i64.wrap (n + 4) ∧
  IntKind.i64.wrap (n + 4) ≤ (↑(IntKind.i64.wrap (n + 4)).toNat : Int)) ∧
  (0 ≤ n ∧ n ≤ (↑(IntKind.i64.wrap (n + 4)).toNat : Int)) ∧
  RunsV Proofs.Try.prog
  (convert 60 9
  (Value.slice (reslice p n.toNat (IntKind.i64.wrap (n + 4)).toNat 1)
  ((IntKind.i64.wrap (n + 4)).toNat - n.toNat)
  ((IntKind.i64.wrap (n + 4)).toNat - n.toNat)))
  w' fun (v : Value) (w' : World) =>
  ∃ (s : ByteArray),
  v = Value.string s ∧
  Calls Proofs.Try.prog 29 #[Value.string s] w'
  fun (e : Ending) (w' : World) =>
  ∃ (n : Int),
  ∃ (n_3 : Int),
  e =
  Ending.returned
  (Value.tuple
  #[Value.int IntKind.u64 n,
  Value.int IntKind.i64 n_3]) ∧
  R
  (Ending.returned
  (Value.tuple
  #[Value.int IntKind.u32 (IntKind.u32.wrap n),
  Value.int IntKind.i64 0]))
  w'))))
theorem sacristy_mem_Mem_Fetch.vc_eq (m' : Option Addr) (at' : Int) (w : World) (R : Ending → World → Prop) : fnV Try.prog sacristy_mem_Mem_Fetch.H 15 [Value.pointer m', Value.int IntKind.u64 at'] w R = sacristy_mem_Mem_Fetch.vc m' at' w R := by kernel_rfl
theorem sacristy_mem_Mem_Fetch.calls {m' : Option Addr} {at' : Int} {w : World} {R : Ending → World → Prop} (h : sacristy_mem_Mem_Fetch.vc m' at' w R) : Calls Try.prog 15 ([Value.pointer m', Value.int IntKind.u64 at'] : List Value).toArray w R := calls_of_eq (sacristy_mem_Mem_Fetch.vc_eq m' at' w R) h

/- function 11: (*sacristy/mem.Mem).Set -/
abbrev sacristy_mem_Mem_Set.N : FuncId := 11
def sacristy_mem_Mem_Set.H : Hints := {  }
def sacristy_mem_Mem_Set.vc (m' : Option Addr) (at' : Int) (s' : ByteArray) (taint' : Bool) (w : World) (R : Ending → World → Prop) : Prop :=
  ∃ (b : Bool),
  EqRuns Proofs.Try.prog BinOp.eql 28 (Operand.tmp 11) (Operand.const (Value.pointer none)) (Value.pointer m')
  (Value.pointer none) b ∧
  cnd b (R (Ending.returned (Value.int IntKind.i64 1)) w)
  (Calls Proofs.Try.prog 25 #[Value.pointer m', Value.int IntKind.u64 at', Value.int IntKind.i64 (↑s'.size : Int)] w
  fun (e : Ending) (w' : World) =>
  ∃ (p : Option Addr),
  ∃ (n : Int),
  e = Ending.returned (Value.tuple #[Value.pointer p, Value.int IntKind.i64 n]) ∧
  ∃ (b : Bool),
  EqRuns Proofs.Try.prog BinOp.eql 64 (Operand.tmp 21) (Operand.const (Value.pointer none))
  (Value.pointer p) (Value.pointer none) b ∧
  cnd b (R (Ending.returned (Value.int IntKind.i64 40)) w')
  (Calls Proofs.Try.prog 26
  #[Value.pointer p, Value.int IntKind.i64 n, Value.string s', Value.bool taint'] w'
  fun (e : Ending) (w' : World) =>
  e = Ending.returned (Value.tuple #[]) ∧ R (Ending.returned (Value.int IntKind.i64 0)) w'))
theorem sacristy_mem_Mem_Set.vc_eq (m' : Option Addr) (at' : Int) (s' : ByteArray) (taint' : Bool) (w : World) (R : Ending → World → Prop) : fnV Try.prog sacristy_mem_Mem_Set.H 11 [Value.pointer m', Value.int IntKind.u64 at', Value.string s', Value.bool taint'] w R = sacristy_mem_Mem_Set.vc m' at' s' taint' w R := by kernel_rfl
theorem sacristy_mem_Mem_Set.calls {m' : Option Addr} {at' : Int} {s' : ByteArray} {taint' : Bool} {w : World} {R : Ending → World → Prop} (h : sacristy_mem_Mem_Set.vc m' at' s' taint' w R) : Calls Try.prog 11 ([Value.pointer m', Value.int IntKind.u64 at', Value.string s', Value.bool taint'] : List Value).toArray w R := calls_of_eq (sacristy_mem_Mem_Set.vc_eq m' at' s' taint' w R) h

/- function 14: (*sacristy/mem.Mem).Bytes -/
abbrev sacristy_mem_Mem_Bytes.N : FuncId := 14
def sacristy_mem_Mem_Bytes.H : Hints := {  }
def sacristy_mem_Mem_Bytes.vc (m' : Option Addr) (at' : Int) (n' : Int) (w : World) (R : Ending → World → Prop) : Prop :=
  ∃ (b : Bool),
  EqRuns Proofs.Try.prog BinOp.eql 28 (Operand.tmp 12) (Operand.const (Value.pointer none)) (Value.pointer m')
  (Value.pointer none) b ∧
  cnd b
  (R
  (Ending.returned
  (Value.tuple #[Value.string (ByteArray.mk #[]), Value.slice none 0 0, Value.int IntKind.i64 1]))
  w)
  (cnd (decide (n' < 0))
  (R
  (Ending.returned
  (Value.tuple #[Value.string (ByteArray.mk #[]), Value.slice none 0 0, Value.int IntKind.i64 2]))
  w)
  (cnd (decide (n' > 1048576))
  (R
  (Ending.returned
  (Value.tuple #[Value.string (ByteArray.mk #[]), Value.slice none 0 0, Value.int IntKind.i64 2]))
  w)
  (Calls Proofs.Try.prog 25 #[Value.pointer m', Value.int IntKind.u64 at', Value.int IntKind.i64 n'] w
  fun (e : Ending) (w' : World) =>
  ∃ (p : Option Addr),
  ∃ (n : Int),
  e = Ending.returned (Value.tuple #[Value.pointer p, Value.int IntKind.i64 n]) ∧
  ∃ (b : Bool),
  EqRuns Proofs.Try.prog BinOp.eql 64 (Operand.tmp 28) (Operand.const (Value.pointer none))
  (Value.pointer p) (Value.pointer none) b ∧
  cnd b
  (R
  (Ending.returned
  (Value.tuple
  #[Value.string (ByteArray.mk #[]), Value.slice none 0 0, Value.int IntKind.i64 40]))
  w')
  (Deref p fun (a : Addr) =>
  ∃ (p_1 : Option Addr),
  ∃ (n_1 : Nat),
  ∃ (c : Nat),
  w'.cell? (a.add 3) = some (Value.slice p_1 n_1 c) ∧
  (0 ≤ IntKind.i64.wrap (n + n') ∧ IntKind.i64.wrap (n + n') ≤ (↑c : Int)) ∧
  (0 ≤ IntKind.i64.wrap (n + n') ∧
  IntKind.i64.wrap (n + n') ≤ (↑(IntKind.i64.wrap (n + n')).toNat : Int)) ∧
  (0 ≤ n ∧ n ≤ (↑(IntKind.i64.wrap (n + n')).toNat : Int)) ∧
  RunsV Proofs.Try.prog
  (convert 60 9
  (Value.slice (reslice p_1 n.toNat (IntKind.i64.wrap (n + n')).toNat 1)
  ((IntKind.i64.wrap (n + n')).toNat - n.toNat)
  ((IntKind.i64.wrap (n + n')).toNat - n.toNat)))
  w' fun (v : Value) (w' : World) =>
  ∃ (s : ByteArray),
  v = Value.string s ∧
  Deref p fun (a : Addr) =>
  ∃ (p : Option Addr),
  ∃ (n_2 : Nat),
  ∃ (c : Nat),
  w'.cell? (a.add 4) = some (Value.slice p n_2 c) ∧
  (0 ≤ IntKind.i64.wrap (n + n') ∧
  IntKind.i64.wrap (n + n') ≤ (↑c : Int)) ∧
  (0 ≤ IntKind.i64.wrap (n + n') ∧
  IntKind.i64.wrap (n + n') ≤
  (↑(IntKind.i64.wrap (n + n')).toNat : Int)) ∧
  (0 ≤ n ∧ n ≤ (↑(IntKind.i64.wrap (n + n')).toNat : Int)) ∧
  Calls Proofs.Try.prog 30
  #[Value.slice
  (reslice p n.toNat (IntKind.i64.wrap (n + n')).toNat
  1)
  ((IntKind.i64.wrap (n + n')).toNat - n.toNat)
  ((IntKind.i64.wrap (n + n')).toNat - n.toNat)]
  w' fun (e : Ending) (w' : World) =>
  ∃ (p : Option Addr),
  ∃ (n : Nat),
  ∃ (c : Nat),
  e = Ending.returned (Value.slice p n c) ∧
  R
  (Ending.returned
  (Value.tuple
  #[Value.string s, Value.slice p n c,
  Value.int IntKind.i64 0]))
  w'))))
theorem sacristy_mem_Mem_Bytes.vc_eq (m' : Option Addr) (at' : Int) (n' : Int) (w : World) (R : Ending → World → Prop) : fnV Try.prog sacristy_mem_Mem_Bytes.H 14 [Value.pointer m', Value.int IntKind.u64 at', Value.int IntKind.i64 n'] w R = sacristy_mem_Mem_Bytes.vc m' at' n' w R := by kernel_rfl
theorem sacristy_mem_Mem_Bytes.calls {m' : Option Addr} {at' : Int} {n' : Int} {w : World} {R : Ending → World → Prop} (h : sacristy_mem_Mem_Bytes.vc m' at' n' w R) : Calls Try.prog 14 ([Value.pointer m', Value.int IntKind.u64 at', Value.int IntKind.i64 n'] : List Value).toArray w R := calls_of_eq (sacristy_mem_Mem_Bytes.vc_eq m' at' n' w R) h

/- function 30: slices.Clone[[]bool,bool] -/
abbrev slices_Clone.N : FuncId := 30
def slices_Clone.H : Hints := {  }
def slices_Clone.vc (s' : Option Addr) (s'n : Nat) (s'c : Nat) (w : World) (R : Ending → World → Prop) : Prop :=
  ∃ (b : Bool),
  EqRuns Proofs.Try.prog BinOp.eql 43 (Operand.tmp 3) (Operand.const (Value.slice none 0 0)) (Value.slice s' s'n s'c)
  (Value.slice none 0 0) b ∧
  cnd b (R (Ending.returned (Value.slice none 0 0)) w)
  (∀ (w' : World),
  w' = w.alloc (Obj.cells #[] 4) →
  RunsV Proofs.Try.prog
  (Builtin.append_ #[43, 43] 43
  #[Value.slice (some (Addr.mk w.heap.size 0 none)) 0 0, Value.slice s' s'n s'c])
  w' fun (v : Value) (w' : World) =>
  ∃ (p : Option Addr),
  ∃ (n : Nat), ∃ (c : Nat), v = Value.slice p n c ∧ R (Ending.returned (Value.slice p n c)) w')
theorem slices_Clone.vc_eq (s' : Option Addr) (s'n : Nat) (s'c : Nat) (w : World) (R : Ending → World → Prop) : fnV Try.prog slices_Clone.H 30 [Value.slice s' s'n s'c] w R = slices_Clone.vc s' s'n s'c w R := by kernel_rfl
theorem slices_Clone.calls {s' : Option Addr} {s'n : Nat} {s'c : Nat} {w : World} {R : Ending → World → Prop} (h : slices_Clone.vc s' s'n s'c w R) : Calls Try.prog 30 ([Value.slice s' s'n s'c] : List Value).toArray w R := calls_of_eq (slices_Clone.vc_eq s' s'n s'c w R) h

end Go.Proofs.Ytngkifnknlginaa
