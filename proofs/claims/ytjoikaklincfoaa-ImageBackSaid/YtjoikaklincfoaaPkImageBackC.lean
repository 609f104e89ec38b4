/-
Texts of this claim, merged: Vref30, Vref03, VcLib, VcOwn, VcLoc, VcRange, Vdisasg, Vdisas, Vdisasn, Vinsn, VcNum, Base.
Conditions: each theorem's own.
-/
import Derived.Test.YtjoikaklincfoaaPkImageBackB
import Derived.Test.YtjoikaklincfoaaProg
import Derived.Laws.AppendOwn
import Derived.Laws.OwnMore
import Derived.RangeFuncNested
import Derived.RangeFuncLeaves
import Derived.RangeFuncFrom

/-
The explicit conditions of some functions of the program, printed by this repo's own program over VcTop: what is proved is that each is the condition.
Conditions: none.
-/
namespace Go.Proofs.Ytjoikaklincfoaa
open Go Go.Vc Go.RowKit
set_option linter.unusedVariables false
set_option maxRecDepth 100000

/- function 21: sacristy/sacristyref30.Words -/
abbrev ref30_Words.N : FuncId := 21
def ref30_Words.H : Hints := { loops := [(4, [(3, .one (.int .i64)), (4, .one (.int .i64))])] }
def ref30_Words.vc (l' : Option Addr) (l'n : Nat) (l'c : Nat) (w : World) (R : Ending → World → Prop) : Prop :=
  ∃ (I : List Value → World → Prop),
  ∃ (μ : List Value → World → Nat),
  I [Value.int IntKind.i64 0, Value.int IntKind.i64 0] w ∧
  ∀ (g : Nat → Value) (n i : Int) (w' : World),
  I [Value.int IntKind.i64 n, Value.int IntKind.i64 i] w' →
  cnd (decide (i < (↑l'n : Int)))
  ((0 ≤ i ∧ i < (↑l'n : Int)) ∧
  Deref l' fun (a : Addr) =>
  ∃ (b : Bool),
  w'.cell? (a.add (i.toNat * 5)) = some (Value.bool b) ∧
  cnd b
  (Goes I μ [Value.int IntKind.i64 n, Value.int IntKind.i64 i] w'
  [Value.int IntKind.i64 (IntKind.i64.wrap (IntKind.i64.wrap (n + 1) + 1)),
  Value.int IntKind.i64 (IntKind.i64.wrap (i + 1))]
  w')
  (Goes I μ [Value.int IntKind.i64 n, Value.int IntKind.i64 i] w'
  [Value.int IntKind.i64 (IntKind.i64.wrap (n + 1)),
  Value.int IntKind.i64 (IntKind.i64.wrap (i + 1))]
  w'))
  (R (Ending.returned (Value.int IntKind.i64 n)) w')
theorem ref30_Words.vc_eq (l' : Option Addr) (l'n : Nat) (l'c : Nat) (w : World) (R : Ending → World → Prop) : fnV Try.prog ref30_Words.H 21 [Value.slice l' l'n l'c] w R = ref30_Words.vc l' l'n l'c w R := by kernel_rfl
theorem ref30_Words.calls {l' : Option Addr} {l'n : Nat} {l'c : Nat} {w : World} {R : Ending → World → Prop} (h : ref30_Words.vc l' l'n l'c w R) : Calls Try.prog 21 ([Value.slice l' l'n l'c] : List Value).toArray w R := calls_of_eq (ref30_Words.vc_eq l' l'n l'c w R) h

/- function 13: sacristy/sacristyref30.May -/
abbrev ref30_May.N : FuncId := 13
def ref30_May.H : Hints := { loops := [(5, [(3, .one (.int .i64))]), (11, [(5, .one (.int .i64))])], regs := [(1, [(48, .one .bool)])] }
def ref30_May.vc (x'_0 : Int) (x'_1 : Option Addr) (x'_1n : Nat) (x'_1c : Nat) (x'_2 : Bool) (x'_3 : Bool) (x'_4 : Option Addr) (x'_4n : Nat) (x'_4c : Nat) (w : World) (R : Ending → World → Prop) : Prop :=
  ∀ (w' : World),
  w' =
  w.alloc
  (Obj.cells
  #[Value.int IntKind.i64 x'_0, Value.slice x'_1 x'_1n x'_1c, Value.bool x'_2, Value.bool x'_3,
  Value.slice x'_4 x'_4n x'_4c]
  25) →
  ∃ (J : List Value → World → Prop),
  (∃ (n : Int),
  w'.cell? (Addr.mk w.heap.size 0 none) = some (Value.int IntKind.i64 n) ∧
  cnd (decide (n < 0)) (J [Value.bool true] w')
  (∃ (n : Int),
  w'.cell? (Addr.mk w.heap.size 0 none) = some (Value.int IntKind.i64 n) ∧
  cnd (decide (n > 255)) (J [Value.bool true] w')
  (∃ (p : Option Addr),
  ∃ (n : Nat),
  ∃ (c : Nat),
  w'.cell? (Addr.mk w.heap.size 1 none) = some (Value.slice p n c) ∧
  cnd (decide ((↑n : Int) > 8)) (J [Value.bool true] w')
  (∃ (p : Option Addr),
  ∃ (n : Nat),
  ∃ (c : Nat),
  w'.cell? (Addr.mk w.heap.size 1 none) = some (Value.slice p n c) ∧
  Calls Proofs.Try.prog 21 #[Value.slice p n c] w' fun (e : Ending) (w' : World) =>
  ∃ (n : Int),
  e = Ending.returned (Value.int IntKind.i64 n) ∧
  cnd (decide (n > 8)) (J [Value.bool true] w')
  (∃ (b : Bool),
  w'.cell? (Addr.mk w.heap.size 3 none) = some (Value.bool b) ∧
  cnd b
  (∃ (b : Bool),
  w'.cell? (Addr.mk w.heap.size 2 none) = some (Value.bool b) ∧
  cnd (!b) (J [Value.bool true] w')
  (∃ (p : Option Addr),
  ∃ (n : Nat),
  ∃ (c : Nat),
  w'.cell? (Addr.mk w.heap.size 4 none) =
  some (Value.slice p n c) ∧
  cnd (decide ((↑n : Int) < 1)) (J [Value.bool true] w')
  (∃ (p : Option Addr),
  ∃ (n : Nat),
  ∃ (c : Nat),
  w'.cell? (Addr.mk w.heap.size 4 none) =
  some (Value.slice p n c) ∧
  J
  [Value.bool
  (decide ((↑n : Int) > 131072))]
  w')))
  (∃ (p : Option Addr),
  ∃ (n : Nat),
  ∃ (c : Nat),
  w'.cell? (Addr.mk w.heap.size 4 none) =
  some (Value.slice p n c) ∧
  cnd (decide ((↑n : Int) < 1)) (J [Value.bool true] w')
  (∃ (p : Option Addr),
  ∃ (n : Nat),
  ∃ (c : Nat),
  w'.cell? (Addr.mk w.heap.size 4 none) =
  some (Value.slice p n c) ∧
  J [Value.bool (decide ((↑n : Int) > 131072))]
  w'))))))) ∧
  ∀ (g : Nat → Value) (s48 : Bool) (w' : World),
  J [Value.bool s48] w' →
  cnd s48 (R (Ending.returned (Value.bool false)) w')
  (∃ (I : List Value → World → Prop),
  ∃ (μ : List Value → World → Nat),
  I [Value.int IntKind.i64 0] w' ∧
  ∀ (g : Nat → Value) (i : Int) (w' : World),
  I [Value.int IntKind.i64 i] w' →
  ∃ (p : Option Addr),
  ∃ (n : Nat),
  ∃ (c : Nat),
  w'.cell? (Addr.mk w.heap.size 1 none) = some (Value.slice p n c) ∧
  cnd (decide (i < (↑n : Int)))
  (∃ (p : Option Addr),
  ∃ (n : Nat),
  ∃ (c : Nat),
  w'.cell? (Addr.mk w.heap.size 1 none) = some (Value.slice p n c) ∧
  (0 ≤ i ∧ i < (↑n : Int)) ∧
  Deref p fun (a : Addr) =>
  ∃ (b : Bool),
  ∃ (b_1 : Bool),
  ∃ (b_2 : Bool),
  ∃ (n : Int),
  ∃ (n_1 : Int),
  (w'.cell? (a.add (i.toNat * 5)) = some (Value.bool b) ∧
  w'.cell? ((a.add (i.toNat * 5)).add 1) =
  some (Value.bool b_1) ∧
  w'.cell? ((a.add (i.toNat * 5)).add 2) =
  some (Value.bool b_2) ∧
  w'.cell? ((a.add (i.toNat * 5)).add 3) =
  some (Value.int IntKind.i64 n) ∧
  w'.cell? ((a.add (i.toNat * 5)).add 4) =
  some (Value.int IntKind.i64 n_1) ∧
  True) ∧
  ∀ (w'_1 : World),
  w'_1 =
  w'.alloc
  (Obj.cells
  #[Value.bool false, Value.bool false,
  Value.bool false, Value.int IntKind.i64 0,
  Value.int IntKind.i64 0]
  50) →
  SetsAt w'_1 (Addr.mk w'.heap.size 0 none) 0
  [Value.bool b, Value.bool b_1, Value.bool b_2,
  Value.int IntKind.i64 n,
  Value.int IntKind.i64 n_1] ∧
  ∀ (w'_2 : World),
  w'_2 =
  setCellsAt w'_1 (Addr.mk w'.heap.size 0 none) 0
  [Value.bool b, Value.bool b_1, Value.bool b_2,
  Value.int IntKind.i64 n,
  Value.int IntKind.i64 n_1] →
  ∃ (n : Int),
  w'_2.cell? (Addr.mk w'.heap.size 3 none) =
  some (Value.int IntKind.i64 n) ∧
  cnd (n != 0)
  (R (Ending.returned (Value.bool false)) w'_2)
  (∃ (n : Int),
  w'_2.cell? (Addr.mk w'.heap.size 4 none) =
  some (Value.int IntKind.i64 n) ∧
  cnd (n != 0)
  (R (Ending.returned (Value.bool false))
  w'_2)
  (∃ (b : Bool),
  w'_2.cell?
  (Addr.mk w'.heap.size 2 none) =
  some (Value.bool b) ∧
  cnd b
  (∃ (b : Bool),
  w'_2.cell?
  (Addr.mk w'.heap.size 0
  none) =
  some (Value.bool b) ∧
  cnd (!b)
  (R
  (Ending.returned
  (Value.bool false))
  w'_2)
  (Goes I μ
  [Value.int IntKind.i64 i]
  w'
  [Value.int IntKind.i64
  (IntKind.i64.wrap
  (i + 1))]
  w'_2))
  (Goes I μ
  [Value.int IntKind.i64 i] w'
  [Value.int IntKind.i64
  (IntKind.i64.wrap (i + 1))]
  w'_2))))
  (∃ (I : List Value → World → Prop),
  ∃ (μ : List Value → World → Nat),
  I [Value.int IntKind.i64 0] w' ∧
  ∀ (g : Nat → Value) (i : Int) (w' : World),
  I [Value.int IntKind.i64 i] w' →
  ∃ (p : Option Addr),
  ∃ (n : Nat),
  ∃ (c : Nat),
  w'.cell? (Addr.mk w.heap.size 4 none) = some (Value.slice p n c) ∧
  cnd (decide (i < (↑n : Int)))
  (∃ (p : Option Addr),
  ∃ (n : Nat),
  ∃ (c : Nat),
  w'.cell? (Addr.mk w.heap.size 4 none) =
  some (Value.slice p n c) ∧
  (0 ≤ i ∧ i < (↑n : Int)) ∧
  Deref p fun (a : Addr) =>
  ∃ (n : Int),
  w'.cell? (a.add (i.toNat * 1)) =
  some (Value.int IntKind.u32 n) ∧
  Calls Proofs.Try.prog 15
  #[Value.int IntKind.u32 n] w'
  fun (e : Ending) (w'_1 : World) =>
  ∃ (n : Int),
  ∃ (n_1 : Int),
  ∃ (n_2 : Int),
  ∃ (n_3 : Int),
  ∃ (n_4 : Int),
  ∃ (n_5 : Int),
  e =
  Ending.returned
  (Value.tuple
  #[Value.agg
  #[Value.int IntKind.u8
  n,
  Value.int IntKind.u8
  n_1,
  Value.int IntKind.u8
  n_2,
  Value.int IntKind.u8
  n_3,
  Value.int IntKind.i64
  n_4],
  Value.int IntKind.i64
  n_5]) ∧
  ∀ (w'_2 : World),
  w'_2 =
  w'_1.alloc
  (Obj.cells
  #[Value.int IntKind.u8
  0,
  Value.int IntKind.u8
  0,
  Value.int IntKind.u8
  0,
  Value.int IntKind.u8
  0,
  Value.int IntKind.i64
  0]
  39) →
  SetsAt w'_2
  (Addr.mk w'_1.heap.size 0
  none)
  0
  [Value.int IntKind.u8 n,
  Value.int IntKind.u8
  n_1,
  Value.int IntKind.u8
  n_2,
  Value.int IntKind.u8
  n_3,
  Value.int IntKind.i64
  n_4] ∧
  ∀ (w'_3 : World),
  w'_3 =
  setCellsAt w'_2
  (Addr.mk
  w'_1.heap.size 0
  none)
  0
  [Value.int
  IntKind.u8 n,
  Value.int
  IntKind.u8 n_1,
  Value.int
  IntKind.u8 n_2,
  Value.int
  IntKind.u8 n_3,
  Value.int
  IntKind.i64
  n_4] →
  cnd (n_5 != 0)
  (R
  (Ending.returned
  (Value.bool
  false))
  w'_3)
  (Goes I μ
  [Value.int
  IntKind.i64 i]
  w'
  [Value.int
  IntKind.i64
  (IntKind.i64.wrap
  (i + 1))]
  w'_3))
  (R (Ending.returned (Value.bool true)) w')))
theorem ref30_May.vc_eq (x'_0 : Int) (x'_1 : Option Addr) (x'_1n : Nat) (x'_1c : Nat) (x'_2 : Bool) (x'_3 : Bool) (x'_4 : Option Addr) (x'_4n : Nat) (x'_4c : Nat) (w : World) (R : Ending → World → Prop) : fnV Try.prog ref30_May.H 13 [Value.agg
  #[Value.int IntKind.i64 x'_0, Value.slice x'_1 x'_1n x'_1c, Value.bool x'_2, Value.bool x'_3,
  Value.slice x'_4 x'_4n x'_4c]] w R = ref30_May.vc x'_0 x'_1 x'_1n x'_1c x'_2 x'_3 x'_4 x'_4n x'_4c w R := by kernel_rfl
theorem ref30_May.calls {x'_0 : Int} {x'_1 : Option Addr} {x'_1n : Nat} {x'_1c : Nat} {x'_2 : Bool} {x'_3 : Bool} {x'_4 : Option Addr} {x'_4n : Nat} {x'_4c : Nat} {w : World} {R : Ending → World → Prop} (h : ref30_May.vc x'_0 x'_1 x'_1n x'_1c x'_2 x'_3 x'_4 x'_4n x'_4c w R) : Calls Try.prog 13 ([Value.agg
  #[Value.int IntKind.i64 x'_0, Value.slice x'_1 x'_1n x'_1c, Value.bool x'_2, Value.bool x'_3,
  Value.slice x'_4 x'_4n x'_4c]] : List Value).toArray w R := calls_of_eq (ref30_May.vc_eq x'_0 x'_1 x'_1n x'_1c x'_2 x'_3 x'_4 x'_4n x'_4c w R) h

/- function 22: sacristy/sacristyref30.bits -/
abbrev ref30_bits.N : FuncId := 22
def ref30_bits.H : Hints := {  }
def ref30_bits.vc (a' : Bool) (b' : Bool) (c' : Bool) (w : World) (R : Ending → World → Prop) : Prop :=
  cnd a'
  (cnd b'
  (cnd c'
  (R (Ending.returned (Value.int IntKind.u8 (IntKind.u8.wrap (IntKind.u8.wrap (IntKind.u8.wrap 1 + 2) + 4)))) w)
  (R (Ending.returned (Value.int IntKind.u8 (IntKind.u8.wrap (IntKind.u8.wrap 1 + 2)))) w))
  (cnd c' (R (Ending.returned (Value.int IntKind.u8 (IntKind.u8.wrap (IntKind.u8.wrap 1 + 4)))) w)
  (R (Ending.returned (Value.int IntKind.u8 (IntKind.u8.wrap 1))) w)))
  (cnd b'
  (cnd c' (R (Ending.returned (Value.int IntKind.u8 (IntKind.u8.wrap (IntKind.u8.wrap 2 + 4)))) w)
  (R (Ending.returned (Value.int IntKind.u8 (IntKind.u8.wrap 2))) w))
  (cnd c' (R (Ending.returned (Value.int IntKind.u8 (IntKind.u8.wrap 4))) w)
  (R (Ending.returned (Value.int IntKind.u8 0)) w)))
theorem ref30_bits.vc_eq (a' : Bool) (b' : Bool) (c' : Bool) (w : World) (R : Ending → World → Prop) : fnV Try.prog ref30_bits.H 22 [Value.bool a', Value.bool b', Value.bool c'] w R = ref30_bits.vc a' b' c' w R := by kernel_rfl
theorem ref30_bits.calls {a' : Bool} {b' : Bool} {c' : Bool} {w : World} {R : Ending → World → Prop} (h : ref30_bits.vc a' b' c' w R) : Calls Try.prog 22 ([Value.bool a', Value.bool b', Value.bool c'] : List Value).toArray w R := calls_of_eq (ref30_bits.vc_eq a' b' c' w R) h

/- function 23: sacristy/sacristyref30.four -/
abbrev ref30_four.N : FuncId := 23
def ref30_four.H : Hints := {  }
def ref30_four.vc (n' : Int) (w : World) (R : Ending → World → Prop) : Prop :=
  ∀ (w' : World),
  w' =
  w.alloc
  (Obj.cells
  #[Value.int IntKind.u8 (IntKind.u8.wrap (n'.tmod 256)),
  Value.int IntKind.u8 (IntKind.u8.wrap ((IntKind.u32.wrap (n'.tdiv 256)).tmod 256)),
  Value.int IntKind.u8 (IntKind.u8.wrap ((IntKind.u32.wrap (n'.tdiv 65536)).tmod 256)),
  Value.int IntKind.u8 (IntKind.u8.wrap (IntKind.u32.wrap (n'.tdiv 16777216)))]
  5) →
  R (Ending.returned (Value.slice (some (Addr.mk w.heap.size 0 none)) 4 4)) w'
theorem ref30_four.vc_eq (n' : Int) (w : World) (R : Ending → World → Prop) : fnV Try.prog ref30_four.H 23 [Value.int IntKind.u32 n'] w R = ref30_four.vc n' w R := by kernel_rfl
theorem ref30_four.calls {n' : Int} {w : World} {R : Ending → World → Prop} (h : ref30_four.vc n' w R) : Calls Try.prog 23 ([Value.int IntKind.u32 n'] : List Value).toArray w R := calls_of_eq (ref30_four.vc_eq n' w R) h

/- function 14: sacristy/sacristyref30.Put -/
abbrev ref30_Put.N : FuncId := 14
def ref30_Put.H : Hints := { loops := [(5, [(3, .one .slice), (4, .one (.int .i64))]), (11, [(3, .one .slice), (5, .one (.int .i64))])], tails := [(6, 20)], edges := [(6, [(0, 20)])] }
def ref30_Put.vc (x'_0 : Int) (x'_1 : Option Addr) (x'_1n : Nat) (x'_1c : Nat) (x'_2 : Bool) (x'_3 : Bool) (x'_4 : Option Addr) (x'_4n : Nat) (x'_4c : Nat) (w : World) (R : Ending → World → Prop) : Prop :=
  ∀ (w' : World),
  w' =
  w.alloc
  (Obj.cells
  #[Value.int IntKind.i64 x'_0, Value.slice x'_1 x'_1n x'_1c, Value.bool x'_2, Value.bool x'_3,
  Value.slice x'_4 x'_4n x'_4c]
  25) →
  ∀ (w'_1 : World),
  w'_1 =
  w'.alloc
  (Obj.cells
  #[Value.int IntKind.u8 83, Value.int IntKind.u8 67, Value.int IntKind.u8 82, Value.int IntKind.u8 49] 5) →
  RunsV Proofs.Try.prog (convert 48 48 (Value.slice (some (Addr.mk w'.heap.size 0 none)) 4 4)) w'_1
  fun (v : Value) (w' : World) =>
  ∃ (p : Option Addr),
  ∃ (n : Nat),
  ∃ (c : Nat),
  v = Value.slice p n c ∧
  ∃ (n_1 : Int),
  w'.cell? (Addr.mk w.heap.size 0 none) = some (Value.int IntKind.i64 n_1) ∧
  ∃ (p_1 : Option Addr),
  ∃ (n_2 : Nat),
  ∃ (c_1 : Nat),
  w'.cell? (Addr.mk w.heap.size 1 none) = some (Value.slice p_1 n_2 c_1) ∧
  ∀ (w'_2 : World),
  w'_2 =
  w'.alloc
  (Obj.cells
  #[Value.int IntKind.u8 (IntKind.u8.wrap n_1),
  Value.int IntKind.u8 (IntKind.u8.wrap (↑n_2 : Int))]
  5) →
  RunsV Proofs.Try.prog
  (Builtin.append_ #[48, 48] 48
  #[Value.slice p n c, Value.slice (some (Addr.mk w'.heap.size 0 none)) 2 2])
  w'_2 fun (v : Value) (w' : World) =>
  ∃ (p : Option Addr),
  ∃ (n : Nat),
  ∃ (c : Nat),
  v = Value.slice p n c ∧
  ∃ (I : List Value → World → Prop),
  ∃ (μ : List Value → World → Nat),
  I [Value.slice p n c, Value.int IntKind.i64 0] w' ∧
  ∀ (g : Nat → Value) (b : Option Addr) (bn bc : Nat) (i : Int)
  (w' : World),
  I [Value.slice b bn bc, Value.int IntKind.i64 i] w' →
  ∃ (p : Option Addr),
  ∃ (n : Nat),
  ∃ (c : Nat),
  w'.cell? (Addr.mk w.heap.size 1 none) =
  some (Value.slice p n c) ∧
  cnd (decide (i < (↑n : Int)))
  (∃ (p : Option Addr),
  ∃ (n : Nat),
  ∃ (c : Nat),
  (∀ (w'_3 : World),
  Later w' w'_3 →
  w'_3.cell? (Addr.mk w.heap.size 1 none) =
  some (Value.slice p n c)) ∧
  (0 ≤ i ∧ i < (↑n : Int)) ∧
  Deref p fun (a : Addr) =>
  ∃ (b_1 : Bool),
  (∀ (w'_3 : World),
  Later w' w'_3 →
  w'_3.cell? (a.add (i.toNat * 5)) =
  some (Value.bool b_1)) ∧
  ∃ (p : Option Addr),
  ∃ (n : Nat),
  ∃ (c : Nat),
  (∀ (w'_3 : World),
  Later w' w'_3 →
  w'_3.cell?
  (Addr.mk w.heap.size 1
  none) =
  some
  (Value.slice p n c)) ∧
  (0 ≤ i ∧ i < (↑n : Int)) ∧
  Deref p fun (a : Addr) =>
  ∃ (b_2 : Bool),
  (∀ (w'_3 : World),
  Later w' w'_3 →
  w'_3.cell?
  ((a.add
  (i.toNat *
  5)).add
  1) =
  some
  (Value.bool
  b_2)) ∧
  ∃ (p : Option Addr),
  ∃ (n : Nat),
  ∃ (c : Nat),
  (∀ (w'_3 : World),
  Later w'
  w'_3 →
  w'_3.cell?
  (Addr.mk
  w.heap.size
  1
  none) =
  some
  (Value.slice
  p n
  c)) ∧
  (0 ≤ i ∧
  i <
  (↑n :
  Int)) ∧
  Deref p
  fun
  (a :
  Addr) =>
  ∃ (b_3 :
  Bool),
  (∀
  (w'_3 :
  World),
  Later
  w'
  w'_3 →
  w'_3.cell?
  ((a.add
  (i.toNat *
  5)).add
  2) =
  some
  (Value.bool
  b_3)) ∧
  ∃ (n :
  Int),
  (∀
  (w'_3 :
  World),
  Later
  w'
  w'_3 →
  Calls
  Proofs.Try.prog
  22
  #[Value.bool
  b_1,
  Value.bool
  b_2,
  Value.bool
  b_3]
  w'_3
  fun
  (e :
  Ending)
  (w'' :
  World) =>
  e =
  Ending.returned
  (Value.int
  IntKind.u8
  n) ∧
  Later
  w'_3
  w'') ∧
  ∀
  (w'_3 :
  World),
  Later
  w'
  w'_3 →
  ∀
  (w'_4 :
  World),
  w'_4 =
  w'_3.alloc
  (Obj.cells
  #[Value.int
  IntKind.u8
  n]
  5) →
  RunsV
  Proofs.Try.prog
  (Builtin.append_
  #[48,
  48]
  48
  #[Value.slice
  b
  bn
  bc,
  Value.slice
  (some
  (Addr.mk
  w'_3.heap.size
  0
  none))
  1
  1])
  w'_4
  fun
  (v :
  Value)
  (w'_5 :
  World) =>
  ∃
  (p
  :
  Option
  Addr),
  ∃
  (n
  :
  Nat),
  ∃
  (c
  :
  Nat),
  v =
  Value.slice
  p
  n
  c ∧
  Goes
  I
  μ
  [Value.slice
  b
  bn
  bc,
  Value.int
  IntKind.i64
  i]
  w'
  [Value.slice
  p
  n
  c,
  Value.int
  IntKind.i64
  (IntKind.i64.wrap
  (i +
  1))]
  w'_5)
  (∃ (b_1 : Bool),
  w'.cell? (Addr.mk w.heap.size 2 none) =
  some (Value.bool b_1) ∧
  ∃ (b_2 : Bool),
  w'.cell? (Addr.mk w.heap.size 3 none) =
  some (Value.bool b_2) ∧
  Calls Proofs.Try.prog 22
  #[Value.bool b_1, Value.bool b_2,
  Value.bool false]
  w' fun (e : Ending) (w' : World) =>
  ∃ (n : Int),
  e =
  Ending.returned
  (Value.int IntKind.u8 n) ∧
  ∀ (w'_3 : World),
  w'_3 =
  w'.alloc
  (Obj.cells
  #[Value.int IntKind.u8 n] 5) →
  RunsV Proofs.Try.prog
  (Builtin.append_ #[48, 48] 48
  #[Value.slice b bn bc,
  Value.slice
  (some
  (Addr.mk w'.heap.size 0
  none))
  1 1])
  w'_3 fun (v : Value) (w' : World) =>
  ∃ (p : Option Addr),
  ∃ (n : Nat),
  ∃ (c : Nat),
  v = Value.slice p n c ∧
  ∃ (p_2 : Option Addr),
  ∃ (n_3 : Nat),
  ∃ (c_2 : Nat),
  w'.cell?
  (Addr.mk
  w.heap.size 4
  none) =
  some
  (Value.slice p_2
  n_3 c_2) ∧
  Calls
  Proofs.Try.prog 23
  #[Value.int
  IntKind.u32
  (IntKind.u32.wrap
  (↑n_3 :
  Int))]
  w'
  fun (e : Ending)
  (w' : World) =>
  ∃ (p_3 :
  Option Addr),
  ∃ (n_4 : Nat),
  ∃ (c_3 : Nat),
  e =
  Ending.returned
  (Value.slice
  p_3
  n_4
  c_3) ∧
  RunsV
  Proofs.Try.prog
  (Builtin.append_
  #[48,
  48]
  48
  #[Value.slice
  p
  n
  c,
  Value.slice
  p_3
  n_4
  c_3])
  w'
  fun
  (v :
  Value)
  (w' :
  World) =>
  ∃ (p :
  Option
  Addr),
  ∃ (n :
  Nat),
  ∃ (c
  :
  Nat),
  v =
  Value.slice
  p
  n
  c ∧
  ∃
  (I
  :
  List
  Value →
  World →
  Prop),
  ∃
  (μ
  :
  List
  Value →
  World →
  Nat),
  I
  [Value.slice
  p
  n
  c,
  Value.int
  IntKind.i64
  0]
  w' ∧
  ∀
  (g :
  Nat →
  Value)
  (b :
  Option
  Addr)
  (bn
  bc :
  Nat)
  (i :
  Int)
  (w' :
  World),
  I
  [Value.slice
  b
  bn
  bc,
  Value.int
  IntKind.i64
  i]
  w' →
  ∃
  (p
  :
  Option
  Addr),
  ∃
  (n
  :
  Nat),
  ∃
  (c
  :
  Nat),
  w'.cell?
  (Addr.mk
  w.heap.size
  4
  none) =
  some
  (Value.slice
  p
  n
  c) ∧
  cnd
  (decide
  (i <
  (↑n :
  Int)))
  (∃
  (p
  :
  Option
  Addr),
  ∃
  (n
  :
  Nat),
  ∃
  (c
  :
  Nat),
  w'.cell?
  (Addr.mk
  w.heap.size
  4
  none) =
  some
  (Value.slice
  p
  n
  c) ∧
  (0 ≤
  i ∧
  i <
  (↑n :
  Int)) ∧
  Deref
  p
  fun
  (a :
  Addr) =>
  ∃
  (n
  :
  Int),
  w'.cell?
  (a.add
  (i.toNat *
  1)) =
  some
  (Value.int
  IntKind.u32
  n) ∧
  Calls
  Proofs.Try.prog
  23
  #[Value.int
  IntKind.u32
  n]
  w'
  fun
  (e :
  Ending)
  (w'_4 :
  World) =>
  ∃
  (p
  :
  Option
  Addr),
  ∃
  (n
  :
  Nat),
  ∃
  (c
  :
  Nat),
  e =
  Ending.returned
  (Value.slice
  p
  n
  c) ∧
  RunsV
  Proofs.Try.prog
  (Builtin.append_
  #[48,
  48]
  48
  #[Value.slice
  b
  bn
  bc,
  Value.slice
  p
  n
  c])
  w'_4
  fun
  (v :
  Value)
  (w'_5 :
  World) =>
  ∃
  (p
  :
  Option
  Addr),
  ∃
  (n
  :
  Nat),
  ∃
  (c
  :
  Nat),
  v =
  Value.slice
  p
  n
  c ∧
  Goes
  I
  μ
  [Value.slice
  b
  bn
  bc,
  Value.int
  IntKind.i64
  i]
  w'
  [Value.slice
  p
  n
  c,
  Value.int
  IntKind.i64
  (IntKind.i64.wrap
  (i +
  1))]
  w'_5)
  (RunsV
  Proofs.Try.prog
  (convert
  48
  9
  (Value.slice
  b
  bn
  bc))
  w'
  fun
  (v :
  Value)
  (w' :
  World) =>
  ∃
  (s
  :
  ByteArray),
  v =
  Value.string
  s ∧
  R
  (Ending.returned
  (Value.string
  s))
  w'))
theorem ref30_Put.vc_eq (x'_0 : Int) (x'_1 : Option Addr) (x'_1n : Nat) (x'_1c : Nat) (x'_2 : Bool) (x'_3 : Bool) (x'_4 : Option Addr) (x'_4n : Nat) (x'_4c : Nat) (w : World) (R : Ending → World → Prop) : fnV Try.prog ref30_Put.H 14 [Value.agg
  #[Value.int IntKind.i64 x'_0, Value.slice x'_1 x'_1n x'_1c, Value.bool x'_2, Value.bool x'_3,
  Value.slice x'_4 x'_4n x'_4c]] w R = ref30_Put.vc x'_0 x'_1 x'_1n x'_1c x'_2 x'_3 x'_4 x'_4n x'_4c w R := by kernel_rfl
theorem ref30_Put.calls {x'_0 : Int} {x'_1 : Option Addr} {x'_1n : Nat} {x'_1c : Nat} {x'_2 : Bool} {x'_3 : Bool} {x'_4 : Option Addr} {x'_4n : Nat} {x'_4c : Nat} {w : World} {R : Ending → World → Prop} (h : ref30_Put.vc x'_0 x'_1 x'_1n x'_1c x'_2 x'_3 x'_4 x'_4n x'_4c w R) : Calls Try.prog 14 ([Value.agg
  #[Value.int IntKind.i64 x'_0, Value.slice x'_1 x'_1n x'_1c, Value.bool x'_2, Value.bool x'_3,
  Value.slice x'_4 x'_4n x'_4c]] : List Value).toArray w R := calls_of_eq (ref30_Put.vc_eq x'_0 x'_1 x'_1n x'_1c x'_2 x'_3 x'_4 x'_4n x'_4c w R) h

/- function 38: sacristy/sacristyref30.value -/
abbrev ref30_value.N : FuncId := 38
def ref30_value.H : Hints := {  }
def ref30_value.vc (s' : ByteArray) (at' : Int) (w : World) (R : Ending → World → Prop) : Prop :=
  0 ≤ at' ∧
  ∃ (b : UInt8),
  s'[at'.toNat]? = some b ∧
  0 ≤ IntKind.i64.wrap (at' + 1) ∧
  ∃ (b_1 : UInt8),
  s'[(IntKind.i64.wrap (at' + 1)).toNat]? = some b_1 ∧
  0 ≤ IntKind.i64.wrap (at' + 2) ∧
  ∃ (b_2 : UInt8),
  s'[(IntKind.i64.wrap (at' + 2)).toNat]? = some b_2 ∧
  0 ≤ IntKind.i64.wrap (at' + 3) ∧
  ∃ (b_3 : UInt8),
  s'[(IntKind.i64.wrap (at' + 3)).toNat]? = some b_3 ∧
  ∀ (w' : World),
  Later w w' →
  R
  (Ending.returned
  (Value.int IntKind.u32
  (IntKind.u32.wrap
  (IntKind.u32.wrap
  (IntKind.u32.wrap
  (IntKind.u32.wrap (↑b.toNat : Int) +
  IntKind.u32.wrap (256 * IntKind.u32.wrap (↑b_1.toNat : Int))) +
  IntKind.u32.wrap (65536 * IntKind.u32.wrap (↑b_2.toNat : Int))) +
  IntKind.u32.wrap (16777216 * IntKind.u32.wrap (↑b_3.toNat : Int))))))
  w'
theorem ref30_value.vc_eq (s' : ByteArray) (at' : Int) (w : World) (R : Ending → World → Prop) : fnV Try.prog ref30_value.H 38 [Value.string s', Value.int IntKind.i64 at'] w R = ref30_value.vc s' at' w R := by kernel_rfl
theorem ref30_value.calls {s' : ByteArray} {at' : Int} {w : World} {R : Ending → World → Prop} (h : ref30_value.vc s' at' w R) : Calls Try.prog 38 ([Value.string s', Value.int IntKind.i64 at'] : List Value).toArray w R := calls_of_eq (ref30_value.vc_eq s' at' w R) h

/- function 30: sacristy/sacristyref30.read -/
abbrev ref30_read.N : FuncId := 30
def ref30_read.H : Hints := { loops := [(12, [(8, .one (.int .i64))]), (24, [(11, .one (.int .i64))])], mixes := [(25, 1001)] }
def ref30_read.vc (s' : ByteArray) (w : World) (R : Ending → World → Prop) : Prop :=
  ∀ (w' : World),
  w' =
  w.alloc
  (Obj.cells
  #[Value.int IntKind.i64 0, Value.slice none 0 0, Value.bool false, Value.bool false, Value.slice none 0 0]
  25) →
  ∀ (w'_1 : World),
  w'_1 =
  w'.alloc
  (Obj.cells
  #[Value.int IntKind.i64 0, Value.slice none 0 0, Value.bool false, Value.bool false, Value.slice none 0 0]
  25) →
  SetsAt w'_1 (Addr.mk w'.heap.size 0 none) 0
  [Value.int IntKind.i64 0, Value.slice none 0 0, Value.bool false, Value.bool false, Value.slice none 0 0] ∧
  ∀ (w'_2 : World),
  w'_2 =
  setCellsAt w'_1 (Addr.mk w'.heap.size 0 none) 0
  [Value.int IntKind.i64 0, Value.slice none 0 0, Value.bool false, Value.bool false,
  Value.slice none 0 0] →
  cnd (decide ((↑s'.size : Int) < IntKind.i64.wrap 6))
  (∃ (n : Int),
  ∃ (p : Option Addr),
  ∃ (n_1 : Nat),
  ∃ (c : Nat),
  ∃ (b : Bool),
  ∃ (b_1 : Bool),
  ∃ (p_1 : Option Addr),
  ∃ (n_2 : Nat),
  ∃ (c_1 : Nat),
  (w'_2.cell? (Addr.mk w'.heap.size 0 none) = some (Value.int IntKind.i64 n) ∧
  w'_2.cell? (Addr.mk w'.heap.size 1 none) = some (Value.slice p n_1 c) ∧
  w'_2.cell? (Addr.mk w'.heap.size 2 none) = some (Value.bool b) ∧
  w'_2.cell? (Addr.mk w'.heap.size 3 none) = some (Value.bool b_1) ∧
  w'_2.cell? (Addr.mk w'.heap.size 4 none) = some (Value.slice p_1 n_2 c_1) ∧
  True) ∧
  SetsAt w'_2 (Addr.mk w.heap.size 0 none) 0
  [Value.int IntKind.i64 n, Value.slice p n_1 c, Value.bool b, Value.bool b_1,
  Value.slice p_1 n_2 c_1] ∧
  ∀ (w' : World),
  w' =
  setCellsAt w'_2 (Addr.mk w.heap.size 0 none) 0
  [Value.int IntKind.i64 n, Value.slice p n_1 c, Value.bool b,
  Value.bool b_1, Value.slice p_1 n_2 c_1] →
  ∃ (n : Int),
  ∃ (p : Option Addr),
  ∃ (n_3 : Nat),
  ∃ (c : Nat),
  ∃ (b : Bool),
  ∃ (b_2 : Bool),
  ∃ (p_2 : Option Addr),
  ∃ (n_4 : Nat),
  ∃ (c_2 : Nat),
  (w'.cell? (Addr.mk w.heap.size 0 none) =
  some (Value.int IntKind.i64 n) ∧
  w'.cell? (Addr.mk w.heap.size 1 none) =
  some (Value.slice p n_3 c) ∧
  w'.cell? (Addr.mk w.heap.size 2 none) =
  some (Value.bool b) ∧
  w'.cell? (Addr.mk w.heap.size 3 none) =
  some (Value.bool b_2) ∧
  w'.cell? (Addr.mk w.heap.size 4 none) =
  some (Value.slice p_2 n_4 c_2) ∧
  True) ∧
  R
  (Ending.returned
  (Value.tuple
  #[Value.agg
  #[Value.int IntKind.i64 n, Value.slice p n_3 c,
  Value.bool b, Value.bool b_2,
  Value.slice p_2 n_4 c_2],
  Value.int IntKind.i64 0, Value.bool false]))
  w')
  (Int.le 0 4 ∧
  ∃ (b : UInt8),
  s'[4]? = some b ∧
  ((w'_2.cell? (Addr.mk w'.heap.size 0 none)).isSome = true ∧
  w'_2.frozen? (Addr.mk w'.heap.size 0 none) = false) ∧
  ∀ (w'_3 : World),
  w'_3 =
  w'_2.setCell (Addr.mk w'.heap.size 0 none)
  (Value.int IntKind.i64 (IntKind.i64.wrap (↑b.toNat : Int))) →
  Int.le 0 (IntKind.i64.wrap 5) ∧
  ∃ (b : UInt8),
  s'[5]? = some b ∧
  cnd
  (decide
  ((↑s'.size : Int) <
  IntKind.i64.wrap
  (IntKind.i64.wrap (IntKind.i64.wrap 6 + IntKind.i64.wrap (↑b.toNat : Int)) +
  5)))
  (∃ (n : Int),
  ∃ (p : Option Addr),
  ∃ (n_1 : Nat),
  ∃ (c : Nat),
  ∃ (b : Bool),
  ∃ (b_1 : Bool),
  ∃ (p_1 : Option Addr),
  ∃ (n_2 : Nat),
  ∃ (c_1 : Nat),
  (w'_3.cell? (Addr.mk w'.heap.size 0 none) =
  some (Value.int IntKind.i64 n) ∧
  w'_3.cell? (Addr.mk w'.heap.size 1 none) =
  some (Value.slice p n_1 c) ∧
  w'_3.cell? (Addr.mk w'.heap.size 2 none) =
  some (Value.bool b) ∧
  w'_3.cell? (Addr.mk w'.heap.size 3 none) =
  some (Value.bool b_1) ∧
  w'_3.cell? (Addr.mk w'.heap.size 4 none) =
  some (Value.slice p_1 n_2 c_1) ∧
  True) ∧
  SetsAt w'_3 (Addr.mk w.heap.size 0 none) 0
  [Value.int IntKind.i64 n, Value.slice p n_1 c, Value.bool b,
  Value.bool b_1, Value.slice p_1 n_2 c_1] ∧
  ∀ (w' : World),
  w' =
  setCellsAt w'_3 (Addr.mk w.heap.size 0 none) 0
  [Value.int IntKind.i64 n, Value.slice p n_1 c,
  Value.bool b, Value.bool b_1,
  Value.slice p_1 n_2 c_1] →
  ∃ (n : Int),
  ∃ (p : Option Addr),
  ∃ (n_3 : Nat),
  ∃ (c : Nat),
  ∃ (b : Bool),
  ∃ (b_2 : Bool),
  ∃ (p_2 : Option Addr),
  ∃ (n_4 : Nat),
  ∃ (c_2 : Nat),
  (w'.cell? (Addr.mk w.heap.size 0 none) =
  some (Value.int IntKind.i64 n) ∧
  w'.cell?
  (Addr.mk w.heap.size 1 none) =
  some (Value.slice p n_3 c) ∧
  w'.cell?
  (Addr.mk w.heap.size 2
  none) =
  some (Value.bool b) ∧
  w'.cell?
  (Addr.mk w.heap.size 3
  none) =
  some (Value.bool b_2) ∧
  w'.cell?
  (Addr.mk w.heap.size 4
  none) =
  some
  (Value.slice p_2 n_4
  c_2) ∧
  True) ∧
  R
  (Ending.returned
  (Value.tuple
  #[Value.agg
  #[Value.int IntKind.i64 n,
  Value.slice p n_3 c,
  Value.bool b,
  Value.bool b_2,
  Value.slice p_2 n_4 c_2],
  Value.int IntKind.i64 0,
  Value.bool false]))
  w')
  (∃ (I : List Value → World → Prop),
  ∃ (μ : List Value → World → Nat),
  I [Value.int IntKind.i64 0] w'_3 ∧
  ∀ (g : Nat → Value) (i : Int) (w'_4 : World),
  I [Value.int IntKind.i64 i] w'_4 →
  cnd (decide (i < IntKind.i64.wrap (↑b.toNat : Int)))
  (0 ≤ IntKind.i64.wrap (IntKind.i64.wrap 6 + i) ∧
  ∃ (b : UInt8),
  s'[(IntKind.i64.wrap (IntKind.i64.wrap 6 + i)).toNat]? = some b ∧
  ∃ (p : Option Addr),
  ∃ (n : Nat),
  ∃ (c : Nat),
  w'_4.cell? (Addr.mk w'.heap.size 1 none) =
  some (Value.slice p n c) ∧
  ∀ (w'_5 : World),
  w'_5 =
  w'_4.alloc
  (Obj.cells
  #[Value.bool ((↑b.toNat : Int).tmod 2 == 1),
  Value.bool
  ((IntKind.u8.wrap
  ((↑b.toNat : Int).tdiv 2)).tmod
  2 ==
  1),
  Value.bool
  ((IntKind.u8.wrap
  ((↑b.toNat : Int).tdiv 4)).tmod
  2 ==
  1),
  Value.int IntKind.i64 0,
  Value.int IntKind.i64 0]
  50) →
  RunsV Proofs.Try.prog
  (Builtin.append_ #[22, 22] 22
  #[Value.slice p n c,
  Value.slice
  (some (Addr.mk w'_4.heap.size 0 none)) 1 1])
  w'_5 fun (v : Value) (w'_6 : World) =>
  ∃ (p : Option Addr),
  ∃ (n : Nat),
  ∃ (c : Nat),
  v = Value.slice p n c ∧
  ((w'_6.cell?
  (Addr.mk w'.heap.size 1
  none)).isSome =
  true ∧
  w'_6.frozen?
  (Addr.mk w'.heap.size 1 none) =
  false) ∧
  ∀ (w'_7 : World),
  w'_7 =
  w'_6.setCell
  (Addr.mk w'.heap.size 1 none)
  (Value.slice p n c) →
  Goes I μ [Value.int IntKind.i64 i]
  w'_4
  [Value.int IntKind.i64
  (IntKind.i64.wrap (i + 1))]
  w'_7)
  (0 ≤
  IntKind.i64.wrap
  (IntKind.i64.wrap 6 + IntKind.i64.wrap (↑b.toNat : Int)) ∧
  ∃ (b_1 : UInt8),
  s'[(IntKind.i64.wrap
  (IntKind.i64.wrap 6 +
  IntKind.i64.wrap (↑b.toNat : Int))).toNat]? =
  some b_1 ∧
  ((w'_4.cell? (Addr.mk w'.heap.size 2 none)).isSome = true ∧
  w'_4.frozen? (Addr.mk w'.heap.size 2 none) = false) ∧
  ∀ (w'_5 : World),
  w'_5 =
  w'_4.setCell (Addr.mk w'.heap.size 2 none)
  (Value.bool ((↑b_1.toNat : Int).tmod 2 == 1)) →
  0 ≤
  IntKind.i64.wrap
  (IntKind.i64.wrap 6 +
  IntKind.i64.wrap (↑b.toNat : Int)) ∧
  ∃ (b_2 : UInt8),
  s'[(IntKind.i64.wrap
  (IntKind.i64.wrap 6 +
  IntKind.i64.wrap
  (↑b.toNat : Int))).toNat]? =
  some b_2 ∧
  ((w'_5.cell? (Addr.mk w'.heap.size 3 none)).isSome =
  true ∧
  w'_5.frozen? (Addr.mk w'.heap.size 3 none) =
  false) ∧
  ∀ (w'_6 : World),
  w'_6 =
  w'_5.setCell (Addr.mk w'.heap.size 3 none)
  (Value.bool
  ((IntKind.u8.wrap
  ((↑b_2.toNat : Int).tdiv 2)).tmod
  2 ==
  1)) →
  Calls Proofs.Try.prog 38
  #[Value.string s',
  Value.int IntKind.i64
  (IntKind.i64.wrap
  (IntKind.i64.wrap
  (IntKind.i64.wrap 6 +
  IntKind.i64.wrap
  (↑b.toNat : Int)) +
  1))]
  w'_6 fun (e : Ending) (w'_7 : World) =>
  ∃ (n : Int),
  e =
  Ending.returned
  (Value.int IntKind.u32 n) ∧
  cnd
  (decide
  (IntKind.i64.wrap n >
  IntKind.i64.wrap
  ((IntKind.i64.wrap
  ((↑s'.size : Int) -
  IntKind.i64.wrap
  (IntKind.i64.wrap
  (IntKind.i64.wrap
  6 +
  IntKind.i64.wrap
  (↑b.toNat :
  Int)) +
  5))).tdiv
  4)))
  (∃ (n : Int),
  ∃ (p : Option Addr),
  ∃ (n_1 : Nat),
  ∃ (c : Nat),
  ∃ (b : Bool),
  ∃ (b_3 : Bool),
  ∃ (p_1 : Option Addr),
  ∃ (n_2 : Nat),
  ∃ (c_1 : Nat),
  (w'_7.cell?
  (Addr.mk
  w'.heap.size
  0 none) =
  some
  (Value.int
  IntKind.i64
  n) ∧
  w'_7.cell?
  (Addr.mk
  w'.heap.size
  1 none) =
  some
  (Value.slice
  p n_1 c) ∧
  w'_7.cell?
  (Addr.mk
  w'.heap.size
  2
  none) =
  some
  (Value.bool
  b) ∧
  w'_7.cell?
  (Addr.mk
  w'.heap.size
  3
  none) =
  some
  (Value.bool
  b_3) ∧
  w'_7.cell?
  (Addr.mk
  w'.heap.size
  4
  none) =
  some
  (Value.slice
  p_1
  n_2
  c_1) ∧
  True) ∧
  SetsAt w'_7
  (Addr.mk
  w.heap.size 0
  none)
  0
  [Value.int
  IntKind.i64
  n,
  Value.slice p
  n_1 c,
  Value.bool b,
  Value.bool
  b_3,
  Value.slice
  p_1 n_2
  c_1] ∧
  ∀ (w' : World),
  w' =
  setCellsAt
  w'_7
  (Addr.mk
  w.heap.size
  0 none)
  0
  [Value.int
  IntKind.i64
  n,
  Value.slice
  p n_1
  c,
  Value.bool
  b,
  Value.bool
  b_3,
  Value.slice
  p_1
  n_2
  c_1] →
  ∃ (n : Int),
  ∃ (p :
  Option
  Addr),
  ∃ (n_3 :
  Nat),
  ∃ (c :
  Nat),
  ∃ (b :
  Bool),
  ∃
  (b_4
  :
  Bool),
  ∃
  (p_2
  :
  Option
  Addr),
  ∃
  (n_4
  :
  Nat),
  ∃
  (c_2
  :
  Nat),
  (w'.cell?
  (Addr.mk
  w.heap.size
  0
  none) =
  some
  (Value.int
  IntKind.i64
  n) ∧
  w'.cell?
  (Addr.mk
  w.heap.size
  1
  none) =
  some
  (Value.slice
  p
  n_3
  c) ∧
  w'.cell?
  (Addr.mk
  w.heap.size
  2
  none) =
  some
  (Value.bool
  b) ∧
  w'.cell?
  (Addr.mk
  w.heap.size
  3
  none) =
  some
  (Value.bool
  b_4) ∧
  w'.cell?
  (Addr.mk
  w.heap.size
  4
  none) =
  some
  (Value.slice
  p_2
  n_4
  c_2) ∧
  True) ∧
  R
  (Ending.returned
  (Value.tuple
  #[Value.agg
  #[Value.int
  IntKind.i64
  n,
  Value.slice
  p
  n_3
  c,
  Value.bool
  b,
  Value.bool
  b_4,
  Value.slice
  p_2
  n_4
  c_2],
  Value.int
  IntKind.i64
  0,
  Value.bool
  false]))
  w')
  (∃ (I : List Value → World → Prop),
  ∃ (μ : List Value → World → Nat),
  I [Value.int IntKind.i64 0] w'_7 ∧
  ∀ (g : Nat → Value) (i : Int)
  (w'_8 : World),
  I [Value.int IntKind.i64 i]
  w'_8 →
  cnd
  (decide
  (i < IntKind.i64.wrap n))
  (∃ (C : World → Prop),
  (∀ (w' : World),
  Later w'_8 w' →
  C w') ∧
  ∀ (w'_9 : World),
  Later w'_8 w'_9 →
  ∃ (p : Option Addr),
  ∃ (n : Nat),
  ∃ (c : Nat),
  (∀
  (w'_10 :
  World),
  C w'_10 →
  w'_10.cell?
  (Addr.mk
  w'.heap.size
  4
  none) =
  some
  (Value.slice
  p
  n
  c)) ∧
  Calls
  Proofs.Try.prog
  38
  #[Value.string
  s',
  Value.int
  IntKind.i64
  (IntKind.i64.wrap
  (IntKind.i64.wrap
  (IntKind.i64.wrap
  (IntKind.i64.wrap
  6 +
  IntKind.i64.wrap
  (↑b.toNat :
  Int)) +
  5) +
  IntKind.i64.wrap
  (4 *
  i)))]
  w'_9
  fun
  (e :
  Ending)
  (w'_10 :
  World) =>
  ∃ (n_1 :
  Int),
  e =
  Ending.returned
  (Value.int
  IntKind.u32
  n_1) ∧
  C
  w'_10 ∧
  ∀
  (w'_11 :
  World),
  w'_11 =
  w'_10.alloc
  (Obj.cells
  #[Value.int
  IntKind.u32
  n_1]
  42) →
  C
  w'_11 ∧
  RunsV
  Proofs.Try.prog
  (Builtin.append_
  #[23,
  23]
  23
  #[Value.slice
  p
  n
  c,
  Value.slice
  (some
  (Addr.mk
  w'_10.heap.size
  0
  none))
  1
  1])
  w'_11
  fun
  (v :
  Value)
  (w'_12 :
  World) =>
  ∃
  (p
  :
  Option
  Addr),
  ∃
  (n
  :
  Nat),
  ∃
  (c
  :
  Nat),
  v =
  Value.slice
  p
  n
  c ∧
  C
  w'_12 ∧
  ((w'_12.cell?
  (Addr.mk
  w'.heap.size
  4
  none)).isSome =
  true ∧
  w'_12.frozen?
  (Addr.mk
  w'.heap.size
  4
  none) =
  false) ∧
  ∀
  (w'_13 :
  World),
  w'_13 =
  w'_12.setCell
  (Addr.mk
  w'.heap.size
  4
  none)
  (Value.slice
  p
  n
  c) →
  Goes
  I
  μ
  [Value.int
  IntKind.i64
  i]
  w'_8
  [Value.int
  IntKind.i64
  (IntKind.i64.wrap
  (i +
  1))]
  w'_13)
  (∃ (n_1 : Int),
  ∃ (p : Option Addr),
  ∃ (n_2 : Nat),
  ∃ (c : Nat),
  ∃ (b_3 : Bool),
  ∃ (b_4 : Bool),
  ∃ (p_1 :
  Option Addr),
  ∃ (n_3 : Nat),
  ∃ (c_1 :
  Nat),
  (w'_8.cell?
  (Addr.mk
  w'.heap.size
  0
  none) =
  some
  (Value.int
  IntKind.i64
  n_1) ∧
  w'_8.cell?
  (Addr.mk
  w'.heap.size
  1
  none) =
  some
  (Value.slice
  p
  n_2
  c) ∧
  w'_8.cell?
  (Addr.mk
  w'.heap.size
  2
  none) =
  some
  (Value.bool
  b_3) ∧
  w'_8.cell?
  (Addr.mk
  w'.heap.size
  3
  none) =
  some
  (Value.bool
  b_4) ∧
  w'_8.cell?
  (Addr.mk
  w'.heap.size
  4
  none) =
  some
  (Value.slice
  p_1
  n_3
  c_1) ∧
  True) ∧
  SetsAt
  w'_8
  (Addr.mk
  w.heap.size
  0
  none)
  0
  [Value.int
  IntKind.i64
  n_1,
  Value.slice
  p
  n_2
  c,
  Value.bool
  b_3,
  Value.bool
  b_4,
  Value.slice
  p_1
  n_3
  c_1] ∧
  ∀
  (w' :
  World),
  w' =
  setCellsAt
  w'_8
  (Addr.mk
  w.heap.size
  0
  none)
  0
  [Value.int
  IntKind.i64
  n_1,
  Value.slice
  p
  n_2
  c,
  Value.bool
  b_3,
  Value.bool
  b_4,
  Value.slice
  p_1
  n_3
  c_1] →
  ∃
  (n_4
  :
  Int),
  ∃
  (p
  :
  Option
  Addr),
  ∃
  (n_5
  :
  Nat),
  ∃
  (c
  :
  Nat),
  ∃
  (b_5
  :
  Bool),
  ∃
  (b_6
  :
  Bool),
  ∃
  (p_2
  :
  Option
  Addr),
  ∃
  (n_6
  :
  Nat),
  ∃
  (c_2
  :
  Nat),
  (w'.cell?
  (Addr.mk
  w.heap.size
  0
  none) =
  some
  (Value.int
  IntKind.i64
  n_4) ∧
  w'.cell?
  (Addr.mk
  w.heap.size
  1
  none) =
  some
  (Value.slice
  p
  n_5
  c) ∧
  w'.cell?
  (Addr.mk
  w.heap.size
  2
  none) =
  some
  (Value.bool
  b_5) ∧
  w'.cell?
  (Addr.mk
  w.heap.size
  3
  none) =
  some
  (Value.bool
  b_6) ∧
  w'.cell?
  (Addr.mk
  w.heap.size
  4
  none) =
  some
  (Value.slice
  p_2
  n_6
  c_2) ∧
  True) ∧
  R
  (Ending.returned
  (Value.tuple
  #[Value.agg
  #[Value.int
  IntKind.i64
  n_4,
  Value.slice
  p
  n_5
  c,
  Value.bool
  b_5,
  Value.bool
  b_6,
  Value.slice
  p_2
  n_6
  c_2],
  Value.int
  IntKind.i64
  (IntKind.i64.wrap
  (IntKind.i64.wrap
  (IntKind.i64.wrap
  (IntKind.i64.wrap
  6 +
  IntKind.i64.wrap
  (↑b.toNat :
  Int)) +
  5) +
  IntKind.i64.wrap
  (4 *
  IntKind.i64.wrap
  n))),
  Value.bool
  true]))
  w')))))
theorem ref30_read.vc_eq (s' : ByteArray) (w : World) (R : Ending → World → Prop) : fnV Try.prog ref30_read.H 30 [Value.string s'] w R = ref30_read.vc s' w R := by kernel_rfl
theorem ref30_read.calls {s' : ByteArray} {w : World} {R : Ending → World → Prop} (h : ref30_read.vc s' w R) : Calls Try.prog 30 ([Value.string s'] : List Value).toArray w R := calls_of_eq (ref30_read.vc_eq s' w R) h

/- function 17: sacristy/sacristyref30.Get -/
abbrev ref30_Get.N : FuncId := 17
def ref30_Get.H : Hints := {  }
def ref30_Get.vc (s' : ByteArray) (w : World) (R : Ending → World → Prop) : Prop :=
  ∀ (w' : World),
  w' =
  w.alloc
  (Obj.cells
  #[Value.int IntKind.i64 0, Value.slice none 0 0, Value.bool false, Value.bool false, Value.slice none 0 0]
  25) →
  (0 ≤ gomin (↑s'.size : Int) 4 ∧ gomin (↑s'.size : Int) 4 ≤ (↑s'.size : Int)) ∧
  (0 ≤ gomin (↑s'.size : Int) 4 ∧ gomin (↑s'.size : Int) 4 ≤ 4) ∧
  ∀ (w'_1 : World),
  Later w' w'_1 →
  cnd
  (!(s'.extract 0 (gomin (↑s'.size : Int) 4).toNat).toList ==
  ((ByteArray.mk #[83, 67, 82, 49]).extract 0 (gomin (↑s'.size : Int) 4).toNat).toList)
  (SetsAt w'_1 (Addr.mk w.heap.size 0 none) 0
  [Value.int IntKind.i64 0, Value.slice none 0 0, Value.bool false, Value.bool false,
  Value.slice none 0 0] ∧
  ∀ (w' : World),
  w' =
  setCellsAt w'_1 (Addr.mk w.heap.size 0 none) 0
  [Value.int IntKind.i64 0, Value.slice none 0 0, Value.bool false, Value.bool false,
  Value.slice none 0 0] →
  ∃ (n : Int),
  ∃ (p : Option Addr),
  ∃ (n_1 : Nat),
  ∃ (c : Nat),
  ∃ (b : Bool),
  ∃ (b_1 : Bool),
  ∃ (p_1 : Option Addr),
  ∃ (n_2 : Nat),
  ∃ (c_1 : Nat),
  (w'.cell? (Addr.mk w.heap.size 0 none) = some (Value.int IntKind.i64 n) ∧
  w'.cell? (Addr.mk w.heap.size 1 none) = some (Value.slice p n_1 c) ∧
  w'.cell? (Addr.mk w.heap.size 2 none) = some (Value.bool b) ∧
  w'.cell? (Addr.mk w.heap.size 3 none) = some (Value.bool b_1) ∧
  w'.cell? (Addr.mk w.heap.size 4 none) = some (Value.slice p_1 n_2 c_1) ∧
  True) ∧
  R
  (Ending.returned
  (Value.tuple
  #[Value.agg
  #[Value.int IntKind.i64 n, Value.slice p n_1 c, Value.bool b,
  Value.bool b_1, Value.slice p_1 n_2 c_1],
  Value.int IntKind.i64 7]))
  w')
  (Calls Proofs.Try.prog 30 #[Value.string s'] w'_1 fun (e : Ending) (w' : World) =>
  ∃ (n : Int),
  ∃ (p : Option Addr),
  ∃ (n_1 : Nat),
  ∃ (c : Nat),
  ∃ (b : Bool),
  ∃ (b_1 : Bool),
  ∃ (p_1 : Option Addr),
  ∃ (n_2 : Nat),
  ∃ (c_1 : Nat),
  ∃ (n_3 : Int),
  ∃ (b_2 : Bool),
  e =
  Ending.returned
  (Value.tuple
  #[Value.agg
  #[Value.int IntKind.i64 n, Value.slice p n_1 c, Value.bool b,
  Value.bool b_1, Value.slice p_1 n_2 c_1],
  Value.int IntKind.i64 n_3, Value.bool b_2]) ∧
  ∀ (w'_2 : World),
  w'_2 =
  w'.alloc
  (Obj.cells
  #[Value.int IntKind.i64 0, Value.slice none 0 0, Value.bool false,
  Value.bool false, Value.slice none 0 0]
  25) →
  SetsAt w'_2 (Addr.mk w'.heap.size 0 none) 0
  [Value.int IntKind.i64 n, Value.slice p n_1 c, Value.bool b,
  Value.bool b_1, Value.slice p_1 n_2 c_1] ∧
  ∀ (w'_3 : World),
  w'_3 =
  setCellsAt w'_2 (Addr.mk w'.heap.size 0 none) 0
  [Value.int IntKind.i64 n, Value.slice p n_1 c, Value.bool b,
  Value.bool b_1, Value.slice p_1 n_2 c_1] →
  cnd (!b_2)
  (SetsAt w'_3 (Addr.mk w.heap.size 0 none) 0
  [Value.int IntKind.i64 0, Value.slice none 0 0,
  Value.bool false, Value.bool false, Value.slice none 0 0] ∧
  ∀ (w' : World),
  w' =
  setCellsAt w'_3 (Addr.mk w.heap.size 0 none) 0
  [Value.int IntKind.i64 0, Value.slice none 0 0,
  Value.bool false, Value.bool false,
  Value.slice none 0 0] →
  ∃ (n : Int),
  ∃ (p : Option Addr),
  ∃ (n_4 : Nat),
  ∃ (c : Nat),
  ∃ (b : Bool),
  ∃ (b_3 : Bool),
  ∃ (p_2 : Option Addr),
  ∃ (n_5 : Nat),
  ∃ (c_2 : Nat),
  (w'.cell? (Addr.mk w.heap.size 0 none) =
  some (Value.int IntKind.i64 n) ∧
  w'.cell? (Addr.mk w.heap.size 1 none) =
  some (Value.slice p n_4 c) ∧
  w'.cell?
  (Addr.mk w.heap.size 2 none) =
  some (Value.bool b) ∧
  w'.cell?
  (Addr.mk w.heap.size 3 none) =
  some (Value.bool b_3) ∧
  w'.cell?
  (Addr.mk w.heap.size 4
  none) =
  some
  (Value.slice p_2 n_5 c_2) ∧
  True) ∧
  R
  (Ending.returned
  (Value.tuple
  #[Value.agg
  #[Value.int IntKind.i64 n,
  Value.slice p n_4 c,
  Value.bool b, Value.bool b_3,
  Value.slice p_2 n_5 c_2],
  Value.int IntKind.i64 6]))
  w')
  (cnd (n_3 != (↑s'.size : Int))
  (SetsAt w'_3 (Addr.mk w.heap.size 0 none) 0
  [Value.int IntKind.i64 0, Value.slice none 0 0,
  Value.bool false, Value.bool false, Value.slice none 0 0] ∧
  ∀ (w' : World),
  w' =
  setCellsAt w'_3 (Addr.mk w.heap.size 0 none) 0
  [Value.int IntKind.i64 0, Value.slice none 0 0,
  Value.bool false, Value.bool false,
  Value.slice none 0 0] →
  ∃ (n : Int),
  ∃ (p : Option Addr),
  ∃ (n_4 : Nat),
  ∃ (c : Nat),
  ∃ (b : Bool),
  ∃ (b_3 : Bool),
  ∃ (p_2 : Option Addr),
  ∃ (n_5 : Nat),
  ∃ (c_2 : Nat),
  (w'.cell? (Addr.mk w.heap.size 0 none) =
  some (Value.int IntKind.i64 n) ∧
  w'.cell?
  (Addr.mk w.heap.size 1 none) =
  some (Value.slice p n_4 c) ∧
  w'.cell?
  (Addr.mk w.heap.size 2 none) =
  some (Value.bool b) ∧
  w'.cell?
  (Addr.mk w.heap.size 3
  none) =
  some (Value.bool b_3) ∧
  w'.cell?
  (Addr.mk w.heap.size 4
  none) =
  some
  (Value.slice p_2 n_5
  c_2) ∧
  True) ∧
  R
  (Ending.returned
  (Value.tuple
  #[Value.agg
  #[Value.int IntKind.i64 n,
  Value.slice p n_4 c,
  Value.bool b,
  Value.bool b_3,
  Value.slice p_2 n_5 c_2],
  Value.int IntKind.i64 7]))
  w')
  (∃ (n : Int),
  ∃ (p : Option Addr),
  ∃ (n_4 : Nat),
  ∃ (c : Nat),
  ∃ (b : Bool),
  ∃ (b_3 : Bool),
  ∃ (p_2 : Option Addr),
  ∃ (n_5 : Nat),
  ∃ (c_2 : Nat),
  (w'_3.cell? (Addr.mk w'.heap.size 0 none) =
  some (Value.int IntKind.i64 n) ∧
  w'_3.cell? (Addr.mk w'.heap.size 1 none) =
  some (Value.slice p n_4 c) ∧
  w'_3.cell? (Addr.mk w'.heap.size 2 none) =
  some (Value.bool b) ∧
  w'_3.cell?
  (Addr.mk w'.heap.size 3 none) =
  some (Value.bool b_3) ∧
  w'_3.cell?
  (Addr.mk w'.heap.size 4 none) =
  some (Value.slice p_2 n_5 c_2) ∧
  True) ∧
  Calls Proofs.Try.prog 13
  #[Value.agg
  #[Value.int IntKind.i64 n,
  Value.slice p n_4 c, Value.bool b,
  Value.bool b_3,
  Value.slice p_2 n_5 c_2]]
  w'_3 fun (e : Ending) (w'_4 : World) =>
  ∃ (b : Bool),
  e = Ending.returned (Value.bool b) ∧
  cnd (!b)
  (SetsAt w'_4
  (Addr.mk w.heap.size 0 none) 0
  [Value.int IntKind.i64 0,
  Value.slice none 0 0,
  Value.bool false,
  Value.bool false,
  Value.slice none 0 0] ∧
  ∀ (w' : World),
  w' =
  setCellsAt w'_4
  (Addr.mk w.heap.size 0 none)
  0
  [Value.int IntKind.i64 0,
  Value.slice none 0 0,
  Value.bool false,
  Value.bool false,
  Value.slice none 0 0] →
  ∃ (n : Int),
  ∃ (p : Option Addr),
  ∃ (n_6 : Nat),
  ∃ (c : Nat),
  ∃ (b : Bool),
  ∃ (b_4 : Bool),
  ∃ (p_3 :
  Option Addr),
  ∃ (n_7 : Nat),
  ∃ (c_3 : Nat),
  (w'.cell?
  (Addr.mk
  w.heap.size
  0
  none) =
  some
  (Value.int
  IntKind.i64
  n) ∧
  w'.cell?
  (Addr.mk
  w.heap.size
  1
  none) =
  some
  (Value.slice
  p
  n_6
  c) ∧
  w'.cell?
  (Addr.mk
  w.heap.size
  2
  none) =
  some
  (Value.bool
  b) ∧
  w'.cell?
  (Addr.mk
  w.heap.size
  3
  none) =
  some
  (Value.bool
  b_4) ∧
  w'.cell?
  (Addr.mk
  w.heap.size
  4
  none) =
  some
  (Value.slice
  p_3
  n_7
  c_3) ∧
  True) ∧
  R
  (Ending.returned
  (Value.tuple
  #[Value.agg
  #[Value.int
  IntKind.i64
  n,
  Value.slice
  p
  n_6
  c,
  Value.bool
  b,
  Value.bool
  b_4,
  Value.slice
  p_3
  n_7
  c_3],
  Value.int
  IntKind.i64
  7]))
  w')
  (∃ (n : Int),
  ∃ (p : Option Addr),
  ∃ (n_6 : Nat),
  ∃ (c : Nat),
  ∃ (b : Bool),
  ∃ (b_4 : Bool),
  ∃ (p_3 : Option Addr),
  ∃ (n_7 : Nat),
  ∃ (c_3 : Nat),
  (w'_4.cell?
  (Addr.mk
  w'.heap.size
  0 none) =
  some
  (Value.int
  IntKind.i64
  n) ∧
  w'_4.cell?
  (Addr.mk
  w'.heap.size
  1
  none) =
  some
  (Value.slice
  p n_6
  c) ∧
  w'_4.cell?
  (Addr.mk
  w'.heap.size
  2
  none) =
  some
  (Value.bool
  b) ∧
  w'_4.cell?
  (Addr.mk
  w'.heap.size
  3
  none) =
  some
  (Value.bool
  b_4) ∧
  w'_4.cell?
  (Addr.mk
  w'.heap.size
  4
  none) =
  some
  (Value.slice
  p_3
  n_7
  c_3) ∧
  True) ∧
  Calls
  Proofs.Try.prog
  14
  #[Value.agg
  #[Value.int
  IntKind.i64
  n,
  Value.slice
  p n_6 c,
  Value.bool
  b,
  Value.bool
  b_4,
  Value.slice
  p_3 n_7
  c_3]]
  w'_4
  fun (e : Ending)
  (w'_5 :
  World) =>
  ∃ (s :
  ByteArray),
  e =
  Ending.returned
  (Value.string
  s) ∧
  cnd
  (!s.toList ==
  s'.toList)
  (SetsAt
  w'_5
  (Addr.mk
  w.heap.size
  0
  none)
  0
  [Value.int
  IntKind.i64
  0,
  Value.slice
  none
  0
  0,
  Value.bool
  false,
  Value.bool
  false,
  Value.slice
  none
  0
  0] ∧
  ∀
  (w' :
  World),
  w' =
  setCellsAt
  w'_5
  (Addr.mk
  w.heap.size
  0
  none)
  0
  [Value.int
  IntKind.i64
  0,
  Value.slice
  none
  0
  0,
  Value.bool
  false,
  Value.bool
  false,
  Value.slice
  none
  0
  0] →
  ∃ (n
  :
  Int),
  ∃
  (p
  :
  Option
  Addr),
  ∃
  (n_8
  :
  Nat),
  ∃
  (c
  :
  Nat),
  ∃
  (b
  :
  Bool),
  ∃
  (b_5
  :
  Bool),
  ∃
  (p_4
  :
  Option
  Addr),
  ∃
  (n_9
  :
  Nat),
  ∃
  (c_4
  :
  Nat),
  (w'.cell?
  (Addr.mk
  w.heap.size
  0
  none) =
  some
  (Value.int
  IntKind.i64
  n) ∧
  w'.cell?
  (Addr.mk
  w.heap.size
  1
  none) =
  some
  (Value.slice
  p
  n_8
  c) ∧
  w'.cell?
  (Addr.mk
  w.heap.size
  2
  none) =
  some
  (Value.bool
  b) ∧
  w'.cell?
  (Addr.mk
  w.heap.size
  3
  none) =
  some
  (Value.bool
  b_5) ∧
  w'.cell?
  (Addr.mk
  w.heap.size
  4
  none) =
  some
  (Value.slice
  p_4
  n_9
  c_4) ∧
  True) ∧
  R
  (Ending.returned
  (Value.tuple
  #[Value.agg
  #[Value.int
  IntKind.i64
  n,
  Value.slice
  p
  n_8
  c,
  Value.bool
  b,
  Value.bool
  b_5,
  Value.slice
  p_4
  n_9
  c_4],
  Value.int
  IntKind.i64
  7]))
  w')
  (∃ (n :
  Int),
  ∃ (p :
  Option
  Addr),
  ∃ (n_8
  :
  Nat),
  ∃ (c
  :
  Nat),
  ∃
  (b
  :
  Bool),
  ∃
  (b_5
  :
  Bool),
  ∃
  (p_4
  :
  Option
  Addr),
  ∃
  (n_9
  :
  Nat),
  ∃
  (c_4
  :
  Nat),
  (w'_5.cell?
  (Addr.mk
  w'.heap.size
  0
  none) =
  some
  (Value.int
  IntKind.i64
  n) ∧
  w'_5.cell?
  (Addr.mk
  w'.heap.size
  1
  none) =
  some
  (Value.slice
  p
  n_8
  c) ∧
  w'_5.cell?
  (Addr.mk
  w'.heap.size
  2
  none) =
  some
  (Value.bool
  b) ∧
  w'_5.cell?
  (Addr.mk
  w'.heap.size
  3
  none) =
  some
  (Value.bool
  b_5) ∧
  w'_5.cell?
  (Addr.mk
  w'.heap.size
  4
  none) =
  some
  (Value.slice
  p_4
  n_9
  c_4) ∧
  True) ∧
  SetsAt
  w'_5
  (Addr.mk
  w.heap.size
  0
  none)
  0
  [Value.int
  IntKind.i64
  n,
  Value.slice
  p
  n_8
  c,
  Value.bool
  b,
  Value.bool
  b_5,
  Value.slice
  p_4
  n_9
  c_4] ∧
  ∀
  (w' :
  World),
  w' =
  setCellsAt
  w'_5
  (Addr.mk
  w.heap.size
  0
  none)
  0
  [Value.int
  IntKind.i64
  n,
  Value.slice
  p
  n_8
  c,
  Value.bool
  b,
  Value.bool
  b_5,
  Value.slice
  p_4
  n_9
  c_4] →
  ∃
  (n
  :
  Int),
  ∃
  (p
  :
  Option
  Addr),
  ∃
  (n_10
  :
  Nat),
  ∃
  (c
  :
  Nat),
  ∃
  (b
  :
  Bool),
  ∃
  (b_6
  :
  Bool),
  ∃
  (p_5
  :
  Option
  Addr),
  ∃
  (n_11
  :
  Nat),
  ∃
  (c_5
  :
  Nat),
  (w'.cell?
  (Addr.mk
  w.heap.size
  0
  none) =
  some
  (Value.int
  IntKind.i64
  n) ∧
  w'.cell?
  (Addr.mk
  w.heap.size
  1
  none) =
  some
  (Value.slice
  p
  n_10
  c) ∧
  w'.cell?
  (Addr.mk
  w.heap.size
  2
  none) =
  some
  (Value.bool
  b) ∧
  w'.cell?
  (Addr.mk
  w.heap.size
  3
  none) =
  some
  (Value.bool
  b_6) ∧
  w'.cell?
  (Addr.mk
  w.heap.size
  4
  none) =
  some
  (Value.slice
  p_5
  n_11
  c_5) ∧
  True) ∧
  R
  (Ending.returned
  (Value.tuple
  #[Value.agg
  #[Value.int
  IntKind.i64
  n,
  Value.slice
  p
  n_10
  c,
  Value.bool
  b,
  Value.bool
  b_6,
  Value.slice
  p_5
  n_11
  c_5],
  Value.int
  IntKind.i64
  0]))
  w')))))
theorem ref30_Get.vc_eq (s' : ByteArray) (w : World) (R : Ending → World → Prop) : fnV Try.prog ref30_Get.H 17 [Value.string s'] w R = ref30_Get.vc s' w R := by kernel_rfl
theorem ref30_Get.calls {s' : ByteArray} {w : World} {R : Ending → World → Prop} (h : ref30_Get.vc s' w R) : Calls Try.prog 17 ([Value.string s'] : List Value).toArray w R := calls_of_eq (ref30_Get.vc_eq s' w R) h

/- function 12: sacristy/sacristyref30.Same -/
abbrev ref30_Same.N : FuncId := 12
def ref30_Same.H : Hints := { loops := [(5, [(5, .one (.int .i64))]), (10, [(6, .one (.int .i64))])] }
def ref30_Same.vc (a'_0 : Int) (a'_1 : Option Addr) (a'_1n : Nat) (a'_1c : Nat) (a'_2 : Bool) (a'_3 : Bool) (a'_4 : Option Addr) (a'_4n : Nat) (a'_4c : Nat) (b'_0 : Int) (b'_1 : Option Addr) (b'_1n : Nat) (b'_1c : Nat) (b'_2 : Bool) (b'_3 : Bool) (b'_4 : Option Addr) (b'_4n : Nat) (b'_4c : Nat) (w : World) (R : Ending → World → Prop) : Prop :=
  ∀ (w' : World),
  w' =
  w.alloc
  (Obj.cells
  #[Value.int IntKind.i64 a'_0, Value.slice a'_1 a'_1n a'_1c, Value.bool a'_2, Value.bool a'_3,
  Value.slice a'_4 a'_4n a'_4c]
  25) →
  ∀ (w'_1 : World),
  w'_1 =
  w'.alloc
  (Obj.cells
  #[Value.int IntKind.i64 b'_0, Value.slice b'_1 b'_1n b'_1c, Value.bool b'_2, Value.bool b'_3,
  Value.slice b'_4 b'_4n b'_4c]
  25) →
  ∃ (n : Int),
  w'_1.cell? (Addr.mk w.heap.size 0 none) = some (Value.int IntKind.i64 n) ∧
  ∃ (n_1 : Int),
  w'_1.cell? (Addr.mk w'.heap.size 0 none) = some (Value.int IntKind.i64 n_1) ∧
  cnd (n != n_1) (R (Ending.returned (Value.bool false)) w'_1)
  (∃ (b : Bool),
  w'_1.cell? (Addr.mk w.heap.size 2 none) = some (Value.bool b) ∧
  ∃ (b_1 : Bool),
  w'_1.cell? (Addr.mk w'.heap.size 2 none) = some (Value.bool b_1) ∧
  cnd (!b == b_1) (R (Ending.returned (Value.bool false)) w'_1)
  (∃ (b : Bool),
  w'_1.cell? (Addr.mk w.heap.size 3 none) = some (Value.bool b) ∧
  ∃ (b_2 : Bool),
  w'_1.cell? (Addr.mk w'.heap.size 3 none) = some (Value.bool b_2) ∧
  cnd (!b == b_2) (R (Ending.returned (Value.bool false)) w'_1)
  (∃ (p : Option Addr),
  ∃ (n : Nat),
  ∃ (c : Nat),
  w'_1.cell? (Addr.mk w.heap.size 1 none) = some (Value.slice p n c) ∧
  ∃ (p : Option Addr),
  ∃ (n_2 : Nat),
  ∃ (c : Nat),
  w'_1.cell? (Addr.mk w'.heap.size 1 none) =
  some (Value.slice p n_2 c) ∧
  cnd ((↑n : Int) != (↑n_2 : Int))
  (R (Ending.returned (Value.bool false)) w'_1)
  (∃ (p : Option Addr),
  ∃ (n : Nat),
  ∃ (c : Nat),
  w'_1.cell? (Addr.mk w.heap.size 4 none) =
  some (Value.slice p n c) ∧
  ∃ (p : Option Addr),
  ∃ (n_3 : Nat),
  ∃ (c : Nat),
  w'_1.cell? (Addr.mk w'.heap.size 4 none) =
  some (Value.slice p n_3 c) ∧
  cnd ((↑n : Int) != (↑n_3 : Int))
  (R (Ending.returned (Value.bool false)) w'_1)
  (∃ (I : List Value → World → Prop),
  ∃ (μ : List Value → World → Nat),
  I [Value.int IntKind.i64 0] w'_1 ∧
  ∀ (g : Nat → Value) (i : Int)
  (w'_2 : World),
  I [Value.int IntKind.i64 i] w'_2 →
  ∃ (p : Option Addr),
  ∃ (n : Nat),
  ∃ (c : Nat),
  w'_2.cell?
  (Addr.mk w.heap.size 1
  none) =
  some (Value.slice p n c) ∧
  cnd
  (decide (i < (↑n : Int)))
  (∃ (p : Option Addr),
  ∃ (n : Nat),
  ∃ (c : Nat),
  (∀ (w' : World),
  Later w'_2 w' →
  w'.cell?
  (Addr.mk
  w.heap.size
  1
  none) =
  some
  (Value.slice
  p n
  c)) ∧
  (0 ≤ i ∧
  i <
  (↑n :
  Int)) ∧
  Deref p
  fun
  (a :
  Addr) =>
  ∃ (b : Bool),
  ∃ (b_3 :
  Bool),
  ∃ (b_4 :
  Bool),
  ∃ (n :
  Int),
  ∃ (n_4
  :
  Int),
  (∀
  (w' :
  World),
  Later
  w'_2
  w' →
  w'.cell?
  (a.add
  (i.toNat *
  5)) =
  some
  (Value.bool
  b) ∧
  w'.cell?
  ((a.add
  (i.toNat *
  5)).add
  1) =
  some
  (Value.bool
  b_3) ∧
  w'.cell?
  ((a.add
  (i.toNat *
  5)).add
  2) =
  some
  (Value.bool
  b_4) ∧
  w'.cell?
  ((a.add
  (i.toNat *
  5)).add
  3) =
  some
  (Value.int
  IntKind.i64
  n) ∧
  w'.cell?
  ((a.add
  (i.toNat *
  5)).add
  4) =
  some
  (Value.int
  IntKind.i64
  n_4) ∧
  True) ∧
  ∃
  (p
  :
  Option
  Addr),
  ∃
  (n_5
  :
  Nat),
  ∃
  (c
  :
  Nat),
  (∀
  (w'_3 :
  World),
  Later
  w'_2
  w'_3 →
  w'_3.cell?
  (Addr.mk
  w'.heap.size
  1
  none) =
  some
  (Value.slice
  p
  n_5
  c)) ∧
  (0 ≤
  i ∧
  i <
  (↑n_5 :
  Int)) ∧
  Deref
  p
  fun
  (a :
  Addr) =>
  ∃
  (b_5
  :
  Bool),
  ∃
  (b_6
  :
  Bool),
  ∃
  (b_7
  :
  Bool),
  ∃
  (n_6
  :
  Int),
  ∃
  (n_7
  :
  Int),
  (∀
  (w' :
  World),
  Later
  w'_2
  w' →
  w'.cell?
  (a.add
  (i.toNat *
  5)) =
  some
  (Value.bool
  b_5) ∧
  w'.cell?
  ((a.add
  (i.toNat *
  5)).add
  1) =
  some
  (Value.bool
  b_6) ∧
  w'.cell?
  ((a.add
  (i.toNat *
  5)).add
  2) =
  some
  (Value.bool
  b_7) ∧
  w'.cell?
  ((a.add
  (i.toNat *
  5)).add
  3) =
  some
  (Value.int
  IntKind.i64
  n_6) ∧
  w'.cell?
  ((a.add
  (i.toNat *
  5)).add
  4) =
  some
  (Value.int
  IntKind.i64
  n_7) ∧
  True) ∧
  ∃
  (b_8
  :
  Bool),
  EqRuns
  Proofs.Try.prog
  BinOp.neq
  50
  (Operand.tmp
  55)
  (Operand.tmp
  60)
  (Value.agg
  #[Value.bool
  b,
  Value.bool
  b_3,
  Value.bool
  b_4,
  Value.int
  IntKind.i64
  n,
  Value.int
  IntKind.i64
  n_4])
  (Value.agg
  #[Value.bool
  b_5,
  Value.bool
  b_6,
  Value.bool
  b_7,
  Value.int
  IntKind.i64
  n_6,
  Value.int
  IntKind.i64
  n_7])
  b_8 ∧
  ∀
  (w' :
  World),
  Later
  w'_2
  w' →
  cnd
  b_8
  (R
  (Ending.returned
  (Value.bool
  false))
  w')
  (Goes
  I
  μ
  [Value.int
  IntKind.i64
  i]
  w'_2
  [Value.int
  IntKind.i64
  (IntKind.i64.wrap
  (i +
  1))]
  w'))
  (∃ (I :
  List Value →
  World → Prop),
  ∃ (μ :
  List Value →
  World → Nat),
  I
  [Value.int
  IntKind.i64 0]
  w'_2 ∧
  ∀ (g : Nat → Value)
  (i : Int)
  (w'_3 : World),
  I
  [Value.int
  IntKind.i64
  i]
  w'_3 →
  ∃ (p :
  Option Addr),
  ∃ (n : Nat),
  ∃ (c : Nat),
  w'_3.cell?
  (Addr.mk
  w.heap.size
  4
  none) =
  some
  (Value.slice
  p
  n
  c) ∧
  cnd
  (decide
  (i <
  (↑n :
  Int)))
  (∃ (p
  :
  Option
  Addr),
  ∃ (n
  :
  Nat),
  ∃
  (c
  :
  Nat),
  (∀
  (w' :
  World),
  Later
  w'_3
  w' →
  w'.cell?
  (Addr.mk
  w.heap.size
  4
  none) =
  some
  (Value.slice
  p
  n
  c)) ∧
  (0 ≤
  i ∧
  i <
  (↑n :
  Int)) ∧
  Deref
  p
  fun
  (a :
  Addr) =>
  ∃
  (n
  :
  Int),
  (∀
  (w' :
  World),
  Later
  w'_3
  w' →
  w'.cell?
  (a.add
  (i.toNat *
  1)) =
  some
  (Value.int
  IntKind.u32
  n)) ∧
  ∃
  (p
  :
  Option
  Addr),
  ∃
  (n_4
  :
  Nat),
  ∃
  (c
  :
  Nat),
  (∀
  (w'_4 :
  World),
  Later
  w'_3
  w'_4 →
  w'_4.cell?
  (Addr.mk
  w'.heap.size
  4
  none) =
  some
  (Value.slice
  p
  n_4
  c)) ∧
  (0 ≤
  i ∧
  i <
  (↑n_4 :
  Int)) ∧
  Deref
  p
  fun
  (a :
  Addr) =>
  ∃
  (n_5
  :
  Int),
  (∀
  (w' :
  World),
  Later
  w'_3
  w' →
  w'.cell?
  (a.add
  (i.toNat *
  1)) =
  some
  (Value.int
  IntKind.u32
  n_5)) ∧
  ∀
  (w' :
  World),
  Later
  w'_3
  w' →
  cnd
  (n !=
  n_5)
  (R
  (Ending.returned
  (Value.bool
  false))
  w')
  (Goes
  I
  μ
  [Value.int
  IntKind.i64
  i]
  w'_3
  [Value.int
  IntKind.i64
  (IntKind.i64.wrap
  (i +
  1))]
  w'))
  (R
  (Ending.returned
  (Value.bool
  true))
  w'_3)))))))
theorem ref30_Same.vc_eq (a'_0 : Int) (a'_1 : Option Addr) (a'_1n : Nat) (a'_1c : Nat) (a'_2 : Bool) (a'_3 : Bool) (a'_4 : Option Addr) (a'_4n : Nat) (a'_4c : Nat) (b'_0 : Int) (b'_1 : Option Addr) (b'_1n : Nat) (b'_1c : Nat) (b'_2 : Bool) (b'_3 : Bool) (b'_4 : Option Addr) (b'_4n : Nat) (b'_4c : Nat) (w : World) (R : Ending → World → Prop) : fnV Try.prog ref30_Same.H 12 [Value.agg
  #[Value.int IntKind.i64 a'_0, Value.slice a'_1 a'_1n a'_1c, Value.bool a'_2, Value.bool a'_3,
  Value.slice a'_4 a'_4n a'_4c],
  Value.agg
  #[Value.int IntKind.i64 b'_0, Value.slice b'_1 b'_1n b'_1c, Value.bool b'_2, Value.bool b'_3,
  Value.slice b'_4 b'_4n b'_4c]] w R = ref30_Same.vc a'_0 a'_1 a'_1n a'_1c a'_2 a'_3 a'_4 a'_4n a'_4c b'_0 b'_1 b'_1n b'_1c b'_2 b'_3 b'_4 b'_4n b'_4c w R := by kernel_rfl
theorem ref30_Same.calls {a'_0 : Int} {a'_1 : Option Addr} {a'_1n : Nat} {a'_1c : Nat} {a'_2 : Bool} {a'_3 : Bool} {a'_4 : Option Addr} {a'_4n : Nat} {a'_4c : Nat} {b'_0 : Int} {b'_1 : Option Addr} {b'_1n : Nat} {b'_1c : Nat} {b'_2 : Bool} {b'_3 : Bool} {b'_4 : Option Addr} {b'_4n : Nat} {b'_4c : Nat} {w : World} {R : Ending → World → Prop} (h : ref30_Same.vc a'_0 a'_1 a'_1n a'_1c a'_2 a'_3 a'_4 a'_4n a'_4c b'_0 b'_1 b'_1n b'_1c b'_2 b'_3 b'_4 b'_4n b'_4c w R) : Calls Try.prog 12 ([Value.agg
  #[Value.int IntKind.i64 a'_0, Value.slice a'_1 a'_1n a'_1c, Value.bool a'_2, Value.bool a'_3,
  Value.slice a'_4 a'_4n a'_4c],
  Value.agg
  #[Value.int IntKind.i64 b'_0, Value.slice b'_1 b'_1n b'_1c, Value.bool b'_2, Value.bool b'_3,
  Value.slice b'_4 b'_4n b'_4c]] : List Value).toArray w R := calls_of_eq (ref30_Same.vc_eq a'_0 a'_1 a'_1n a'_1c a'_2 a'_3 a'_4 a'_4n a'_4c b'_0 b'_1 b'_1n b'_1c b'_2 b'_3 b'_4 b'_4n b'_4c w R) h

/- function 8: sacristy/sacristyref30.Copy -/
abbrev ref30_Copy.N : FuncId := 8
def ref30_Copy.H : Hints := {  }
def ref30_Copy.vc (x'_0 : Int) (x'_1 : Option Addr) (x'_1n : Nat) (x'_1c : Nat) (x'_2 : Bool) (x'_3 : Bool) (x'_4 : Option Addr) (x'_4n : Nat) (x'_4c : Nat) (w : World) (R : Ending → World → Prop) : Prop :=
  ∀ (w' : World),
  w' =
  w.alloc
  (Obj.cells
  #[Value.int IntKind.i64 x'_0, Value.slice x'_1 x'_1n x'_1c, Value.bool x'_2, Value.bool x'_3,
  Value.slice x'_4 x'_4n x'_4c]
  25) →
  ∀ (w'_1 : World),
  w'_1 =
  w'.alloc
  (Obj.cells
  #[Value.int IntKind.i64 0, Value.slice none 0 0, Value.bool false, Value.bool false, Value.slice none 0 0]
  25) →
  ∃ (p : Option Addr),
  ∃ (n : Nat),
  ∃ (c : Nat),
  w'_1.cell? (Addr.mk w.heap.size 1 none) = some (Value.slice p n c) ∧
  RunsV Proofs.Try.prog (Builtin.append_ #[22, 22] 22 #[Value.slice none 0 0, Value.slice p n c]) w'_1
  fun (v : Value) (w'_2 : World) =>
  ∃ (p : Option Addr),
  ∃ (n : Nat),
  ∃ (c : Nat),
  v = Value.slice p n c ∧
  ((w'_2.cell? (Addr.mk w.heap.size 1 none)).isSome = true ∧
  w'_2.frozen? (Addr.mk w.heap.size 1 none) = false) ∧
  ∀ (w'_3 : World),
  w'_3 = w'_2.setCell (Addr.mk w.heap.size 1 none) (Value.slice p n c) →
  ∃ (p : Option Addr),
  ∃ (n : Nat),
  ∃ (c : Nat),
  w'_3.cell? (Addr.mk w.heap.size 4 none) = some (Value.slice p n c) ∧
  RunsV Proofs.Try.prog
  (Builtin.append_ #[23, 23] 23 #[Value.slice none 0 0, Value.slice p n c]) w'_3
  fun (v : Value) (w'_4 : World) =>
  ∃ (p : Option Addr),
  ∃ (n : Nat),
  ∃ (c : Nat),
  v = Value.slice p n c ∧
  ((w'_4.cell? (Addr.mk w.heap.size 4 none)).isSome = true ∧
  w'_4.frozen? (Addr.mk w.heap.size 4 none) = false) ∧
  ∀ (w'_5 : World),
  w'_5 =
  w'_4.setCell (Addr.mk w.heap.size 4 none)
  (Value.slice p n c) →
  ∃ (n : Int),
  ∃ (p : Option Addr),
  ∃ (n_1 : Nat),
  ∃ (c : Nat),
  ∃ (b : Bool),
  ∃ (b_1 : Bool),
  ∃ (p_1 : Option Addr),
  ∃ (n_2 : Nat),
  ∃ (c_1 : Nat),
  (w'_5.cell? (Addr.mk w.heap.size 0 none) =
  some (Value.int IntKind.i64 n) ∧
  w'_5.cell? (Addr.mk w.heap.size 1 none) =
  some (Value.slice p n_1 c) ∧
  w'_5.cell?
  (Addr.mk w.heap.size 2 none) =
  some (Value.bool b) ∧
  w'_5.cell?
  (Addr.mk w.heap.size 3 none) =
  some (Value.bool b_1) ∧
  w'_5.cell?
  (Addr.mk w.heap.size 4 none) =
  some (Value.slice p_1 n_2 c_1) ∧
  True) ∧
  SetsAt w'_5 (Addr.mk w'.heap.size 0 none) 0
  [Value.int IntKind.i64 n,
  Value.slice p n_1 c, Value.bool b,
  Value.bool b_1,
  Value.slice p_1 n_2 c_1] ∧
  ∀ (w'_6 : World),
  w'_6 =
  setCellsAt w'_5
  (Addr.mk w'.heap.size 0 none) 0
  [Value.int IntKind.i64 n,
  Value.slice p n_1 c,
  Value.bool b, Value.bool b_1,
  Value.slice p_1 n_2 c_1] →
  ∃ (n : Int),
  ∃ (p : Option Addr),
  ∃ (n_3 : Nat),
  ∃ (c : Nat),
  ∃ (b : Bool),
  ∃ (b_2 : Bool),
  ∃ (p_2 : Option Addr),
  ∃ (n_4 : Nat),
  ∃ (c_2 : Nat),
  (w'_6.cell?
  (Addr.mk
  w'.heap.size
  0 none) =
  some
  (Value.int
  IntKind.i64
  n) ∧
  w'_6.cell?
  (Addr.mk
  w'.heap.size
  1
  none) =
  some
  (Value.slice
  p n_3
  c) ∧
  w'_6.cell?
  (Addr.mk
  w'.heap.size
  2
  none) =
  some
  (Value.bool
  b) ∧
  w'_6.cell?
  (Addr.mk
  w'.heap.size
  3
  none) =
  some
  (Value.bool
  b_2) ∧
  w'_6.cell?
  (Addr.mk
  w'.heap.size
  4
  none) =
  some
  (Value.slice
  p_2
  n_4
  c_2) ∧
  True) ∧
  R
  (Ending.returned
  (Value.agg
  #[Value.int
  IntKind.i64
  n,
  Value.slice
  p n_3 c,
  Value.bool
  b,
  Value.bool
  b_2,
  Value.slice
  p_2 n_4
  c_2]))
  w'_6
theorem ref30_Copy.vc_eq (x'_0 : Int) (x'_1 : Option Addr) (x'_1n : Nat) (x'_1c : Nat) (x'_2 : Bool) (x'_3 : Bool) (x'_4 : Option Addr) (x'_4n : Nat) (x'_4c : Nat) (w : World) (R : Ending → World → Prop) : fnV Try.prog ref30_Copy.H 8 [Value.agg
  #[Value.int IntKind.i64 x'_0, Value.slice x'_1 x'_1n x'_1c, Value.bool x'_2, Value.bool x'_3,
  Value.slice x'_4 x'_4n x'_4c]] w R = ref30_Copy.vc x'_0 x'_1 x'_1n x'_1c x'_2 x'_3 x'_4 x'_4n x'_4c w R := by kernel_rfl
theorem ref30_Copy.calls {x'_0 : Int} {x'_1 : Option Addr} {x'_1n : Nat} {x'_1c : Nat} {x'_2 : Bool} {x'_3 : Bool} {x'_4 : Option Addr} {x'_4n : Nat} {x'_4c : Nat} {w : World} {R : Ending → World → Prop} (h : ref30_Copy.vc x'_0 x'_1 x'_1n x'_1c x'_2 x'_3 x'_4 x'_4n x'_4c w R) : Calls Try.prog 8 ([Value.agg
  #[Value.int IntKind.i64 x'_0, Value.slice x'_1 x'_1n x'_1c, Value.bool x'_2, Value.bool x'_3,
  Value.slice x'_4 x'_4n x'_4c]] : List Value).toArray w R := calls_of_eq (ref30_Copy.vc_eq x'_0 x'_1 x'_1n x'_1c x'_2 x'_3 x'_4 x'_4n x'_4c w R) h

end Go.Proofs.Ytjoikaklincfoaa

/-
The explicit conditions of some functions of the program, printed by this repo's own program over VcTop: what is proved is that each is the condition.
Conditions: none.
-/
namespace Go.Proofs.Ytjoikaklincfoaa
open Go Go.Vc Go.RowKit
set_option linter.unusedVariables false
set_option maxRecDepth 100000

/- function 33: sacristy/sacristyref03.field -/
abbrev ref03_field.N : FuncId := 33
def ref03_field.H : Hints := {  }
def ref03_field.vc (w' : Int) (at' : Int) (n' : Int) (w : World) (R : Ending → World → Prop) : Prop :=
  cnd (decide (IntKind.u64.wrap at' < 0)) False
  (cnd (decide (IntKind.u64.wrap n' < 0)) False
  (cnd (decide (IntKind.u32.wrap (1 * 2 ^ min (IntKind.u64.wrap n').toNat 32) = 0)) False
  (R
  (Ending.returned
  (Value.int IntKind.u32
  ((w'.fdiv (2 ^ min (IntKind.u64.wrap at').toNat 32)).tmod
  (IntKind.u32.wrap (1 * 2 ^ min (IntKind.u64.wrap n').toNat 32)))))
  w)))
theorem ref03_field.vc_eq (w' : Int) (at' : Int) (n' : Int) (w : World) (R : Ending → World → Prop) : fnV Try.prog ref03_field.H 33 [Value.int IntKind.u32 w', Value.int IntKind.i64 at', Value.int IntKind.i64 n'] w R = ref03_field.vc w' at' n' w R := by kernel_rfl
theorem ref03_field.calls {w' : Int} {at' : Int} {n' : Int} {w : World} {R : Ending → World → Prop} (h : ref03_field.vc w' at' n' w R) : Calls Try.prog 33 ([Value.int IntKind.u32 w', Value.int IntKind.i64 at', Value.int IntKind.i64 n'] : List Value).toArray w R := calls_of_eq (ref03_field.vc_eq w' at' n' w R) h

/- function 34: sacristy/sacristyref03.signed -/
abbrev ref03_signed.N : FuncId := 34
def ref03_signed.H : Hints := {  }
def ref03_signed.vc (v' : Int) (bits' : Int) (w : World) (R : Ending → World → Prop) : Prop :=
  Calls Proofs.Try.prog 41 #[Value.int IntKind.u64 (IntKind.u64.wrap v'), Value.int IntKind.i64 bits'] w
  fun (e : Ending) (w' : World) =>
  ∃ (n : Int),
  ∃ (n_1 : Int),
  e = Ending.returned (Value.tuple #[Value.int IntKind.u64 n, Value.int IntKind.i64 n_1]) ∧
  R (Ending.returned (Value.int IntKind.i64 (IntKind.i64.wrap n))) w'
theorem ref03_signed.vc_eq (v' : Int) (bits' : Int) (w : World) (R : Ending → World → Prop) : fnV Try.prog ref03_signed.H 34 [Value.int IntKind.u32 v', Value.int IntKind.i64 bits'] w R = ref03_signed.vc v' bits' w R := by kernel_rfl
theorem ref03_signed.calls {v' : Int} {bits' : Int} {w : World} {R : Ending → World → Prop} (h : ref03_signed.vc v' bits' w R) : Calls Try.prog 34 ([Value.int IntKind.u32 v', Value.int IntKind.i64 bits'] : List Value).toArray w R := calls_of_eq (ref03_signed.vc_eq v' bits' w R) h

/- function 25: sacristy/sacristyref03.guess -/
abbrev ref03_guess.N : FuncId := 25
def ref03_guess.H : Hints := {  }
def ref03_guess.vc (op' : Int) (form' : Int) (w' : Int) (w : World) (R : Ending → World → Prop) : Prop :=
  ∀ (w'_1 : World),
  w'_1 =
  w.alloc
  (Obj.cells
  #[Value.int IntKind.u8 0, Value.int IntKind.u8 0, Value.int IntKind.u8 0, Value.int IntKind.u8 0,
  Value.int IntKind.i64 0]
  39) →
  ∀ (w'_2 : World),
  w'_2 =
  w'_1.alloc
  (Obj.cells
  #[Value.int IntKind.u8 0, Value.int IntKind.u8 0, Value.int IntKind.u8 0, Value.int IntKind.u8 0,
  Value.int IntKind.i64 0]
  39) →
  SetsAt w'_2 (Addr.mk w'_1.heap.size 0 none) 0
  [Value.int IntKind.u8 op', Value.int IntKind.u8 0, Value.int IntKind.u8 0, Value.int IntKind.u8 0,
  Value.int IntKind.i64 0] ∧
  ∀ (w'_3 : World),
  w'_3 =
  setCellsAt w'_2 (Addr.mk w'_1.heap.size 0 none) 0
  [Value.int IntKind.u8 op', Value.int IntKind.u8 0, Value.int IntKind.u8 0, Value.int IntKind.u8 0,
  Value.int IntKind.i64 0] →
  Calls Proofs.Try.prog 33 #[Value.int IntKind.u32 w', Value.int IntKind.i64 7, Value.int IntKind.i64 5]
  w'_3 fun (e : Ending) (w'_4 : World) =>
  ∃ (n : Int),
  e = Ending.returned (Value.int IntKind.u32 n) ∧
  Calls Proofs.Try.prog 33
  #[Value.int IntKind.u32 w', Value.int IntKind.i64 15, Value.int IntKind.i64 5] w'_4
  fun (e : Ending) (w'_5 : World) =>
  ∃ (n_1 : Int),
  e = Ending.returned (Value.int IntKind.u32 n_1) ∧
  Calls Proofs.Try.prog 33
  #[Value.int IntKind.u32 w', Value.int IntKind.i64 20, Value.int IntKind.i64 5] w'_5
  fun (e : Ending) (w'_6 : World) =>
  ∃ (n_2 : Int),
  e = Ending.returned (Value.int IntKind.u32 n_2) ∧
  cnd (form' == 1)
  (((w'_6.cell? (Addr.mk w'_1.heap.size 1 none)).isSome = true ∧
  w'_6.frozen? (Addr.mk w'_1.heap.size 1 none) = false) ∧
  ∀ (w' : World),
  w' =
  w'_6.setCell (Addr.mk w'_1.heap.size 1 none)
  (Value.int IntKind.u8 (IntKind.u8.wrap n)) →
  ((w'.cell? (Addr.mk w'_1.heap.size 2 none)).isSome = true ∧
  w'.frozen? (Addr.mk w'_1.heap.size 2 none) = false) ∧
  ∀ (w'_7 : World),
  w'_7 =
  w'.setCell (Addr.mk w'_1.heap.size 2 none)
  (Value.int IntKind.u8 (IntKind.u8.wrap n_1)) →
  ((w'_7.cell? (Addr.mk w'_1.heap.size 3 none)).isSome = true ∧
  w'_7.frozen? (Addr.mk w'_1.heap.size 3 none) = false) ∧
  ∀ (w' : World),
  w' =
  w'_7.setCell (Addr.mk w'_1.heap.size 3 none)
  (Value.int IntKind.u8 (IntKind.u8.wrap n_2)) →
  ∃ (n : Int),
  ∃ (n_3 : Int),
  ∃ (n_4 : Int),
  ∃ (n_5 : Int),
  ∃ (n_6 : Int),
  (w'.cell? (Addr.mk w'_1.heap.size 0 none) =
  some (Value.int IntKind.u8 n) ∧
  w'.cell? (Addr.mk w'_1.heap.size 1 none) =
  some (Value.int IntKind.u8 n_3) ∧
  w'.cell? (Addr.mk w'_1.heap.size 2 none) =
  some (Value.int IntKind.u8 n_4) ∧
  w'.cell? (Addr.mk w'_1.heap.size 3 none) =
  some (Value.int IntKind.u8 n_5) ∧
  w'.cell? (Addr.mk w'_1.heap.size 4 none) =
  some (Value.int IntKind.i64 n_6) ∧
  True) ∧
  SetsAt w' (Addr.mk w.heap.size 0 none) 0
  [Value.int IntKind.u8 n, Value.int IntKind.u8 n_3,
  Value.int IntKind.u8 n_4,
  Value.int IntKind.u8 n_5,
  Value.int IntKind.i64 n_6] ∧
  ∀ (w'_8 : World),
  w'_8 =
  setCellsAt w' (Addr.mk w.heap.size 0 none) 0
  [Value.int IntKind.u8 n,
  Value.int IntKind.u8 n_3,
  Value.int IntKind.u8 n_4,
  Value.int IntKind.u8 n_5,
  Value.int IntKind.i64 n_6] →
  ∃ (n : Int),
  ∃ (n_7 : Int),
  ∃ (n_8 : Int),
  ∃ (n_9 : Int),
  ∃ (n_10 : Int),
  (w'_8.cell?
  (Addr.mk w.heap.size 0 none) =
  some (Value.int IntKind.u8 n) ∧
  w'_8.cell?
  (Addr.mk w.heap.size 1 none) =
  some
  (Value.int IntKind.u8 n_7) ∧
  w'_8.cell?
  (Addr.mk w.heap.size 2
  none) =
  some
  (Value.int IntKind.u8 n_8) ∧
  w'_8.cell?
  (Addr.mk w.heap.size 3
  none) =
  some
  (Value.int IntKind.u8
  n_9) ∧
  w'_8.cell?
  (Addr.mk w.heap.size 4
  none) =
  some
  (Value.int IntKind.i64
  n_10) ∧
  True) ∧
  R
  (Ending.returned
  (Value.agg
  #[Value.int IntKind.u8 n,
  Value.int IntKind.u8 n_7,
  Value.int IntKind.u8 n_8,
  Value.int IntKind.u8 n_9,
  Value.int IntKind.i64 n_10]))
  w'_8)
  (cnd (form' == 2)
  (Calls Proofs.Try.prog 33
  #[Value.int IntKind.u32 w', Value.int IntKind.i64 20, Value.int IntKind.i64 12]
  w'_6 fun (e : Ending) (w' : World) =>
  ∃ (n_3 : Int),
  e = Ending.returned (Value.int IntKind.u32 n_3) ∧
  Calls Proofs.Try.prog 34
  #[Value.int IntKind.u32 n_3, Value.int IntKind.i64 12] w'
  fun (e : Ending) (w' : World) =>
  ∃ (n_4 : Int),
  e = Ending.returned (Value.int IntKind.i64 n_4) ∧
  ((w'.cell? (Addr.mk w'_1.heap.size 1 none)).isSome = true ∧
  w'.frozen? (Addr.mk w'_1.heap.size 1 none) = false) ∧
  ∀ (w'_7 : World),
  w'_7 =
  w'.setCell (Addr.mk w'_1.heap.size 1 none)
  (Value.int IntKind.u8 (IntKind.u8.wrap n)) →
  ((w'_7.cell? (Addr.mk w'_1.heap.size 2 none)).isSome = true ∧
  w'_7.frozen? (Addr.mk w'_1.heap.size 2 none) = false) ∧
  ∀ (w' : World),
  w' =
  w'_7.setCell (Addr.mk w'_1.heap.size 2 none)
  (Value.int IntKind.u8 (IntKind.u8.wrap n_1)) →
  ((w'.cell? (Addr.mk w'_1.heap.size 4 none)).isSome = true ∧
  w'.frozen? (Addr.mk w'_1.heap.size 4 none) = false) ∧
  ∀ (w'_8 : World),
  w'_8 =
  w'.setCell (Addr.mk w'_1.heap.size 4 none)
  (Value.int IntKind.i64 n_4) →
  ∃ (n : Int),
  ∃ (n_5 : Int),
  ∃ (n_6 : Int),
  ∃ (n_7 : Int),
  ∃ (n_8 : Int),
  (w'_8.cell?
  (Addr.mk w'_1.heap.size 0 none) =
  some (Value.int IntKind.u8 n) ∧
  w'_8.cell?
  (Addr.mk w'_1.heap.size 1 none) =
  some (Value.int IntKind.u8 n_5) ∧
  w'_8.cell?
  (Addr.mk w'_1.heap.size 2
  none) =
  some (Value.int IntKind.u8 n_6) ∧
  w'_8.cell?
  (Addr.mk w'_1.heap.size 3
  none) =
  some
  (Value.int IntKind.u8 n_7) ∧
  w'_8.cell?
  (Addr.mk w'_1.heap.size 4
  none) =
  some
  (Value.int IntKind.i64
  n_8) ∧
  True) ∧
  SetsAt w'_8 (Addr.mk w.heap.size 0 none) 0
  [Value.int IntKind.u8 n,
  Value.int IntKind.u8 n_5,
  Value.int IntKind.u8 n_6,
  Value.int IntKind.u8 n_7,
  Value.int IntKind.i64 n_8] ∧
  ∀ (w' : World),
  w' =
  setCellsAt w'_8
  (Addr.mk w.heap.size 0 none) 0
  [Value.int IntKind.u8 n,
  Value.int IntKind.u8 n_5,
  Value.int IntKind.u8 n_6,
  Value.int IntKind.u8 n_7,
  Value.int IntKind.i64 n_8] →
  ∃ (n : Int),
  ∃ (n_9 : Int),
  ∃ (n_10 : Int),
  ∃ (n_11 : Int),
  ∃ (n_12 : Int),
  (w'.cell?
  (Addr.mk
  w.heap.size 0
  none) =
  some
  (Value.int
  IntKind.u8 n) ∧
  w'.cell?
  (Addr.mk
  w.heap.size 1
  none) =
  some
  (Value.int
  IntKind.u8
  n_9) ∧
  w'.cell?
  (Addr.mk
  w.heap.size
  2 none) =
  some
  (Value.int
  IntKind.u8
  n_10) ∧
  w'.cell?
  (Addr.mk
  w.heap.size
  3 none) =
  some
  (Value.int
  IntKind.u8
  n_11) ∧
  w'.cell?
  (Addr.mk
  w.heap.size
  4
  none) =
  some
  (Value.int
  IntKind.i64
  n_12) ∧
  True) ∧
  R
  (Ending.returned
  (Value.agg
  #[Value.int
  IntKind.u8 n,
  Value.int
  IntKind.u8
  n_9,
  Value.int
  IntKind.u8
  n_10,
  Value.int
  IntKind.u8
  n_11,
  Value.int
  IntKind.i64
  n_12]))
  w')
  (cnd (form' == 3)
  (Calls Proofs.Try.prog 33
  #[Value.int IntKind.u32 w', Value.int IntKind.i64 20, Value.int IntKind.i64 6]
  w'_6 fun (e : Ending) (w' : World) =>
  ∃ (n_3 : Int),
  e = Ending.returned (Value.int IntKind.u32 n_3) ∧
  ((w'.cell? (Addr.mk w'_1.heap.size 1 none)).isSome = true ∧
  w'.frozen? (Addr.mk w'_1.heap.size 1 none) = false) ∧
  ∀ (w'_7 : World),
  w'_7 =
  w'.setCell (Addr.mk w'_1.heap.size 1 none)
  (Value.int IntKind.u8 (IntKind.u8.wrap n)) →
  ((w'_7.cell? (Addr.mk w'_1.heap.size 2 none)).isSome = true ∧
  w'_7.frozen? (Addr.mk w'_1.heap.size 2 none) = false) ∧
  ∀ (w' : World),
  w' =
  w'_7.setCell (Addr.mk w'_1.heap.size 2 none)
  (Value.int IntKind.u8 (IntKind.u8.wrap n_1)) →
  ((w'.cell? (Addr.mk w'_1.heap.size 4 none)).isSome = true ∧
  w'.frozen? (Addr.mk w'_1.heap.size 4 none) = false) ∧
  ∀ (w'_8 : World),
  w'_8 =
  w'.setCell (Addr.mk w'_1.heap.size 4 none)
  (Value.int IntKind.i64 (IntKind.i64.wrap n_3)) →
  ∃ (n : Int),
  ∃ (n_4 : Int),
  ∃ (n_5 : Int),
  ∃ (n_6 : Int),
  ∃ (n_7 : Int),
  (w'_8.cell? (Addr.mk w'_1.heap.size 0 none) =
  some (Value.int IntKind.u8 n) ∧
  w'_8.cell? (Addr.mk w'_1.heap.size 1 none) =
  some (Value.int IntKind.u8 n_4) ∧
  w'_8.cell?
  (Addr.mk w'_1.heap.size 2 none) =
  some (Value.int IntKind.u8 n_5) ∧
  w'_8.cell?
  (Addr.mk w'_1.heap.size 3 none) =
  some (Value.int IntKind.u8 n_6) ∧
  w'_8.cell?
  (Addr.mk w'_1.heap.size 4
  none) =
  some (Value.int IntKind.i64 n_7) ∧
  True) ∧
  SetsAt w'_8 (Addr.mk w.heap.size 0 none) 0
  [Value.int IntKind.u8 n,
  Value.int IntKind.u8 n_4,
  Value.int IntKind.u8 n_5,
  Value.int IntKind.u8 n_6,
  Value.int IntKind.i64 n_7] ∧
  ∀ (w' : World),
  w' =
  setCellsAt w'_8
  (Addr.mk w.heap.size 0 none) 0
  [Value.int IntKind.u8 n,
  Value.int IntKind.u8 n_4,
  Value.int IntKind.u8 n_5,
  Value.int IntKind.u8 n_6,
  Value.int IntKind.i64 n_7] →
  ∃ (n : Int),
  ∃ (n_8 : Int),
  ∃ (n_9 : Int),
  ∃ (n_10 : Int),
  ∃ (n_11 : Int),
  (w'.cell?
  (Addr.mk w.heap.size 0
  none) =
  some
  (Value.int IntKind.u8
  n) ∧
  w'.cell?
  (Addr.mk w.heap.size
  1 none) =
  some
  (Value.int
  IntKind.u8 n_8) ∧
  w'.cell?
  (Addr.mk
  w.heap.size 2
  none) =
  some
  (Value.int
  IntKind.u8
  n_9) ∧
  w'.cell?
  (Addr.mk
  w.heap.size 3
  none) =
  some
  (Value.int
  IntKind.u8
  n_10) ∧
  w'.cell?
  (Addr.mk
  w.heap.size
  4 none) =
  some
  (Value.int
  IntKind.i64
  n_11) ∧
  True) ∧
  R
  (Ending.returned
  (Value.agg
  #[Value.int IntKind.u8
  n,
  Value.int IntKind.u8
  n_8,
  Value.int IntKind.u8
  n_9,
  Value.int IntKind.u8
  n_10,
  Value.int
  IntKind.i64
  n_11]))
  w')
  (cnd (form' == 4)
  (Calls Proofs.Try.prog 33
  #[Value.int IntKind.u32 w', Value.int IntKind.i64 12,
  Value.int IntKind.i64 20]
  w'_6 fun (e : Ending) (w' : World) =>
  ∃ (n_3 : Int),
  e = Ending.returned (Value.int IntKind.u32 n_3) ∧
  Calls Proofs.Try.prog 34
  #[Value.int IntKind.u32 (IntKind.u32.wrap (n_3 * 4096)),
  Value.int IntKind.i64 32]
  w' fun (e : Ending) (w' : World) =>
  ∃ (n_4 : Int),
  e = Ending.returned (Value.int IntKind.i64 n_4) ∧
  ((w'.cell? (Addr.mk w'_1.heap.size 1 none)).isSome = true ∧
  w'.frozen? (Addr.mk w'_1.heap.size 1 none) = false) ∧
  ∀ (w'_7 : World),
  w'_7 =
  w'.setCell (Addr.mk w'_1.heap.size 1 none)
  (Value.int IntKind.u8 (IntKind.u8.wrap n)) →
  ((w'_7.cell? (Addr.mk w'_1.heap.size 4 none)).isSome = true ∧
  w'_7.frozen? (Addr.mk w'_1.heap.size 4 none) = false) ∧
  ∀ (w' : World),
  w' =
  w'_7.setCell (Addr.mk w'_1.heap.size 4 none)
  (Value.int IntKind.i64 n_4) →
  ∃ (n : Int),
  ∃ (n_5 : Int),
  ∃ (n_6 : Int),
  ∃ (n_7 : Int),
  ∃ (n_8 : Int),
  (w'.cell? (Addr.mk w'_1.heap.size 0 none) =
  some (Value.int IntKind.u8 n) ∧
  w'.cell? (Addr.mk w'_1.heap.size 1 none) =
  some (Value.int IntKind.u8 n_5) ∧
  w'.cell?
  (Addr.mk w'_1.heap.size 2 none) =
  some (Value.int IntKind.u8 n_6) ∧
  w'.cell?
  (Addr.mk w'_1.heap.size 3
  none) =
  some (Value.int IntKind.u8 n_7) ∧
  w'.cell?
  (Addr.mk w'_1.heap.size 4
  none) =
  some
  (Value.int IntKind.i64 n_8) ∧
  True) ∧
  SetsAt w' (Addr.mk w.heap.size 0 none) 0
  [Value.int IntKind.u8 n,
  Value.int IntKind.u8 n_5,
  Value.int IntKind.u8 n_6,
  Value.int IntKind.u8 n_7,
  Value.int IntKind.i64 n_8] ∧
  ∀ (w'_8 : World),
  w'_8 =
  setCellsAt w'
  (Addr.mk w.heap.size 0 none) 0
  [Value.int IntKind.u8 n,
  Value.int IntKind.u8 n_5,
  Value.int IntKind.u8 n_6,
  Value.int IntKind.u8 n_7,
  Value.int IntKind.i64 n_8] →
  ∃ (n : Int),
  ∃ (n_9 : Int),
  ∃ (n_10 : Int),
  ∃ (n_11 : Int),
  ∃ (n_12 : Int),
  (w'_8.cell?
  (Addr.mk w.heap.size
  0 none) =
  some
  (Value.int
  IntKind.u8 n) ∧
  w'_8.cell?
  (Addr.mk
  w.heap.size 1
  none) =
  some
  (Value.int
  IntKind.u8
  n_9) ∧
  w'_8.cell?
  (Addr.mk
  w.heap.size 2
  none) =
  some
  (Value.int
  IntKind.u8
  n_10) ∧
  w'_8.cell?
  (Addr.mk
  w.heap.size
  3 none) =
  some
  (Value.int
  IntKind.u8
  n_11) ∧
  w'_8.cell?
  (Addr.mk
  w.heap.size
  4 none) =
  some
  (Value.int
  IntKind.i64
  n_12) ∧
  True) ∧
  R
  (Ending.returned
  (Value.agg
  #[Value.int
  IntKind.u8 n,
  Value.int
  IntKind.u8 n_9,
  Value.int
  IntKind.u8 n_10,
  Value.int
  IntKind.u8 n_11,
  Value.int
  IntKind.i64
  n_12]))
  w'_8)
  (cnd (form' == 5)
  (Calls Proofs.Try.prog 33
  #[Value.int IntKind.u32 w', Value.int IntKind.i64 7,
  Value.int IntKind.i64 5]
  w'_6 fun (e : Ending) (w'_7 : World) =>
  ∃ (n : Int),
  e = Ending.returned (Value.int IntKind.u32 n) ∧
  Calls Proofs.Try.prog 33
  #[Value.int IntKind.u32 w', Value.int IntKind.i64 25,
  Value.int IntKind.i64 7]
  w'_7 fun (e : Ending) (w' : World) =>
  ∃ (n_3 : Int),
  e = Ending.returned (Value.int IntKind.u32 n_3) ∧
  Calls Proofs.Try.prog 34
  #[Value.int IntKind.u32
  (IntKind.u32.wrap (n + IntKind.u32.wrap (n_3 * 32))),
  Value.int IntKind.i64 12]
  w' fun (e : Ending) (w' : World) =>
  ∃ (n : Int),
  e = Ending.returned (Value.int IntKind.i64 n) ∧
  ((w'.cell? (Addr.mk w'_1.heap.size 2 none)).isSome = true ∧
  w'.frozen? (Addr.mk w'_1.heap.size 2 none) = false) ∧
  ∀ (w'_8 : World),
  w'_8 =
  w'.setCell (Addr.mk w'_1.heap.size 2 none)
  (Value.int IntKind.u8 (IntKind.u8.wrap n_1)) →
  ((w'_8.cell? (Addr.mk w'_1.heap.size 3 none)).isSome =
  true ∧
  w'_8.frozen? (Addr.mk w'_1.heap.size 3 none) =
  false) ∧
  ∀ (w' : World),
  w' =
  w'_8.setCell (Addr.mk w'_1.heap.size 3 none)
  (Value.int IntKind.u8
  (IntKind.u8.wrap n_2)) →
  ((w'.cell?
  (Addr.mk w'_1.heap.size 4
  none)).isSome =
  true ∧
  w'.frozen? (Addr.mk w'_1.heap.size 4 none) =
  false) ∧
  ∀ (w'_9 : World),
  w'_9 =
  w'.setCell
  (Addr.mk w'_1.heap.size 4 none)
  (Value.int IntKind.i64 n) →
  ∃ (n : Int),
  ∃ (n_4 : Int),
  ∃ (n_5 : Int),
  ∃ (n_6 : Int),
  ∃ (n_7 : Int),
  (w'_9.cell?
  (Addr.mk w'_1.heap.size
  0 none) =
  some
  (Value.int IntKind.u8
  n) ∧
  w'_9.cell?
  (Addr.mk
  w'_1.heap.size 1
  none) =
  some
  (Value.int IntKind.u8
  n_4) ∧
  w'_9.cell?
  (Addr.mk
  w'_1.heap.size 2
  none) =
  some
  (Value.int
  IntKind.u8 n_5) ∧
  w'_9.cell?
  (Addr.mk
  w'_1.heap.size 3
  none) =
  some
  (Value.int
  IntKind.u8
  n_6) ∧
  w'_9.cell?
  (Addr.mk
  w'_1.heap.size
  4 none) =
  some
  (Value.int
  IntKind.i64
  n_7) ∧
  True) ∧
  SetsAt w'_9
  (Addr.mk w.heap.size 0
  none)
  0
  [Value.int IntKind.u8 n,
  Value.int IntKind.u8
  n_4,
  Value.int IntKind.u8
  n_5,
  Value.int IntKind.u8
  n_6,
  Value.int IntKind.i64
  n_7] ∧
  ∀ (w' : World),
  w' =
  setCellsAt w'_9
  (Addr.mk w.heap.size
  0 none)
  0
  [Value.int
  IntKind.u8 n,
  Value.int
  IntKind.u8 n_4,
  Value.int
  IntKind.u8 n_5,
  Value.int
  IntKind.u8 n_6,
  Value.int
  IntKind.i64
  n_7] →
  ∃ (n : Int),
  ∃ (n_8 : Int),
  ∃ (n_9 : Int),
  ∃ (n_10 : Int),
  ∃ (n_11 : Int),
  (w'.cell?
  (Addr.mk
  w.heap.size
  0
  none) =
  some
  (Value.int
  IntKind.u8
  n) ∧
  w'.cell?
  (Addr.mk
  w.heap.size
  1
  none) =
  some
  (Value.int
  IntKind.u8
  n_8) ∧
  w'.cell?
  (Addr.mk
  w.heap.size
  2
  none) =
  some
  (Value.int
  IntKind.u8
  n_9) ∧
  w'.cell?
  (Addr.mk
  w.heap.size
  3
  none) =
  some
  (Value.int
  IntKind.u8
  n_10) ∧
  w'.cell?
  (Addr.mk
  w.heap.size
  4
  none) =
  some
  (Value.int
  IntKind.i64
  n_11) ∧
  True) ∧
  R
  (Ending.returned
  (Value.agg
  #[Value.int
  IntKind.u8
  n,
  Value.int
  IntKind.u8
  n_8,
  Value.int
  IntKind.u8
  n_9,
  Value.int
  IntKind.u8
  n_10,
  Value.int
  IntKind.i64
  n_11]))
  w')
  (cnd (form' == 6)
  (Calls Proofs.Try.prog 33
  #[Value.int IntKind.u32 w', Value.int IntKind.i64 8,
  Value.int IntKind.i64 4]
  w'_6 fun (e : Ending) (w'_7 : World) =>
  ∃ (n : Int),
  e = Ending.returned (Value.int IntKind.u32 n) ∧
  Calls Proofs.Try.prog 33
  #[Value.int IntKind.u32 w', Value.int IntKind.i64 25,
  Value.int IntKind.i64 6]
  w'_7 fun (e : Ending) (w'_8 : World) =>
  ∃ (n_3 : Int),
  e = Ending.returned (Value.int IntKind.u32 n_3) ∧
  Calls Proofs.Try.prog 33
  #[Value.int IntKind.u32 w', Value.int IntKind.i64 7,
  Value.int IntKind.i64 1]
  w'_8 fun (e : Ending) (w'_9 : World) =>
  ∃ (n_4 : Int),
  e = Ending.returned (Value.int IntKind.u32 n_4) ∧
  Calls Proofs.Try.prog 33
  #[Value.int IntKind.u32 w', Value.int IntKind.i64 31,
  Value.int IntKind.i64 1]
  w'_9 fun (e : Ending) (w' : World) =>
  ∃ (n_5 : Int),
  e = Ending.returned (Value.int IntKind.u32 n_5) ∧
  Calls Proofs.Try.prog 34
  #[Value.int IntKind.u32
  (IntKind.u32.wrap
  (IntKind.u32.wrap
  (IntKind.u32.wrap
  (IntKind.u32.wrap (n * 2) +
  IntKind.u32.wrap (n_3 * 32)) +
  IntKind.u32.wrap (n_4 * 2048)) +
  IntKind.u32.wrap (n_5 * 4096))),
  Value.int IntKind.i64 13]
  w' fun (e : Ending) (w' : World) =>
  ∃ (n : Int),
  e = Ending.returned (Value.int IntKind.i64 n) ∧
  ((w'.cell?
  (Addr.mk w'_1.heap.size 2
  none)).isSome =
  true ∧
  w'.frozen?
  (Addr.mk w'_1.heap.size 2 none) =
  false) ∧
  ∀ (w'_10 : World),
  w'_10 =
  w'.setCell
  (Addr.mk w'_1.heap.size 2 none)
  (Value.int IntKind.u8
  (IntKind.u8.wrap n_1)) →
  ((w'_10.cell?
  (Addr.mk w'_1.heap.size 3
  none)).isSome =
  true ∧
  w'_10.frozen?
  (Addr.mk w'_1.heap.size 3
  none) =
  false) ∧
  ∀ (w' : World),
  w' =
  w'_10.setCell
  (Addr.mk w'_1.heap.size 3
  none)
  (Value.int IntKind.u8
  (IntKind.u8.wrap n_2)) →
  ((w'.cell?
  (Addr.mk w'_1.heap.size
  4 none)).isSome =
  true ∧
  w'.frozen?
  (Addr.mk w'_1.heap.size 4
  none) =
  false) ∧
  ∀ (w'_11 : World),
  w'_11 =
  w'.setCell
  (Addr.mk w'_1.heap.size
  4 none)
  (Value.int IntKind.i64
  n) →
  ∃ (n : Int),
  ∃ (n_6 : Int),
  ∃ (n_7 : Int),
  ∃ (n_8 : Int),
  ∃ (n_9 : Int),
  (w'_11.cell?
  (Addr.mk
  w'_1.heap.size
  0
  none) =
  some
  (Value.int
  IntKind.u8
  n) ∧
  w'_11.cell?
  (Addr.mk
  w'_1.heap.size
  1
  none) =
  some
  (Value.int
  IntKind.u8
  n_6) ∧
  w'_11.cell?
  (Addr.mk
  w'_1.heap.size
  2
  none) =
  some
  (Value.int
  IntKind.u8
  n_7) ∧
  w'_11.cell?
  (Addr.mk
  w'_1.heap.size
  3
  none) =
  some
  (Value.int
  IntKind.u8
  n_8) ∧
  w'_11.cell?
  (Addr.mk
  w'_1.heap.size
  4
  none) =
  some
  (Value.int
  IntKind.i64
  n_9) ∧
  True) ∧
  SetsAt w'_11
  (Addr.mk
  w.heap.size
  0 none)
  0
  [Value.int
  IntKind.u8
  n,
  Value.int
  IntKind.u8
  n_6,
  Value.int
  IntKind.u8
  n_7,
  Value.int
  IntKind.u8
  n_8,
  Value.int
  IntKind.i64
  n_9] ∧
  ∀
  (w' :
  World),
  w' =
  setCellsAt
  w'_11
  (Addr.mk
  w.heap.size
  0
  none)
  0
  [Value.int
  IntKind.u8
  n,
  Value.int
  IntKind.u8
  n_6,
  Value.int
  IntKind.u8
  n_7,
  Value.int
  IntKind.u8
  n_8,
  Value.int
  IntKind.i64
  n_9] →
  ∃ (n :
  Int),
  ∃ (n_10
  :
  Int),
  ∃
  (n_11
  :
  Int),
  ∃
  (n_12
  :
  Int),
  ∃
  (n_13
  :
  Int),
  (w'.cell?
  (Addr.mk
  w.heap.size
  0
  none) =
  some
  (Value.int
  IntKind.u8
  n) ∧
  w'.cell?
  (Addr.mk
  w.heap.size
  1
  none) =
  some
  (Value.int
  IntKind.u8
  n_10) ∧
  w'.cell?
  (Addr.mk
  w.heap.size
  2
  none) =
  some
  (Value.int
  IntKind.u8
  n_11) ∧
  w'.cell?
  (Addr.mk
  w.heap.size
  3
  none) =
  some
  (Value.int
  IntKind.u8
  n_12) ∧
  w'.cell?
  (Addr.mk
  w.heap.size
  4
  none) =
  some
  (Value.int
  IntKind.i64
  n_13) ∧
  True) ∧
  R
  (Ending.returned
  (Value.agg
  #[Value.int
  IntKind.u8
  n,
  Value.int
  IntKind.u8
  n_10,
  Value.int
  IntKind.u8
  n_11,
  Value.int
  IntKind.u8
  n_12,
  Value.int
  IntKind.i64
  n_13]))
  w')
  (cnd (form' == 7)
  (Calls Proofs.Try.prog 33
  #[Value.int IntKind.u32 w', Value.int IntKind.i64 21,
  Value.int IntKind.i64 10]
  w'_6 fun (e : Ending) (w'_7 : World) =>
  ∃ (n_3 : Int),
  e = Ending.returned (Value.int IntKind.u32 n_3) ∧
  Calls Proofs.Try.prog 33
  #[Value.int IntKind.u32 w', Value.int IntKind.i64 20,
  Value.int IntKind.i64 1]
  w'_7 fun (e : Ending) (w'_8 : World) =>
  ∃ (n_4 : Int),
  e = Ending.returned (Value.int IntKind.u32 n_4) ∧
  Calls Proofs.Try.prog 33
  #[Value.int IntKind.u32 w', Value.int IntKind.i64 12,
  Value.int IntKind.i64 8]
  w'_8 fun (e : Ending) (w'_9 : World) =>
  ∃ (n_5 : Int),
  e = Ending.returned (Value.int IntKind.u32 n_5) ∧
  Calls Proofs.Try.prog 33
  #[Value.int IntKind.u32 w', Value.int IntKind.i64 31,
  Value.int IntKind.i64 1]
  w'_9 fun (e : Ending) (w' : World) =>
  ∃ (n_6 : Int),
  e = Ending.returned (Value.int IntKind.u32 n_6) ∧
  Calls Proofs.Try.prog 34
  #[Value.int IntKind.u32
  (IntKind.u32.wrap
  (IntKind.u32.wrap
  (IntKind.u32.wrap
  (IntKind.u32.wrap (n_3 * 2) +
  IntKind.u32.wrap (n_4 * 2048)) +
  IntKind.u32.wrap (n_5 * 4096)) +
  IntKind.u32.wrap (n_6 * 1048576))),
  Value.int IntKind.i64 21]
  w' fun (e : Ending) (w' : World) =>
  ∃ (n_7 : Int),
  e =
  Ending.returned
  (Value.int IntKind.i64 n_7) ∧
  ((w'.cell?
  (Addr.mk w'_1.heap.size 1
  none)).isSome =
  true ∧
  w'.frozen?
  (Addr.mk w'_1.heap.size 1 none) =
  false) ∧
  ∀ (w'_10 : World),
  w'_10 =
  w'.setCell
  (Addr.mk w'_1.heap.size 1 none)
  (Value.int IntKind.u8
  (IntKind.u8.wrap n)) →
  ((w'_10.cell?
  (Addr.mk w'_1.heap.size 4
  none)).isSome =
  true ∧
  w'_10.frozen?
  (Addr.mk w'_1.heap.size 4
  none) =
  false) ∧
  ∀ (w' : World),
  w' =
  w'_10.setCell
  (Addr.mk w'_1.heap.size 4
  none)
  (Value.int IntKind.i64
  n_7) →
  ∃ (n : Int),
  ∃ (n_8 : Int),
  ∃ (n_9 : Int),
  ∃ (n_10 : Int),
  ∃ (n_11 : Int),
  (w'.cell?
  (Addr.mk
  w'_1.heap.size
  0 none) =
  some
  (Value.int
  IntKind.u8
  n) ∧
  w'.cell?
  (Addr.mk
  w'_1.heap.size
  1 none) =
  some
  (Value.int
  IntKind.u8
  n_8) ∧
  w'.cell?
  (Addr.mk
  w'_1.heap.size
  2
  none) =
  some
  (Value.int
  IntKind.u8
  n_9) ∧
  w'.cell?
  (Addr.mk
  w'_1.heap.size
  3
  none) =
  some
  (Value.int
  IntKind.u8
  n_10) ∧
  w'.cell?
  (Addr.mk
  w'_1.heap.size
  4
  none) =
  some
  (Value.int
  IntKind.i64
  n_11) ∧
  True) ∧
  SetsAt w'
  (Addr.mk
  w.heap.size 0
  none)
  0
  [Value.int
  IntKind.u8
  n,
  Value.int
  IntKind.u8
  n_8,
  Value.int
  IntKind.u8
  n_9,
  Value.int
  IntKind.u8
  n_10,
  Value.int
  IntKind.i64
  n_11] ∧
  ∀ (w'_11 : World),
  w'_11 =
  setCellsAt
  w'
  (Addr.mk
  w.heap.size
  0 none)
  0
  [Value.int
  IntKind.u8
  n,
  Value.int
  IntKind.u8
  n_8,
  Value.int
  IntKind.u8
  n_9,
  Value.int
  IntKind.u8
  n_10,
  Value.int
  IntKind.i64
  n_11] →
  ∃ (n : Int),
  ∃ (n_12 :
  Int),
  ∃ (n_13 :
  Int),
  ∃ (n_14
  :
  Int),
  ∃
  (n_15
  :
  Int),
  (w'_11.cell?
  (Addr.mk
  w.heap.size
  0
  none) =
  some
  (Value.int
  IntKind.u8
  n) ∧
  w'_11.cell?
  (Addr.mk
  w.heap.size
  1
  none) =
  some
  (Value.int
  IntKind.u8
  n_12) ∧
  w'_11.cell?
  (Addr.mk
  w.heap.size
  2
  none) =
  some
  (Value.int
  IntKind.u8
  n_13) ∧
  w'_11.cell?
  (Addr.mk
  w.heap.size
  3
  none) =
  some
  (Value.int
  IntKind.u8
  n_14) ∧
  w'_11.cell?
  (Addr.mk
  w.heap.size
  4
  none) =
  some
  (Value.int
  IntKind.i64
  n_15) ∧
  True) ∧
  R
  (Ending.returned
  (Value.agg
  #[Value.int
  IntKind.u8
  n,
  Value.int
  IntKind.u8
  n_12,
  Value.int
  IntKind.u8
  n_13,
  Value.int
  IntKind.u8
  n_14,
  Value.int
  IntKind.i64
  n_15]))
  w'_11)
  (∃ (n : Int),
  ∃ (n_3 : Int),
  ∃ (n_4 : Int),
  ∃ (n_5 : Int),
  ∃ (n_6 : Int),
  (w'_6.cell? (Addr.mk w'_1.heap.size 0 none) =
  some (Value.int IntKind.u8 n) ∧
  w'_6.cell? (Addr.mk w'_1.heap.size 1 none) =
  some (Value.int IntKind.u8 n_3) ∧
  w'_6.cell? (Addr.mk w'_1.heap.size 2 none) =
  some (Value.int IntKind.u8 n_4) ∧
  w'_6.cell? (Addr.mk w'_1.heap.size 3 none) =
  some (Value.int IntKind.u8 n_5) ∧
  w'_6.cell? (Addr.mk w'_1.heap.size 4 none) =
  some (Value.int IntKind.i64 n_6) ∧
  True) ∧
  SetsAt w'_6 (Addr.mk w.heap.size 0 none) 0
  [Value.int IntKind.u8 n, Value.int IntKind.u8 n_3,
  Value.int IntKind.u8 n_4, Value.int IntKind.u8 n_5,
  Value.int IntKind.i64 n_6] ∧
  ∀ (w' : World),
  w' =
  setCellsAt w'_6 (Addr.mk w.heap.size 0 none) 0
  [Value.int IntKind.u8 n, Value.int IntKind.u8 n_3,
  Value.int IntKind.u8 n_4,
  Value.int IntKind.u8 n_5,
  Value.int IntKind.i64 n_6] →
  ∃ (n : Int),
  ∃ (n_7 : Int),
  ∃ (n_8 : Int),
  ∃ (n_9 : Int),
  ∃ (n_10 : Int),
  (w'.cell? (Addr.mk w.heap.size 0 none) =
  some (Value.int IntKind.u8 n) ∧
  w'.cell? (Addr.mk w.heap.size 1 none) =
  some (Value.int IntKind.u8 n_7) ∧
  w'.cell? (Addr.mk w.heap.size 2 none) =
  some (Value.int IntKind.u8 n_8) ∧
  w'.cell?
  (Addr.mk w.heap.size 3 none) =
  some (Value.int IntKind.u8 n_9) ∧
  w'.cell?
  (Addr.mk w.heap.size 4 none) =
  some
  (Value.int IntKind.i64 n_10) ∧
  True) ∧
  R
  (Ending.returned
  (Value.agg
  #[Value.int IntKind.u8 n,
  Value.int IntKind.u8 n_7,
  Value.int IntKind.u8 n_8,
  Value.int IntKind.u8 n_9,
  Value.int IntKind.i64 n_10]))
  w')))))))
theorem ref03_guess.vc_eq (op' : Int) (form' : Int) (w' : Int) (w : World) (R : Ending → World → Prop) : fnV Try.prog ref03_guess.H 25 [Value.int IntKind.u8 op', Value.int IntKind.i64 form', Value.int IntKind.u32 w'] w R = ref03_guess.vc op' form' w' w R := by kernel_rfl
theorem ref03_guess.calls {op' : Int} {form' : Int} {w' : Int} {w : World} {R : Ending → World → Prop} (h : ref03_guess.vc op' form' w' w R) : Calls Try.prog 25 ([Value.int IntKind.u8 op', Value.int IntKind.i64 form', Value.int IntKind.u32 w'] : List Value).toArray w R := calls_of_eq (ref03_guess.vc_eq op' form' w' w R) h

/- function 15: sacristy/sacristyref03.Decode -/
abbrev ref03_Decode.N : FuncId := 15
def ref03_Decode.H : Hints := { loops := [(3, [(4, .one (.int .u8))])] }
def ref03_Decode.vc (w' : Int) (w : World) (R : Ending → World → Prop) : Prop :=
  ∀ (w'_1 : World),
  w'_1 =
  w.alloc
  (Obj.cells
  #[Value.int IntKind.u8 0, Value.int IntKind.u8 0, Value.int IntKind.u8 0, Value.int IntKind.u8 0,
  Value.int IntKind.i64 0]
  39) →
  ∃ (I : List Value → World → Prop),
  ∃ (μ : List Value → World → Nat),
  I [Value.int IntKind.u8 1] w'_1 ∧
  ∀ (g : Nat → Value) (op : Int) (w'_2 : World),
  I [Value.int IntKind.u8 op] w'_2 →
  cnd (decide (op ≤ 34))
  (Calls Proofs.Try.prog 24 #[Value.int IntKind.u8 op] w'_2 fun (e : Ending) (w'_3 : World) =>
  ∃ (n : Int),
  ∃ (n_1 : Int),
  ∃ (n_2 : Int),
  ∃ (n_3 : Int),
  ∃ (b : Bool),
  e =
  Ending.returned
  (Value.tuple
  #[Value.agg
  #[Value.int IntKind.u32 n, Value.int IntKind.u32 n_1, Value.int IntKind.u32 n_2,
  Value.int IntKind.i64 n_3],
  Value.bool b]) ∧
  ∀ (w'_4 : World),
  w'_4 =
  w'_3.alloc
  (Obj.cells
  #[Value.int IntKind.u32 0, Value.int IntKind.u32 0, Value.int IntKind.u32 0,
  Value.int IntKind.i64 0]
  60) →
  SetsAt w'_4 (Addr.mk w'_3.heap.size 0 none) 0
  [Value.int IntKind.u32 n, Value.int IntKind.u32 n_1, Value.int IntKind.u32 n_2,
  Value.int IntKind.i64 n_3] ∧
  ∀ (w'_5 : World),
  w'_5 =
  setCellsAt w'_4 (Addr.mk w'_3.heap.size 0 none) 0
  [Value.int IntKind.u32 n, Value.int IntKind.u32 n_1,
  Value.int IntKind.u32 n_2, Value.int IntKind.i64 n_3] →
  ∃ (n : Int),
  w'_5.cell? (Addr.mk w'_3.heap.size 3 none) = some (Value.int IntKind.i64 n) ∧
  Calls Proofs.Try.prog 25
  #[Value.int IntKind.u8 op, Value.int IntKind.i64 n,
  Value.int IntKind.u32 w']
  w'_5 fun (e : Ending) (w'_6 : World) =>
  ∃ (n : Int),
  ∃ (n_4 : Int),
  ∃ (n_5 : Int),
  ∃ (n_6 : Int),
  ∃ (n_7 : Int),
  e =
  Ending.returned
  (Value.agg
  #[Value.int IntKind.u8 n, Value.int IntKind.u8 n_4,
  Value.int IntKind.u8 n_5, Value.int IntKind.u8 n_6,
  Value.int IntKind.i64 n_7]) ∧
  ∀ (w'_7 : World),
  w'_7 =
  w'_6.alloc
  (Obj.cells
  #[Value.int IntKind.u8 0, Value.int IntKind.u8 0,
  Value.int IntKind.u8 0, Value.int IntKind.u8 0,
  Value.int IntKind.i64 0]
  39) →
  SetsAt w'_7 (Addr.mk w'_6.heap.size 0 none) 0
  [Value.int IntKind.u8 n, Value.int IntKind.u8 n_4,
  Value.int IntKind.u8 n_5, Value.int IntKind.u8 n_6,
  Value.int IntKind.i64 n_7] ∧
  ∀ (w'_8 : World),
  w'_8 =
  setCellsAt w'_7 (Addr.mk w'_6.heap.size 0 none) 0
  [Value.int IntKind.u8 n,
  Value.int IntKind.u8 n_4,
  Value.int IntKind.u8 n_5,
  Value.int IntKind.u8 n_6,
  Value.int IntKind.i64 n_7] →
  ∃ (n : Int),
  ∃ (n_8 : Int),
  ∃ (n_9 : Int),
  ∃ (n_10 : Int),
  ∃ (n_11 : Int),
  (w'_8.cell?
  (Addr.mk w'_6.heap.size 0 none) =
  some (Value.int IntKind.u8 n) ∧
  w'_8.cell?
  (Addr.mk w'_6.heap.size 1
  none) =
  some (Value.int IntKind.u8 n_8) ∧
  w'_8.cell?
  (Addr.mk w'_6.heap.size 2
  none) =
  some
  (Value.int IntKind.u8 n_9) ∧
  w'_8.cell?
  (Addr.mk w'_6.heap.size 3
  none) =
  some
  (Value.int IntKind.u8
  n_10) ∧
  w'_8.cell?
  (Addr.mk w'_6.heap.size 4
  none) =
  some
  (Value.int IntKind.i64
  n_11) ∧
  True) ∧
  Calls Proofs.Try.prog 26
  #[Value.agg
  #[Value.int IntKind.u8 n,
  Value.int IntKind.u8 n_8,
  Value.int IntKind.u8 n_9,
  Value.int IntKind.u8 n_10,
  Value.int IntKind.i64 n_11]]
  w'_8
  fun (e : Ending) (w'_9 : World) =>
  ∃ (n : Int),
  ∃ (n_12 : Int),
  e =
  Ending.returned
  (Value.tuple
  #[Value.int IntKind.u32 n,
  Value.int IntKind.i64
  n_12]) ∧
  cnd (n_12 == 0)
  (cnd (n == w')
  (∃ (n : Int),
  ∃ (n_13 : Int),
  ∃ (n_14 : Int),
  ∃ (n_15 : Int),
  ∃ (n_16 : Int),
  (w'_9.cell?
  (Addr.mk
  w'_6.heap.size
  0
  none) =
  some
  (Value.int
  IntKind.u8
  n) ∧
  w'_9.cell?
  (Addr.mk
  w'_6.heap.size
  1
  none) =
  some
  (Value.int
  IntKind.u8
  n_13) ∧
  w'_9.cell?
  (Addr.mk
  w'_6.heap.size
  2
  none) =
  some
  (Value.int
  IntKind.u8
  n_14) ∧
  w'_9.cell?
  (Addr.mk
  w'_6.heap.size
  3
  none) =
  some
  (Value.int
  IntKind.u8
  n_15) ∧
  w'_9.cell?
  (Addr.mk
  w'_6.heap.size
  4
  none) =
  some
  (Value.int
  IntKind.i64
  n_16) ∧
  True) ∧
  SetsAt w'_9
  (Addr.mk
  w.heap.size
  0 none)
  0
  [Value.int
  IntKind.u8
  n,
  Value.int
  IntKind.u8
  n_13,
  Value.int
  IntKind.u8
  n_14,
  Value.int
  IntKind.u8
  n_15,
  Value.int
  IntKind.i64
  n_16] ∧
  ∀
  (w' :
  World),
  w' =
  setCellsAt
  w'_9
  (Addr.mk
  w.heap.size
  0
  none)
  0
  [Value.int
  IntKind.u8
  n,
  Value.int
  IntKind.u8
  n_13,
  Value.int
  IntKind.u8
  n_14,
  Value.int
  IntKind.u8
  n_15,
  Value.int
  IntKind.i64
  n_16] →
  ∃ (n :
  Int),
  ∃ (n_17
  :
  Int),
  ∃
  (n_18
  :
  Int),
  ∃
  (n_19
  :
  Int),
  ∃
  (n_20
  :
  Int),
  (w'.cell?
  (Addr.mk
  w.heap.size
  0
  none) =
  some
  (Value.int
  IntKind.u8
  n) ∧
  w'.cell?
  (Addr.mk
  w.heap.size
  1
  none) =
  some
  (Value.int
  IntKind.u8
  n_17) ∧
  w'.cell?
  (Addr.mk
  w.heap.size
  2
  none) =
  some
  (Value.int
  IntKind.u8
  n_18) ∧
  w'.cell?
  (Addr.mk
  w.heap.size
  3
  none) =
  some
  (Value.int
  IntKind.u8
  n_19) ∧
  w'.cell?
  (Addr.mk
  w.heap.size
  4
  none) =
  some
  (Value.int
  IntKind.i64
  n_20) ∧
  True) ∧
  R
  (Ending.returned
  (Value.tuple
  #[Value.agg
  #[Value.int
  IntKind.u8
  n,
  Value.int
  IntKind.u8
  n_17,
  Value.int
  IntKind.u8
  n_18,
  Value.int
  IntKind.u8
  n_19,
  Value.int
  IntKind.i64
  n_20],
  Value.int
  IntKind.i64
  0]))
  w')
  (Goes I μ
  [Value.int IntKind.u8 op]
  w'_2
  [Value.int IntKind.u8
  (IntKind.u8.wrap
  (op + 1))]
  w'_9))
  (Goes I μ
  [Value.int IntKind.u8 op]
  w'_2
  [Value.int IntKind.u8
  (IntKind.u8.wrap
  (op + 1))]
  w'_9))
  (SetsAt w'_2 (Addr.mk w.heap.size 0 none) 0
  [Value.int IntKind.u8 0, Value.int IntKind.u8 0, Value.int IntKind.u8 0, Value.int IntKind.u8 0,
  Value.int IntKind.i64 0] ∧
  ∀ (w' : World),
  w' =
  setCellsAt w'_2 (Addr.mk w.heap.size 0 none) 0
  [Value.int IntKind.u8 0, Value.int IntKind.u8 0, Value.int IntKind.u8 0,
  Value.int IntKind.u8 0, Value.int IntKind.i64 0] →
  ∃ (n : Int),
  ∃ (n_1 : Int),
  ∃ (n_2 : Int),
  ∃ (n_3 : Int),
  ∃ (n_4 : Int),
  (w'.cell? (Addr.mk w.heap.size 0 none) = some (Value.int IntKind.u8 n) ∧
  w'.cell? (Addr.mk w.heap.size 1 none) = some (Value.int IntKind.u8 n_1) ∧
  w'.cell? (Addr.mk w.heap.size 2 none) = some (Value.int IntKind.u8 n_2) ∧
  w'.cell? (Addr.mk w.heap.size 3 none) = some (Value.int IntKind.u8 n_3) ∧
  w'.cell? (Addr.mk w.heap.size 4 none) = some (Value.int IntKind.i64 n_4) ∧
  True) ∧
  R
  (Ending.returned
  (Value.tuple
  #[Value.agg
  #[Value.int IntKind.u8 n, Value.int IntKind.u8 n_1,
  Value.int IntKind.u8 n_2, Value.int IntKind.u8 n_3,
  Value.int IntKind.i64 n_4],
  Value.int IntKind.i64 7]))
  w')
theorem ref03_Decode.vc_eq (w' : Int) (w : World) (R : Ending → World → Prop) : fnV Try.prog ref03_Decode.H 15 [Value.int IntKind.u32 w'] w R = ref03_Decode.vc w' w R := by kernel_rfl
theorem ref03_Decode.calls {w' : Int} {w : World} {R : Ending → World → Prop} (h : ref03_Decode.vc w' w R) : Calls Try.prog 15 ([Value.int IntKind.u32 w'] : List Value).toArray w R := calls_of_eq (ref03_Decode.vc_eq w' w R) h

end Go.Proofs.Ytjoikaklincfoaa

/-
Small laws for the conditions that VcTop makes: worlds that go on, new blocks, wraps.
Conditions: none; all is proved over any program.
-/
namespace Go.Vc
open Go.RowKit
set_option linter.unusedSimpArgs false
set_option linter.unnecessarySimpa false
set_option linter.unusedVariables false

/-! ### worlds that go on -/
theorem Later.refl (w : World) : Later w w := Below.refl _ _
theorem Later.trans {a b c : World} (h : Later a b) (k : Later b c) : Later a c := Below.trans h (Below.mono k h.size)
theorem Later.size {a b : World} (h : Later a b) : a.heap.size ≤ b.heap.size := Below.size h
theorem Later.alloc {a b : World} (h : Later a b) (o : Obj) : Later a (b.alloc o) := Below.alloc h h.size o
theorem Later.alloc' (w : World) (o : Obj) : Later w (w.alloc o) := (Later.refl w).alloc o
theorem Later.setCell {a b : World} (h : Later a b) {p : Addr} (hp : a.heap.size ≤ p.block) (v : Value) : Later a (b.setCell p v) := Below.setCell h hp v
theorem Later.drew {a b : World} (h : Later a b) : Later a b.drew := Below.drew h
theorem Later.cell {a b : World} (h : Later a b) {p : Addr} (hp : p.block < a.heap.size) : b.cell? p = a.cell? p := Below.cell h hp
theorem Later.cell_some {a b : World} (h : Later a b) {p : Addr} {v : Value} (hv : a.cell? p = some v) : b.cell? p = some v := by
  rw [h.cell (World.block_lt_of_cell? a p hv)]; exact hv
theorem Later.block {a b : World} (h : Later a b) {k : Nat} (hk : k < a.heap.size) : b.heap[k]? = a.heap[k]? := Below.block h k hk
theorem Later.frozen {a b : World} (h : Later a b) {p : Addr} (hp : p.block < a.heap.size) : b.frozen? p = a.frozen? p := Below.frozen h hp

/-! ### a new block -/
theorem setCell_alloc (w : World) (cs : Array Value) (t : TypeId) (fr : Nat × Nat) (k : Nat) (v : Value) : (w.alloc (.cells cs t fr)).setCell ⟨w.heap.size, k, none⟩ v = w.alloc (.cells (cs.setIfInBounds k v) t fr) := by
  simp only [World.alloc, World.setCell]
  congr 1
  apply Array.ext_getElem?
  intro i
  rw [Array.getElem?_modify, Array.getElem?_push, Array.getElem?_push]
  by_cases hi : i = w.heap.size
  · subst hi; simp
  · have : ¬ w.heap.size = i := fun h => hi h.symm
    simp [hi, this]
theorem add_block (b o k : Nat) : (Addr.mk b o none).add k = Addr.mk b (o + k) none := by
  unfold Addr.add
  split
  · rename_i h; subst h; rfl
  · rfl
theorem Addr_add_add (a : Addr) (i j : Nat) (h : a.spot = none) : (a.add i).add j = a.add (i + j) := by
  obtain ⟨b, o, s⟩ := a
  simp only at h
  subst h
  rw [add_block, add_block, add_block, Nat.add_assoc]
theorem setCellsAt_alloc (w : World) (t : TypeId) (fr : Nat × Nat) : ∀ (l : List Value) (cs : List Value) (i : Nat), i + l.length ≤ cs.length →
    setCellsAt (w.alloc (.cells cs.toArray t fr)) ⟨w.heap.size, 0, none⟩ i l = w.alloc (.cells (cs.take i ++ l ++ cs.drop (i + l.length)).toArray t fr) := by
  intro l
  induction l with
  | nil => intro cs i h; simp [setCellsAt]
  | cons v l ih =>
    intro cs i h
    simp only [List.length_cons] at h
    simp only [setCellsAt, add_block, Nat.zero_add]
    rw [setCell_alloc]
    rw [show (cs.toArray.setIfInBounds i v) = (cs.set i v).toArray by simp]
    rw [ih _ _ (by simp; omega)]
    congr 3
    rw [List.length_cons]
    have h1 : (cs.set i v).take (i + 1) = cs.take i ++ [v] := by
      rw [List.take_add_one]
      rw [List.take_set_of_le (Nat.le_refl _)]
      simp [List.getElem?_set, show i < cs.length by omega]
    have h2 : (cs.set i v).drop (i + 1 + l.length) = cs.drop (i + (l.length + 1)) := by
      rw [List.drop_set_of_lt (by omega)]
      congr 1; omega
    rw [h1, h2]
    simp
theorem setCellsAt_new (w : World) (t : TypeId) (fr : Nat × Nat) {l : List Value} {cs : Array Value} (h : l.length = cs.size) :
    setCellsAt (w.alloc (.cells cs t fr)) ⟨w.heap.size, 0, none⟩ 0 l = w.alloc (.cells l.toArray t fr) := by
  have := setCellsAt_alloc w t fr l cs.toList 0 (by simp; omega)
  simp only [Array.toArray_toList] at this
  rw [this]
  have hd : List.drop (0 + l.length) cs.toList = [] := List.drop_eq_nil_of_le (by simp; omega)
  rw [hd]
  simp
theorem cell_new (w : World) (cs : Array Value) (t : TypeId) (fr : Nat × Nat) (k : Nat) : (w.alloc (.cells cs t fr)).cell? ⟨w.heap.size, k, none⟩ = cs[k]? := by
  simp only [World.alloc, World.cell?, Array.getElem?_push_size]
  rfl
theorem frozen_new (w : World) (cs : Array Value) (t : TypeId) (k : Nat) : (w.alloc (.cells cs t)).frozen? ⟨w.heap.size, k, none⟩ = false := by
  simp only [World.alloc, World.frozen?, Array.getElem?_push_size]
  simp
theorem SetsAt_new (w : World) (t : TypeId) {cs : Array Value} : ∀ (l : List Value) (i : Nat), i + l.length ≤ cs.size → (∀ v, v ∈ l → v.oneCell' = true) → SetsAt (w.alloc (.cells cs t)) ⟨w.heap.size, 0, none⟩ i l := by
  intro l
  induction l with
  | nil => intro i h ho; trivial
  | cons v l ih =>
    intro i h ho
    simp only [List.length_cons] at h
    refine cnd_true (ho v (by simp)) ⟨⟨?_, ?_⟩, ih (i + 1) (by omega) (fun v hv => ho v (by simp [hv]))⟩
    · rw [add_block, cell_new]; simp; omega
    · rw [add_block, frozen_new]
theorem CellsAt_new (w : World) (t : TypeId) (fr : Nat × Nat) (cs : Array Value) : ∀ (l : List Value) (i : Nat), (∀ k v, l[k]? = some v → cs[i + k]? = some v) → CellsAt (w.alloc (.cells cs t fr)) ⟨w.heap.size, 0, none⟩ i l := by
  intro l
  induction l with
  | nil => intro i h; trivial
  | cons v l ih =>
    intro i h
    refine ⟨?_, ih (i + 1) (fun k u hk => ?_)⟩
    · rw [add_block, cell_new]
      have := h 0 v rfl
      simpa using this
    · have := h (k + 1) u (by simpa using hk)
      rwa [show i + 1 + k = i + (k + 1) by omega]
theorem CellsAt_new' (w : World) (t : TypeId) (fr : Nat × Nat) (cs : Array Value) : CellsAt (w.alloc (.cells cs t fr)) ⟨w.heap.size, 0, none⟩ 0 cs.toList :=
  CellsAt_new w t fr cs cs.toList 0 (fun k v h => by simpa using h)

/-! ### bytes as a string -/
def strOf (ns : List Int) : ByteArray := ⟨(ns.map fun n => UInt8.ofNat n.toNat).toArray⟩
theorem foldl_push (ns : List Int) : ∀ (s : ByteArray), ns.foldl (fun r n => r.push (UInt8.ofNat n.toNat)) s = ⟨s.data ++ (ns.map fun n => UInt8.ofNat n.toNat).toArray⟩ := by
  induction ns with
  | nil => intro s; simp
  | cons n ns ih =>
    intro s
    simp only [List.foldl_cons, ih, List.map_cons]
    congr 1
    apply Array.ext'
    simp [ByteArray.push]
theorem runs_bytes_string {P : Program} {w : World} {src dst e : TypeId} {a : Addr} {ns : List Int} {l c : Nat} {K : Value → World → Prop} (hs : P.underlying src = some (.slice e)) (he : P.underlying e = some (.int .u8)) (hd : P.underlying dst = some .string)
    (hl : l = ns.length) (h : CellsAt w a 0 (ns.map (Value.int .u8))) (hK : K (.string (strOf ns)) w) : RunsV P (convert src dst (.slice (some a) l c)) w K := by
  subst hl
  refine RunsV_of ?_ hK
  rw [run_convert_bytes_string w src dst e (some a) ns.length c hs he hd, run_bytesToString w a ns.length c ns (run_loadCells h (by simp)), foldl_push]
  simp [strOf]

/-! ### wraps -/
theorem wrap_u64 (x : Int) : IntKind.u64.wrap x = x % 18446744073709551616 := by simp [IntKind.wrap, IntKind.bits, IntKind.signed]
theorem wrap_u32 (x : Int) : IntKind.u32.wrap x = x % 4294967296 := by simp [IntKind.wrap, IntKind.bits, IntKind.signed]
theorem wrap_u16 (x : Int) : IntKind.u16.wrap x = x % 65536 := by simp [IntKind.wrap, IntKind.bits, IntKind.signed]
theorem wrap_u8 (x : Int) : IntKind.u8.wrap x = x % 256 := by simp [IntKind.wrap, IntKind.bits, IntKind.signed]
theorem wrap_i64 (x : Int) : IntKind.i64.wrap x = if x % 18446744073709551616 ≥ 9223372036854775808 then x % 18446744073709551616 - 18446744073709551616 else x % 18446744073709551616 := by
  simp [IntKind.wrap, IntKind.bits, IntKind.signed]
theorem wrap_i32 (x : Int) : IntKind.i32.wrap x = if x % 4294967296 ≥ 2147483648 then x % 4294967296 - 4294967296 else x % 4294967296 := by
  simp [IntKind.wrap, IntKind.bits, IntKind.signed]
theorem u64_in {x : Int} (h0 : 0 ≤ x) (h1 : x < 18446744073709551616) : IntKind.u64.wrap x = x := by rw [wrap_u64]; omega
theorem u32_in {x : Int} (h0 : 0 ≤ x) (h1 : x < 4294967296) : IntKind.u32.wrap x = x := by rw [wrap_u32]; omega
theorem u8_in {x : Int} (h0 : 0 ≤ x) (h1 : x < 256) : IntKind.u8.wrap x = x := by rw [wrap_u8]; omega
theorem i64_in {x : Int} (h0 : -9223372036854775808 ≤ x) (h1 : x < 9223372036854775808) : IntKind.i64.wrap x = x := by rw [wrap_i64]; split <;> omega
end Go.Vc

/-
Slices that the call owns: grown by 'append', read and written, over the kit's own laws of such rows.
Conditions: each theorem's hypotheses; nothing is asked of a program but closed facts of its types.
-/
namespace Go.Vc
open Go.RowKit
set_option linter.unusedVariables false
set_option linter.unusedSimpArgs false
set_option linter.unnecessarySimpa false

/-- What is asked of a slice's type and of its elements' type: closed facts. -/
structure RowTy (P : Program) (t e : TypeId) (size bytes : Nat) : Prop where
  under : P.underlying t = some (.slice e)
  info : ∃ i z, P.info? e = some i ∧ i.zero = some z ∧ i.size = size ∧ i.bytes = bytes ∧ z.cells.size = size
  pos : 0 < size
theorem RowTy.of {P : Program} {t e : TypeId} {size bytes : Nat} (z : Value) (hu : P.underlying t = some (.slice e)) (hi : (P.info? e).map (fun i => (i.zero, i.size, i.bytes)) = some (some z, size, bytes)) (hz : z.cells.size = size) (hp : 0 < size) : RowTy P t e size bytes := by
  refine ⟨hu, ?_, hp⟩
  cases h : P.info? e with
  | none => rw [h] at hi; cases hi
  | some i =>
    rw [h] at hi
    simp only [Option.map_some, Option.some.injEq, Prod.mk.injEq] at hi
    exact ⟨i, z, rfl, hi.1, hi.2.1, hi.2.2, hz⟩
theorem CellsAt_get {w : World} {a : Addr} : ∀ {l : List Value} {i : Nat}, CellsAt w a i l → ∀ j u, l[j]? = some u → w.cell? (a.add (i + j)) = some u := by
  intro l
  induction l with
  | nil => intro i h j u hj; simp at hj
  | cons v l ih =>
    intro i h j u hj
    cases j with
    | zero => simp at hj; subst hj; exact h.1
    | succ j =>
      have := ih h.2 j u (by simpa using hj)
      rwa [show i + 1 + j = i + (j + 1) by omega] at this
theorem CellsAt_of_get {w : World} {a : Addr} : ∀ {l : List Value} {i : Nat}, (∀ j u, l[j]? = some u → w.cell? (a.add (i + j)) = some u) → CellsAt w a i l := by
  intro l
  induction l with
  | nil => intro i h; trivial
  | cons v l ih =>
    intro i h
    refine ⟨h 0 v rfl, ih fun j u hj => ?_⟩
    have := h (j + 1) u (by simpa using hj)
    rwa [show i + 1 + j = i + (j + 1) by omega]
/-- A slice that was made since w0: n elements, of these cells. -/
abbrev OwnS (w0 w : World) (e : TypeId) (size : Nat) (v : Value) (n : Nat) (xs : List Value) : Prop := w.ownsRow w0.heap.size e size v n xs
theorem OwnS_nil (w0 w : World) (e : TypeId) (size : Nat) : OwnS w0 w e size (.slice none 0 0) 0 [] := World.ownsRow_nil _ _ _ _
theorem OwnS.alloc {w0 w : World} {e : TypeId} {size : Nat} {v : Value} {n : Nat} {xs : List Value} (h : OwnS w0 w e size v n xs) (o : Obj) : OwnS w0 (w.alloc o) e size v n xs := World.ownsRow.alloc h o
theorem OwnS.len {w0 w : World} {e : TypeId} {size : Nat} {b : Option Addr} {bn bc n : Nat} {xs : List Value} (h : OwnS w0 w e size (.slice b bn bc) n xs) : bn = n := by
  obtain ⟨_, h | ⟨g, cap, cur, h, _⟩⟩ := h
  · cases h.1; exact h.2.symm
  · cases h; rfl
theorem OwnS.later {w0 w w' : World} {e : TypeId} {size : Nat} {v : Value} {n : Nat} {xs : List Value} (h : OwnS w0 w e size v n xs) (hl : Later w w') : OwnS w0 w' e size v n xs := by
  obtain ⟨h1, h | ⟨g, cap, cur, h2, h3, h4, h5⟩⟩ := h
  · exact ⟨h1, .inl h⟩
  · refine ⟨h1, .inr ⟨g, cap, cur, h2, h3, ?_, h5⟩⟩
    have hg : g < w.heap.size := (Array.getElem?_eq_some_iff.1 h4).1
    rw [hl.block hg]; exact h4
theorem OwnS.cells {w0 w : World} {e : TypeId} {size : Nat} {a : Addr} {bn bc n : Nat} {xs : List Value} (h : OwnS w0 w e size (.slice (some a) bn bc) n xs) : CellsAt w a 0 xs := by
  have := World.ownsRow.cells h (g := a.block) rfl
  obtain ⟨_, h | ⟨g, cap, cur, h2, _⟩⟩ := h
  · cases h.1
  · cases h2
    exact CellsAt_of_get fun j u hj => by rw [Nat.zero_add]; exact this j u hj
/-- One more block is grown: what is appended is a new row's, or the old one's. -/
theorem RunsV_append {P : Program} {w0 w : World} {t e : TypeId} {size bytes : Nat} (ty : TypeId) (hT : RowTy P t e size bytes) {b : Option Addr} {bn bc n : Nat} {xs : List Value} (hown : OwnS w0 w e size (.slice b bn bc) n xs) (hl : Later w0 w)
    {a : Addr} {m c : Nat} {news : List Value} (hlen : news.length = m * size) (hnews : CellsAt w a 0 news) (h1 : ∀ u ∈ news, u.oneCell' = true) (h63 : n + m ≤ maxLen) (hbytes : (n + m) * bytes ≤ 140737488355328)
    {K : Value → World → Prop}
    (hK : ∀ b' bn' bc' w', OwnS w0 w' e size (.slice b' bn' bc') (n + m) (xs ++ news) → Later w0 w' → w.grownBy w' (Value.slice b bn bc).ownBlock → K (.slice b' bn' bc') w') :
    RunsV P (Builtin.append_ #[t, t] ty #[.slice b bn bc, .slice (some a) m c]) w K := by
  obtain ⟨i, z, hi, hz, hs, hby, hzs⟩ := hT.info
  obtain ⟨v', w', hr, ho, hg, _⟩ := run_append_own (P := P) w w0.heap.size t ty e i z size bytes hT.under hi hz hs hby hzs hT.pos _ n xs hown a m c news hlen (fun j u hj => by have := CellsAt_get hnews j u hj; rwa [Nat.zero_add] at this) h1 h63 hbytes hl.size
  refine RunsV_of hr ?_
  have hlt := World.ownsRow.lt hown
  have hb : Later w0 w' := Below.grown hl hg hl.size (fun k hk => (hlt k hk).1)
  obtain ⟨hx, h | ⟨g, cap, cur, h2, h3⟩⟩ := ho
  · obtain ⟨rfl, hn⟩ := h
    exact hK _ _ _ _ ⟨hx, .inl ⟨rfl, hn⟩⟩ hb hg
  · subst h2
    exact hK _ _ _ _ ⟨hx, .inr ⟨g, cap, cur, rfl, h3⟩⟩ hb hg
theorem strOf_size (ns : List Int) : (strOf ns).size = ns.length := by simp [strOf, ByteArray.size]
/-- The text of an own slice of bytes. -/
theorem RunsV_own_string {P : Program} {w0 w : World} {src dst e : TypeId} {b : Option Addr} {bn bc n : Nat} {ns : List Int} {K : Value → World → Prop} (hs : P.underlying src = some (.slice e)) (he : P.underlying e = some (.int .u8)) (hd : P.underlying dst = some .string)
    (hown : OwnS w0 w e 1 (.slice b bn bc) n (ns.map (Value.int .u8))) (hn : 0 < n) (hK : K (.string (strOf ns)) w) : RunsV P (convert src dst (.slice b bn bc)) w K := by
  have hb := hown.len
  have hln : ns.length = n := by have := hown.1; simpa using this
  cases b with
  | none =>
    obtain ⟨_, h | ⟨g, cap, cur, h2, _⟩⟩ := hown
    · omega
    · cases h2
  | some a => exact runs_bytes_string hs he hd (by omega) hown.cells hK
end Go.Vc

/-
The call's own blocks, tracked through the worlds: what each holds, that nothing old is turned.
Conditions: each theorem's hypotheses; nothing is asked of a program.
-/
namespace Go.Vc
open Go.RowKit
set_option linter.unusedVariables false
set_option linter.unusedSimpArgs false
set_option linter.unnecessarySimpa false

/-- A block has these cells. -/
def Has (w : World) (b : Nat) (cs : List Value) : Prop := ∃ t, w.heap[b]? = some (.cells cs.toArray t)
theorem Has.cell {w : World} {b : Nat} {cs : List Value} (h : Has w b cs) {i : Nat} {v : Value} (hv : cs[i]? = some v) : w.cell? ⟨b, i, none⟩ = some v := by
  obtain ⟨t, h⟩ := h
  simp only [World.cell?, h]
  simpa using hv
theorem Has.frozen {w : World} {b : Nat} {cs : List Value} (h : Has w b cs) (i : Nat) : w.frozen? ⟨b, i, none⟩ = false := by
  obtain ⟨t, h⟩ := h
  simp [World.frozen?, h]
theorem Has.lt {w : World} {b : Nat} {cs : List Value} (h : Has w b cs) : b < w.heap.size := by
  obtain ⟨t, h⟩ := h
  exact (Array.getElem?_eq_some_iff.1 h).1
theorem Has.later {w w' : World} {b : Nat} {cs : List Value} (h : Has w b cs) (hl : Later w w') : Has w' b cs := by
  have hb := h.lt
  obtain ⟨t, h⟩ := h
  exact ⟨t, by rw [hl.block hb]; exact h⟩
theorem Has.new (w : World) (cs : List Value) (t : TypeId) : Has (w.alloc (.cells cs.toArray t)) w.heap.size cs := ⟨t, heap_alloc_new w _⟩
theorem Has.set {w : World} {b : Nat} {cs : List Value} (h : Has w b cs) (i : Nat) (v : Value) : Has (w.setCell ⟨b, i, none⟩ v) b (cs.set i v) := by
  obtain ⟨t, h⟩ := h
  refine ⟨t, ?_⟩
  simp [World.setCell, Array.getElem?_modify, h]
theorem Has.set_other {w : World} {b b' : Nat} {cs : List Value} (h : Has w b cs) (hb : b ≠ b') (i : Nat) (v : Value) : Has (w.setCell ⟨b', i, none⟩ v) b cs := by
  obtain ⟨t, h⟩ := h
  refine ⟨t, ?_⟩
  have : ¬ b' = b := fun h => hb h.symm
  simp [World.setCell, Array.getElem?_modify, h, this]
theorem Has.kept {w w' : World} {b : Nat} {cs : List Value} (h : Has w b cs) (e : w'.heap[b]? = w.heap[b]?) : Has w' b cs := by
  obtain ⟨t, h⟩ := h
  exact ⟨t, e.trans h⟩
abbrev Blk := Nat × List Value
/-- What is tracked: blocks made since w0, all unlike, and that nothing older is turned. -/
def Trk (w0 w : World) (L : List Blk) : Prop := Later w0 w ∧ (∀ x ∈ L, w0.heap.size ≤ x.1 ∧ Has w x.1 x.2) ∧ (L.map (·.1)).Nodup
theorem Trk.start (w : World) : Trk w w [] := ⟨Later.refl _, by simp, by simp⟩
theorem Trk.here {w0 w : World} (h : Later w0 w) : Trk w0 w [] := ⟨h, by simp, by simp⟩
theorem Trk.to {w0 w : World} {L : List Blk} (h : Trk w0 w L) : Later w0 w := h.1
theorem Trk.alloc {w0 w w' : World} {L : List Blk} (h : Trk w0 w L) {cs : List Value} {t : TypeId} (e : w' = w.alloc (.cells cs.toArray t)) : Trk w0 w' (L ++ [(w.heap.size, cs)]) := by
  subst e
  refine ⟨h.1.alloc _, ?_, ?_⟩
  · intro x hx
    rcases List.mem_append.1 hx with hx | hx
    · exact ⟨(h.2.1 x hx).1, (h.2.1 x hx).2.later (Later.alloc' _ _)⟩
    · obtain rfl : x = (w.heap.size, cs) := by simpa using hx
      exact ⟨h.1.size, Has.new _ _ _⟩
  · rw [List.map_append, List.nodup_append]
    refine ⟨h.2.2, by simp, ?_⟩
    intro a ha b hb
    obtain ⟨x, hx, rfl⟩ := List.mem_map.1 ha
    have := (h.2.1 x hx).2.lt
    simp at hb
    omega
theorem Trk.later {w0 w w' : World} {L : List Blk} (h : Trk w0 w L) (hl : Later w w') : Trk w0 w' L :=
  ⟨h.1.trans hl, fun x hx => ⟨(h.2.1 x hx).1, (h.2.1 x hx).2.later hl⟩, h.2.2⟩
theorem Trk.has {w0 w : World} {L : List Blk} (h : Trk w0 w L) (k : Nat) {b : Nat} {cs : List Value} (hk : L[k]? = some (b, cs)) : Has w b cs := (h.2.1 _ (List.mem_of_getElem? hk)).2
theorem Trk.cell {w0 w : World} {L : List Blk} (h : Trk w0 w L) (k : Nat) {b i : Nat} {cs : List Value} {v : Value} (hk : L[k]? = some (b, cs)) (hv : cs[i]? = some v) : w.cell? ⟨b, i, none⟩ = some v := (h.has k hk).cell hv
theorem Trk.setCell {w0 w : World} {L : List Blk} (h : Trk w0 w L) (k : Nat) {b i : Nat} {cs : List Value} (v : Value) (hk : L[k]? = some (b, cs)) : Trk w0 (w.setCell ⟨b, i, none⟩ v) (L.set k (b, cs.set i v)) := by
  have hm := h.2.1 _ (List.mem_of_getElem? hk)
  refine ⟨h.1.setCell hm.1 v, ?_, ?_⟩
  · intro x hx
    obtain ⟨j, hj⟩ := List.getElem?_of_mem hx
    rw [List.getElem?_set] at hj
    have hkl : k < L.length := (List.getElem?_eq_some_iff.1 hk).1
    by_cases hjk : k = j
    · subst hjk
      rw [if_pos rfl, if_pos hkl] at hj
      obtain rfl := Option.some.inj hj
      exact ⟨hm.1, hm.2.set i v⟩
    · rw [if_neg hjk] at hj
      have hx' := h.2.1 _ (List.mem_of_getElem? hj)
      refine ⟨hx'.1, hx'.2.set_other ?_ i v⟩
      intro e
      have h1 : (L.map (·.1))[j]? = some b := by rw [List.getElem?_map, hj]; simpa using e
      have h2 : (L.map (·.1))[k]? = some b := by rw [List.getElem?_map, hk]; rfl
      have hjl : j < (L.map (·.1)).length := (List.getElem?_eq_some_iff.1 h1).1
      exact hjk ((List.getElem?_inj hjl h.2.2).1 (h1.trans h2.symm)).symm
  · have e : (L.set k (b, cs.set i v)).map (·.1) = L.map (·.1) := by
      rw [List.map_set]
      apply List.ext_getElem?
      intro j
      rw [List.getElem?_set]
      by_cases hjk : k = j
      · subst hjk
        rw [if_pos rfl, List.getElem?_map, hk, if_pos (by simpa using (List.getElem?_eq_some_iff.1 hk).1)]
        rfl
      · simp [hjk]
    rw [e]; exact h.2.2
/-- One cell is written. -/
theorem Trk.set1 {w0 w : World} {L : List Blk} (h : Trk w0 w L) (k : Nat) {b i : Nat} {cs : List Value} {v : Value} (hk : L[k]? = some (b, cs)) (hi : i < cs.length) {K : World → Prop} (hK : ∀ w', Trk w0 w' (L.set k (b, cs.set i v)) → K w') :
    ((w.cell? ⟨b, i, none⟩).isSome = true ∧ w.frozen? ⟨b, i, none⟩ = false) ∧ ∀ w', w' = w.setCell ⟨b, i, none⟩ v → K w' := by
  refine ⟨⟨?_, (h.has k hk).frozen i⟩, fun w' e => hK _ (e ▸ h.setCell k v hk)⟩
  obtain ⟨u, hu⟩ : ∃ u, cs[i]? = some u := ⟨_, List.getElem?_eq_getElem hi⟩
  rw [h.cell k hk hu]; rfl
theorem Has.sets {w : World} {b : Nat} {cs : List Value} (h : Has w b cs) : ∀ (l : List Value) (i : Nat), i + l.length ≤ cs.length → (∀ v ∈ l, v.oneCell' = true) → SetsAt w ⟨b, 0, none⟩ i l := by
  intro l
  induction l with
  | nil => intro i hi ho; trivial
  | cons v l ih =>
    intro i hi ho
    simp only [List.length_cons] at hi
    obtain ⟨u, hu⟩ : ∃ u, cs[i]? = some u := ⟨_, List.getElem?_eq_getElem (by omega)⟩
    refine cnd_true (ho v (by simp)) ⟨⟨?_, ?_⟩, ih (i + 1) (by omega) (fun u hu => ho u (by simp [hu]))⟩
    · rw [add_block, Nat.zero_add, h.cell hu]; rfl
    · rw [add_block, Nat.zero_add]; exact h.frozen i
theorem Trk.setMany {w0 : World} {k b : Nat} : ∀ (l : List Value) (i : Nat) (w : World) (L : List Blk) (cs : List Value), Trk w0 w L → L[k]? = some (b, cs) → i + l.length ≤ cs.length →
    Trk w0 (setCellsAt w ⟨b, 0, none⟩ i l) (L.set k (b, cs.take i ++ l ++ cs.drop (i + l.length))) := by
  intro l
  induction l with
  | nil =>
    intro i w L cs h hk hi
    have e : L.set k (b, cs.take i ++ [] ++ cs.drop (i + ([] : List Value).length)) = L := by
      simp only [List.length_nil, Nat.add_zero, List.append_nil, List.take_append_drop]
      apply List.ext_getElem?
      intro j
      rw [List.getElem?_set]
      by_cases hj : k = j
      · subst hj; rw [if_pos rfl, hk, if_pos (List.getElem?_eq_some_iff.1 hk).1]
      · rw [if_neg hj]
    rw [e]; exact h
  | cons v l ih =>
    intro i w L cs h hk hi
    simp only [List.length_cons] at hi
    have hkl : k < L.length := (List.getElem?_eq_some_iff.1 hk).1
    have h1 := h.setCell k (i := i) v hk
    have hk1 : (L.set k (b, cs.set i v))[k]? = some (b, cs.set i v) := by rw [List.getElem?_set]; simp [hkl]
    have l2 := ih (i + 1) _ _ _ h1 hk1 (by simp; omega)
    rw [List.set_set] at l2
    have e1 : (cs.set i v).take (i + 1) = cs.take i ++ [v] := by
      rw [List.take_add_one, List.take_set_of_le (Nat.le_refl _)]
      simp [List.getElem?_set, show i < cs.length by omega]
    have e2 : (cs.set i v).drop (i + 1 + l.length) = cs.drop (i + (l.length + 1)) := by
      rw [List.drop_set_of_lt (by omega)]
      congr 1; omega
    rw [e1, e2] at l2
    simp only [setCellsAt, add_block, Nat.zero_add, List.length_cons]
    simpa using l2
/-- A whole block is written. -/
theorem Trk.setAll {w0 w : World} {L : List Blk} (h : Trk w0 w L) (k : Nat) {b : Nat} {cs l : List Value} (hk : L[k]? = some (b, cs)) (hl : l.length = cs.length) (ho : ∀ v ∈ l, v.oneCell' = true) {K : World → Prop} (hK : ∀ w', Trk w0 w' (L.set k (b, l)) → K w') :
    SetsAt w ⟨b, 0, none⟩ 0 l ∧ ∀ w', w' = setCellsAt w ⟨b, 0, none⟩ 0 l → K w' := by
  refine ⟨(h.has k hk).sets l 0 (by omega) ho, fun w' e => hK _ ?_⟩
  have := Trk.setMany (k := k) l 0 w L cs h hk (by omega)
  rw [List.drop_of_length_le (by omega)] at this
  simpa [e] using this
theorem Trk.front {w0 w : World} {L M : List Blk} (h : Trk w0 w (L ++ M)) : Trk w0 w L :=
  ⟨h.1, fun x hx => h.2.1 x (List.mem_append_left _ hx), by have := h.2.2; rw [List.map_append, List.nodup_append] at this; exact this.1⟩
/-- One block alone. -/
theorem Trk.one {w0 w : World} {L : List Blk} (h : Trk w0 w L) (k : Nat) {b : Nat} {cs : List Value} (hk : L[k]? = some (b, cs)) : Trk w0 w [(b, cs)] :=
  ⟨h.1, fun x hx => by obtain rfl : x = (b, cs) := by simpa using hx
                       exact h.2.1 _ (List.mem_of_getElem? hk), by simp⟩
theorem Has.same {w : World} {b : Nat} {cs ds : List Value} (h : Has w b cs) (k : Has w b ds) : cs = ds := by
  obtain ⟨t, h⟩ := h
  obtain ⟨u, k⟩ := k
  rw [h] at k
  simp only [Option.some.injEq, Obj.cells.injEq] at k
  simpa using k.1
theorem Has.setsOther {w : World} {b b' : Nat} {cs : List Value} (h : Has w b cs) (hb : b ≠ b') : ∀ (l : List Value) (i : Nat), Has (setCellsAt w ⟨b', 0, none⟩ i l) b cs := by
  intro l
  induction l generalizing w with
  | nil => intro i; exact h
  | cons v l ih =>
    intro i
    refine ih ?_ (i + 1)
    rw [add_block]
    exact h.set_other hb _ v
theorem Has.cellsAt {w : World} {b : Nat} {cs : List Value} (h : Has w b cs) : ∀ (l : List Value) (i : Nat), (∀ j v, l[j]? = some v → cs[i + j]? = some v) → CellsAt w ⟨b, 0, none⟩ i l := by
  intro l
  induction l with
  | nil => intro i _; trivial
  | cons v l ih =>
    intro i hl
    refine ⟨?_, ih (i + 1) fun j u hj => ?_⟩
    · rw [add_block, Nat.zero_add]
      exact h.cell (hl 0 v rfl)
    · have := hl (j + 1) u (by simpa using hj)
      rwa [show i + 1 + j = i + (j + 1) by omega]
/-- A row is grown, and a block beside it stays and stays beside it. -/
theorem RunsV_append_by {P : Program} {w0 w : World} {t e : TypeId} {size bytes : Nat} (ty : TypeId) (hT : RowTy P t e size bytes) {b : Option Addr} {bn bc n : Nat} {xs : List Value} (hown : OwnS w0 w e size (.slice b bn bc) n xs) (hl : Later w0 w)
    {a : Addr} {m c : Nat} {news : List Value} (hlen : news.length = m * size) (hnews : CellsAt w a 0 news) (h1 : ∀ u ∈ news, u.oneCell' = true) (h63 : n + m ≤ maxLen) (hbytes : (n + m) * bytes ≤ 140737488355328)
    {xb : Nat} {cs : List Value} (hx : Has w xb cs) (hne : b.map (·.block) ≠ some xb) (hcs : b = none ∨ cs.length < (n + m) * size)
    {K : Value → World → Prop}
    (hK : ∀ b' bn' bc' w', OwnS w0 w' e size (.slice b' bn' bc') (n + m) (xs ++ news) → Later w0 w' → Has w' xb cs → b'.map (·.block) ≠ some xb → K (.slice b' bn' bc') w') :
    RunsV P (Builtin.append_ #[t, t] ty #[.slice b bn bc, .slice (some a) m c]) w K := by
  obtain ⟨i, z, hi, hz, hs, hby, hzs⟩ := hT.info
  have hnews' : ∀ j u, news[j]? = some u → w.cell? (a.add j) = some u := fun j u hj => by have := CellsAt_get hnews j u hj; rwa [Nat.zero_add] at this
  obtain ⟨v', w', hr, ho, hg, _⟩ := run_append_own (P := P) w w0.heap.size t ty e i z size bytes hT.under hi hz hs hby hzs hT.pos _ n xs hown a m c news hlen hnews' h1 h63 hbytes hl.size
  have hob : (Value.slice b bn bc).ownBlock = b.map (·.block) := by cases b <;> rfl
  have hx' : Has w' xb cs := hx.kept (hg.block xb hx.lt (by rw [hob]; exact fun h => hne h.symm))
  have hap : v'.ownBlock ≠ some xb := by
    intro hv
    rcases hcs with rfl | hcs
    · obtain ⟨hx0, h | ⟨g, cap, cur, h, _⟩⟩ := hown
      · obtain ⟨hb, rfl⟩ := h
        have hnil : w.ownsRow w.heap.size e size (.slice none bn bc) 0 xs := ⟨hx0, .inl ⟨hb, rfl⟩⟩
        obtain ⟨v2, w2, hr2, ho2, _, _⟩ := run_append_own (P := P) w w.heap.size t ty e i z size bytes hT.under hi hz hs hby hzs hT.pos _ 0 xs hnil a m c news hlen hnews' h1 h63 hbytes (Nat.le_refl _)
        rw [hr] at hr2
        cases hr2
        have := (World.ownsRow.lt ho2 xb hv).1
        have := hx.lt
        omega
      · cases h
    · obtain ⟨_, h | ⟨g, cap, cur, rfl, _, hcur, hle, _, hsz, _⟩⟩ := ho
      · obtain ⟨rfl, _⟩ := h; cases hv
      · simp only [Value.ownBlock, Option.some.injEq] at hv
        subst hv
        obtain ⟨t, ht⟩ := hx'
        rw [hcur] at ht
        simp only [Option.some.injEq, Obj.cells.injEq] at ht
        have hcl : cs.length = cur.size := by rw [ht.1]; simp
        have : (n + m) * size ≤ cap * size := Nat.mul_le_mul_right _ hle
        omega
  refine RunsV_of hr ?_
  have hlt := World.ownsRow.lt hown
  have hb : Later w0 w' := Below.grown hl hg hl.size (fun k hk => (hlt k hk).1)
  obtain ⟨hxs, h | ⟨g, cap, cur, h2, h3⟩⟩ := ho
  · obtain ⟨rfl, hn⟩ := h
    exact hK _ _ _ _ ⟨hxs, .inl ⟨rfl, hn⟩⟩ hb hx' (by simp)
  · subst h2
    exact hK _ _ _ _ ⟨hxs, .inr ⟨g, cap, cur, rfl, h3⟩⟩ hb hx' hap
theorem OwnS.beside {w0 w : World} {e : TypeId} {size : Nat} {b : Option Addr} {bn bc n : Nat} {xs : List Value} (h : OwnS w0 w e size (.slice b bn bc) n xs) {k : Nat} (hk : w.heap.size ≤ k) : b.map (·.block) ≠ some k := by
  intro hb
  have hob : (Value.slice b bn bc).ownBlock = b.map (·.block) := by cases b <;> rfl
  have := (World.ownsRow.lt h k (by rw [hob]; exact hb)).2
  omega
theorem OwnS.set_other {w0 w : World} {e : TypeId} {size : Nat} {b : Option Addr} {bn bc n : Nat} {xs : List Value} (h : OwnS w0 w e size (.slice b bn bc) n xs) {k : Nat} (hk : b.map (·.block) ≠ some k) (i : Nat) (v : Value) : OwnS w0 (w.setCell ⟨k, i, none⟩ v) e size (.slice b bn bc) n xs := by
  obtain ⟨h1, h | ⟨g, cap, cur, h2, h3, h4, h5⟩⟩ := h
  · exact ⟨h1, .inl h⟩
  · refine ⟨h1, .inr ⟨g, cap, cur, h2, h3, ?_, h5⟩⟩
    cases h2
    have : ¬ k = g := fun h => hk (by rw [h]; rfl)
    simp only [World.setCell, Array.getElem?_modify]
    rw [if_neg this]; exact h4
theorem OwnS.sets_other {w0 : World} {e : TypeId} {size : Nat} {b : Option Addr} {bn bc n : Nat} {xs : List Value} {k : Nat} (hk : b.map (·.block) ≠ some k) : ∀ (l : List Value) (i : Nat) {w : World}, OwnS w0 w e size (.slice b bn bc) n xs → OwnS w0 (setCellsAt w ⟨k, 0, none⟩ i l) e size (.slice b bn bc) n xs := by
  intro l
  induction l with
  | nil => intro i w h; exact h
  | cons v l ih =>
    intro i w h
    refine ih (i + 1) ?_
    rw [add_block]
    exact h.set_other hk _ v
theorem OwnS.weak {w0 w1 w : World} {e : TypeId} {size : Nat} {v : Value} {n : Nat} {xs : List Value} (h : OwnS w1 w e size v n xs) (hl : w0.heap.size ≤ w1.heap.size) : OwnS w0 w e size v n xs := by
  obtain ⟨h1, h | ⟨g, cap, cur, h2, h3, h4⟩⟩ := h
  · exact ⟨h1, .inl h⟩
  · exact ⟨h1, .inr ⟨g, cap, cur, h2, Nat.le_trans hl h3, h4⟩⟩
/-- A new slice. -/
theorem RunsV_makeSlice {P : Program} {t e : TypeId} {size bytes : Nat} (z : Value) (hu : P.underlying t = some (.slice e)) (hi : (P.info? e).map (fun i => (i.zero, i.size, i.bytes)) = some (some z, size, bytes)) (hs : size = z.cells.size) (hb : bytes ≤ 1024) (hp : 0 < size)
    {k k' : IntKind} {n : Nat} (hn : n ≤ 16777216) {w : World} {K : Value → World → Prop} (hK : ∀ b w', b = w.heap.size → Later w w' → Has w' b (repL z.cells.toList n) → K (.slice (some ⟨b, 0, none⟩) n n) w') :
    RunsV P (Instr.makeSlice t (.int k (n : Nat)) (.int k' (n : Nat))) w K := by
  cases h : P.info? e with
  | none => rw [h] at hi; cases hi
  | some i =>
    rw [h] at hi
    simp only [Option.map_some, Option.some.injEq, Prod.mk.injEq] at hi
    obtain ⟨hz, h1, h2⟩ := hi
    obtain ⟨w', r1, r2, r3⟩ := run_makeSlice_eq (w := w) (k := k) (k' := k') (n := (n : Nat)) hu h hz (by omega) (by omega) (by omega) (by omega) (by omega)
    exact RunsV_of r1 (hK _ _ rfl r2 ⟨e, r3⟩)
/-- One block's cell is written, all else stays. -/
theorem Has.of_fcells {w : World} {b : Nat} {cs ds : List Value} (h : Has w b cs) (e : cs = ds) : Has w b ds := e ▸ h
end Go.Vc

/-
A function that ranges over a function: its condition, and that the condition gives the model's call. What an iterator gives, from its own call.
Conditions: none; all is proved over any program.
-/
namespace Go.Vc
open Go.RowKit
set_option linter.unusedSimpArgs false
set_option linter.unnecessarySimpa false
set_option linter.unusedVariables false

/-! ### what a loop's own books may do to a world -/
structure Turn (B : Nat) (w w' : World) : Prop where
  os : w'.os = w.os
  tape : w'.tape = w.tape
  output : w'.output = w.output
  size : w.heap.size ≤ w'.heap.size
  keep : ∀ (k : Nat) (o : Obj), w.heap[k]? = some o → (k < B ∨ o.isCells = true) → w'.heap[k]? = some o
def Steady {β : Type} (B : Nat) (I : β → World → Prop) : Prop := ∀ s w w', I s w → Turn B w w' → I s w'
theorem Steady.own {β : Type} {B : Nat} {I : β → World → Prop} (h : Steady B I) : OwnFrom B I := by
  intro s w w' row hs hg hr
  refine h s w w' hs ⟨hg.os, hg.tape, hg.output, hg.size, fun k o ho hk => ?_⟩
  rw [hg.block k (Array.getElem?_eq_some_iff.1 ho).1 (fun e => ?_)]
  · exact ho
  · obtain ⟨h1, o', ho', hc⟩ := hr k e.symm
    rw [ho] at ho'
    cases ho'
    rcases hk with hk | hk
    · omega
    · rw [hc] at hk; cases hk
theorem Turn.later {B : Nat} {w0 w w' : World} (h : Turn B w w') (hB : w0.heap.size ≤ B) (hw : Later w0 w) : Later w0 w' :=
  ⟨h.os.trans (show Below _ _ _ from hw).os, h.tape.trans (show Below _ _ _ from hw).tape, h.output.trans (show Below _ _ _ from hw).output, Nat.le_trans (show Below _ _ _ from hw).size h.size, fun k hk => by
    have h1 := (show Below _ _ _ from hw).block k hk
    have : k < w.heap.size := Nat.lt_of_lt_of_le hk (show Below _ _ _ from hw).size
    have h2 : w.heap[k]? = some w.heap[k] := by simp [this]
    rw [h.keep k _ h2 (.inl (by omega)), ← h1, h2]⟩
theorem Turn.has {B : Nat} {w w' : World} (h : Turn B w w') {b : Nat} {cs : List Value} (hb : Has w b cs) : Has w' b cs := by
  obtain ⟨t, hb⟩ := hb
  exact ⟨t, h.keep b _ hb (.inr rfl)⟩
theorem Turn.trk {B : Nat} {w0 w w' : World} {L : List Blk} (h : Turn B w w') (hB : w0.heap.size ≤ B) (hL : Trk w0 w L) : Trk w0 w' L :=
  ⟨h.later hB hL.1, fun x hx => ⟨(hL.2.1 x hx).1, h.has (hL.2.1 x hx).2⟩, hL.2.2⟩
theorem keepsFrom_later {B : Nat} {w w' : World} (h : Later w w') : KeepsFrom B w w' := ⟨(show Below _ _ _ from h).size, fun k o _ ho _ => by rw [(show Below _ _ _ from h).block k (Array.getElem?_eq_some_iff.1 ho).1]; exact ho⟩
theorem keepsFrom_setCell (B : Nat) (w : World) (a : Addr) (v : Value) : KeepsFrom B w (w.setCell a v) := (KeepsOthers.setCell w a v).from B
theorem keepsFrom_setCellsAt (B : Nat) (a : Addr) : ∀ (l : List Value) (i : Nat) (w : World), KeepsFrom B w (setCellsAt w a i l) := by
  intro l
  induction l with
  | nil => intro i w; exact KeepsFrom.refl _ _
  | cons v l ih => intro i w; exact (keepsFrom_setCell B w _ _).trans (ih (i + 1) _)
theorem turn_putObj {B D : Nat} {w : World} {o o' : Obj} (h : w.heap[D]? = some o) (ho : o.isCells = false) (hD : B ≤ D) : Turn B w (w.putObj D o') :=
  ⟨rfl, rfl, rfl, by simp, fun k u hu hk => by
    rw [World.putObj_heap_other (fun e => ?_)]
    · exact hu
    · subst e
      rw [h] at hu
      cases hu
      rcases hk with hk | hk
      · omega
      · rw [ho] at hk; cases hk⟩
theorem Trk.setAllE {w0 w : World} {L : List Blk} (h : Trk w0 w L) (k : Nat) {b : Nat} {cs l : List Value} (hk : L[k]? = some (b, cs)) (hl : l.length = cs.length) (ho : ∀ v ∈ l, v.oneCell' = true) {K : World → Prop} (hK : ∀ w', w' = setCellsAt w ⟨b, 0, none⟩ 0 l → Trk w0 w' (L.set k (b, l)) → K w') :
    SetsAt w ⟨b, 0, none⟩ 0 l ∧ ∀ w', w' = setCellsAt w ⟨b, 0, none⟩ 0 l → K w' := by
  refine ⟨(h.has k hk).sets l 0 (by omega) ho, fun w' e => hK _ e ?_⟩
  have := Trk.setMany (k := k) l 0 w L cs h hk (by omega)
  rw [e]
  simpa [hl] using this
theorem Trk.set1E {w0 w : World} {L : List Blk} (h : Trk w0 w L) (k : Nat) {b i : Nat} {cs : List Value} {v : Value} (hk : L[k]? = some (b, cs)) (hi : i < cs.length) {K : World → Prop} (hK : ∀ w', w' = w.setCell ⟨b, i, none⟩ v → Trk w0 w' (L.set k (b, cs.set i v)) → K w') :
    ((w.cell? ⟨b, i, none⟩).isSome = true ∧ w.frozen? ⟨b, i, none⟩ = false) ∧ ∀ w', w' = w.setCell ⟨b, i, none⟩ v → K w' := by
  refine ⟨⟨?_, (h.has k hk).frozen i⟩, fun w' e => hK _ e (e ▸ h.setCell k v hk)⟩
  obtain ⟨u, hu⟩ : ∃ u, cs[i]? = some u := ⟨_, List.getElem?_eq_getElem hi⟩
  rw [h.cell k hk hu]
  rfl

/-! ### iterators -/
/-- What a round that goes on keeps: the iterator's own blocks. -/
def KpS (Ks : Nat → Prop) (w w' : World) : Prop := ∀ k, Ks k → w'.heap[k]? = w.heap[k]?
/-- What is ranged over: N rounds, with what each is handed. -/
def IterV (P : Program) (gf : Nat) (lb : Array Value) (Ks : Nat → Prop) (N : Nat) (enc : Fin N → List Value) (w : World) : Prop :=
  ∀ n, SeqStopsK Fence.wide n P gf lb (fun k => (enc k).toArray) (KpS Ks) (fun xs => xs = List.finRange N) (fun pre => pre <+: List.finRange N) N w
theorem grown_of_later {w w' : World} (h : Below w.heap.size w w') : w.grownBy w' none := ⟨h.os, h.tape, h.output, h.size, fun k hk _ => h.block k hk⟩
theorem yieldAt_wide {n m : Nat} {P : Program} {l : Nat} {args : Array Value} {w : World} {R : Ending → World → Prop} (h : YieldAt Fence.wide n P l args w R) : YieldAt Fence.wide m P l args w R := by
  obtain ⟨fn, tmps, assign, body, h1, h2⟩ := h
  exact ⟨fn, tmps, assign, body, h1, roundIn_wide h2⟩
/-- An iterator's word, from its call: the rounds are numbered. -/
theorem iterV_of {P : Program} {gf : Nat} {lb : Array Value} {Ks : Nat → Prop} {N : Nat} {enc : Fin N → List Value} {w : World}
    (h : ∀ (l : Nat) (J : Nat → World → Prop) (Jx : World → Prop) (W : World), Below w.heap.size w W → (∀ k w1 w2, J k w1 → Later w1 w2 → J k w2) → (∀ w1 w2, Jx w1 → Later w1 w2 → Jx w2) →
      (∀ (k : Fin N) (w1 : World), J k.1 w1 → YieldC P l (enc k).toArray w1 fun b w' => (b = true ∧ J (k.1 + 1) w' ∧ KpS Ks w1 w') ∨ (b = false ∧ Jx w')) → J 0 W →
      Calls P gf (#[.func (.yield l) #[] #[]] ++ lb) W fun e w' => (∃ v, e = .returned v) ∧ (J N w' ∨ Jx w')) : IterV P gf lb Ks N enc w := by
  intro n l J Jx W hW hJ hJx hY h0
  have hlen : ∀ k, k ≤ N → ((List.finRange N).take k).length = k := fun k hk => by rw [List.length_take, List.length_finRange]; omega
  refine callsIn_wide.2 ((h l (fun k w' => J ((List.finRange N).take k) w') (fun w' => ∃ pre, pre <+: List.finRange N ∧ Jx pre w') W hW
    (fun k w1 w2 h1 h2 => hJ _ _ _ none h1 (grown_of_later h2) (fun r e => by cases e)) (fun w1 w2 ⟨pre, hp, h1⟩ h2 => ⟨pre, hp, hJx _ _ _ none h1 (grown_of_later h2) (fun r e => by cases e)⟩) ?_ ?_).mono ?_)
  · intro k w1 h1
    have hs : (List.finRange N).take k.1 ++ [k] = (List.finRange N).take (k.1 + 1) := by
      rw [List.take_add_one, List.getElem?_eq_getElem (by rw [List.length_finRange]; exact k.2)]
      simp
    refine YieldAt.mono (yieldAt_wide (hY _ k w1 h1 (by rw [hlen _ (Nat.le_of_lt k.2)]; exact k.2))) ?_
    rintro e w' (⟨rfl, h2, h3⟩ | ⟨rfl, h2⟩)
    · exact ⟨true, rfl, .inl ⟨rfl, hs ▸ h2, h3⟩⟩
    · exact ⟨false, rfl, .inr ⟨rfl, _, List.take_prefix _ _, hs ▸ h2⟩⟩
  · simpa using h0
  · rintro e w' ⟨hv, h1 | ⟨pre, hp, h1⟩⟩
    · exact ⟨hv, .inl ⟨_, rfl, by simpa [List.take_of_length_le] using h1⟩⟩
    · exact ⟨hv, .inr ⟨pre, hp, h1⟩⟩

/-! ### the condition -/
def lookR (l : List (Nat × Slots × Slots)) (ps : List Tmp) : Option (Slots × Slots) :=
  match ps, l with
  | p :: _, x :: r => (match Nat.beq x.1 p with | true => some x.2 | false => lookR r ps)
  | _, _ => none
def okV : Slots → List Value → Bool
  | [], [] => true
  | x :: l, v :: vs => x.2.ok v && okV l vs
  | _, _ => false
theorem allSel_vals {l : Slots} : ∀ {L : List Value → Prop}, allSel l L → ∀ {vs : List Value}, okV l vs = true → L vs := by
  induction l with
  | nil => intro L h vs hv; cases vs with | nil => exact h | cons _ _ => cases hv
  | cons x l ih =>
    intro L h vs hv
    cases vs with
    | nil => cases hv
    | cons v vs =>
      simp only [okV, Bool.and_eq_true] at hv
      exact ih (Shape.all_elim h hv.1) hv.2
theorem okV_length : ∀ {l : Slots} {vs : List Value}, okV l vs = true → vs.length = l.length := by
  intro l
  induction l with
  | nil => intro vs hv; cases vs with | nil => rfl | cons _ _ => cases hv
  | cons x l ih =>
    intro vs hv
    cases vs with
    | nil => cases hv
    | cons v vs => simp only [okV, Bool.and_eq_true] at hv; simp [ih hv.2]
def samePs : Slots → List Tmp → Bool
  | [], [] => true
  | x :: l, p :: ps => Nat.beq x.1 p && samePs l ps
  | _, _ => false
theorem samePs_fold : ∀ {l : Slots} {ps : List Tmp}, samePs l ps = true → ∀ {vs : List Value} {tm : List Value}, vs.length = l.length →
    (ps.zip vs).foldl (fun (t : Array Value) (p, v) => t.setIfInBounds p v) tm.toArray = (setSel l vs tm).toArray ∧ ps.length = l.length := by
  intro l
  induction l with
  | nil => intro ps h vs tm hl; cases ps with | nil => simp [setSel] | cons _ _ => cases h
  | cons x l ih =>
    intro ps h vs tm hl
    cases ps with
    | nil => cases h
    | cons p ps =>
      cases vs with
      | nil => simp at hl
      | cons v vs =>
        simp only [samePs, Bool.and_eq_true] at h
        have he : x.1 = p := Nat.eq_of_beq_eq_true h.1
        simp only [List.length_cons] at hl
        obtain ⟨h1, h2⟩ := ih h.2 (vs := vs) (tm := tm.set p v) (by omega)
        refine ⟨?_, by simp [h2]⟩
        simp only [List.zip_cons_cons, List.foldl_cons, setSel, he]
        rw [← h1]
        simp
def roundQ {N : Nat} (B : Nat) (Ks : Nat → Prop) (I Ix : List (Fin N) → World → Prop) (xs : List (Fin N)) (w : World) : Exit → List Value → World → Prop
  | .normal, _, w' => KeepsFrom B w w' ∧ KpS Ks w w' ∧ I xs w'
  | .ret, _, w' => KeepsFrom B w w' ∧ Ix xs w'
  | _, _, _ => False
def takenQ {N : Nat} (B : Nat) (Ks : Nat → Prop) (I : List (Fin N) → World → Prop) (Mid : Fin N → List Value → World → Prop) (S : Slots) (pre : List (Fin N)) (x : Fin N) (w : World) : Exit → List Value → World → Prop
  | .normal, tm, w' => KeepsFrom B w w' ∧ KpS Ks w w' ∧ I pre w' ∧ meetQ S (Mid x) tm w'
  | _, _, _ => False
/-- What the caller says of its rounds. -/
structure Rounds (P : Program) (gf : Nat) (lb : Array Value) (w : World) where
  N : Nat
  enc : Fin N → List Value
  Ks : Nat → Prop
  I : List (Fin N) → World → Prop
  Ix : List (Fin N) → World → Prop
  Mid : Fin N → List Value → World → Prop
  iter : IterV P gf lb Ks N enc w
  own : ∀ k, Ks k → k < w.heap.size
  steady : Steady w.heap.size I
  steadyX : Steady w.heap.size Ix
  steadyM : ∀ vs, Steady w.heap.size (fun x => Mid x vs)
  start : I [] w
def rangeV (P : Program) (H : Hints) (S1 S2 : Slots) (g : Operand) (ps : Array Tmp) (assign body : Code) (QD : Nat → Exit → List Value → World → Prop) (tm : List Value) (w : World) : Prop :=
  cnd (samePs S1 ps.toList && (subS S2 (assigned assign) && (roundB H assign && roundB H body))) (AsFn (ev tm g) fun gf fi lb => cnd (entersB P gf)
    (fi = #[] ∧ ∃ r : Rounds P gf lb w, (∀ x, okV S1 (r.enc x) = true) ∧
      (allSel S1 fun vs => ∀ (pre : List (Fin r.N)) (x : Fin r.N) (w1 : World), r.enc x = vs → r.I pre w1 → codeV P H assign (takenQ w.heap.size r.Ks r.I r.Mid S2 pre x w1) (setSel S1 vs tm) w1) ∧
      (allSel S1 fun vs => ∀ (pre : List (Fin r.N)) (x : Fin r.N), r.enc x = vs → pre.length < r.N → joinV S2 (assigned assign) (setSel S1 vs tm) (fun us w1 => r.I pre w1 ∧ r.Mid x us w1) fun tm1 w1 => codeV P H body (roundQ w.heap.size r.Ks r.I r.Ix (pre ++ [x]) w1) tm1 w1) ∧
      (∀ (D : Nat) (w1 : World), w.heap.size ≤ D → r.I (List.finRange r.N) w1 → w1.heap[D]? = some (.deferred (some [])) → QD D .normal tm w1) ∧
      (∀ (D : Nat) (pre : List (Fin r.N)) (w1 : World), w.heap.size ≤ D → pre <+: List.finRange r.N → r.Ix pre w1 → w1.heap[D]? = some (.deferred (some [])) → QD D .ret tm w1)) False) False
def hasRange : Code → Bool
  | .rangeFunc .. => true
  | .seq a b => hasRange a || hasRange b
  | .block _ c => hasRange c
  | _ => false
def thenD (P : Program) (H : Hints) (b : Code) (QD : Nat → Exit → List Value → World → Prop) (D : Nat) : Exit → List Value → World → Prop
  | .normal, tm, w => codeV P H b (QD D) tm w
  | e, tm, w => QD D e tm w
def rngV (P : Program) (H : Hints) : Code → (Nat → Exit → List Value → World → Prop) → (Exit → List Value → World → Prop) → List Value → World → Prop
  | .seq a b, QD, Q, tm, w => (match hasRange a with
    | true => rngV P H a (thenD P H b QD) (seqQ (fun tm w => codeV P H b Q tm w) Q) tm w
    | false => codeV P H a (seqQ (fun tm w => rngV P H b QD Q tm w) Q) tm w)
  | .block id c, QD, Q, tm, w => rngV P H c (fun D => blockQ id (QD D)) (blockQ id Q) tm w
  | .rangeFunc g ps a b, QD, Q, tm, w => IsSome (lookR H.rngs ps.toList) fun S => rangeV P H S.1 S.2 g ps a b QD tm w
  | _, _, _, _, _ => False

def coll (D : Nat) : List Deferred := [{ target := .collected D, args := #[] }]
def upM (QD : Nat → Exit → List Value → World → Prop) (Q : Exit → List Value → World → Prop) (e : Exit) (a : Act) (w : World) : Prop := upD [] Q e a w ∨ ∃ D, upD (coll D) (QD D) e a w

theorem rangeV_wp {P : Program} {H : Hints} {n : Nat} {S1 S2 : Slots} {g : Operand} {ps : Array Tmp} {assign body : Code} {QD : Nat → Exit → List Value → World → Prop} {Q : Exit → List Value → World → Prop} {tm : List Value} {w : World}
    (h : rangeV P H S1 S2 g ps assign body QD tm w) : (Code.rangeFunc g ps assign body).wpIn Fence.wide (n + 1) P (upM QD Q) (actD [] tm) w := by
  obtain ⟨hB, h⟩ := (cnd_cases h).resolve_right fun h => h.2
  simp only [Bool.and_eq_true] at hB
  obtain ⟨hps, hS2, hRa, hRb⟩ := hB
  obtain ⟨gf, fi, lb, hv, h⟩ := AsFn_elim h
  obtain ⟨hent, h⟩ := (cnd_cases h).resolve_right fun h => h.2
  obtain ⟨rfl, r, hok, hassign, hbody, hdone, hstop⟩ := h
  have hlen : ∀ x, (r.enc x).length = S1.length := fun x => okV_length (hok x)
  have hfold : ∀ x, (ps.zip (r.enc x).toArray).foldl (fun (t : Array Value) (p, v) => t.setIfInBounds p v) (actD [] tm).tmps = (setSel S1 (r.enc x) tm).toArray := by
    intro x
    have := (samePs_fold hps (tm := tm) (hlen x)).1
    rw [← Array.foldl_toList]
    simpa [actD, Array.toList_zip] using this
  refine wpIn_rangeFunc_ownH (w0 := w) rfl (by omega) (by rw [eval_act]; exact hv) trivial (fun args w => run_callFunc hent w) (r.iter _)
    (fun h1 h2 k hk => (h2 k hk).trans (h1 k hk)) ?_ (Below.refl _ _) ?_ r.I (fun c xs w1 => c = .ret ∧ r.Ix xs w1) r.steady.own (fun c => ?_) r.start
    (fun x a' w1 => a'.defers = [] ∧ Agree (assigned assign) (setSel S1 (r.enc x) tm) a'.tmps.toList ∧ okSel S2 a'.tmps.toList = true ∧ r.Mid x (selL S2 a'.tmps.toList) w1) ?_ ?_ ?_ ?_ ?_
  · intro W l o o' hl ho _ _ k hk
    exact World.putObj_heap_other (by have := r.own k hk; omega)
  · intro x
    have := (samePs_fold hps (vs := r.enc x) (tm := tm) (hlen x)).2
    simpa [hlen x] using this.symm
  · intro s W W' row ⟨h1, h2⟩ hg hr
    exact ⟨h1, r.steadyX.own s W W' row h2 hg hr⟩
  · intro x a' s W W' row ⟨h1, h2, h3, h4⟩ hg hr
    exact ⟨h1, h2, h3, (r.steadyM _).own x W W' row h4 hg hr⟩
  · intro l pre x W K hI hK
    have h1 := allSel_vals hassign (hok x) pre x W rfl hI
    have h2 := codeV_round (ds := []) (l := l) (n := n + 1 - 1 - 1) assign (Q := fun e tm' w' => Agree (assigned assign) (setSel S1 (r.enc x) tm) tm' ∧ takenQ w.heap.size r.Ks r.I r.Mid S2 pre x W e tm' w') hRa (fun _ _ h => h.2) (codeV_agree h1)
    have he : (actD [] (setSel S1 (r.enc x) tm)) = { tmps := (ps.zip (r.enc x).toArray).foldl (fun t (p, v) => t.setIfInBounds p v) (actD [] tm).tmps, defers := [] } := by
      rw [hfold x]; rfl
    rw [he] at h2
    refine wpIn_mono h2 ?_
    rintro e a' w' ⟨hd, ha, hq⟩
    cases e with
    | normal =>
      obtain ⟨q1, q2, q3, q4⟩ := hq
      rcases cnd_cases q4 with ⟨q5, q6⟩ | ⟨_, q6⟩
      · exact hK a' w' q1 q2 q3 ⟨hd, ha, q5, q6⟩
      · exact q6.elim
    | _ => exact hq.elim
  · intro l pre x a' W _ _ hI ⟨hd, ha, hk, hm⟩ hpl
    have h1 := joinV_elim (allSel_vals hbody (hok x) pre x rfl hpl) ha (show meetQ S2 (fun us w1 => r.I pre w1 ∧ r.Mid x us w1) a'.tmps.toList W from cnd_true hk ⟨hI, hm⟩)
    have h2 := codeV_round (ds := []) (l := l) (n := n + 1 - 1 - 1) body hRb (fun _ _ h => h) h1
    rw [← act_of hd] at h2
    refine wpIn_mono h2 ?_
    rintro e a2 w' ⟨hd2, hq⟩
    cases e with
    | normal => exact hq
    | ret => exact ⟨hq.1, rfl, hq.2⟩
    | _ => exact hq.elim
  · rintro D xs W hD rfl hI hW
    exact .inr ⟨D, rfl, by simpa [actD] using hdone D W hD hI hW⟩
  · rintro D c pre W hD hp ⟨rfl, hx⟩ hW
    exact wpIn_ret (.inr ⟨D, rfl, by simpa [actD] using hstop D pre W hD hp hx hW⟩)
theorem rngV_wp {P : Program} {H : Hints} {n : Nat} (c : Code) : ∀ {QD : Nat → Exit → List Value → World → Prop} {Q : Exit → List Value → World → Prop} {tm : List Value} {w : World}, rngV P H c QD Q tm w → c.wpIn Fence.wide (n + 1) P (upM QD Q) (actD [] tm) w := by
  induction c with
  | seq a b iha ihb =>
    intro QD Q tm w h
    unfold rngV at h
    split at h
    · refine wpIn_seq (wpIn_mono (iha h) ?_)
      rintro e a' w' (⟨hd, h'⟩ | ⟨D, hd, h'⟩)
      · cases e with
        | normal => rw [act_of hd]; exact wpIn_mono (wpIn_wide.2 (codeV_wp (ds := []) b h')) fun e a w h => .inl h
        | _ => exact .inl ⟨hd, h'⟩
      · cases e with
        | normal => rw [act_of hd]; exact wpIn_mono (wpIn_wide.2 (codeV_wp (ds := coll D) b h')) fun e a w h => .inr ⟨D, h⟩
        | _ => exact .inr ⟨D, hd, h'⟩
    · refine wpIn_seq (wpIn_mono (wpIn_wide.2 (codeV_wp (ds := []) a h)) ?_)
      rintro e a' w' ⟨hd, h'⟩
      cases e with
      | normal => rw [act_of hd]; exact ihb h'
      | _ => exact .inl ⟨hd, h'⟩
  | block id c ih =>
    intro QD Q tm w h
    unfold rngV at h
    refine wpIn_block (wpIn_mono (ih h) ?_)
    have hb : ∀ {ds : List Deferred} {Q : Exit → List Value → World → Prop} {e : Exit} {a' : Act} {w' : World}, upD ds (blockQ id Q) e a' w' → ∀ {K : Exit → Act → World → Prop}, (∀ e a w, upD ds Q e a w → K e a w) → Exit.inBlock id K e a' w' := by
      intro ds Q e a' w' ⟨hd, h'⟩ K hK
      cases e with
      | exit id' =>
        unfold blockQ at h'
        unfold Exit.inBlock
        by_cases hi : id' = id
        · subst hi
          simp only [show Nat.beq id' id' = true from Nat.beq_refl id'] at h'
          simp only [if_true]
          exact hK _ _ _ ⟨hd, h'⟩
        · have : Nat.beq id' id = false := by
            cases hn : Nat.beq id' id with
            | false => rfl
            | true => exact absurd (Nat.eq_of_beq_eq_true hn) hi
          simp only [this] at h'
          simp only [hi, if_false]
          exact hK _ _ _ ⟨hd, h'⟩
      | _ => exact hK _ _ _ ⟨hd, h'⟩
    rintro e a' w' (h' | ⟨D, h'⟩)
    · exact hb h' fun e a w h => .inl h
    · exact hb h' fun e a w h => .inr ⟨D, h⟩
  | rangeFunc g ps a b _ _ =>
    intro QD Q tm w h
    unfold rngV at h
    obtain ⟨S, _, h⟩ := IsSome_elim h
    exact rangeV_wp h
  | _ => intro QD Q tm w h; exact h.elim

/-! ### a function -/
def endD (P : Program) (fn : Func) (R : Ending → World → Prop) (D : Nat) : Exit → List Value → World → Prop
  | .normal, tm, w | .ret, tm, w => w.heap[D]? = some (.deferred (some [])) ∧ ∀ w', w' = w.putObj D (.deferred none) → resV P w' tm fn.results.toList fun vs => R (.returned (oneOr vs)) w'
  | _, _, _ => False
def fnM (P : Program) (H : Hints) (f : FuncId) (args : List Value) (w : World) (R : Ending → World → Prop) : Prop :=
  IsSome P.funcs[f]? fun fn => IsSome fn.body fun c => rngV P H c (endD P fn R) (endQ P fn R) (args ++ List.replicate (fn.ntmps - args.length) undef) w
theorem calls_of_fnM (H : Hints) {P : Program} {f : FuncId} {args : List Value} {w : World} {R : Ending → World → Prop} (h : fnM P H f args w R) : Calls P f args.toArray w R := by
  obtain ⟨fn, hf, h⟩ := IsSome_elim h
  obtain ⟨c, hb, h⟩ := IsSome_elim h
  refine (callsIn_wide (n := 2)).1 (callsIn_of_wp_marks hf hb trivial ?_)
  have he : actD [] (args ++ List.replicate (fn.ntmps - args.length) undef) = { tmps := args.toArray ++ Array.replicate (fn.ntmps - args.toArray.size) undef, defers := [] } := by
    simp [actD]
  have h1 := rngV_wp (n := 1) c h
  rw [he] at h1
  refine wpIn_mono h1 ?_
  rintro e a w' (h' | ⟨D, hd, h'⟩)
  · have h2 := endQ_post h'
    obtain ⟨hd, hq⟩ := h'
    cases e with
    | normal => simp only [bodyPostM, hd, LeavesInM, LeavesIn]; exact h2.2
    | ret => simp only [bodyPostM, hd, LeavesInM, LeavesIn]; exact h2.2
    | panic ch => simp only [bodyPostM, hd, LeavesInM, LeavesIn]; exact h2.2
    | exit id => exact h2.elim
    | goto l => exact h2.elim
    | outgrown => exact hq.elim
  · have fin : w'.heap[D]? = some (.deferred (some [])) ∧ (∀ w1, w1 = w'.putObj D (.deferred none) → resV P w1 a.tmps.toList fn.results.toList fun vs => R (.returned (oneOr vs)) w1) → LeavesInM Fence.wide 2 P fn a.tmps R a.defers .returning w' := by
      rintro ⟨hD, hr⟩
      rw [hd]
      refine ⟨by simp, .inl ⟨D, _, rfl, run_takeDeferred hD, ?_⟩⟩
      have h2 : upD [] (endQ P fn R) .ret { a with defers := [] } (w'.putObj D (.deferred none)) := ⟨rfl, hr _ rfl⟩
      exact (endQ_post h2).2
    cases e with
    | normal => exact fin h'
    | ret => exact fin h'
    | _ => exact h'.elim
theorem calls_of_eqM {P : Program} {H : Hints} {f : FuncId} {args : List Value} {w : World} {R : Ending → World → Prop} {X : Prop} (he : fnM P H f args w R = X) (h : X) : Calls P f args.toArray w R := calls_of_fnM H (by rw [he]; exact h)
end Go.Vc

/-
The explicit conditions of some functions of the program, printed by this repo's own program over VcTop: what is proved is that each is the condition.
Conditions: none.
-/
namespace Go.Proofs.Ytjoikaklincfoaa
open Go Go.Vc Go.RowKit
set_option linter.unusedVariables false
set_option maxRecDepth 100000

/- function 44: sacristy/disas.guesses$1 -/
abbrev disas_guesses_1.N : FuncId := 44
def disas_guesses_1.H : Hints := { loops := [(2, [(3, .one (.int .u8))])], conds := [(6015, []), (8021, []), (10027, [])], raw := [10], yields := [(10, 2)] }
def disas_guesses_1.vc (yield' : Value) (c0 : Option Addr) (w : World) (R : Ending → World → Prop) : Prop :=
  ∃ (I : List Value → World → Prop),
  ∃ (μ : List Value → World → Nat),
  I [Value.int IntKind.u8 1] w ∧
  ∀ (g : Nat → Value) (op : Int) (w' : World),
  I [Value.int IntKind.u8 op] w' →
  cnd (decide (op ≤ 34))
  (Deref c0 fun (ad : Addr) =>
  ∃ (n : Int),
  w'.cell? ad = some (Value.int IntKind.u32 n) ∧
  Calls Proofs.Try.prog 45 #[Value.int IntKind.u8 op, Value.int IntKind.u32 n] w'
  fun (e : Ending) (w'_1 : World) =>
  ∃ (n : Int),
  e = Ending.returned (Value.int IntKind.i64 n) ∧
  ∀ (w'_2 : World),
  w'_2 =
  w'_1.alloc
  (Obj.cells
  #[Value.int IntKind.u8 0, Value.int IntKind.u8 0, Value.int IntKind.u8 0,
  Value.int IntKind.u8 0, Value.int IntKind.i64 0]
  39) →
  SetsAt w'_2 (Addr.mk w'_1.heap.size 0 none) 0
  [Value.int IntKind.u8 op, Value.int IntKind.u8 0, Value.int IntKind.u8 0,
  Value.int IntKind.u8 0, Value.int IntKind.i64 n] ∧
  ∀ (w'_3 : World),
  w'_3 =
  setCellsAt w'_2 (Addr.mk w'_1.heap.size 0 none) 0
  [Value.int IntKind.u8 op, Value.int IntKind.u8 0, Value.int IntKind.u8 0,
  Value.int IntKind.u8 0, Value.int IntKind.i64 n] →
  Calls Proofs.Try.prog 46 #[Value.int IntKind.u8 op] w'_3
  fun (e : Ending) (w'_4 : World) =>
  ∃ (b : Bool),
  e = Ending.returned (Value.bool b) ∧
  ∃ (J : List Value → World → Prop),
  cnd b
  (Deref c0 fun (ad : Addr) =>
  ∃ (n : Int),
  w'_4.cell? ad = some (Value.int IntKind.u32 n) ∧
  Calls Proofs.Try.prog 47
  #[Value.int IntKind.u32 n, Value.int IntKind.i64 7,
  Value.int IntKind.i64 5]
  w'_4 fun (e : Ending) (w' : World) =>
  ∃ (n : Int),
  e = Ending.returned (Value.int IntKind.u32 n) ∧
  ((w'.cell? (Addr.mk w'_1.heap.size 1 none)).isSome = true ∧
  w'.frozen? (Addr.mk w'_1.heap.size 1 none) = false) ∧
  ∀ (w'_5 : World),
  w'_5 =
  w'.setCell (Addr.mk w'_1.heap.size 1 none)
  (Value.int IntKind.u8 (IntKind.u8.wrap n)) →
  J [] w'_5)
  (J [] w'_4) ∧
  ∀ (g : Nat → Value) (w'_5 : World),
  J [] w'_5 →
  Calls Proofs.Try.prog 48 #[Value.int IntKind.u8 op] w'_5
  fun (e : Ending) (w'_6 : World) =>
  ∃ (b : Bool),
  e = Ending.returned (Value.bool b) ∧
  ∃ (J : List Value → World → Prop),
  cnd b
  (Deref c0 fun (ad : Addr) =>
  ∃ (n : Int),
  w'_6.cell? ad = some (Value.int IntKind.u32 n) ∧
  Calls Proofs.Try.prog 47
  #[Value.int IntKind.u32 n, Value.int IntKind.i64 15,
  Value.int IntKind.i64 5]
  w'_6 fun (e : Ending) (w' : World) =>
  ∃ (n : Int),
  e = Ending.returned (Value.int IntKind.u32 n) ∧
  ((w'.cell?
  (Addr.mk w'_1.heap.size 2
  none)).isSome =
  true ∧
  w'.frozen? (Addr.mk w'_1.heap.size 2 none) =
  false) ∧
  ∀ (w'_7 : World),
  w'_7 =
  w'.setCell
  (Addr.mk w'_1.heap.size 2 none)
  (Value.int IntKind.u8
  (IntKind.u8.wrap n)) →
  J [] w'_7)
  (J [] w'_6) ∧
  ∀ (g : Nat → Value) (w'_7 : World),
  J [] w'_7 →
  Calls Proofs.Try.prog 49 #[Value.int IntKind.u8 op] w'_7
  fun (e : Ending) (w'_8 : World) =>
  ∃ (b : Bool),
  e = Ending.returned (Value.bool b) ∧
  ∃ (J : List Value → World → Prop),
  cnd b
  (Deref c0 fun (ad : Addr) =>
  ∃ (n : Int),
  w'_8.cell? ad =
  some (Value.int IntKind.u32 n) ∧
  Calls Proofs.Try.prog 47
  #[Value.int IntKind.u32 n,
  Value.int IntKind.i64 20,
  Value.int IntKind.i64 5]
  w'_8 fun (e : Ending) (w' : World) =>
  ∃ (n : Int),
  e =
  Ending.returned
  (Value.int IntKind.u32 n) ∧
  ((w'.cell?
  (Addr.mk w'_1.heap.size
  3 none)).isSome =
  true ∧
  w'.frozen?
  (Addr.mk w'_1.heap.size 3
  none) =
  false) ∧
  ∀ (w'_9 : World),
  w'_9 =
  w'.setCell
  (Addr.mk w'_1.heap.size
  3 none)
  (Value.int IntKind.u8
  (IntKind.u8.wrap n)) →
  J [] w'_9)
  (J [] w'_8) ∧
  ∀ (g : Nat → Value) (w'_9 : World),
  J [] w'_9 →
  ∃ (n : Int),
  ∃ (n_1 : Int),
  ∃ (n_2 : Int),
  ∃ (n_3 : Int),
  ∃ (n_4 : Int),
  (w'_9.cell?
  (Addr.mk w'_1.heap.size 0
  none) =
  some
  (Value.int IntKind.u8 n) ∧
  w'_9.cell?
  (Addr.mk w'_1.heap.size
  1 none) =
  some
  (Value.int IntKind.u8
  n_1) ∧
  w'_9.cell?
  (Addr.mk
  w'_1.heap.size 2
  none) =
  some
  (Value.int IntKind.u8
  n_2) ∧
  w'_9.cell?
  (Addr.mk
  w'_1.heap.size 3
  none) =
  some
  (Value.int
  IntKind.u8 n_3) ∧
  w'_9.cell?
  (Addr.mk
  w'_1.heap.size 4
  none) =
  some
  (Value.int
  IntKind.i64
  n_4) ∧
  True) ∧
  AsYield yield' fun (l : Nat) =>
  YieldC Proofs.Try.prog l
  #[Value.agg
  #[Value.int IntKind.u8
  n,
  Value.int IntKind.u8
  n_1,
  Value.int IntKind.u8
  n_2,
  Value.int IntKind.u8
  n_3,
  Value.int IntKind.i64
  n_4]]
  w'_9
  fun (b : Bool)
  (w'_10 : World) =>
  cnd (!b)
  (R
  (Ending.returned
  (Value.tuple #[]))
  w'_10)
  (Goes I μ
  [Value.int IntKind.u8
  op]
  w'
  [Value.int IntKind.u8
  (IntKind.u8.wrap
  (op + 1))]
  w'_10))
  (R (Ending.returned (Value.tuple #[])) w')
theorem disas_guesses_1.vc_eq (yield' : Value) (c0 : Option Addr) (w : World) (R : Ending → World → Prop) : fnV Try.prog disas_guesses_1.H 44 [yield', Value.pointer c0] w R = disas_guesses_1.vc yield' c0 w R := by kernel_rfl
theorem disas_guesses_1.calls {yield' : Value} {c0 : Option Addr} {w : World} {R : Ending → World → Prop} (h : disas_guesses_1.vc yield' c0 w R) : Calls Try.prog 44 ([yield', Value.pointer c0] : List Value).toArray w R := calls_of_eq (disas_guesses_1.vc_eq yield' c0 w R) h

/- function 31: sacristy/disas.Decode -/
abbrev disas_Decode.N : FuncId := 31
def disas_Decode.H : Hints := { rngs := [(9, [(9, .agg [(.int .u8), (.int .u8), (.int .u8), (.int .u8), (.int .i64)])], [(4, .one .ptr)])] }
def disas_Decode.vc (w' : Int) (w : World) (R : Ending → World → Prop) : Prop :=
  ∀ (w'_1 : World),
  w'_1 = w.alloc (Obj.cells #[Value.int IntKind.u32 w'] 42) →
  ∀ (w' : World),
  w' =
  w'_1.alloc
  (Obj.cells
  #[Value.int IntKind.u8 0, Value.int IntKind.u8 0, Value.int IntKind.u8 0, Value.int IntKind.u8 0,
  Value.int IntKind.i64 0]
  39) →
  ∀ (w'_2 : World),
  w'_2 = w'.alloc (Obj.cells #[Value.int IntKind.i64 0] 29) →
  ∃ (n : Int),
  w'_2.cell? (Addr.mk w.heap.size 0 none) = some (Value.int IntKind.u32 n) ∧
  Calls Proofs.Try.prog 39 #[Value.int IntKind.u32 n] w'_2 fun (e : Ending) (w'_3 : World) =>
  ∃ (v : Value),
  e = Ending.returned v ∧
  AsFn v fun (gf : FuncId) (fi lb : Array Value) =>
  cnd (entersB Proofs.Try.prog gf)
  (fi = #[] ∧
  ∃ (r : Rounds Proofs.Try.prog gf lb w'_3),
  (∀ (x : Fin r.N),
  okV
  [(9,
  Shape.agg
  [Sh.int IntKind.u8, Sh.int IntKind.u8, Sh.int IntKind.u8, Sh.int IntKind.u8,
  Sh.int IntKind.i64])]
  (r.enc x) =
  true) ∧
  (∀ (s9_0 s9_1 s9_2 s9_3 s9_4 : Int) (pre : List (Fin r.N)) (x : Fin r.N) (w1 : World),
  r.enc x =
  [Value.agg
  #[Value.int IntKind.u8 s9_0, Value.int IntKind.u8 s9_1,
  Value.int IntKind.u8 s9_2, Value.int IntKind.u8 s9_3,
  Value.int IntKind.i64 s9_4]] →
  r.I pre w1 →
  ∀ (w' : World),
  w' =
  w1.alloc
  (Obj.cells
  #[Value.int IntKind.u8 0, Value.int IntKind.u8 0,
  Value.int IntKind.u8 0, Value.int IntKind.u8 0,
  Value.int IntKind.i64 0]
  39) →
  SetsAt w' (Addr.mk w1.heap.size 0 none) 0
  [Value.int IntKind.u8 s9_0, Value.int IntKind.u8 s9_1,
  Value.int IntKind.u8 s9_2, Value.int IntKind.u8 s9_3,
  Value.int IntKind.i64 s9_4] ∧
  ∀ (w'_4 : World),
  w'_4 =
  setCellsAt w' (Addr.mk w1.heap.size 0 none) 0
  [Value.int IntKind.u8 s9_0, Value.int IntKind.u8 s9_1,
  Value.int IntKind.u8 s9_2, Value.int IntKind.u8 s9_3,
  Value.int IntKind.i64 s9_4] →
  KeepsFrom w'_3.heap.size w1 w'_4 ∧
  KpS r.Ks w1 w'_4 ∧
  r.I pre w'_4 ∧
  r.Mid x [Value.pointer (some (Addr.mk w1.heap.size 0 none))]
  w'_4) ∧
  (∀ (s9_0 s9_1 s9_2 s9_3 s9_4 : Int) (pre : List (Fin r.N)) (x : Fin r.N),
  r.enc x =
  [Value.agg
  #[Value.int IntKind.u8 s9_0, Value.int IntKind.u8 s9_1,
  Value.int IntKind.u8 s9_2, Value.int IntKind.u8 s9_3,
  Value.int IntKind.i64 s9_4]] →
  pre.length < r.N →
  ∀ (g : Nat → Value) (x_1 : Option Addr) (w'_4 : World),
  r.I pre w'_4 ∧ r.Mid x [Value.pointer x_1] w'_4 →
  Deref x_1 fun (ad : Addr) =>
  ∃ (n : Int),
  ∃ (n_1 : Int),
  ∃ (n_2 : Int),
  ∃ (n_3 : Int),
  ∃ (n_4 : Int),
  (w'_4.cell? ad = some (Value.int IntKind.u8 n) ∧
  w'_4.cell? (ad.add 1) = some (Value.int IntKind.u8 n_1) ∧
  w'_4.cell? (ad.add 2) =
  some (Value.int IntKind.u8 n_2) ∧
  w'_4.cell? (ad.add 3) =
  some (Value.int IntKind.u8 n_3) ∧
  w'_4.cell? (ad.add 4) =
  some (Value.int IntKind.i64 n_4) ∧
  True) ∧
  Calls Proofs.Try.prog 40
  #[Value.agg
  #[Value.int IntKind.u8 n, Value.int IntKind.u8 n_1,
  Value.int IntKind.u8 n_2, Value.int IntKind.u8 n_3,
  Value.int IntKind.i64 n_4]]
  w'_4 fun (e : Ending) (w'_5 : World) =>
  ∃ (n : Int),
  ∃ (n_5 : Int),
  e =
  Ending.returned
  (Value.tuple
  #[Value.int IntKind.u32 n,
  Value.int IntKind.i64 n_5]) ∧
  cnd (n_5 == 0)
  (∃ (n_6 : Int),
  w'_5.cell? (Addr.mk w.heap.size 0 none) =
  some (Value.int IntKind.u32 n_6) ∧
  cnd (n == n_6)
  (Deref x_1 fun (ad : Addr) =>
  ∃ (n : Int),
  ∃ (n_7 : Int),
  ∃ (n_8 : Int),
  ∃ (n_9 : Int),
  ∃ (n_10 : Int),
  (w'_5.cell? ad =
  some
  (Value.int IntKind.u8
  n) ∧
  w'_5.cell? (ad.add 1) =
  some
  (Value.int IntKind.u8
  n_7) ∧
  w'_5.cell? (ad.add 2) =
  some
  (Value.int
  IntKind.u8 n_8) ∧
  w'_5.cell? (ad.add 3) =
  some
  (Value.int
  IntKind.u8
  n_9) ∧
  w'_5.cell?
  (ad.add 4) =
  some
  (Value.int
  IntKind.i64
  n_10) ∧
  True) ∧
  SetsAt w'_5
  (Addr.mk w'_1.heap.size 0
  none)
  0
  [Value.int IntKind.u8 n,
  Value.int IntKind.u8
  n_7,
  Value.int IntKind.u8
  n_8,
  Value.int IntKind.u8
  n_9,
  Value.int IntKind.i64
  n_10] ∧
  ∀ (w'_6 : World),
  w'_6 =
  setCellsAt w'_5
  (Addr.mk
  w'_1.heap.size 0
  none)
  0
  [Value.int
  IntKind.u8 n,
  Value.int
  IntKind.u8 n_7,
  Value.int
  IntKind.u8 n_8,
  Value.int
  IntKind.u8 n_9,
  Value.int
  IntKind.i64
  n_10] →
  ((w'_6.cell?
  (Addr.mk
  w'.heap.size
  0
  none)).isSome =
  true ∧
  w'_6.frozen?
  (Addr.mk
  w'.heap.size 0
  none) =
  false) ∧
  ∀ (w'_7 : World),
  w'_7 =
  w'_6.setCell
  (Addr.mk
  w'.heap.size
  0 none)
  (Value.int
  IntKind.i64
  0) →
  KeepsFrom
  w'_3.heap.size
  w'_4 w'_7 ∧
  r.Ix
  (pre ++ [x])
  w'_7)
  (KeepsFrom w'_3.heap.size w'_4 w'_5 ∧
  KpS r.Ks w'_4 w'_5 ∧
  r.I (pre ++ [x]) w'_5))
  (KeepsFrom w'_3.heap.size w'_4 w'_5 ∧
  KpS r.Ks w'_4 w'_5 ∧ r.I (pre ++ [x]) w'_5)) ∧
  (∀ (D : Nat) (w1 : World),
  w'_3.heap.size ≤ D →
  r.I (List.finRange r.N) w1 →
  w1.heap[D]? = some (Obj.deferred (some [])) →
  SetsAt w1 (Addr.mk w'_1.heap.size 0 none) 0
  [Value.int IntKind.u8 0, Value.int IntKind.u8 0,
  Value.int IntKind.u8 0, Value.int IntKind.u8 0,
  Value.int IntKind.i64 0] ∧
  ∀ (w'_4 : World),
  w'_4 =
  setCellsAt w1 (Addr.mk w'_1.heap.size 0 none) 0
  [Value.int IntKind.u8 0, Value.int IntKind.u8 0,
  Value.int IntKind.u8 0, Value.int IntKind.u8 0,
  Value.int IntKind.i64 0] →
  ((w'_4.cell? (Addr.mk w'.heap.size 0 none)).isSome = true ∧
  w'_4.frozen? (Addr.mk w'.heap.size 0 none) = false) ∧
  ∀ (w'_5 : World),
  w'_5 =
  w'_4.setCell (Addr.mk w'.heap.size 0 none)
  (Value.int IntKind.i64 7) →
  w'_5.heap[D]? = some (Obj.deferred (some [])) ∧
  ∀ (w'_6 : World),
  w'_6 = w'_5.putObj D (Obj.deferred none) →
  ∃ (n : Int),
  ∃ (n_1 : Int),
  ∃ (n_2 : Int),
  ∃ (n_3 : Int),
  ∃ (n_4 : Int),
  (w'_6.cell? (Addr.mk w'_1.heap.size 0 none) =
  some (Value.int IntKind.u8 n) ∧
  w'_6.cell?
  (Addr.mk w'_1.heap.size 1 none) =
  some (Value.int IntKind.u8 n_1) ∧
  w'_6.cell?
  (Addr.mk w'_1.heap.size 2 none) =
  some (Value.int IntKind.u8 n_2) ∧
  w'_6.cell?
  (Addr.mk w'_1.heap.size 3
  none) =
  some (Value.int IntKind.u8 n_3) ∧
  w'_6.cell?
  (Addr.mk w'_1.heap.size 4
  none) =
  some
  (Value.int IntKind.i64 n_4) ∧
  True) ∧
  ∃ (n_5 : Int),
  w'_6.cell? (Addr.mk w'.heap.size 0 none) =
  some (Value.int IntKind.i64 n_5) ∧
  R
  (Ending.returned
  (Value.tuple
  #[Value.agg
  #[Value.int IntKind.u8 n,
  Value.int IntKind.u8 n_1,
  Value.int IntKind.u8 n_2,
  Value.int IntKind.u8 n_3,
  Value.int IntKind.i64 n_4],
  Value.int IntKind.i64 n_5]))
  w'_6) ∧
  ∀ (D : Nat) (pre : List (Fin r.N)) (w1 : World),
  w'_3.heap.size ≤ D →
  (∃ (t : List (Fin r.N)), pre ++ t = List.finRange r.N) →
  r.Ix pre w1 →
  w1.heap[D]? = some (Obj.deferred (some [])) →
  w1.heap[D]? = some (Obj.deferred (some [])) ∧
  ∀ (w'_4 : World),
  w'_4 = w1.putObj D (Obj.deferred none) →
  ∃ (n : Int),
  ∃ (n_1 : Int),
  ∃ (n_2 : Int),
  ∃ (n_3 : Int),
  ∃ (n_4 : Int),
  (w'_4.cell? (Addr.mk w'_1.heap.size 0 none) =
  some (Value.int IntKind.u8 n) ∧
  w'_4.cell? (Addr.mk w'_1.heap.size 1 none) =
  some (Value.int IntKind.u8 n_1) ∧
  w'_4.cell? (Addr.mk w'_1.heap.size 2 none) =
  some (Value.int IntKind.u8 n_2) ∧
  w'_4.cell? (Addr.mk w'_1.heap.size 3 none) =
  some (Value.int IntKind.u8 n_3) ∧
  w'_4.cell? (Addr.mk w'_1.heap.size 4 none) =
  some (Value.int IntKind.i64 n_4) ∧
  True) ∧
  ∃ (n_5 : Int),
  w'_4.cell? (Addr.mk w'.heap.size 0 none) =
  some (Value.int IntKind.i64 n_5) ∧
  R
  (Ending.returned
  (Value.tuple
  #[Value.agg
  #[Value.int IntKind.u8 n,
  Value.int IntKind.u8 n_1,
  Value.int IntKind.u8 n_2,
  Value.int IntKind.u8 n_3,
  Value.int IntKind.i64 n_4],
  Value.int IntKind.i64 n_5]))
  w'_4)
  False
theorem disas_Decode.vc_eq (w' : Int) (w : World) (R : Ending → World → Prop) : fnM Try.prog disas_Decode.H 31 [Value.int IntKind.u32 w'] w R = disas_Decode.vc w' w R := by kernel_rfl
theorem disas_Decode.calls {w' : Int} {w : World} {R : Ending → World → Prop} (h : disas_Decode.vc w' w R) : Calls Try.prog 31 ([Value.int IntKind.u32 w'] : List Value).toArray w R := calls_of_eqM (disas_Decode.vc_eq w' w R) h

end Go.Proofs.Ytjoikaklincfoaa

/-
The explicit conditions of some functions of the program, printed by this repo's own program over VcTop: what is proved is that each is the condition.
Conditions: none.
-/
namespace Go.Proofs.Ytjoikaklincfoaa
open Go Go.Vc Go.RowKit
set_option linter.unusedVariables false
set_option maxRecDepth 100000

/- function 47: sacristy/disas.field -/
abbrev disas_field.N : FuncId := 47
def disas_field.H : Hints := {  }
def disas_field.vc (w' : Int) (at' : Int) (n' : Int) (w : World) (R : Ending → World → Prop) : Prop :=
  cnd (decide (at' < 0)) False
  (cnd (decide (n' < 0)) False
  (∀ (w'_1 : World),
  Later w w'_1 →
  R
  (Ending.returned
  (Value.int IntKind.u32
  (bits BinOp.and IntKind.u32 (w'.fdiv (2 ^ min at'.toNat 32))
  (IntKind.u32.wrap (IntKind.u32.wrap (1 * 2 ^ min n'.toNat 32) - 1)))))
  w'_1))
theorem disas_field.vc_eq (w' : Int) (at' : Int) (n' : Int) (w : World) (R : Ending → World → Prop) : fnV Try.prog disas_field.H 47 [Value.int IntKind.u32 w', Value.int IntKind.i64 at', Value.int IntKind.i64 n'] w R = disas_field.vc w' at' n' w R := by kernel_rfl
theorem disas_field.calls {w' : Int} {at' : Int} {n' : Int} {w : World} {R : Ending → World → Prop} (h : disas_field.vc w' at' n' w R) : Calls Try.prog 47 ([Value.int IntKind.u32 w', Value.int IntKind.i64 at', Value.int IntKind.i64 n'] : List Value).toArray w R := calls_of_eq (disas_field.vc_eq w' at' n' w R) h

/- function 53: sacristy/disas.signed -/
abbrev disas_signed.N : FuncId := 53
def disas_signed.H : Hints := {  }
def disas_signed.vc (v' : Int) (bits' : Int) (w : World) (R : Ending → World → Prop) : Prop :=
  Calls Proofs.Try.prog 62 #[Value.int IntKind.u64 (IntKind.u64.wrap v'), Value.int IntKind.i64 bits'] w
  fun (e : Ending) (w' : World) =>
  ∃ (n : Int),
  ∃ (n_1 : Int),
  e = Ending.returned (Value.tuple #[Value.int IntKind.u64 n, Value.int IntKind.i64 n_1]) ∧
  R (Ending.returned (Value.int IntKind.i64 (IntKind.i64.wrap n))) w'
theorem disas_signed.vc_eq (v' : Int) (bits' : Int) (w : World) (R : Ending → World → Prop) : fnV Try.prog disas_signed.H 53 [Value.int IntKind.u32 v', Value.int IntKind.i64 bits'] w R = disas_signed.vc v' bits' w R := by kernel_rfl
theorem disas_signed.calls {v' : Int} {bits' : Int} {w : World} {R : Ending → World → Prop} (h : disas_signed.vc v' bits' w R) : Calls Try.prog 53 ([Value.int IntKind.u32 v', Value.int IntKind.i64 bits'] : List Value).toArray w R := calls_of_eq (disas_signed.vc_eq v' bits' w R) h

/- function 46: sacristy/disas.hasRd -/
abbrev disas_hasRd.N : FuncId := 46
def disas_hasRd.H : Hints := {  }
def disas_hasRd.vc (op' : Int) (w : World) (R : Ending → World → Prop) : Prop :=
  cnd (op' == 26) (cnd (op' == 26) (R (Ending.returned (Value.bool false)) w) (R (Ending.returned (Value.bool true)) w))
  (cnd (op' == 27)
  (cnd (op' == 27) (R (Ending.returned (Value.bool false)) w) (R (Ending.returned (Value.bool true)) w))
  (cnd (op' == 28)
  (cnd (op' == 28) (R (Ending.returned (Value.bool false)) w) (R (Ending.returned (Value.bool true)) w))
  (cnd (op' == 29)
  (cnd (op' == 29) (R (Ending.returned (Value.bool false)) w) (R (Ending.returned (Value.bool true)) w))
  (cnd (op' == 30)
  (cnd (op' == 30) (R (Ending.returned (Value.bool false)) w) (R (Ending.returned (Value.bool true)) w))
  (cnd (op' == 31)
  (cnd (op' == 31) (R (Ending.returned (Value.bool false)) w) (R (Ending.returned (Value.bool true)) w))
  (cnd (op' == 34) (R (Ending.returned (Value.bool false)) w) (R (Ending.returned (Value.bool true)) w)))))))
theorem disas_hasRd.vc_eq (op' : Int) (w : World) (R : Ending → World → Prop) : fnV Try.prog disas_hasRd.H 46 [Value.int IntKind.u8 op'] w R = disas_hasRd.vc op' w R := by kernel_rfl
theorem disas_hasRd.calls {op' : Int} {w : World} {R : Ending → World → Prop} (h : disas_hasRd.vc op' w R) : Calls Try.prog 46 ([Value.int IntKind.u8 op'] : List Value).toArray w R := calls_of_eq (disas_hasRd.vc_eq op' w R) h

/- function 48: sacristy/disas.hasRs1 -/
abbrev disas_hasRs1.N : FuncId := 48
def disas_hasRs1.H : Hints := {  }
def disas_hasRs1.vc (op' : Int) (w : World) (R : Ending → World → Prop) : Prop :=
  cnd (op' != 23)
  (cnd (op' != 32) (R (Ending.returned (Value.bool (op' != 34))) w) (R (Ending.returned (Value.bool false)) w))
  (R (Ending.returned (Value.bool false)) w)
theorem disas_hasRs1.vc_eq (op' : Int) (w : World) (R : Ending → World → Prop) : fnV Try.prog disas_hasRs1.H 48 [Value.int IntKind.u8 op'] w R = disas_hasRs1.vc op' w R := by kernel_rfl
theorem disas_hasRs1.calls {op' : Int} {w : World} {R : Ending → World → Prop} (h : disas_hasRs1.vc op' w R) : Calls Try.prog 48 ([Value.int IntKind.u8 op'] : List Value).toArray w R := calls_of_eq (disas_hasRs1.vc_eq op' w R) h

/- function 49: sacristy/disas.hasRs2 -/
abbrev disas_hasRs2.N : FuncId := 49
def disas_hasRs2.H : Hints := {  }
def disas_hasRs2.vc (op' : Int) (w : World) (R : Ending → World → Prop) : Prop :=
  cnd (decide (op' ≤ 14)) (R (Ending.returned (Value.bool true)) w)
  (cnd (op' == 26) (R (Ending.returned (Value.bool true)) w)
  (cnd (op' == 27) (R (Ending.returned (Value.bool true)) w)
  (cnd (decide (op' ≥ 28)) (R (Ending.returned (Value.bool (decide (op' ≤ 31)))) w)
  (R (Ending.returned (Value.bool false)) w))))
theorem disas_hasRs2.vc_eq (op' : Int) (w : World) (R : Ending → World → Prop) : fnV Try.prog disas_hasRs2.H 49 [Value.int IntKind.u8 op'] w R = disas_hasRs2.vc op' w R := by kernel_rfl
theorem disas_hasRs2.calls {op' : Int} {w : World} {R : Ending → World → Prop} (h : disas_hasRs2.vc op' w R) : Calls Try.prog 49 ([Value.int IntKind.u8 op'] : List Value).toArray w R := calls_of_eq (disas_hasRs2.vc_eq op' w R) h

/- function 39: sacristy/disas.guesses -/
abbrev disas_guesses.N : FuncId := 39
def disas_guesses.H : Hints := {  }
def disas_guesses.vc (w' : Int) (w : World) (R : Ending → World → Prop) : Prop :=
  ∀ (w'_1 : World),
  w'_1 = w.alloc (Obj.cells #[Value.int IntKind.u32 w'] 42) →
  R (Ending.returned (Value.func (Fn.func 44) #[] #[Value.pointer (some (Addr.mk w.heap.size 0 none))])) w'_1
theorem disas_guesses.vc_eq (w' : Int) (w : World) (R : Ending → World → Prop) : fnV Try.prog disas_guesses.H 39 [Value.int IntKind.u32 w'] w R = disas_guesses.vc w' w R := by kernel_rfl
theorem disas_guesses.calls {w' : Int} {w : World} {R : Ending → World → Prop} (h : disas_guesses.vc w' w R) : Calls Try.prog 39 ([Value.int IntKind.u32 w'] : List Value).toArray w R := calls_of_eq (disas_guesses.vc_eq w' w R) h

end Go.Proofs.Ytjoikaklincfoaa

/-
The explicit conditions of some functions of the program, printed by this repo's own program over VcTop: what is proved is that each is the condition.
Conditions: none.
-/
namespace Go.Proofs.Ytjoikaklincfoaa
open Go Go.Vc Go.RowKit
set_option linter.unusedVariables false
set_option maxRecDepth 100000

/- function 45: sacristy/disas.number -/
abbrev disas_number.N : FuncId := 45
def disas_number.H : Hints := { conds := [(4006, [(6, .one .bool)]), (9012, [(12, .one .bool)]), (12016, [(16, .one .bool)]), (16022, [(22, .one .bool)]), (18025, [(25, .one .bool)])] }
def disas_number.vc (op' : Int) (w' : Int) (w : World) (R : Ending → World → Prop) : Prop :=
  ∃ (J : List Value → World → Prop),
  cnd (op' == 15) (J [Value.bool (op' == 15)] w)
  (cnd (op' == 16) (J [Value.bool (op' == 16)] w)
  (cnd (op' == 17) (J [Value.bool (op' == 17)] w)
  (cnd (op' == 18) (J [Value.bool (op' == 18)] w) (J [Value.bool (op' == 19)] w)))) ∧
  ∀ (g : Nat → Value) (s6 : Bool) (w'_1 : World),
  J [Value.bool s6] w'_1 →
  cnd s6
  (Calls Proofs.Try.prog 47 #[Value.int IntKind.u32 w', Value.int IntKind.i64 20, Value.int IntKind.i64 12] w'_1
  fun (e : Ending) (w' : World) =>
  ∃ (n : Int),
  e = Ending.returned (Value.int IntKind.u32 n) ∧
  Calls Proofs.Try.prog 53 #[Value.int IntKind.u32 n, Value.int IntKind.i64 12] w'
  fun (e : Ending) (w' : World) =>
  ∃ (n : Int),
  e = Ending.returned (Value.int IntKind.i64 n) ∧ R (Ending.returned (Value.int IntKind.i64 n)) w')
  (∃ (J : List Value → World → Prop),
  cnd (op' == 24) (J [Value.bool (op' == 24)] w'_1)
  (cnd (op' == 25) (J [Value.bool (op' == 25)] w'_1) (J [Value.bool (op' == 33)] w'_1)) ∧
  ∀ (g : Nat → Value) (s12 : Bool) (w'_2 : World),
  J [Value.bool s12] w'_2 →
  cnd s12
  (Calls Proofs.Try.prog 47
  #[Value.int IntKind.u32 w', Value.int IntKind.i64 20, Value.int IntKind.i64 12] w'_2
  fun (e : Ending) (w' : World) =>
  ∃ (n : Int),
  e = Ending.returned (Value.int IntKind.u32 n) ∧
  Calls Proofs.Try.prog 53 #[Value.int IntKind.u32 n, Value.int IntKind.i64 12] w'
  fun (e : Ending) (w' : World) =>
  ∃ (n : Int),
  e = Ending.returned (Value.int IntKind.i64 n) ∧
  R (Ending.returned (Value.int IntKind.i64 n)) w')
  (∃ (J : List Value → World → Prop),
  cnd (op' == 20) (J [Value.bool (op' == 20)] w'_2)
  (cnd (op' == 21) (J [Value.bool (op' == 21)] w'_2) (J [Value.bool (op' == 22)] w'_2)) ∧
  ∀ (g : Nat → Value) (s16 : Bool) (w'_3 : World),
  J [Value.bool s16] w'_3 →
  cnd s16
  (Calls Proofs.Try.prog 47
  #[Value.int IntKind.u32 w', Value.int IntKind.i64 20, Value.int IntKind.i64 6] w'_3
  fun (e : Ending) (w' : World) =>
  ∃ (n : Int),
  e = Ending.returned (Value.int IntKind.u32 n) ∧
  R (Ending.returned (Value.int IntKind.i64 (IntKind.i64.wrap n))) w')
  (cnd (op' == 23)
  (Calls Proofs.Try.prog 53
  #[Value.int IntKind.u32 (bits BinOp.andNot IntKind.u32 w' 4095),
  Value.int IntKind.i64 32]
  w'_3 fun (e : Ending) (w' : World) =>
  ∃ (n : Int),
  e = Ending.returned (Value.int IntKind.i64 n) ∧
  R (Ending.returned (Value.int IntKind.i64 n)) w')
  (∃ (J : List Value → World → Prop),
  cnd (op' == 26) (J [Value.bool (op' == 26)] w'_3) (J [Value.bool (op' == 27)] w'_3) ∧
  ∀ (g : Nat → Value) (s22 : Bool) (w'_4 : World),
  J [Value.bool s22] w'_4 →
  cnd s22
  (Calls Proofs.Try.prog 47
  #[Value.int IntKind.u32 w', Value.int IntKind.i64 25,
  Value.int IntKind.i64 7]
  w'_4 fun (e : Ending) (w'_5 : World) =>
  ∃ (n : Int),
  e = Ending.returned (Value.int IntKind.u32 n) ∧
  Calls Proofs.Try.prog 47
  #[Value.int IntKind.u32 w', Value.int IntKind.i64 7,
  Value.int IntKind.i64 5]
  w'_5 fun (e : Ending) (w' : World) =>
  ∃ (n_1 : Int),
  e = Ending.returned (Value.int IntKind.u32 n_1) ∧
  Calls Proofs.Try.prog 53
  #[Value.int IntKind.u32
  (bits BinOp.or IntKind.u32 (IntKind.u32.wrap (n * 32)) n_1),
  Value.int IntKind.i64 12]
  w' fun (e : Ending) (w' : World) =>
  ∃ (n : Int),
  e = Ending.returned (Value.int IntKind.i64 n) ∧
  R (Ending.returned (Value.int IntKind.i64 n)) w')
  (∃ (J : List Value → World → Prop),
  cnd (op' == 28) (J [Value.bool (op' == 28)] w'_4)
  (cnd (op' == 29) (J [Value.bool (op' == 29)] w'_4)
  (cnd (op' == 30) (J [Value.bool (op' == 30)] w'_4)
  (J [Value.bool (op' == 31)] w'_4))) ∧
  ∀ (g : Nat → Value) (s25 : Bool) (w'_5 : World),
  J [Value.bool s25] w'_5 →
  cnd s25
  (Calls Proofs.Try.prog 47
  #[Value.int IntKind.u32 w', Value.int IntKind.i64 8,
  Value.int IntKind.i64 4]
  w'_5 fun (e : Ending) (w'_6 : World) =>
  ∃ (n : Int),
  e = Ending.returned (Value.int IntKind.u32 n) ∧
  Calls Proofs.Try.prog 47
  #[Value.int IntKind.u32 w', Value.int IntKind.i64 25,
  Value.int IntKind.i64 6]
  w'_6 fun (e : Ending) (w'_7 : World) =>
  ∃ (n_1 : Int),
  e = Ending.returned (Value.int IntKind.u32 n_1) ∧
  Calls Proofs.Try.prog 47
  #[Value.int IntKind.u32 w', Value.int IntKind.i64 7,
  Value.int IntKind.i64 1]
  w'_7 fun (e : Ending) (w'_8 : World) =>
  ∃ (n_2 : Int),
  e = Ending.returned (Value.int IntKind.u32 n_2) ∧
  Calls Proofs.Try.prog 47
  #[Value.int IntKind.u32 w',
  Value.int IntKind.i64 31,
  Value.int IntKind.i64 1]
  w'_8 fun (e : Ending) (w' : World) =>
  ∃ (n_3 : Int),
  e =
  Ending.returned
  (Value.int IntKind.u32 n_3) ∧
  Calls Proofs.Try.prog 53
  #[Value.int IntKind.u32
  (bits BinOp.or IntKind.u32
  (bits BinOp.or IntKind.u32
  (bits BinOp.or IntKind.u32
  (IntKind.u32.wrap (n * 2))
  (IntKind.u32.wrap (n_1 * 32)))
  (IntKind.u32.wrap (n_2 * 2048)))
  (IntKind.u32.wrap (n_3 * 4096))),
  Value.int IntKind.i64 13]
  w' fun (e : Ending) (w' : World) =>
  ∃ (n : Int),
  e =
  Ending.returned
  (Value.int IntKind.i64 n) ∧
  R
  (Ending.returned
  (Value.int IntKind.i64 n))
  w')
  (cnd (op' == 32)
  (Calls Proofs.Try.prog 47
  #[Value.int IntKind.u32 w', Value.int IntKind.i64 21,
  Value.int IntKind.i64 10]
  w'_5 fun (e : Ending) (w'_6 : World) =>
  ∃ (n : Int),
  e = Ending.returned (Value.int IntKind.u32 n) ∧
  Calls Proofs.Try.prog 47
  #[Value.int IntKind.u32 w', Value.int IntKind.i64 20,
  Value.int IntKind.i64 1]
  w'_6 fun (e : Ending) (w'_7 : World) =>
  ∃ (n_1 : Int),
  e = Ending.returned (Value.int IntKind.u32 n_1) ∧
  Calls Proofs.Try.prog 47
  #[Value.int IntKind.u32 w',
  Value.int IntKind.i64 12, Value.int IntKind.i64 8]
  w'_7 fun (e : Ending) (w'_8 : World) =>
  ∃ (n_2 : Int),
  e = Ending.returned (Value.int IntKind.u32 n_2) ∧
  Calls Proofs.Try.prog 47
  #[Value.int IntKind.u32 w',
  Value.int IntKind.i64 31,
  Value.int IntKind.i64 1]
  w'_8 fun (e : Ending) (w' : World) =>
  ∃ (n_3 : Int),
  e =
  Ending.returned
  (Value.int IntKind.u32 n_3) ∧
  Calls Proofs.Try.prog 53
  #[Value.int IntKind.u32
  (bits BinOp.or IntKind.u32
  (bits BinOp.or IntKind.u32
  (bits BinOp.or IntKind.u32
  (IntKind.u32.wrap (n * 2))
  (IntKind.u32.wrap
  (n_1 * 2048)))
  (IntKind.u32.wrap (n_2 * 4096)))
  (IntKind.u32.wrap
  (n_3 * 1048576))),
  Value.int IntKind.i64 21]
  w' fun (e : Ending) (w' : World) =>
  ∃ (n : Int),
  e =
  Ending.returned
  (Value.int IntKind.i64 n) ∧
  R
  (Ending.returned
  (Value.int IntKind.i64 n))
  w')
  (R (Ending.returned (Value.int IntKind.i64 0)) w'_5)))))))
theorem disas_number.vc_eq (op' : Int) (w' : Int) (w : World) (R : Ending → World → Prop) : fnV Try.prog disas_number.H 45 [Value.int IntKind.u8 op', Value.int IntKind.u32 w'] w R = disas_number.vc op' w' w R := by kernel_rfl
theorem disas_number.calls {op' : Int} {w' : Int} {w : World} {R : Ending → World → Prop} (h : disas_number.vc op' w' w R) : Calls Try.prog 45 ([Value.int IntKind.u8 op', Value.int IntKind.u32 w'] : List Value).toArray w R := calls_of_eq (disas_number.vc_eq op' w' w R) h

end Go.Proofs.Ytjoikaklincfoaa

/-
The explicit conditions of some functions of the program, printed by this repo's own program over VcTop: what is proved is that each is the condition.
Conditions: none.
-/
namespace Go.Proofs.Ytjoikaklincfoaa
open Go Go.Vc Go.RowKit
set_option linter.unusedVariables false
set_option maxRecDepth 100000

/- function 54: sacristy/insn.two -/
abbrev insn_two.N : FuncId := 54
def insn_two.H : Hints := {  }
def insn_two.vc (w : World) (R : Ending → World → Prop) : Prop :=
  ∀ (w' : World),
  w' =
  w.alloc
  (Obj.cells
  #[Value.bool false, Value.bool false, Value.bool false, Value.int IntKind.i64 0, Value.int IntKind.i64 0,
  Value.slice none 0 0]
  91) →
  SetsAt w' (Addr.mk w.heap.size 0 none) 0
  [Value.bool true, Value.bool true, Value.bool true, Value.int IntKind.i64 0, Value.int IntKind.i64 0,
  Value.slice none 0 0] ∧
  ∀ (w'_1 : World),
  w'_1 =
  setCellsAt w' (Addr.mk w.heap.size 0 none) 0
  [Value.bool true, Value.bool true, Value.bool true, Value.int IntKind.i64 0, Value.int IntKind.i64 0,
  Value.slice none 0 0] →
  ∃ (b : Bool),
  ∃ (b_1 : Bool),
  ∃ (b_2 : Bool),
  ∃ (n : Int),
  ∃ (n_1 : Int),
  ∃ (p : Option Addr),
  ∃ (n_2 : Nat),
  ∃ (c : Nat),
  (w'_1.cell? (Addr.mk w.heap.size 0 none) = some (Value.bool b) ∧
  w'_1.cell? (Addr.mk w.heap.size 1 none) = some (Value.bool b_1) ∧
  w'_1.cell? (Addr.mk w.heap.size 2 none) = some (Value.bool b_2) ∧
  w'_1.cell? (Addr.mk w.heap.size 3 none) = some (Value.int IntKind.i64 n) ∧
  w'_1.cell? (Addr.mk w.heap.size 4 none) = some (Value.int IntKind.i64 n_1) ∧
  w'_1.cell? (Addr.mk w.heap.size 5 none) = some (Value.slice p n_2 c) ∧ True) ∧
  R
  (Ending.returned
  (Value.agg
  #[Value.bool b, Value.bool b_1, Value.bool b_2, Value.int IntKind.i64 n,
  Value.int IntKind.i64 n_1, Value.slice p n_2 c]))
  w'_1
theorem insn_two.vc_eq (w : World) (R : Ending → World → Prop) : fnV Try.prog insn_two.H 54 [] w R = insn_two.vc w R := by kernel_rfl
theorem insn_two.calls {w : World} {R : Ending → World → Prop} (h : insn_two.vc w R) : Calls Try.prog 54 ([] : List Value).toArray w R := calls_of_eq (insn_two.vc_eq w R) h

/- function 55: sacristy/insn.number -/
abbrev insn_number.N : FuncId := 55
def insn_number.H : Hints := {  }
def insn_number.vc (w : World) (R : Ending → World → Prop) : Prop :=
  ∀ (w' : World),
  w' =
  w.alloc
  (Obj.cells
  #[Value.bool false, Value.bool false, Value.bool false, Value.int IntKind.i64 0, Value.int IntKind.i64 0,
  Value.slice none 0 0]
  91) →
  ∀ (w'_1 : World),
  w'_1 = w'.alloc (Obj.cells #[Value.int IntKind.i64 0, Value.int IntKind.i64 11, Value.int IntKind.i64 20] 99) →
  SetsAt w'_1 (Addr.mk w.heap.size 0 none) 0
  [Value.bool true, Value.bool true, Value.bool false, Value.int IntKind.i64 12, Value.int IntKind.i64 0,
  Value.slice (some (Addr.mk w'.heap.size 0 none)) 1 1] ∧
  ∀ (w'_2 : World),
  w'_2 =
  setCellsAt w'_1 (Addr.mk w.heap.size 0 none) 0
  [Value.bool true, Value.bool true, Value.bool false, Value.int IntKind.i64 12,
  Value.int IntKind.i64 0, Value.slice (some (Addr.mk w'.heap.size 0 none)) 1 1] →
  ∃ (b : Bool),
  ∃ (b_1 : Bool),
  ∃ (b_2 : Bool),
  ∃ (n : Int),
  ∃ (n_1 : Int),
  ∃ (p : Option Addr),
  ∃ (n_2 : Nat),
  ∃ (c : Nat),
  (w'_2.cell? (Addr.mk w.heap.size 0 none) = some (Value.bool b) ∧
  w'_2.cell? (Addr.mk w.heap.size 1 none) = some (Value.bool b_1) ∧
  w'_2.cell? (Addr.mk w.heap.size 2 none) = some (Value.bool b_2) ∧
  w'_2.cell? (Addr.mk w.heap.size 3 none) = some (Value.int IntKind.i64 n) ∧
  w'_2.cell? (Addr.mk w.heap.size 4 none) = some (Value.int IntKind.i64 n_1) ∧
  w'_2.cell? (Addr.mk w.heap.size 5 none) = some (Value.slice p n_2 c) ∧ True) ∧
  R
  (Ending.returned
  (Value.agg
  #[Value.bool b, Value.bool b_1, Value.bool b_2, Value.int IntKind.i64 n,
  Value.int IntKind.i64 n_1, Value.slice p n_2 c]))
  w'_2
theorem insn_number.vc_eq (w : World) (R : Ending → World → Prop) : fnV Try.prog insn_number.H 55 [] w R = insn_number.vc w R := by kernel_rfl
theorem insn_number.calls {w : World} {R : Ending → World → Prop} (h : insn_number.vc w R) : Calls Try.prog 55 ([] : List Value).toArray w R := calls_of_eq (insn_number.vc_eq w R) h

/- function 56: sacristy/insn.shift -/
abbrev insn_shift.N : FuncId := 56
def insn_shift.H : Hints := {  }
def insn_shift.vc (w : World) (R : Ending → World → Prop) : Prop :=
  ∀ (w' : World),
  w' =
  w.alloc
  (Obj.cells
  #[Value.bool false, Value.bool false, Value.bool false, Value.int IntKind.i64 0, Value.int IntKind.i64 0,
  Value.slice none 0 0]
  91) →
  ∀ (w'_1 : World),
  w'_1 = w'.alloc (Obj.cells #[Value.int IntKind.i64 0, Value.int IntKind.i64 5, Value.int IntKind.i64 20] 99) →
  SetsAt w'_1 (Addr.mk w.heap.size 0 none) 0
  [Value.bool true, Value.bool true, Value.bool false, Value.int IntKind.i64 (-1), Value.int IntKind.i64 0,
  Value.slice (some (Addr.mk w'.heap.size 0 none)) 1 1] ∧
  ∀ (w'_2 : World),
  w'_2 =
  setCellsAt w'_1 (Addr.mk w.heap.size 0 none) 0
  [Value.bool true, Value.bool true, Value.bool false, Value.int IntKind.i64 (-1),
  Value.int IntKind.i64 0, Value.slice (some (Addr.mk w'.heap.size 0 none)) 1 1] →
  ∃ (b : Bool),
  ∃ (b_1 : Bool),
  ∃ (b_2 : Bool),
  ∃ (n : Int),
  ∃ (n_1 : Int),
  ∃ (p : Option Addr),
  ∃ (n_2 : Nat),
  ∃ (c : Nat),
  (w'_2.cell? (Addr.mk w.heap.size 0 none) = some (Value.bool b) ∧
  w'_2.cell? (Addr.mk w.heap.size 1 none) = some (Value.bool b_1) ∧
  w'_2.cell? (Addr.mk w.heap.size 2 none) = some (Value.bool b_2) ∧
  w'_2.cell? (Addr.mk w.heap.size 3 none) = some (Value.int IntKind.i64 n) ∧
  w'_2.cell? (Addr.mk w.heap.size 4 none) = some (Value.int IntKind.i64 n_1) ∧
  w'_2.cell? (Addr.mk w.heap.size 5 none) = some (Value.slice p n_2 c) ∧ True) ∧
  R
  (Ending.returned
  (Value.agg
  #[Value.bool b, Value.bool b_1, Value.bool b_2, Value.int IntKind.i64 n,
  Value.int IntKind.i64 n_1, Value.slice p n_2 c]))
  w'_2
theorem insn_shift.vc_eq (w : World) (R : Ending → World → Prop) : fnV Try.prog insn_shift.H 56 [] w R = insn_shift.vc w R := by kernel_rfl
theorem insn_shift.calls {w : World} {R : Ending → World → Prop} (h : insn_shift.vc w R) : Calls Try.prog 56 ([] : List Value).toArray w R := calls_of_eq (insn_shift.vc_eq w R) h

/- function 57: sacristy/insn.large -/
abbrev insn_large.N : FuncId := 57
def insn_large.H : Hints := {  }
def insn_large.vc (w : World) (R : Ending → World → Prop) : Prop :=
  ∀ (w' : World),
  w' =
  w.alloc
  (Obj.cells
  #[Value.bool false, Value.bool false, Value.bool false, Value.int IntKind.i64 0, Value.int IntKind.i64 0,
  Value.slice none 0 0]
  91) →
  ∀ (w'_1 : World),
  w'_1 = w'.alloc (Obj.cells #[Value.int IntKind.i64 12, Value.int IntKind.i64 31, Value.int IntKind.i64 12] 99) →
  SetsAt w'_1 (Addr.mk w.heap.size 0 none) 0
  [Value.bool true, Value.bool false, Value.bool false, Value.int IntKind.i64 32, Value.int IntKind.i64 4096,
  Value.slice (some (Addr.mk w'.heap.size 0 none)) 1 1] ∧
  ∀ (w'_2 : World),
  w'_2 =
  setCellsAt w'_1 (Addr.mk w.heap.size 0 none) 0
  [Value.bool true, Value.bool false, Value.bool false, Value.int IntKind.i64 32,
  Value.int IntKind.i64 4096, Value.slice (some (Addr.mk w'.heap.size 0 none)) 1 1] →
  ∃ (b : Bool),
  ∃ (b_1 : Bool),
  ∃ (b_2 : Bool),
  ∃ (n : Int),
  ∃ (n_1 : Int),
  ∃ (p : Option Addr),
  ∃ (n_2 : Nat),
  ∃ (c : Nat),
  (w'_2.cell? (Addr.mk w.heap.size 0 none) = some (Value.bool b) ∧
  w'_2.cell? (Addr.mk w.heap.size 1 none) = some (Value.bool b_1) ∧
  w'_2.cell? (Addr.mk w.heap.size 2 none) = some (Value.bool b_2) ∧
  w'_2.cell? (Addr.mk w.heap.size 3 none) = some (Value.int IntKind.i64 n) ∧
  w'_2.cell? (Addr.mk w.heap.size 4 none) = some (Value.int IntKind.i64 n_1) ∧
  w'_2.cell? (Addr.mk w.heap.size 5 none) = some (Value.slice p n_2 c) ∧ True) ∧
  R
  (Ending.returned
  (Value.agg
  #[Value.bool b, Value.bool b_1, Value.bool b_2, Value.int IntKind.i64 n,
  Value.int IntKind.i64 n_1, Value.slice p n_2 c]))
  w'_2
theorem insn_large.vc_eq (w : World) (R : Ending → World → Prop) : fnV Try.prog insn_large.H 57 [] w R = insn_large.vc w R := by kernel_rfl
theorem insn_large.calls {w : World} {R : Ending → World → Prop} (h : insn_large.vc w R) : Calls Try.prog 57 ([] : List Value).toArray w R := calls_of_eq (insn_large.vc_eq w R) h

/- function 58: sacristy/insn.store -/
abbrev insn_store.N : FuncId := 58
def insn_store.H : Hints := {  }
def insn_store.vc (w : World) (R : Ending → World → Prop) : Prop :=
  ∀ (w' : World),
  w' =
  w.alloc
  (Obj.cells
  #[Value.bool false, Value.bool false, Value.bool false, Value.int IntKind.i64 0, Value.int IntKind.i64 0,
  Value.slice none 0 0]
  91) →
  ∀ (w'_1 : World),
  w'_1 =
  w'.alloc
  (Obj.cells
  #[Value.int IntKind.i64 0, Value.int IntKind.i64 4, Value.int IntKind.i64 7, Value.int IntKind.i64 5,
  Value.int IntKind.i64 11, Value.int IntKind.i64 25]
  99) →
  SetsAt w'_1 (Addr.mk w.heap.size 0 none) 0
  [Value.bool false, Value.bool true, Value.bool true, Value.int IntKind.i64 12, Value.int IntKind.i64 0,
  Value.slice (some (Addr.mk w'.heap.size 0 none)) 2 2] ∧
  ∀ (w'_2 : World),
  w'_2 =
  setCellsAt w'_1 (Addr.mk w.heap.size 0 none) 0
  [Value.bool false, Value.bool true, Value.bool true, Value.int IntKind.i64 12,
  Value.int IntKind.i64 0, Value.slice (some (Addr.mk w'.heap.size 0 none)) 2 2] →
  ∃ (b : Bool),
  ∃ (b_1 : Bool),
  ∃ (b_2 : Bool),
  ∃ (n : Int),
  ∃ (n_1 : Int),
  ∃ (p : Option Addr),
  ∃ (n_2 : Nat),
  ∃ (c : Nat),
  (w'_2.cell? (Addr.mk w.heap.size 0 none) = some (Value.bool b) ∧
  w'_2.cell? (Addr.mk w.heap.size 1 none) = some (Value.bool b_1) ∧
  w'_2.cell? (Addr.mk w.heap.size 2 none) = some (Value.bool b_2) ∧
  w'_2.cell? (Addr.mk w.heap.size 3 none) = some (Value.int IntKind.i64 n) ∧
  w'_2.cell? (Addr.mk w.heap.size 4 none) = some (Value.int IntKind.i64 n_1) ∧
  w'_2.cell? (Addr.mk w.heap.size 5 none) = some (Value.slice p n_2 c) ∧ True) ∧
  R
  (Ending.returned
  (Value.agg
  #[Value.bool b, Value.bool b_1, Value.bool b_2, Value.int IntKind.i64 n,
  Value.int IntKind.i64 n_1, Value.slice p n_2 c]))
  w'_2
theorem insn_store.vc_eq (w : World) (R : Ending → World → Prop) : fnV Try.prog insn_store.H 58 [] w R = insn_store.vc w R := by kernel_rfl
theorem insn_store.calls {w : World} {R : Ending → World → Prop} (h : insn_store.vc w R) : Calls Try.prog 58 ([] : List Value).toArray w R := calls_of_eq (insn_store.vc_eq w R) h

/- function 59: sacristy/insn.branch -/
abbrev insn_branch.N : FuncId := 59
def insn_branch.H : Hints := {  }
def insn_branch.vc (w : World) (R : Ending → World → Prop) : Prop :=
  ∀ (w' : World),
  w' =
  w.alloc
  (Obj.cells
  #[Value.bool false, Value.bool false, Value.bool false, Value.int IntKind.i64 0, Value.int IntKind.i64 0,
  Value.slice none 0 0]
  91) →
  ∀ (w'_1 : World),
  w'_1 =
  w'.alloc
  (Obj.cells
  #[Value.int IntKind.i64 11, Value.int IntKind.i64 11, Value.int IntKind.i64 7, Value.int IntKind.i64 1,
  Value.int IntKind.i64 4, Value.int IntKind.i64 8, Value.int IntKind.i64 5, Value.int IntKind.i64 10,
  Value.int IntKind.i64 25, Value.int IntKind.i64 12, Value.int IntKind.i64 12, Value.int IntKind.i64 31]
  99) →
  SetsAt w'_1 (Addr.mk w.heap.size 0 none) 0
  [Value.bool false, Value.bool true, Value.bool true, Value.int IntKind.i64 13, Value.int IntKind.i64 2,
  Value.slice (some (Addr.mk w'.heap.size 0 none)) 4 4] ∧
  ∀ (w'_2 : World),
  w'_2 =
  setCellsAt w'_1 (Addr.mk w.heap.size 0 none) 0
  [Value.bool false, Value.bool true, Value.bool true, Value.int IntKind.i64 13,
  Value.int IntKind.i64 2, Value.slice (some (Addr.mk w'.heap.size 0 none)) 4 4] →
  ∃ (b : Bool),
  ∃ (b_1 : Bool),
  ∃ (b_2 : Bool),
  ∃ (n : Int),
  ∃ (n_1 : Int),
  ∃ (p : Option Addr),
  ∃ (n_2 : Nat),
  ∃ (c : Nat),
  (w'_2.cell? (Addr.mk w.heap.size 0 none) = some (Value.bool b) ∧
  w'_2.cell? (Addr.mk w.heap.size 1 none) = some (Value.bool b_1) ∧
  w'_2.cell? (Addr.mk w.heap.size 2 none) = some (Value.bool b_2) ∧
  w'_2.cell? (Addr.mk w.heap.size 3 none) = some (Value.int IntKind.i64 n) ∧
  w'_2.cell? (Addr.mk w.heap.size 4 none) = some (Value.int IntKind.i64 n_1) ∧
  w'_2.cell? (Addr.mk w.heap.size 5 none) = some (Value.slice p n_2 c) ∧ True) ∧
  R
  (Ending.returned
  (Value.agg
  #[Value.bool b, Value.bool b_1, Value.bool b_2, Value.int IntKind.i64 n,
  Value.int IntKind.i64 n_1, Value.slice p n_2 c]))
  w'_2
theorem insn_branch.vc_eq (w : World) (R : Ending → World → Prop) : fnV Try.prog insn_branch.H 59 [] w R = insn_branch.vc w R := by kernel_rfl
theorem insn_branch.calls {w : World} {R : Ending → World → Prop} (h : insn_branch.vc w R) : Calls Try.prog 59 ([] : List Value).toArray w R := calls_of_eq (insn_branch.vc_eq w R) h

/- function 60: sacristy/insn.jump -/
abbrev insn_jump.N : FuncId := 60
def insn_jump.H : Hints := {  }
def insn_jump.vc (w : World) (R : Ending → World → Prop) : Prop :=
  ∀ (w' : World),
  w' =
  w.alloc
  (Obj.cells
  #[Value.bool false, Value.bool false, Value.bool false, Value.int IntKind.i64 0, Value.int IntKind.i64 0,
  Value.slice none 0 0]
  91) →
  ∀ (w'_1 : World),
  w'_1 =
  w'.alloc
  (Obj.cells
  #[Value.int IntKind.i64 12, Value.int IntKind.i64 19, Value.int IntKind.i64 12, Value.int IntKind.i64 11,
  Value.int IntKind.i64 11, Value.int IntKind.i64 20, Value.int IntKind.i64 1, Value.int IntKind.i64 10,
  Value.int IntKind.i64 21, Value.int IntKind.i64 20, Value.int IntKind.i64 20, Value.int IntKind.i64 31]
  99) →
  SetsAt w'_1 (Addr.mk w.heap.size 0 none) 0
  [Value.bool true, Value.bool false, Value.bool false, Value.int IntKind.i64 21, Value.int IntKind.i64 2,
  Value.slice (some (Addr.mk w'.heap.size 0 none)) 4 4] ∧
  ∀ (w'_2 : World),
  w'_2 =
  setCellsAt w'_1 (Addr.mk w.heap.size 0 none) 0
  [Value.bool true, Value.bool false, Value.bool false, Value.int IntKind.i64 21,
  Value.int IntKind.i64 2, Value.slice (some (Addr.mk w'.heap.size 0 none)) 4 4] →
  ∃ (b : Bool),
  ∃ (b_1 : Bool),
  ∃ (b_2 : Bool),
  ∃ (n : Int),
  ∃ (n_1 : Int),
  ∃ (p : Option Addr),
  ∃ (n_2 : Nat),
  ∃ (c : Nat),
  (w'_2.cell? (Addr.mk w.heap.size 0 none) = some (Value.bool b) ∧
  w'_2.cell? (Addr.mk w.heap.size 1 none) = some (Value.bool b_1) ∧
  w'_2.cell? (Addr.mk w.heap.size 2 none) = some (Value.bool b_2) ∧
  w'_2.cell? (Addr.mk w.heap.size 3 none) = some (Value.int IntKind.i64 n) ∧
  w'_2.cell? (Addr.mk w.heap.size 4 none) = some (Value.int IntKind.i64 n_1) ∧
  w'_2.cell? (Addr.mk w.heap.size 5 none) = some (Value.slice p n_2 c) ∧ True) ∧
  R
  (Ending.returned
  (Value.agg
  #[Value.bool b, Value.bool b_1, Value.bool b_2, Value.int IntKind.i64 n,
  Value.int IntKind.i64 n_1, Value.slice p n_2 c]))
  w'_2
theorem insn_jump.vc_eq (w : World) (R : Ending → World → Prop) : fnV Try.prog insn_jump.H 60 [] w R = insn_jump.vc w R := by kernel_rfl
theorem insn_jump.calls {w : World} {R : Ending → World → Prop} (h : insn_jump.vc w R) : Calls Try.prog 60 ([] : List Value).toArray w R := calls_of_eq (insn_jump.vc_eq w R) h

/- function 61: (sacristy/insn.form).fits -/
abbrev sacristy_insn_form_fits.N : FuncId := 61
def sacristy_insn_form_fits.H : Hints := {  }
def sacristy_insn_form_fits.vc (f'_0 : Bool) (f'_1 : Bool) (f'_2 : Bool) (f'_3 : Int) (f'_4 : Int) (f'_5 : Option Addr) (f'_5n : Nat) (f'_5c : Nat) (x'_0 : Int) (x'_1 : Int) (x'_2 : Int) (x'_3 : Int) (x'_4 : Int) (w : World) (R : Ending → World → Prop) : Prop :=
  ∀ (w' : World),
  w' =
  w.alloc
  (Obj.cells
  #[Value.bool f'_0, Value.bool f'_1, Value.bool f'_2, Value.int IntKind.i64 f'_3, Value.int IntKind.i64 f'_4,
  Value.slice f'_5 f'_5n f'_5c]
  91) →
  ∀ (w'_1 : World),
  w'_1 =
  w'.alloc
  (Obj.cells
  #[Value.int IntKind.u8 x'_0, Value.int IntKind.u8 x'_1, Value.int IntKind.u8 x'_2,
  Value.int IntKind.u8 x'_3, Value.int IntKind.i64 x'_4]
  39) →
  ∃ (n : Int),
  w'_1.cell? (Addr.mk w.heap.size 3 none) = some (Value.int IntKind.i64 n) ∧
  cnd (decide (n < 0))
  (∃ (n : Int),
  w'_1.cell? (Addr.mk w'.heap.size 4 none) = some (Value.int IntKind.i64 n) ∧
  cnd (decide (n ≥ 0))
  (∃ (n : Int),
  w'_1.cell? (Addr.mk w'.heap.size 4 none) = some (Value.int IntKind.i64 n) ∧
  R (Ending.returned (Value.bool (decide (n < 64)))) w'_1)
  (R (Ending.returned (Value.bool false)) w'_1))
  (∃ (n : Int),
  w'_1.cell? (Addr.mk w.heap.size 3 none) = some (Value.int IntKind.i64 n) ∧
  cnd (n == 0)
  (∃ (n : Int),
  w'_1.cell? (Addr.mk w'.heap.size 4 none) = some (Value.int IntKind.i64 n) ∧
  R (Ending.returned (Value.bool (n == 0))) w'_1)
  (∃ (n : Int),
  w'_1.cell? (Addr.mk w'.heap.size 4 none) = some (Value.int IntKind.i64 n) ∧
  ∃ (n_1 : Int),
  w'_1.cell? (Addr.mk w.heap.size 3 none) = some (Value.int IntKind.i64 n_1) ∧
  Calls Proofs.Try.prog 63 #[Value.int IntKind.i64 n, Value.int IntKind.i64 n_1] w'_1
  fun (e : Ending) (w'_2 : World) =>
  ∃ (b : Bool),
  e = Ending.returned (Value.bool b) ∧
  cnd b
  (∃ (n : Int),
  w'_2.cell? (Addr.mk w.heap.size 4 none) = some (Value.int IntKind.i64 n) ∧
  cnd (n == 0) (R (Ending.returned (Value.bool true)) w'_2)
  (∃ (n : Int),
  w'_2.cell? (Addr.mk w'.heap.size 4 none) = some (Value.int IntKind.i64 n) ∧
  ∃ (n_2 : Int),
  w'_2.cell? (Addr.mk w.heap.size 4 none) =
  some (Value.int IntKind.i64 n_2) ∧
  cnd (decide (n_2 = 0)) False
  (R (Ending.returned (Value.bool (n.tmod n_2 == 0))) w'_2)))
  (R (Ending.returned (Value.bool false)) w'_2)))
theorem sacristy_insn_form_fits.vc_eq (f'_0 : Bool) (f'_1 : Bool) (f'_2 : Bool) (f'_3 : Int) (f'_4 : Int) (f'_5 : Option Addr) (f'_5n : Nat) (f'_5c : Nat) (x'_0 : Int) (x'_1 : Int) (x'_2 : Int) (x'_3 : Int) (x'_4 : Int) (w : World) (R : Ending → World → Prop) : fnV Try.prog sacristy_insn_form_fits.H 61 [Value.agg
  #[Value.bool f'_0, Value.bool f'_1, Value.bool f'_2, Value.int IntKind.i64 f'_3, Value.int IntKind.i64 f'_4,
  Value.slice f'_5 f'_5n f'_5c],
  Value.agg
  #[Value.int IntKind.u8 x'_0, Value.int IntKind.u8 x'_1, Value.int IntKind.u8 x'_2, Value.int IntKind.u8 x'_3,
  Value.int IntKind.i64 x'_4]] w R = sacristy_insn_form_fits.vc f'_0 f'_1 f'_2 f'_3 f'_4 f'_5 f'_5n f'_5c x'_0 x'_1 x'_2 x'_3 x'_4 w R := by kernel_rfl
theorem sacristy_insn_form_fits.calls {f'_0 : Bool} {f'_1 : Bool} {f'_2 : Bool} {f'_3 : Int} {f'_4 : Int} {f'_5 : Option Addr} {f'_5n : Nat} {f'_5c : Nat} {x'_0 : Int} {x'_1 : Int} {x'_2 : Int} {x'_3 : Int} {x'_4 : Int} {w : World} {R : Ending → World → Prop} (h : sacristy_insn_form_fits.vc f'_0 f'_1 f'_2 f'_3 f'_4 f'_5 f'_5n f'_5c x'_0 x'_1 x'_2 x'_3 x'_4 w R) : Calls Try.prog 61 ([Value.agg
  #[Value.bool f'_0, Value.bool f'_1, Value.bool f'_2, Value.int IntKind.i64 f'_3, Value.int IntKind.i64 f'_4,
  Value.slice f'_5 f'_5n f'_5c],
  Value.agg
  #[Value.int IntKind.u8 x'_0, Value.int IntKind.u8 x'_1, Value.int IntKind.u8 x'_2, Value.int IntKind.u8 x'_3,
  Value.int IntKind.i64 x'_4]] : List Value).toArray w R := calls_of_eq (sacristy_insn_form_fits.vc_eq f'_0 f'_1 f'_2 f'_3 f'_4 f'_5 f'_5n f'_5c x'_0 x'_1 x'_2 x'_3 x'_4 w R) h

/- function 52: sacristy/insn.laid -/
abbrev insn_laid.N : FuncId := 52
def insn_laid.H : Hints := { loops := [(3, [(4, .one (.int .u32)), (10, .one (.int .i64))])] }
def insn_laid.vc (v' : Int) (spans' : Option Addr) (spans'n : Nat) (spans'c : Nat) (w : World) (R : Ending → World → Prop) : Prop :=
  ∃ (I : List Value → World → Prop),
  ∃ (μ : List Value → World → Nat),
  I [Value.int IntKind.u32 0, Value.int IntKind.i64 0] w ∧
  ∀ (g : Nat → Value) (w s10 : Int) (w' : World),
  I [Value.int IntKind.u32 w, Value.int IntKind.i64 s10] w' →
  cnd (decide (s10 < (↑spans'n : Int)))
  ((0 ≤ s10 ∧ s10 < (↑spans'n : Int)) ∧
  Deref spans' fun (a : Addr) =>
  ∃ (n : Int),
  ∃ (n_1 : Int),
  ∃ (n_2 : Int),
  (w'.cell? (a.add (s10.toNat * 3)) = some (Value.int IntKind.i64 n) ∧
  w'.cell? ((a.add (s10.toNat * 3)).add 1) = some (Value.int IntKind.i64 n_1) ∧
  w'.cell? ((a.add (s10.toNat * 3)).add 2) = some (Value.int IntKind.i64 n_2) ∧ True) ∧
  ∀ (w'_1 : World),
  w'_1 =
  w'.alloc
  (Obj.cells #[Value.int IntKind.i64 0, Value.int IntKind.i64 0, Value.int IntKind.i64 0]
  99) →
  SetsAt w'_1 (Addr.mk w'.heap.size 0 none) 0
  [Value.int IntKind.i64 n, Value.int IntKind.i64 n_1, Value.int IntKind.i64 n_2] ∧
  ∀ (w'_2 : World),
  w'_2 =
  setCellsAt w'_1 (Addr.mk w'.heap.size 0 none) 0
  [Value.int IntKind.i64 n, Value.int IntKind.i64 n_1, Value.int IntKind.i64 n_2] →
  ∃ (n : Int),
  w'_2.cell? (Addr.mk w'.heap.size 1 none) = some (Value.int IntKind.i64 n) ∧
  ∃ (n_3 : Int),
  w'_2.cell? (Addr.mk w'.heap.size 0 none) = some (Value.int IntKind.i64 n_3) ∧
  cnd (decide (IntKind.i64.wrap (IntKind.i64.wrap (n - n_3) + 1) < 0)) False
  (∃ (n_4 : Int),
  (∀ (w'_3 : World),
  Later w'_2 w'_3 →
  w'_3.cell? (Addr.mk w'.heap.size 0 none) =
  some (Value.int IntKind.i64 n_4)) ∧
  cnd (decide (n_4 < 0)) False
  (∃ (n_5 : Int),
  (∀ (w'_3 : World),
  Later w'_2 w'_3 →
  w'_3.cell? (Addr.mk w'.heap.size 2 none) =
  some (Value.int IntKind.i64 n_5)) ∧
  cnd (decide (n_5 < 0)) False
  (∀ (w'_3 : World),
  Later w'_2 w'_3 →
  Goes I μ
  [Value.int IntKind.u32 w, Value.int IntKind.i64 s10] w'
  [Value.int IntKind.u32
  (bits BinOp.or IntKind.u32 w
  (IntKind.u32.wrap
  (IntKind.u32.wrap
  (bits BinOp.and IntKind.u64
  ((IntKind.u64.wrap v').fdiv
  (2 ^ min n_4.toNat 64))
  (IntKind.u64.wrap
  (IntKind.u64.wrap
  (1 *
  2 ^
  min
  (IntKind.i64.wrap
  (IntKind.i64.wrap
  (n - n_3) +
  1)).toNat
  64) -
  1))) *
  2 ^ min n_5.toNat 32))),
  Value.int IntKind.i64 (IntKind.i64.wrap (s10 + 1))]
  w'_3))))
  (R (Ending.returned (Value.int IntKind.u32 w)) w')
theorem insn_laid.vc_eq (v' : Int) (spans' : Option Addr) (spans'n : Nat) (spans'c : Nat) (w : World) (R : Ending → World → Prop) : fnV Try.prog insn_laid.H 52 [Value.int IntKind.i64 v', Value.slice spans' spans'n spans'c] w R = insn_laid.vc v' spans' spans'n spans'c w R := by kernel_rfl
theorem insn_laid.calls {v' : Int} {spans' : Option Addr} {spans'n : Nat} {spans'c : Nat} {w : World} {R : Ending → World → Prop} (h : insn_laid.vc v' spans' spans'n spans'c w R) : Calls Try.prog 52 ([Value.int IntKind.i64 v', Value.slice spans' spans'n spans'c] : List Value).toArray w R := calls_of_eq (insn_laid.vc_eq v' spans' spans'n spans'c w R) h

/- function 40: sacristy/insn.Encode -/
abbrev insn_Encode.N : FuncId := 40
def insn_Encode.H : Hints := {  }
def insn_Encode.vc (x'_0 : Int) (x'_1 : Int) (x'_2 : Int) (x'_3 : Int) (x'_4 : Int) (w : World) (R : Ending → World → Prop) : Prop :=
  ∀ (w' : World),
  w' =
  w.alloc
  (Obj.cells
  #[Value.int IntKind.u8 x'_0, Value.int IntKind.u8 x'_1, Value.int IntKind.u8 x'_2, Value.int IntKind.u8 x'_3,
  Value.int IntKind.i64 x'_4]
  39) →
  Calls Proofs.Try.prog 50 #[] w' fun (e : Ending) (w' : World) =>
  ∃ (cs : Array Value),
  cs.size = 315 ∧
  e = Ending.returned (Value.agg cs) ∧
  ∀ (w'_1 : World),
  w'_1 =
  w'.alloc
  (Obj.cells
  #[Value.int IntKind.u32 0, Value.int IntKind.u32 0, Value.int IntKind.u32 0, Value.bool false,
  Value.bool false, Value.bool false, Value.int IntKind.i64 0, Value.int IntKind.i64 0,
  Value.slice none 0 0, Value.int IntKind.u32 0, Value.int IntKind.u32 0, Value.int IntKind.u32 0,
  Value.bool false, Value.bool false, Value.bool false, Value.int IntKind.i64 0,
  Value.int IntKind.i64 0, Value.slice none 0 0, Value.int IntKind.u32 0, Value.int IntKind.u32 0,
  Value.int IntKind.u32 0, Value.bool false, Value.bool false, Value.bool false,
  Value.int IntKind.i64 0, Value.int IntKind.i64 0, Value.slice none 0 0, Value.int IntKind.u32 0,
  Value.int IntKind.u32 0, Value.int IntKind.u32 0, Value.bool false, Value.bool false,
  Value.bool false, Value.int IntKind.i64 0, Value.int IntKind.i64 0, Value.slice none 0 0,
  Value.int IntKind.u32 0, Value.int IntKind.u32 0, Value.int IntKind.u32 0, Value.bool false,
  Value.bool false, Value.bool false, Value.int IntKind.i64 0, Value.int IntKind.i64 0,
  Value.slice none 0 0, Value.int IntKind.u32 0, Value.int IntKind.u32 0, Value.int IntKind.u32 0,
  Value.bool false, Value.bool false, Value.bool false, Value.int IntKind.i64 0,
  Value.int IntKind.i64 0, Value.slice none 0 0, Value.int IntKind.u32 0, Value.int IntKind.u32 0,
  Value.int IntKind.u32 0, Value.bool false, Value.bool false, Value.bool false,
  Value.int IntKind.i64 0, Value.int IntKind.i64 0, Value.slice none 0 0, Value.int IntKind.u32 0,
  Value.int IntKind.u32 0, Value.int IntKind.u32 0, Value.bool false, Value.bool false,
  Value.bool false, Value.int IntKind.i64 0, Value.int IntKind.i64 0, Value.slice none 0 0,
  Value.int IntKind.u32 0, Value.int IntKind.u32 0, Value.int IntKind.u32 0, Value.bool false,
  Value.bool false, Value.bool false, Value.int IntKind.i64 0, Value.int IntKind.i64 0,
  Value.slice none 0 0, Value.int IntKind.u32 0, Value.int IntKind.u32 0, Value.int IntKind.u32 0,
  Value.bool false, Value.bool false, Value.bool false, Value.int IntKind.i64 0,
  Value.int IntKind.i64 0, Value.slice none 0 0, Value.int IntKind.u32 0, Value.int IntKind.u32 0,
  Value.int IntKind.u32 0, Value.bool false, Value.bool false, Value.bool false,
  Value.int IntKind.i64 0, Value.int IntKind.i64 0, Value.slice none 0 0, Value.int IntKind.u32 0,
  Value.int IntKind.u32 0, Value.int IntKind.u32 0, Value.bool false, Value.bool false,
  Value.bool false, Value.int IntKind.i64 0, Value.int IntKind.i64 0, Value.slice none 0 0,
  Value.int IntKind.u32 0, Value.int IntKind.u32 0, Value.int IntKind.u32 0, Value.bool false,
  Value.bool false, Value.bool false, Value.int IntKind.i64 0, Value.int IntKind.i64 0,
  Value.slice none 0 0, Value.int IntKind.u32 0, Value.int IntKind.u32 0, Value.int IntKind.u32 0,
  Value.bool false, Value.bool false, Value.bool false, Value.int IntKind.i64 0,
  Value.int IntKind.i64 0, Value.slice none 0 0, Value.int IntKind.u32 0, Value.int IntKind.u32 0,
  Value.int IntKind.u32 0, Value.bool false, Value.bool false, Value.bool false,
  Value.int IntKind.i64 0, Value.int IntKind.i64 0, Value.slice none 0 0, Value.int IntKind.u32 0,
  Value.int IntKind.u32 0, Value.int IntKind.u32 0, Value.bool false, Value.bool false,
  Value.bool false, Value.int IntKind.i64 0, Value.int IntKind.i64 0, Value.slice none 0 0,
  Value.int IntKind.u32 0, Value.int IntKind.u32 0, Value.int IntKind.u32 0, Value.bool false,
  Value.bool false, Value.bool false, Value.int IntKind.i64 0, Value.int IntKind.i64 0,
  Value.slice none 0 0, Value.int IntKind.u32 0, Value.int IntKind.u32 0, Value.int IntKind.u32 0,
  Value.bool false, Value.bool false, Value.bool false, Value.int IntKind.i64 0,
  Value.int IntKind.i64 0, Value.slice none 0 0, Value.int IntKind.u32 0, Value.int IntKind.u32 0,
  Value.int IntKind.u32 0, Value.bool false, Value.bool false, Value.bool false,
  Value.int IntKind.i64 0, Value.int IntKind.i64 0, Value.slice none 0 0, Value.int IntKind.u32 0,
  Value.int IntKind.u32 0, Value.int IntKind.u32 0, Value.bool false, Value.bool false,
  Value.bool false, Value.int IntKind.i64 0, Value.int IntKind.i64 0, Value.slice none 0 0,
  Value.int IntKind.u32 0, Value.int IntKind.u32 0, Value.int IntKind.u32 0, Value.bool false,
  Value.bool false, Value.bool false, Value.int IntKind.i64 0, Value.int IntKind.i64 0,
  Value.slice none 0 0, Value.int IntKind.u32 0, Value.int IntKind.u32 0, Value.int IntKind.u32 0,
  Value.bool false, Value.bool false, Value.bool false, Value.int IntKind.i64 0,
  Value.int IntKind.i64 0, Value.slice none 0 0, Value.int IntKind.u32 0, Value.int IntKind.u32 0,
  Value.int IntKind.u32 0, Value.bool false, Value.bool false, Value.bool false,
  Value.int IntKind.i64 0, Value.int IntKind.i64 0, Value.slice none 0 0, Value.int IntKind.u32 0,
  Value.int IntKind.u32 0, Value.int IntKind.u32 0, Value.bool false, Value.bool false,
  Value.bool false, Value.int IntKind.i64 0, Value.int IntKind.i64 0, Value.slice none 0 0,
  Value.int IntKind.u32 0, Value.int IntKind.u32 0, Value.int IntKind.u32 0, Value.bool false,
  Value.bool false, Value.bool false, Value.int IntKind.i64 0, Value.int IntKind.i64 0,
  Value.slice none 0 0, Value.int IntKind.u32 0, Value.int IntKind.u32 0, Value.int IntKind.u32 0,
  Value.bool false, Value.bool false, Value.bool false, Value.int IntKind.i64 0,
  Value.int IntKind.i64 0, Value.slice none 0 0, Value.int IntKind.u32 0, Value.int IntKind.u32 0,
  Value.int IntKind.u32 0, Value.bool false, Value.bool false, Value.bool false,
  Value.int IntKind.i64 0, Value.int IntKind.i64 0, Value.slice none 0 0, Value.int IntKind.u32 0,
  Value.int IntKind.u32 0, Value.int IntKind.u32 0, Value.bool false, Value.bool false,
  Value.bool false, Value.int IntKind.i64 0, Value.int IntKind.i64 0, Value.slice none 0 0,
  Value.int IntKind.u32 0, Value.int IntKind.u32 0, Value.int IntKind.u32 0, Value.bool false,
  Value.bool false, Value.bool false, Value.int IntKind.i64 0, Value.int IntKind.i64 0,
  Value.slice none 0 0, Value.int IntKind.u32 0, Value.int IntKind.u32 0, Value.int IntKind.u32 0,
  Value.bool false, Value.bool false, Value.bool false, Value.int IntKind.i64 0,
  Value.int IntKind.i64 0, Value.slice none 0 0, Value.int IntKind.u32 0, Value.int IntKind.u32 0,
  Value.int IntKind.u32 0, Value.bool false, Value.bool false, Value.bool false,
  Value.int IntKind.i64 0, Value.int IntKind.i64 0, Value.slice none 0 0, Value.int IntKind.u32 0,
  Value.int IntKind.u32 0, Value.int IntKind.u32 0, Value.bool false, Value.bool false,
  Value.bool false, Value.int IntKind.i64 0, Value.int IntKind.i64 0, Value.slice none 0 0,
  Value.int IntKind.u32 0, Value.int IntKind.u32 0, Value.int IntKind.u32 0, Value.bool false,
  Value.bool false, Value.bool false, Value.int IntKind.i64 0, Value.int IntKind.i64 0,
  Value.slice none 0 0, Value.int IntKind.u32 0, Value.int IntKind.u32 0, Value.int IntKind.u32 0,
  Value.bool false, Value.bool false, Value.bool false, Value.int IntKind.i64 0,
  Value.int IntKind.i64 0, Value.slice none 0 0, Value.int IntKind.u32 0, Value.int IntKind.u32 0,
  Value.int IntKind.u32 0, Value.bool false, Value.bool false, Value.bool false,
  Value.int IntKind.i64 0, Value.int IntKind.i64 0, Value.slice none 0 0]
  94) →
  cnd (decide (cs.size = 315))
  (SetsAt w'_1 (Addr.mk w'.heap.size 0 none) 0 cs.toList ∧
  ∀ (w'_2 : World),
  w'_2 = setCellsAt w'_1 (Addr.mk w'.heap.size 0 none) 0 cs.toList →
  ∃ (n : Int),
  (∀ (w' : World),
  Later w'_2 w' → w'.cell? (Addr.mk w.heap.size 0 none) = some (Value.int IntKind.u8 n)) ∧
  cnd (decide (IntKind.i64.wrap n ≥ 35))
  (∀ (w' : World),
  Later w'_2 w' →
  R (Ending.returned (Value.tuple #[Value.int IntKind.u32 0, Value.int IntKind.i64 2]))
  w')
  (∃ (n : Int),
  (∀ (w' : World),
  Later w'_2 w' →
  w'.cell? (Addr.mk w.heap.size 0 none) = some (Value.int IntKind.u8 n)) ∧
  (0 ≤ n ∧ n < 35) ∧
  ∃ (n_1 : Int),
  (∀ (w'_3 : World),
  Later w'_2 w'_3 →
  w'_3.cell? ((Addr.mk w'.heap.size 0 none).add (n.toNat * 9)) =
  some (Value.int IntKind.u32 n_1)) ∧
  cnd (n_1 == 0)
  (∀ (w' : World),
  Later w'_2 w' →
  R
  (Ending.returned
  (Value.tuple #[Value.int IntKind.u32 0, Value.int IntKind.i64 2]))
  w')
  (∃ (n : Int),
  (∀ (w' : World),
  Later w'_2 w' →
  w'.cell? (Addr.mk w.heap.size 0 none) =
  some (Value.int IntKind.u8 n)) ∧
  (0 ≤ n ∧ n < 35) ∧
  ∃ (b : Bool),
  ∃ (b_1 : Bool),
  ∃ (b_2 : Bool),
  ∃ (n_2 : Int),
  ∃ (n_3 : Int),
  ∃ (p : Option Addr),
  ∃ (n_4 : Nat),
  ∃ (c : Nat),
  (∀ (w'_3 : World),
  Later w'_2 w'_3 →
  w'_3.cell?
  (((Addr.mk w'.heap.size 0 none).add
  (n.toNat * 9)).add
  3) =
  some (Value.bool b) ∧
  w'_3.cell?
  ((((Addr.mk w'.heap.size 0 none).add
  (n.toNat * 9)).add
  3).add
  1) =
  some (Value.bool b_1) ∧
  w'_3.cell?
  ((((Addr.mk w'.heap.size 0 none).add
  (n.toNat * 9)).add
  3).add
  2) =
  some (Value.bool b_2) ∧
  w'_3.cell?
  ((((Addr.mk w'.heap.size 0 none).add
  (n.toNat * 9)).add
  3).add
  3) =
  some (Value.int IntKind.i64 n_2) ∧
  w'_3.cell?
  ((((Addr.mk w'.heap.size 0 none).add
  (n.toNat * 9)).add
  3).add
  4) =
  some (Value.int IntKind.i64 n_3) ∧
  w'_3.cell?
  ((((Addr.mk w'.heap.size 0
  none).add
  (n.toNat * 9)).add
  3).add
  5) =
  some (Value.slice p n_4 c) ∧
  True) ∧
  ∃ (n : Int),
  ∃ (n_5 : Int),
  ∃ (n_6 : Int),
  ∃ (n_7 : Int),
  ∃ (n_8 : Int),
  (∀ (w' : World),
  Later w'_2 w' →
  w'.cell?
  (Addr.mk w.heap.size 0 none) =
  some (Value.int IntKind.u8 n) ∧
  w'.cell?
  (Addr.mk w.heap.size 1 none) =
  some
  (Value.int IntKind.u8 n_5) ∧
  w'.cell?
  (Addr.mk w.heap.size 2
  none) =
  some
  (Value.int IntKind.u8 n_6) ∧
  w'.cell?
  (Addr.mk w.heap.size 3
  none) =
  some
  (Value.int IntKind.u8
  n_7) ∧
  w'.cell?
  (Addr.mk w.heap.size 4
  none) =
  some
  (Value.int IntKind.i64
  n_8) ∧
  True) ∧
  ∃ (b_3 : Bool),
  (∀ (w' : World),
  Later w'_2 w' →
  Calls Proofs.Try.prog 51
  #[Value.agg
  #[Value.bool b,
  Value.bool b_1,
  Value.bool b_2,
  Value.int IntKind.i64 n_2,
  Value.int IntKind.i64 n_3,
  Value.slice p n_4 c],
  Value.agg
  #[Value.int IntKind.u8 n,
  Value.int IntKind.u8 n_5,
  Value.int IntKind.u8 n_6,
  Value.int IntKind.u8 n_7,
  Value.int IntKind.i64
  n_8]]
  w'
  fun (e : Ending)
  (w'' : World) =>
  e =
  Ending.returned
  (Value.bool b_3) ∧
  Later w' w'') ∧
  ∀ (w'_3 : World),
  Later w'_2 w'_3 →
  cnd (!b_3)
  (R
  (Ending.returned
  (Value.tuple
  #[Value.int IntKind.u32 0,
  Value.int IntKind.i64
  2]))
  w'_3)
  (∃ (n : Int),
  w'_3.cell?
  (Addr.mk w.heap.size 0
  none) =
  some
  (Value.int IntKind.u8
  n) ∧
  (0 ≤ n ∧ n < 35) ∧
  ∃ (n_9 : Int),
  ∃ (n_10 : Int),
  ∃ (n_11 : Int),
  ∃ (b : Bool),
  ∃ (b_4 : Bool),
  ∃ (b_5 : Bool),
  ∃ (n_12 :
  Int),
  ∃ (n_13 :
  Int),
  ∃ (p :
  Option
  Addr),
  ∃ (n_14
  :
  Nat),
  ∃ (c :
  Nat),
  (w'_3.cell?
  ((Addr.mk
  w'.heap.size
  0
  none).add
  (n.toNat *
  9)) =
  some
  (Value.int
  IntKind.u32
  n_9) ∧
  w'_3.cell?
  (((Addr.mk
  w'.heap.size
  0
  none).add
  (n.toNat *
  9)).add
  1) =
  some
  (Value.int
  IntKind.u32
  n_10) ∧
  w'_3.cell?
  (((Addr.mk
  w'.heap.size
  0
  none).add
  (n.toNat *
  9)).add
  2) =
  some
  (Value.int
  IntKind.u32
  n_11) ∧
  w'_3.cell?
  (((Addr.mk
  w'.heap.size
  0
  none).add
  (n.toNat *
  9)).add
  3) =
  some
  (Value.bool
  b) ∧
  w'_3.cell?
  (((Addr.mk
  w'.heap.size
  0
  none).add
  (n.toNat *
  9)).add
  4) =
  some
  (Value.bool
  b_4) ∧
  w'_3.cell?
  (((Addr.mk
  w'.heap.size
  0
  none).add
  (n.toNat *
  9)).add
  5) =
  some
  (Value.bool
  b_5) ∧
  w'_3.cell?
  (((Addr.mk
  w'.heap.size
  0
  none).add
  (n.toNat *
  9)).add
  6) =
  some
  (Value.int
  IntKind.i64
  n_12) ∧
  w'_3.cell?
  (((Addr.mk
  w'.heap.size
  0
  none).add
  (n.toNat *
  9)).add
  7) =
  some
  (Value.int
  IntKind.i64
  n_13) ∧
  w'_3.cell?
  (((Addr.mk
  w'.heap.size
  0
  none).add
  (n.toNat *
  9)).add
  8) =
  some
  (Value.slice
  p
  n_14
  c) ∧
  True) ∧
  ∀
  (w' :
  World),
  w' =
  w'_3.alloc
  (Obj.cells
  #[Value.int
  IntKind.u32
  0,
  Value.int
  IntKind.u32
  0,
  Value.int
  IntKind.u32
  0,
  Value.bool
  false,
  Value.bool
  false,
  Value.bool
  false,
  Value.int
  IntKind.i64
  0,
  Value.int
  IntKind.i64
  0,
  Value.slice
  none
  0
  0]
  93) →
  SetsAt
  w'
  (Addr.mk
  w'_3.heap.size
  0
  none)
  0
  [Value.int
  IntKind.u32
  n_9,
  Value.int
  IntKind.u32
  n_10,
  Value.int
  IntKind.u32
  n_11,
  Value.bool
  b,
  Value.bool
  b_4,
  Value.bool
  b_5,
  Value.int
  IntKind.i64
  n_12,
  Value.int
  IntKind.i64
  n_13,
  Value.slice
  p
  n_14
  c] ∧
  ∀
  (w'_4 :
  World),
  w'_4 =
  setCellsAt
  w'
  (Addr.mk
  w'_3.heap.size
  0
  none)
  0
  [Value.int
  IntKind.u32
  n_9,
  Value.int
  IntKind.u32
  n_10,
  Value.int
  IntKind.u32
  n_11,
  Value.bool
  b,
  Value.bool
  b_4,
  Value.bool
  b_5,
  Value.int
  IntKind.i64
  n_12,
  Value.int
  IntKind.i64
  n_13,
  Value.slice
  p
  n_14
  c] →
  ∃
  (n
  :
  Int),
  w'_4.cell?
  (Addr.mk
  w.heap.size
  1
  none) =
  some
  (Value.int
  IntKind.u8
  n) ∧
  ∃
  (n_15
  :
  Int),
  w'_4.cell?
  (Addr.mk
  w.heap.size
  2
  none) =
  some
  (Value.int
  IntKind.u8
  n_15) ∧
  ∃
  (n_16
  :
  Int),
  w'_4.cell?
  (Addr.mk
  w.heap.size
  3
  none) =
  some
  (Value.int
  IntKind.u8
  n_16) ∧
  ∃
  (n_17
  :
  Int),
  (∀
  (w' :
  World),
  Later
  w'_4
  w' →
  w'.cell?
  (Addr.mk
  w'_3.heap.size
  0
  none) =
  some
  (Value.int
  IntKind.u32
  n_17)) ∧
  ∃
  (n_18
  :
  Int),
  (∀
  (w' :
  World),
  Later
  w'_4
  w' →
  w'.cell?
  (Addr.mk
  w'_3.heap.size
  1
  none) =
  some
  (Value.int
  IntKind.u32
  n_18)) ∧
  ∃
  (n_19
  :
  Int),
  (∀
  (w' :
  World),
  Later
  w'_4
  w' →
  w'.cell?
  (Addr.mk
  w'_3.heap.size
  2
  none) =
  some
  (Value.int
  IntKind.u32
  n_19)) ∧
  ∃
  (n_20
  :
  Int),
  (∀
  (w' :
  World),
  Later
  w'_4
  w' →
  w'.cell?
  (Addr.mk
  w.heap.size
  4
  none) =
  some
  (Value.int
  IntKind.i64
  n_20)) ∧
  ∃
  (p
  :
  Option
  Addr),
  ∃
  (n_21
  :
  Nat),
  ∃
  (c
  :
  Nat),
  (∀
  (w' :
  World),
  Later
  w'_4
  w' →
  w'.cell?
  (Addr.mk
  w'_3.heap.size
  8
  none) =
  some
  (Value.slice
  p
  n_21
  c)) ∧
  ∃
  (n_22
  :
  Int),
  (∀
  (w' :
  World),
  Later
  w'_4
  w' →
  Calls
  Proofs.Try.prog
  52
  #[Value.int
  IntKind.i64
  n_20,
  Value.slice
  p
  n_21
  c]
  w'
  fun
  (e :
  Ending)
  (w'' :
  World) =>
  e =
  Ending.returned
  (Value.int
  IntKind.u32
  n_22) ∧
  Later
  w'
  w'') ∧
  ∀
  (w' :
  World),
  Later
  w'_4
  w' →
  R
  (Ending.returned
  (Value.tuple
  #[Value.int
  IntKind.u32
  (bits
  BinOp.or
  IntKind.u32
  (bits
  BinOp.or
  IntKind.u32
  (bits
  BinOp.or
  IntKind.u32
  (bits
  BinOp.or
  IntKind.u32
  n_17
  (IntKind.u32.wrap
  (n_18 *
  4096)))
  (IntKind.u32.wrap
  (n_19 *
  33554432)))
  (bits
  BinOp.or
  IntKind.u32
  (bits
  BinOp.or
  IntKind.u32
  (IntKind.u32.wrap
  (IntKind.u32.wrap
  n *
  128))
  (IntKind.u32.wrap
  (IntKind.u32.wrap
  n_15 *
  32768)))
  (IntKind.u32.wrap
  (IntKind.u32.wrap
  n_16 *
  1048576))))
  n_22),
  Value.int
  IntKind.i64
  0]))
  w'))))
  False
theorem insn_Encode.vc_eq (x'_0 : Int) (x'_1 : Int) (x'_2 : Int) (x'_3 : Int) (x'_4 : Int) (w : World) (R : Ending → World → Prop) : fnV Try.prog insn_Encode.H 40 [Value.agg
  #[Value.int IntKind.u8 x'_0, Value.int IntKind.u8 x'_1, Value.int IntKind.u8 x'_2, Value.int IntKind.u8 x'_3,
  Value.int IntKind.i64 x'_4]] w R = insn_Encode.vc x'_0 x'_1 x'_2 x'_3 x'_4 w R := by kernel_rfl
theorem insn_Encode.calls {x'_0 : Int} {x'_1 : Int} {x'_2 : Int} {x'_3 : Int} {x'_4 : Int} {w : World} {R : Ending → World → Prop} (h : insn_Encode.vc x'_0 x'_1 x'_2 x'_3 x'_4 w R) : Calls Try.prog 40 ([Value.agg
  #[Value.int IntKind.u8 x'_0, Value.int IntKind.u8 x'_1, Value.int IntKind.u8 x'_2, Value.int IntKind.u8 x'_3,
  Value.int IntKind.i64 x'_4]] : List Value).toArray w R := calls_of_eq (insn_Encode.vc_eq x'_0 x'_1 x'_2 x'_3 x'_4 w R) h

end Go.Proofs.Ytjoikaklincfoaa

/-
Plain laws of the machine's numbers: bits as natural numbers' bits, a product's higher half.
Conditions: the numbers are of their kind.
-/
namespace Go.Vc
open Go.RowKit
set_option linter.unusedSimpArgs false
set_option linter.unnecessarySimpa false
set_option linter.unusedVariables false

theorem ofInt_nat (n a : Nat) (h : a < 2 ^ n) : (BitVec.ofInt n (a : Int)).toNat = a := by
  rw [BitVec.ofInt_natCast, BitVec.toNat_ofNat, Nat.mod_eq_of_lt h]
theorem bits_and_u64 (a b : Nat) (ha : a < 18446744073709551616) (hb : b < 18446744073709551616) : bits .and .u64 (a : Int) (b : Int) = ((a &&& b : Nat) : Int) := by
  simp only [bits]
  rw [BitVec.toNat_and]
  rw [ofInt_nat _ a (by simpa [IntKind.bits] using ha), ofInt_nat _ b (by simpa [IntKind.bits] using hb), wrap_u64]
  have : a &&& b ≤ a := Nat.and_le_left
  omega
theorem bits_or_u64 (a b : Nat) (ha : a < 18446744073709551616) (hb : b < 18446744073709551616) : bits .or .u64 (a : Int) (b : Int) = ((a ||| b : Nat) : Int) := by
  simp only [bits]
  rw [BitVec.toNat_or]
  rw [ofInt_nat _ a (by simpa [IntKind.bits] using ha), ofInt_nat _ b (by simpa [IntKind.bits] using hb), wrap_u64]
  have : a ||| b < 2 ^ 64 := Nat.or_lt_two_pow (by simpa using ha) (by simpa using hb)
  omega
theorem bits_xor_u64 (a b : Nat) (ha : a < 18446744073709551616) (hb : b < 18446744073709551616) : bits .xor .u64 (a : Int) (b : Int) = ((a ^^^ b : Nat) : Int) := by
  simp only [bits]
  rw [BitVec.toNat_xor]
  rw [ofInt_nat _ a (by simpa [IntKind.bits] using ha), ofInt_nat _ b (by simpa [IntKind.bits] using hb), wrap_u64]
  have : a ^^^ b < 2 ^ 64 := Nat.xor_lt_two_pow (by simpa using ha) (by simpa using hb)
  omega
theorem bits_and_u32 (a b : Nat) (ha : a < 4294967296) (hb : b < 4294967296) : bits .and .u32 (a : Int) (b : Int) = ((a &&& b : Nat) : Int) := by
  simp only [bits]
  rw [BitVec.toNat_and]
  rw [ofInt_nat _ a (by simpa [IntKind.bits] using ha), ofInt_nat _ b (by simpa [IntKind.bits] using hb), wrap_u32]
  have : a &&& b ≤ a := Nat.and_le_left
  omega
theorem bits_or_u32 (a b : Nat) (ha : a < 4294967296) (hb : b < 4294967296) : bits .or .u32 (a : Int) (b : Int) = ((a ||| b : Nat) : Int) := by
  simp only [bits]
  rw [BitVec.toNat_or]
  rw [ofInt_nat _ a (by simpa [IntKind.bits] using ha), ofInt_nat _ b (by simpa [IntKind.bits] using hb), wrap_u32]
  have : a ||| b < 2 ^ 32 := Nat.or_lt_two_pow (by simpa using ha) (by simpa using hb)
  omega
theorem low32_and (a : Nat) (ha : a < 18446744073709551616) : bits .and .u64 (a : Int) 4294967295 = (a : Int) % 4294967296 := by
  have := bits_and_u64 a 4294967295 ha (by decide)
  rw [show ((4294967295 : Nat) : Int) = 4294967295 from rfl] at this
  rw [this, show (4294967295 : Nat) = 2 ^ 32 - 1 from rfl, Nat.and_two_pow_sub_one_eq_mod]
  omega
theorem split_prod (x1 x0 y1 y0 : Int) : (x1 * 4294967296 + x0) * (y1 * 4294967296 + y0) = x1 * y1 * 18446744073709551616 + (x1 * y0 + x0 * y1) * 4294967296 + x0 * y0 := by
  simp only [Int.add_mul, Int.mul_add]
  have e1 : x1 * 4294967296 * (y1 * 4294967296) = x1 * y1 * 18446744073709551616 := by
    rw [Int.mul_assoc, Int.mul_comm 4294967296, Int.mul_assoc y1, ← Int.mul_assoc]; rfl
  have e2 : x1 * 4294967296 * y0 = x1 * y0 * 4294967296 := by rw [Int.mul_assoc, Int.mul_comm 4294967296, ← Int.mul_assoc]
  have e3 : x0 * (y1 * 4294967296) = x0 * y1 * 4294967296 := by rw [← Int.mul_assoc]
  omega
theorem half_le {a b : Int} (ha0 : 0 ≤ a) (ha : a ≤ 4294967295) (hb0 : 0 ≤ b) (hb : b ≤ 4294967295) : 0 ≤ a * b ∧ a * b ≤ 18446744065119617025 := by
  refine ⟨Int.mul_nonneg ha0 hb0, ?_⟩
  have h1 : a * b ≤ 4294967295 * b := Int.mul_le_mul_of_nonneg_right ha hb0
  omega
/-- What the library's text reckons is the higher half. -/
theorem mul_hi (x y : Int) (hx0 : 0 ≤ x) (hx : x < 18446744073709551616) (hy0 : 0 ≤ y) (hy : y < 18446744073709551616) :
    (((x / 4294967296 * (y / 4294967296)) % 18446744073709551616 + (((x / 4294967296 * (y % 4294967296)) % 18446744073709551616 + ((x % 4294967296 * (y % 4294967296)) % 18446744073709551616) / 4294967296) % 18446744073709551616) / 4294967296) % 18446744073709551616 +
      (((((x / 4294967296 * (y % 4294967296)) % 18446744073709551616 + ((x % 4294967296 * (y % 4294967296)) % 18446744073709551616) / 4294967296) % 18446744073709551616) % 4294967296 + (x % 4294967296 * (y / 4294967296)) % 18446744073709551616) % 18446744073709551616) / 4294967296) % 18446744073709551616 = x * y / 18446744073709551616 := by
  have ex : x = x / 4294967296 * 4294967296 + x % 4294967296 := by omega
  have ey : y = y / 4294967296 * 4294967296 + y % 4294967296 := by omega
  have e := split_prod (x / 4294967296) (x % 4294967296) (y / 4294967296) (y % 4294967296)
  rw [← ex, ← ey] at e
  have b1 := half_le (a := x / 4294967296) (b := y / 4294967296) (by omega) (by omega) (by omega) (by omega)
  have b2 := half_le (a := x / 4294967296) (b := y % 4294967296) (by omega) (by omega) (by omega) (by omega)
  have b3 := half_le (a := x % 4294967296) (b := y / 4294967296) (by omega) (by omega) (by omega) (by omega)
  have b4 := half_le (a := x % 4294967296) (b := y % 4294967296) (by omega) (by omega) (by omega) (by omega)
  rw [e]
  generalize x / 4294967296 * (y / 4294967296) = p at *
  generalize x / 4294967296 * (y % 4294967296) = q at *
  generalize x % 4294967296 * (y / 4294967296) = r at *
  generalize x % 4294967296 * (y % 4294967296) = s at *
  clear e ex ey
  omega
theorem bits2 : ∀ p : Fin 2, ∀ q : Fin 2, (p.val ||| q.val) + (p.val &&& q.val) = p.val + q.val ∧ (p.val ||| q.val) ≤ 1 ∧ (p.val &&& q.val) ≤ 1 ∧ (p.val ^^^ q.val) ≤ 1 ∧ (p.val ^^^ q.val) + (p.val &&& q.val) = (p.val ||| q.val) := by decide
theorem or_add_and : ∀ (n x y : Nat), x < n → (x ||| y) + (x &&& y) = x + y ∧ (x ^^^ y) + (x &&& y) = (x ||| y) := by
  intro n
  induction n with
  | zero => intro x y h; omega
  | succ n ih =>
    intro x y h
    by_cases hx : x = 0
    · subst hx; simp
    have e := ih (x / 2) (y / 2) (by omega)
    have h1 : (x ||| y) / 2 = x / 2 ||| y / 2 := Nat.or_div_two
    have h2 : (x &&& y) / 2 = x / 2 &&& y / 2 := Nat.and_div_two
    have h5 : (x ^^^ y) / 2 = x / 2 ^^^ y / 2 := Nat.xor_div_two
    have h3 : (x ||| y) % 2 = x % 2 ||| y % 2 := Nat.or_mod_two_pow (n := 1)
    have h4 : (x &&& y) % 2 = x % 2 &&& y % 2 := Nat.and_mod_two_pow (n := 1)
    have h6 : (x ^^^ y) % 2 = x % 2 ^^^ y % 2 := Nat.xor_mod_two_pow (n := 1)
    have hb := bits2 ⟨x % 2, by omega⟩ ⟨y % 2, by omega⟩
    simp only at hb
    rw [← h3, ← h4, ← h6] at hb
    rw [← h1, ← h2, ← h5] at e
    generalize x ||| y = a at *
    generalize x &&& y = b at *
    generalize x ^^^ y = c at *
    omega
end Go.Vc

/-
Words that all contracts share: a call that comes to a value, numbers.
Conditions: each theorem's hypotheses.
-/
namespace Go.Proofs.Ytjoikaklincfoaa
open Go Go.Vc Go.RowKit
set_option linter.unusedVariables false
set_option linter.unusedSimpArgs false
set_option linter.unnecessarySimpa false
set_option maxRecDepth 100000

/-- A call that comes to a value and turns nothing old. -/
def Gives (v : Value) (w : World) (e : Ending) (w' : World) : Prop := e = .returned v ∧ Later w w'
abbrev fnv (f : FuncId) : Value := .func (.func f) #[] #[]
abbrev u64v (a : Int) : Value := .int .u64 a
abbrev i64v (a : Int) : Value := .int .i64 a
abbrev okv : Value := .int .i64 0
abbrev pairv (a b : Value) : Value := .tuple #[a, b]

theorem tmod_nn {a : Int} (b : Int) (h : 0 ≤ a) : a.tmod b = a % b := Int.tmod_eq_emod_of_nonneg h
theorem fdiv_nn (a : Int) {b : Int} (h : 0 ≤ b) : a.fdiv b = a / b := Int.fdiv_eq_ediv_of_nonneg a h
theorem tdiv_nn {a : Int} (b : Int) (h : 0 ≤ a) : a.tdiv b = a / b := Int.tdiv_eq_ediv_of_nonneg h
theorem two_pow_pos (n : Nat) : (0 : Int) < 2 ^ n := Int.pow_pos (by decide)

theorem down_half (b : Int) (k : Nat) : b / 2 ^ (k + 1) = b / 2 ^ k / 2 := by
  rw [Int.pow_succ, Int.ediv_ediv_of_nonneg (Int.le_of_lt (two_pow_pos _))]
theorem u64_down (k : Nat) (h : k < 64) : min (IntKind.u64.wrap (((k + 1 : Nat) : Int) - 1)).toNat 64 = k := by
  rw [u64_in (by omega) (by omega)]; omega
theorem u64_down_neg (k : Nat) (h : k < 64) : decide (IntKind.u64.wrap (((k + 1 : Nat) : Int) - 1) < 0) = false := by
  rw [u64_in (by omega) (by omega)]; simp
theorem i64_down (k : Nat) (h : k < 64) : IntKind.i64.wrap ((((k + 1 : Nat) : Int) - 1) - 1) = (k : Int) - 1 := by
  rw [i64_in (by omega) (by omega)]; omega
theorem bit_of (x : Int) (h : 0 ≤ x) (k : Nat) : (x.fdiv (2 ^ k)).tmod 2 = x / 2 ^ k % 2 := by
  rw [fdiv_nn _ (Int.le_of_lt (two_pow_pos _)), tmod_nn _ (Int.ediv_nonneg h (Int.le_of_lt (two_pow_pos _)))]
theorem step_prod (a B : Int) : a * B = 2 * (a * (B / 2)) + a * (B % 2) := by
  have h : B = 2 * (B / 2) + B % 2 := by omega
  have : a * B = a * (2 * (B / 2) + B % 2) := by rw [← h]
  rw [this, Int.mul_add, ← Int.mul_assoc, Int.mul_comm a 2, Int.mul_assoc]
end Go.Proofs.Ytjoikaklincfoaa
