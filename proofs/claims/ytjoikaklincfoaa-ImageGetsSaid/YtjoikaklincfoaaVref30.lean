/-
The explicit conditions of some functions of the program, printed by this repo's own program over VcTop: what is proved is that each is the condition.
Conditions: none.
-/
import Derived.Test.YtjoikaklincfoaaVcTop
import Derived.Test.YtjoikaklincfoaaProg
namespace Go.Proofs.Ytjoikaklincfoaa
open Go Go.Vc Go.RowKit
set_option linter.unusedVariables false
set_option maxRecDepth 100000

/- function 21: sacristy/sacristyref30.Words -/
abbrev ref30_Words.N : FuncId := 21
def ref30_Words.H : Hints := { loops := [(4, [(3, .one (.int .i64)), (4, .one (.int .i64))])] }
def ref30_Words.vc (l' : Option Addr) (l'n : Nat) (l'c : Nat) (w : World) (R : Ending → World → Prop) : Prop :=
  ∃ (I : List Value → World → Prop),
  ∃ (μ : List Value → World → Nat),
  I [Value.int IntKind.i64 0, Value.int IntKind.i64 0] w ∧
  ∀ (g : Nat → Value) (n i : Int) (w' : World),
  I [Value.int IntKind.i64 n, Value.int IntKind.i64 i] w' →
  cnd (decide (i < (↑l'n : Int)))
  ((0 ≤ i ∧ i < (↑l'n : Int)) ∧
  Deref l' fun (a : Addr) =>
  ∃ (b : Bool),
  w'.cell? (a.add (i.toNat * 5)) = some (Value.bool b) ∧
  cnd b
  (Goes I μ [Value.int IntKind.i64 n, Value.int IntKind.i64 i] w'
  [Value.int IntKind.i64 (IntKind.i64.wrap (IntKind.i64.wrap (n + 1) + 1)),
  Value.int IntKind.i64 (IntKind.i64.wrap (i + 1))]
  w')
  (Goes I μ [Value.int IntKind.i64 n, Value.int IntKind.i64 i] w'
  [Value.int IntKind.i64 (IntKind.i64.wrap (n + 1)),
  Value.int IntKind.i64 (IntKind.i64.wrap (i + 1))]
  w'))
  (R (Ending.returned (Value.int IntKind.i64 n)) w')
theorem ref30_Words.vc_eq (l' : Option Addr) (l'n : Nat) (l'c : Nat) (w : World) (R : Ending → World → Prop) : fnV Try.prog ref30_Words.H 21 [Value.slice l' l'n l'c] w R = ref30_Words.vc l' l'n l'c w R := by kernel_rfl
theorem ref30_Words.calls {l' : Option Addr} {l'n : Nat} {l'c : Nat} {w : World} {R : Ending → World → Prop} (h : ref30_Words.vc l' l'n l'c w R) : Calls Try.prog 21 ([Value.slice l' l'n l'c] : List Value).toArray w R := calls_of_eq (ref30_Words.vc_eq l' l'n l'c w R) h

/- function 13: sacristy/sacristyref30.May -/
abbrev ref30_May.N : FuncId := 13
def ref30_May.H : Hints := { loops := [(5, [(3, .one (.int .i64))]), (11, [(5, .one (.int .i64))])], regs := [(1, [(48, .one .bool)])] }
def ref30_May.vc (x'_0 : Int) (x'_1 : Option Addr) (x'_1n : Nat) (x'_1c : Nat) (x'_2 : Bool) (x'_3 : Bool) (x'_4 : Option Addr) (x'_4n : Nat) (x'_4c : Nat) (w : World) (R : Ending → World → Prop) : Prop :=
  ∀ (w' : World),
  w' =
  w.alloc
  (Obj.cells
  #[Value.int IntKind.i64 x'_0, Value.slice x'_1 x'_1n x'_1c, Value.bool x'_2, Value.bool x'_3,
  Value.slice x'_4 x'_4n x'_4c]
  25) →
  ∃ (J : List Value → World → Prop),
  (∃ (n : Int),
  w'.cell? (Addr.mk w.heap.size 0 none) = some (Value.int IntKind.i64 n) ∧
  cnd (decide (n < 0)) (J [Value.bool true] w')
  (∃ (n : Int),
  w'.cell? (Addr.mk w.heap.size 0 none) = some (Value.int IntKind.i64 n) ∧
  cnd (decide (n > 255)) (J [Value.bool true] w')
  (∃ (p : Option Addr),
  ∃ (n : Nat),
  ∃ (c : Nat),
  w'.cell? (Addr.mk w.heap.size 1 none) = some (Value.slice p n c) ∧
  cnd (decide ((↑n : Int) > 8)) (J [Value.bool true] w')
  (∃ (p : Option Addr),
  ∃ (n : Nat),
  ∃ (c : Nat),
  w'.cell? (Addr.mk w.heap.size 1 none) = some (Value.slice p n c) ∧
  Calls Proofs.Try.prog 21 #[Value.slice p n c] w' fun (e : Ending) (w' : World) =>
  ∃ (n : Int),
  e = Ending.returned (Value.int IntKind.i64 n) ∧
  cnd (decide (n > 8)) (J [Value.bool true] w')
  (∃ (b : Bool),
  w'.cell? (Addr.mk w.heap.size 3 none) = some (Value.bool b) ∧
  cnd b
  (∃ (b : Bool),
  w'.cell? (Addr.mk w.heap.size 2 none) = some (Value.bool b) ∧
  cnd (!b) (J [Value.bool true] w')
  (∃ (p : Option Addr),
  ∃ (n : Nat),
  ∃ (c : Nat),
  w'.cell? (Addr.mk w.heap.size 4 none) =
  some (Value.slice p n c) ∧
  cnd (decide ((↑n : Int) < 1)) (J [Value.bool true] w')
  (∃ (p : Option Addr),
  ∃ (n : Nat),
  ∃ (c : Nat),
  w'.cell? (Addr.mk w.heap.size 4 none) =
  some (Value.slice p n c) ∧
  J
  [Value.bool
  (decide ((↑n : Int) > 131072))]
  w')))
  (∃ (p : Option Addr),
  ∃ (n : Nat),
  ∃ (c : Nat),
  w'.cell? (Addr.mk w.heap.size 4 none) =
  some (Value.slice p n c) ∧
  cnd (decide ((↑n : Int) < 1)) (J [Value.bool true] w')
  (∃ (p : Option Addr),
  ∃ (n : Nat),
  ∃ (c : Nat),
  w'.cell? (Addr.mk w.heap.size 4 none) =
  some (Value.slice p n c) ∧
  J [Value.bool (decide ((↑n : Int) > 131072))]
  w'))))))) ∧
  ∀ (g : Nat → Value) (s48 : Bool) (w' : World),
  J [Value.bool s48] w' →
  cnd s48 (R (Ending.returned (Value.bool false)) w')
  (∃ (I : List Value → World → Prop),
  ∃ (μ : List Value → World → Nat),
  I [Value.int IntKind.i64 0] w' ∧
  ∀ (g : Nat → Value) (i : Int) (w' : World),
  I [Value.int IntKind.i64 i] w' →
  ∃ (p : Option Addr),
  ∃ (n : Nat),
  ∃ (c : Nat),
  w'.cell? (Addr.mk w.heap.size 1 none) = some (Value.slice p n c) ∧
  cnd (decide (i < (↑n : Int)))
  (∃ (p : Option Addr),
  ∃ (n : Nat),
  ∃ (c : Nat),
  w'.cell? (Addr.mk w.heap.size 1 none) = some (Value.slice p n c) ∧
  (0 ≤ i ∧ i < (↑n : Int)) ∧
  Deref p fun (a : Addr) =>
  ∃ (b : Bool),
  ∃ (b_1 : Bool),
  ∃ (b_2 : Bool),
  ∃ (n : Int),
  ∃ (n_1 : Int),
  (w'.cell? (a.add (i.toNat * 5)) = some (Value.bool b) ∧
  w'.cell? ((a.add (i.toNat * 5)).add 1) =
  some (Value.bool b_1) ∧
  w'.cell? ((a.add (i.toNat * 5)).add 2) =
  some (Value.bool b_2) ∧
  w'.cell? ((a.add (i.toNat * 5)).add 3) =
  some (Value.int IntKind.i64 n) ∧
  w'.cell? ((a.add (i.toNat * 5)).add 4) =
  some (Value.int IntKind.i64 n_1) ∧
  True) ∧
  ∀ (w'_1 : World),
  w'_1 =
  w'.alloc
  (Obj.cells
  #[Value.bool false, Value.bool false,
  Value.bool false, Value.int IntKind.i64 0,
  Value.int IntKind.i64 0]
  50) →
  SetsAt w'_1 (Addr.mk w'.heap.size 0 none) 0
  [Value.bool b, Value.bool b_1, Value.bool b_2,
  Value.int IntKind.i64 n,
  Value.int IntKind.i64 n_1] ∧
  ∀ (w'_2 : World),
  w'_2 =
  setCellsAt w'_1 (Addr.mk w'.heap.size 0 none) 0
  [Value.bool b, Value.bool b_1, Value.bool b_2,
  Value.int IntKind.i64 n,
  Value.int IntKind.i64 n_1] →
  ∃ (n : Int),
  w'_2.cell? (Addr.mk w'.heap.size 3 none) =
  some (Value.int IntKind.i64 n) ∧
  cnd (n != 0)
  (R (Ending.returned (Value.bool false)) w'_2)
  (∃ (n : Int),
  w'_2.cell? (Addr.mk w'.heap.size 4 none) =
  some (Value.int IntKind.i64 n) ∧
  cnd (n != 0)
  (R (Ending.returned (Value.bool false))
  w'_2)
  (∃ (b : Bool),
  w'_2.cell?
  (Addr.mk w'.heap.size 2 none) =
  some (Value.bool b) ∧
  cnd b
  (∃ (b : Bool),
  w'_2.cell?
  (Addr.mk w'.heap.size 0
  none) =
  some (Value.bool b) ∧
  cnd (!b)
  (R
  (Ending.returned
  (Value.bool false))
  w'_2)
  (Goes I μ
  [Value.int IntKind.i64 i]
  w'
  [Value.int IntKind.i64
  (IntKind.i64.wrap
  (i + 1))]
  w'_2))
  (Goes I μ
  [Value.int IntKind.i64 i] w'
  [Value.int IntKind.i64
  (IntKind.i64.wrap (i + 1))]
  w'_2))))
  (∃ (I : List Value → World → Prop),
  ∃ (μ : List Value → World → Nat),
  I [Value.int IntKind.i64 0] w' ∧
  ∀ (g : Nat → Value) (i : Int) (w' : World),
  I [Value.int IntKind.i64 i] w' →
  ∃ (p : Option Addr),
  ∃ (n : Nat),
  ∃ (c : Nat),
  w'.cell? (Addr.mk w.heap.size 4 none) = some (Value.slice p n c) ∧
  cnd (decide (i < (↑n : Int)))
  (∃ (p : Option Addr),
  ∃ (n : Nat),
  ∃ (c : Nat),
  w'.cell? (Addr.mk w.heap.size 4 none) =
  some (Value.slice p n c) ∧
  (0 ≤ i ∧ i < (↑n : Int)) ∧
  Deref p fun (a : Addr) =>
  ∃ (n : Int),
  w'.cell? (a.add (i.toNat * 1)) =
  some (Value.int IntKind.u32 n) ∧
  Calls Proofs.Try.prog 15
  #[Value.int IntKind.u32 n] w'
  fun (e : Ending) (w'_1 : World) =>
  ∃ (n : Int),
  ∃ (n_1 : Int),
  ∃ (n_2 : Int),
  ∃ (n_3 : Int),
  ∃ (n_4 : Int),
  ∃ (n_5 : Int),
  e =
  Ending.returned
  (Value.tuple
  #[Value.agg
  #[Value.int IntKind.u8
  n,
  Value.int IntKind.u8
  n_1,
  Value.int IntKind.u8
  n_2,
  Value.int IntKind.u8
  n_3,
  Value.int IntKind.i64
  n_4],
  Value.int IntKind.i64
  n_5]) ∧
  ∀ (w'_2 : World),
  w'_2 =
  w'_1.alloc
  (Obj.cells
  #[Value.int IntKind.u8
  0,
  Value.int IntKind.u8
  0,
  Value.int IntKind.u8
  0,
  Value.int IntKind.u8
  0,
  Value.int IntKind.i64
  0]
  39) →
  SetsAt w'_2
  (Addr.mk w'_1.heap.size 0
  none)
  0
  [Value.int IntKind.u8 n,
  Value.int IntKind.u8
  n_1,
  Value.int IntKind.u8
  n_2,
  Value.int IntKind.u8
  n_3,
  Value.int IntKind.i64
  n_4] ∧
  ∀ (w'_3 : World),
  w'_3 =
  setCellsAt w'_2
  (Addr.mk
  w'_1.heap.size 0
  none)
  0
  [Value.int
  IntKind.u8 n,
  Value.int
  IntKind.u8 n_1,
  Value.int
  IntKind.u8 n_2,
  Value.int
  IntKind.u8 n_3,
  Value.int
  IntKind.i64
  n_4] →
  cnd (n_5 != 0)
  (R
  (Ending.returned
  (Value.bool
  false))
  w'_3)
  (Goes I μ
  [Value.int
  IntKind.i64 i]
  w'
  [Value.int
  IntKind.i64
  (IntKind.i64.wrap
  (i + 1))]
  w'_3))
  (R (Ending.returned (Value.bool true)) w')))
theorem ref30_May.vc_eq (x'_0 : Int) (x'_1 : Option Addr) (x'_1n : Nat) (x'_1c : Nat) (x'_2 : Bool) (x'_3 : Bool) (x'_4 : Option Addr) (x'_4n : Nat) (x'_4c : Nat) (w : World) (R : Ending → World → Prop) : fnV Try.prog ref30_May.H 13 [Value.agg
  #[Value.int IntKind.i64 x'_0, Value.slice x'_1 x'_1n x'_1c, Value.bool x'_2, Value.bool x'_3,
  Value.slice x'_4 x'_4n x'_4c]] w R = ref30_May.vc x'_0 x'_1 x'_1n x'_1c x'_2 x'_3 x'_4 x'_4n x'_4c w R := by kernel_rfl
theorem ref30_May.calls {x'_0 : Int} {x'_1 : Option Addr} {x'_1n : Nat} {x'_1c : Nat} {x'_2 : Bool} {x'_3 : Bool} {x'_4 : Option Addr} {x'_4n : Nat} {x'_4c : Nat} {w : World} {R : Ending → World → Prop} (h : ref30_May.vc x'_0 x'_1 x'_1n x'_1c x'_2 x'_3 x'_4 x'_4n x'_4c w R) : Calls Try.prog 13 ([Value.agg
  #[Value.int IntKind.i64 x'_0, Value.slice x'_1 x'_1n x'_1c, Value.bool x'_2, Value.bool x'_3,
  Value.slice x'_4 x'_4n x'_4c]] : List Value).toArray w R := calls_of_eq (ref30_May.vc_eq x'_0 x'_1 x'_1n x'_1c x'_2 x'_3 x'_4 x'_4n x'_4c w R) h

/- function 22: sacristy/sacristyref30.bits -/
abbrev ref30_bits.N : FuncId := 22
def ref30_bits.H : Hints := {  }
def ref30_bits.vc (a' : Bool) (b' : Bool) (c' : Bool) (w : World) (R : Ending → World → Prop) : Prop :=
  cnd a'
  (cnd b'
  (cnd c'
  (R (Ending.returned (Value.int IntKind.u8 (IntKind.u8.wrap (IntKind.u8.wrap (IntKind.u8.wrap 1 + 2) + 4)))) w)
  (R (Ending.returned (Value.int IntKind.u8 (IntKind.u8.wrap (IntKind.u8.wrap 1 + 2)))) w))
  (cnd c' (R (Ending.returned (Value.int IntKind.u8 (IntKind.u8.wrap (IntKind.u8.wrap 1 + 4)))) w)
  (R (Ending.returned (Value.int IntKind.u8 (IntKind.u8.wrap 1))) w)))
  (cnd b'
  (cnd c' (R (Ending.returned (Value.int IntKind.u8 (IntKind.u8.wrap (IntKind.u8.wrap 2 + 4)))) w)
  (R (Ending.returned (Value.int IntKind.u8 (IntKind.u8.wrap 2))) w))
  (cnd c' (R (Ending.returned (Value.int IntKind.u8 (IntKind.u8.wrap 4))) w)
  (R (Ending.returned (Value.int IntKind.u8 0)) w)))
theorem ref30_bits.vc_eq (a' : Bool) (b' : Bool) (c' : Bool) (w : World) (R : Ending → World → Prop) : fnV Try.prog ref30_bits.H 22 [Value.bool a', Value.bool b', Value.bool c'] w R = ref30_bits.vc a' b' c' w R := by kernel_rfl
theorem ref30_bits.calls {a' : Bool} {b' : Bool} {c' : Bool} {w : World} {R : Ending → World → Prop} (h : ref30_bits.vc a' b' c' w R) : Calls Try.prog 22 ([Value.bool a', Value.bool b', Value.bool c'] : List Value).toArray w R := calls_of_eq (ref30_bits.vc_eq a' b' c' w R) h

/- function 23: sacristy/sacristyref30.four -/
abbrev ref30_four.N : FuncId := 23
def ref30_four.H : Hints := {  }
def ref30_four.vc (n' : Int) (w : World) (R : Ending → World → Prop) : Prop :=
  ∀ (w' : World),
  w' =
  w.alloc
  (Obj.cells
  #[Value.int IntKind.u8 (IntKind.u8.wrap (n'.tmod 256)),
  Value.int IntKind.u8 (IntKind.u8.wrap ((IntKind.u32.wrap (n'.tdiv 256)).tmod 256)),
  Value.int IntKind.u8 (IntKind.u8.wrap ((IntKind.u32.wrap (n'.tdiv 65536)).tmod 256)),
  Value.int IntKind.u8 (IntKind.u8.wrap (IntKind.u32.wrap (n'.tdiv 16777216)))]
  5) →
  R (Ending.returned (Value.slice (some (Addr.mk w.heap.size 0 none)) 4 4)) w'
theorem ref30_four.vc_eq (n' : Int) (w : World) (R : Ending → World → Prop) : fnV Try.prog ref30_four.H 23 [Value.int IntKind.u32 n'] w R = ref30_four.vc n' w R := by kernel_rfl
theorem ref30_four.calls {n' : Int} {w : World} {R : Ending → World → Prop} (h : ref30_four.vc n' w R) : Calls Try.prog 23 ([Value.int IntKind.u32 n'] : List Value).toArray w R := calls_of_eq (ref30_four.vc_eq n' w R) h

/- function 14: sacristy/sacristyref30.Put -/
abbrev ref30_Put.N : FuncId := 14
def ref30_Put.H : Hints := { loops := [(5, [(3, .one .slice), (4, .one (.int .i64))]), (11, [(3, .one .slice), (5, .one (.int .i64))])], tails := [(6, 20)], edges := [(6, [(0, 20)])] }
def ref30_Put.vc (x'_0 : Int) (x'_1 : Option Addr) (x'_1n : Nat) (x'_1c : Nat) (x'_2 : Bool) (x'_3 : Bool) (x'_4 : Option Addr) (x'_4n : Nat) (x'_4c : Nat) (w : World) (R : Ending → World → Prop) : Prop :=
  ∀ (w' : World),
  w' =
  w.alloc
  (Obj.cells
  #[Value.int IntKind.i64 x'_0, Value.slice x'_1 x'_1n x'_1c, Value.bool x'_2, Value.bool x'_3,
  Value.slice x'_4 x'_4n x'_4c]
  25) →
  ∀ (w'_1 : World),
  w'_1 =
  w'.alloc
  (Obj.cells
  #[Value.int IntKind.u8 83, Value.int IntKind.u8 67, Value.int IntKind.u8 82, Value.int IntKind.u8 49] 5) →
  RunsV Proofs.Try.prog (convert 48 48 (Value.slice (some (Addr.mk w'.heap.size 0 none)) 4 4)) w'_1
  fun (v : Value) (w' : World) =>
  ∃ (p : Option Addr),
  ∃ (n : Nat),
  ∃ (c : Nat),
  v = Value.slice p n c ∧
  ∃ (n_1 : Int),
  w'.cell? (Addr.mk w.heap.size 0 none) = some (Value.int IntKind.i64 n_1) ∧
  ∃ (p_1 : Option Addr),
  ∃ (n_2 : Nat),
  ∃ (c_1 : Nat),
  w'.cell? (Addr.mk w.heap.size 1 none) = some (Value.slice p_1 n_2 c_1) ∧
  ∀ (w'_2 : World),
  w'_2 =
  w'.alloc
  (Obj.cells
  #[Value.int IntKind.u8 (IntKind.u8.wrap n_1),
  Value.int IntKind.u8 (IntKind.u8.wrap (↑n_2 : Int))]
  5) →
  RunsV Proofs.Try.prog
  (Builtin.append_ #[48, 48] 48
  #[Value.slice p n c, Value.slice (some (Addr.mk w'.heap.size 0 none)) 2 2])
  w'_2 fun (v : Value) (w' : World) =>
  ∃ (p : Option Addr),
  ∃ (n : Nat),
  ∃ (c : Nat),
  v = Value.slice p n c ∧
  ∃ (I : List Value → World → Prop),
  ∃ (μ : List Value → World → Nat),
  I [Value.slice p n c, Value.int IntKind.i64 0] w' ∧
  ∀ (g : Nat → Value) (b : Option Addr) (bn bc : Nat) (i : Int)
  (w' : World),
  I [Value.slice b bn bc, Value.int IntKind.i64 i] w' →
  ∃ (p : Option Addr),
  ∃ (n : Nat),
  ∃ (c : Nat),
  w'.cell? (Addr.mk w.heap.size 1 none) =
  some (Value.slice p n c) ∧
  cnd (decide (i < (↑n : Int)))
  (∃ (p : Option Addr),
  ∃ (n : Nat),
  ∃ (c : Nat),
  (∀ (w'_3 : World),
  Later w' w'_3 →
  w'_3.cell? (Addr.mk w.heap.size 1 none) =
  some (Value.slice p n c)) ∧
  (0 ≤ i ∧ i < (↑n : Int)) ∧
  Deref p fun (a : Addr) =>
  ∃ (b_1 : Bool),
  (∀ (w'_3 : World),
  Later w' w'_3 →
  w'_3.cell? (a.add (i.toNat * 5)) =
  some (Value.bool b_1)) ∧
  ∃ (p : Option Addr),
  ∃ (n : Nat),
  ∃ (c : Nat),
  (∀ (w'_3 : World),
  Later w' w'_3 →
  w'_3.cell?
  (Addr.mk w.heap.size 1
  none) =
  some
  (Value.slice p n c)) ∧
  (0 ≤ i ∧ i < (↑n : Int)) ∧
  Deref p fun (a : Addr) =>
  ∃ (b_2 : Bool),
  (∀ (w'_3 : World),
  Later w' w'_3 →
  w'_3.cell?
  ((a.add
  (i.toNat *
  5)).add
  1) =
  some
  (Value.bool
  b_2)) ∧
  ∃ (p : Option Addr),
  ∃ (n : Nat),
  ∃ (c : Nat),
  (∀ (w'_3 : World),
  Later w'
  w'_3 →
  w'_3.cell?
  (Addr.mk
  w.heap.size
  1
  none) =
  some
  (Value.slice
  p n
  c)) ∧
  (0 ≤ i ∧
  i <
  (↑n :
  Int)) ∧
  Deref p
  fun
  (a :
  Addr) =>
  ∃ (b_3 :
  Bool),
  (∀
  (w'_3 :
  World),
  Later
  w'
  w'_3 →
  w'_3.cell?
  ((a.add
  (i.toNat *
  5)).add
  2) =
  some
  (Value.bool
  b_3)) ∧
  ∃ (n :
  Int),
  (∀
  (w'_3 :
  World),
  Later
  w'
  w'_3 →
  Calls
  Proofs.Try.prog
  22
  #[Value.bool
  b_1,
  Value.bool
  b_2,
  Value.bool
  b_3]
  w'_3
  fun
  (e :
  Ending)
  (w'' :
  World) =>
  e =
  Ending.returned
  (Value.int
  IntKind.u8
  n) ∧
  Later
  w'_3
  w'') ∧
  ∀
  (w'_3 :
  World),
  Later
  w'
  w'_3 →
  ∀
  (w'_4 :
  World),
  w'_4 =
  w'_3.alloc
  (Obj.cells
  #[Value.int
  IntKind.u8
  n]
  5) →
  RunsV
  Proofs.Try.prog
  (Builtin.append_
  #[48,
  48]
  48
  #[Value.slice
  b
  bn
  bc,
  Value.slice
  (some
  (Addr.mk
  w'_3.heap.size
  0
  none))
  1
  1])
  w'_4
  fun
  (v :
  Value)
  (w'_5 :
  World) =>
  ∃
  (p
  :
  Option
  Addr),
  ∃
  (n
  :
  Nat),
  ∃
  (c
  :
  Nat),
  v =
  Value.slice
  p
  n
  c ∧
  Goes
  I
  μ
  [Value.slice
  b
  bn
  bc,
  Value.int
  IntKind.i64
  i]
  w'
  [Value.slice
  p
  n
  c,
  Value.int
  IntKind.i64
  (IntKind.i64.wrap
  (i +
  1))]
  w'_5)
  (∃ (b_1 : Bool),
  w'.cell? (Addr.mk w.heap.size 2 none) =
  some (Value.bool b_1) ∧
  ∃ (b_2 : Bool),
  w'.cell? (Addr.mk w.heap.size 3 none) =
  some (Value.bool b_2) ∧
  Calls Proofs.Try.prog 22
  #[Value.bool b_1, Value.bool b_2,
  Value.bool false]
  w' fun (e : Ending) (w' : World) =>
  ∃ (n : Int),
  e =
  Ending.returned
  (Value.int IntKind.u8 n) ∧
  ∀ (w'_3 : World),
  w'_3 =
  w'.alloc
  (Obj.cells
  #[Value.int IntKind.u8 n] 5) →
  RunsV Proofs.Try.prog
  (Builtin.append_ #[48, 48] 48
  #[Value.slice b bn bc,
  Value.slice
  (some
  (Addr.mk w'.heap.size 0
  none))
  1 1])
  w'_3 fun (v : Value) (w' : World) =>
  ∃ (p : Option Addr),
  ∃ (n : Nat),
  ∃ (c : Nat),
  v = Value.slice p n c ∧
  ∃ (p_2 : Option Addr),
  ∃ (n_3 : Nat),
  ∃ (c_2 : Nat),
  w'.cell?
  (Addr.mk
  w.heap.size 4
  none) =
  some
  (Value.slice p_2
  n_3 c_2) ∧
  Calls
  Proofs.Try.prog 23
  #[Value.int
  IntKind.u32
  (IntKind.u32.wrap
  (↑n_3 :
  Int))]
  w'
  fun (e : Ending)
  (w' : World) =>
  ∃ (p_3 :
  Option Addr),
  ∃ (n_4 : Nat),
  ∃ (c_3 : Nat),
  e =
  Ending.returned
  (Value.slice
  p_3
  n_4
  c_3) ∧
  RunsV
  Proofs.Try.prog
  (Builtin.append_
  #[48,
  48]
  48
  #[Value.slice
  p
  n
  c,
  Value.slice
  p_3
  n_4
  c_3])
  w'
  fun
  (v :
  Value)
  (w' :
  World) =>
  ∃ (p :
  Option
  Addr),
  ∃ (n :
  Nat),
  ∃ (c
  :
  Nat),
  v =
  Value.slice
  p
  n
  c ∧
  ∃
  (I
  :
  List
  Value →
  World →
  Prop),
  ∃
  (μ
  :
  List
  Value →
  World →
  Nat),
  I
  [Value.slice
  p
  n
  c,
  Value.int
  IntKind.i64
  0]
  w' ∧
  ∀
  (g :
  Nat →
  Value)
  (b :
  Option
  Addr)
  (bn
  bc :
  Nat)
  (i :
  Int)
  (w' :
  World),
  I
  [Value.slice
  b
  bn
  bc,
  Value.int
  IntKind.i64
  i]
  w' →
  ∃
  (p
  :
  Option
  Addr),
  ∃
  (n
  :
  Nat),
  ∃
  (c
  :
  Nat),
  w'.cell?
  (Addr.mk
  w.heap.size
  4
  none) =
  some
  (Value.slice
  p
  n
  c) ∧
  cnd
  (decide
  (i <
  (↑n :
  Int)))
  (∃
  (p
  :
  Option
  Addr),
  ∃
  (n
  :
  Nat),
  ∃
  (c
  :
  Nat),
  w'.cell?
  (Addr.mk
  w.heap.size
  4
  none) =
  some
  (Value.slice
  p
  n
  c) ∧
  (0 ≤
  i ∧
  i <
  (↑n :
  Int)) ∧
  Deref
  p
  fun
  (a :
  Addr) =>
  ∃
  (n
  :
  Int),
  w'.cell?
  (a.add
  (i.toNat *
  1)) =
  some
  (Value.int
  IntKind.u32
  n) ∧
  Calls
  Proofs.Try.prog
  23
  #[Value.int
  IntKind.u32
  n]
  w'
  fun
  (e :
  Ending)
  (w'_4 :
  World) =>
  ∃
  (p
  :
  Option
  Addr),
  ∃
  (n
  :
  Nat),
  ∃
  (c
  :
  Nat),
  e =
  Ending.returned
  (Value.slice
  p
  n
  c) ∧
  RunsV
  Proofs.Try.prog
  (Builtin.append_
  #[48,
  48]
  48
  #[Value.slice
  b
  bn
  bc,
  Value.slice
  p
  n
  c])
  w'_4
  fun
  (v :
  Value)
  (w'_5 :
  World) =>
  ∃
  (p
  :
  Option
  Addr),
  ∃
  (n
  :
  Nat),
  ∃
  (c
  :
  Nat),
  v =
  Value.slice
  p
  n
  c ∧
  Goes
  I
  μ
  [Value.slice
  b
  bn
  bc,
  Value.int
  IntKind.i64
  i]
  w'
  [Value.slice
  p
  n
  c,
  Value.int
  IntKind.i64
  (IntKind.i64.wrap
  (i +
  1))]
  w'_5)
  (RunsV
  Proofs.Try.prog
  (convert
  48
  9
  (Value.slice
  b
  bn
  bc))
  w'
  fun
  (v :
  Value)
  (w' :
  World) =>
  ∃
  (s
  :
  ByteArray),
  v =
  Value.string
  s ∧
  R
  (Ending.returned
  (Value.string
  s))
  w'))
theorem ref30_Put.vc_eq (x'_0 : Int) (x'_1 : Option Addr) (x'_1n : Nat) (x'_1c : Nat) (x'_2 : Bool) (x'_3 : Bool) (x'_4 : Option Addr) (x'_4n : Nat) (x'_4c : Nat) (w : World) (R : Ending → World → Prop) : fnV Try.prog ref30_Put.H 14 [Value.agg
  #[Value.int IntKind.i64 x'_0, Value.slice x'_1 x'_1n x'_1c, Value.bool x'_2, Value.bool x'_3,
  Value.slice x'_4 x'_4n x'_4c]] w R = ref30_Put.vc x'_0 x'_1 x'_1n x'_1c x'_2 x'_3 x'_4 x'_4n x'_4c w R := by kernel_rfl
theorem ref30_Put.calls {x'_0 : Int} {x'_1 : Option Addr} {x'_1n : Nat} {x'_1c : Nat} {x'_2 : Bool} {x'_3 : Bool} {x'_4 : Option Addr} {x'_4n : Nat} {x'_4c : Nat} {w : World} {R : Ending → World → Prop} (h : ref30_Put.vc x'_0 x'_1 x'_1n x'_1c x'_2 x'_3 x'_4 x'_4n x'_4c w R) : Calls Try.prog 14 ([Value.agg
  #[Value.int IntKind.i64 x'_0, Value.slice x'_1 x'_1n x'_1c, Value.bool x'_2, Value.bool x'_3,
  Value.slice x'_4 x'_4n x'_4c]] : List Value).toArray w R := calls_of_eq (ref30_Put.vc_eq x'_0 x'_1 x'_1n x'_1c x'_2 x'_3 x'_4 x'_4n x'_4c w R) h

/- function 38: sacristy/sacristyref30.value -/
abbrev ref30_value.N : FuncId := 38
def ref30_value.H : Hints := {  }
def ref30_value.vc (s' : ByteArray) (at' : Int) (w : World) (R : Ending → World → Prop) : Prop :=
  0 ≤ at' ∧
  ∃ (b : UInt8),
  s'[at'.toNat]? = some b ∧
  0 ≤ IntKind.i64.wrap (at' + 1) ∧
  ∃ (b_1 : UInt8),
  s'[(IntKind.i64.wrap (at' + 1)).toNat]? = some b_1 ∧
  0 ≤ IntKind.i64.wrap (at' + 2) ∧
  ∃ (b_2 : UInt8),
  s'[(IntKind.i64.wrap (at' + 2)).toNat]? = some b_2 ∧
  0 ≤ IntKind.i64.wrap (at' + 3) ∧
  ∃ (b_3 : UInt8),
  s'[(IntKind.i64.wrap (at' + 3)).toNat]? = some b_3 ∧
  ∀ (w' : World),
  Later w w' →
  R
  (Ending.returned
  (Value.int IntKind.u32
  (IntKind.u32.wrap
  (IntKind.u32.wrap
  (IntKind.u32.wrap
  (IntKind.u32.wrap (↑b.toNat : Int) +
  IntKind.u32.wrap (256 * IntKind.u32.wrap (↑b_1.toNat : Int))) +
  IntKind.u32.wrap (65536 * IntKind.u32.wrap (↑b_2.toNat : Int))) +
  IntKind.u32.wrap (16777216 * IntKind.u32.wrap (↑b_3.toNat : Int))))))
  w'
theorem ref30_value.vc_eq (s' : ByteArray) (at' : Int) (w : World) (R : Ending → World → Prop) : fnV Try.prog ref30_value.H 38 [Value.string s', Value.int IntKind.i64 at'] w R = ref30_value.vc s' at' w R := by kernel_rfl
theorem ref30_value.calls {s' : ByteArray} {at' : Int} {w : World} {R : Ending → World → Prop} (h : ref30_value.vc s' at' w R) : Calls Try.prog 38 ([Value.string s', Value.int IntKind.i64 at'] : List Value).toArray w R := calls_of_eq (ref30_value.vc_eq s' at' w R) h

/- function 30: sacristy/sacristyref30.read -/
abbrev ref30_read.N : FuncId := 30
def ref30_read.H : Hints := { loops := [(12, [(8, .one (.int .i64))]), (24, [(11, .one (.int .i64))])], mixes := [(25, 1001)] }
def ref30_read.vc (s' : ByteArray) (w : World) (R : Ending → World → Prop) : Prop :=
  ∀ (w' : World),
  w' =
  w.alloc
  (Obj.cells
  #[Value.int IntKind.i64 0, Value.slice none 0 0, Value.bool false, Value.bool false, Value.slice none 0 0]
  25) →
  ∀ (w'_1 : World),
  w'_1 =
  w'.alloc
  (Obj.cells
  #[Value.int IntKind.i64 0, Value.slice none 0 0, Value.bool false, Value.bool false, Value.slice none 0 0]
  25) →
  SetsAt w'_1 (Addr.mk w'.heap.size 0 none) 0
  [Value.int IntKind.i64 0, Value.slice none 0 0, Value.bool false, Value.bool false, Value.slice none 0 0] ∧
  ∀ (w'_2 : World),
  w'_2 =
  setCellsAt w'_1 (Addr.mk w'.heap.size 0 none) 0
  [Value.int IntKind.i64 0, Value.slice none 0 0, Value.bool false, Value.bool false,
  Value.slice none 0 0] →
  cnd (decide ((↑s'.size : Int) < IntKind.i64.wrap 6))
  (∃ (n : Int),
  ∃ (p : Option Addr),
  ∃ (n_1 : Nat),
  ∃ (c : Nat),
  ∃ (b : Bool),
  ∃ (b_1 : Bool),
  ∃ (p_1 : Option Addr),
  ∃ (n_2 : Nat),
  ∃ (c_1 : Nat),
  (w'_2.cell? (Addr.mk w'.heap.size 0 none) = some (Value.int IntKind.i64 n) ∧
  w'_2.cell? (Addr.mk w'.heap.size 1 none) = some (Value.slice p n_1 c) ∧
  w'_2.cell? (Addr.mk w'.heap.size 2 none) = some (Value.bool b) ∧
  w'_2.cell? (Addr.mk w'.heap.size 3 none) = some (Value.bool b_1) ∧
  w'_2.cell? (Addr.mk w'.heap.size 4 none) = some (Value.slice p_1 n_2 c_1) ∧
  True) ∧
  SetsAt w'_2 (Addr.mk w.heap.size 0 none) 0
  [Value.int IntKind.i64 n, Value.slice p n_1 c, Value.bool b, Value.bool b_1,
  Value.slice p_1 n_2 c_1] ∧
  ∀ (w' : World),
  w' =
  setCellsAt w'_2 (Addr.mk w.heap.size 0 none) 0
  [Value.int IntKind.i64 n, Value.slice p n_1 c, Value.bool b,
  Value.bool b_1, Value.slice p_1 n_2 c_1] →
  ∃ (n : Int),
  ∃ (p : Option Addr),
  ∃ (n_3 : Nat),
  ∃ (c : Nat),
  ∃ (b : Bool),
  ∃ (b_2 : Bool),
  ∃ (p_2 : Option Addr),
  ∃ (n_4 : Nat),
  ∃ (c_2 : Nat),
  (w'.cell? (Addr.mk w.heap.size 0 none) =
  some (Value.int IntKind.i64 n) ∧
  w'.cell? (Addr.mk w.heap.size 1 none) =
  some (Value.slice p n_3 c) ∧
  w'.cell? (Addr.mk w.heap.size 2 none) =
  some (Value.bool b) ∧
  w'.cell? (Addr.mk w.heap.size 3 none) =
  some (Value.bool b_2) ∧
  w'.cell? (Addr.mk w.heap.size 4 none) =
  some (Value.slice p_2 n_4 c_2) ∧
  True) ∧
  R
  (Ending.returned
  (Value.tuple
  #[Value.agg
  #[Value.int IntKind.i64 n, Value.slice p n_3 c,
  Value.bool b, Value.bool b_2,
  Value.slice p_2 n_4 c_2],
  Value.int IntKind.i64 0, Value.bool false]))
  w')
  (Int.le 0 4 ∧
  ∃ (b : UInt8),
  s'[4]? = some b ∧
  ((w'_2.cell? (Addr.mk w'.heap.size 0 none)).isSome = true ∧
  w'_2.frozen? (Addr.mk w'.heap.size 0 none) = false) ∧
  ∀ (w'_3 : World),
  w'_3 =
  w'_2.setCell (Addr.mk w'.heap.size 0 none)
  (Value.int IntKind.i64 (IntKind.i64.wrap (↑b.toNat : Int))) →
  Int.le 0 (IntKind.i64.wrap 5) ∧
  ∃ (b : UInt8),
  s'[5]? = some b ∧
  cnd
  (decide
  ((↑s'.size : Int) <
  IntKind.i64.wrap
  (IntKind.i64.wrap (IntKind.i64.wrap 6 + IntKind.i64.wrap (↑b.toNat : Int)) +
  5)))
  (∃ (n : Int),
  ∃ (p : Option Addr),
  ∃ (n_1 : Nat),
  ∃ (c : Nat),
  ∃ (b : Bool),
  ∃ (b_1 : Bool),
  ∃ (p_1 : Option Addr),
  ∃ (n_2 : Nat),
  ∃ (c_1 : Nat),
  (w'_3.cell? (Addr.mk w'.heap.size 0 none) =
  some (Value.int IntKind.i64 n) ∧
  w'_3.cell? (Addr.mk w'.heap.size 1 none) =
  some (Value.slice p n_1 c) ∧
  w'_3.cell? (Addr.mk w'.heap.size 2 none) =
  some (Value.bool b) ∧
  w'_3.cell? (Addr.mk w'.heap.size 3 none) =
  some (Value.bool b_1) ∧
  w'_3.cell? (Addr.mk w'.heap.size 4 none) =
  some (Value.slice p_1 n_2 c_1) ∧
  True) ∧
  SetsAt w'_3 (Addr.mk w.heap.size 0 none) 0
  [Value.int IntKind.i64 n, Value.slice p n_1 c, Value.bool b,
  Value.bool b_1, Value.slice p_1 n_2 c_1] ∧
  ∀ (w' : World),
  w' =
  setCellsAt w'_3 (Addr.mk w.heap.size 0 none) 0
  [Value.int IntKind.i64 n, Value.slice p n_1 c,
  Value.bool b, Value.bool b_1,
  Value.slice p_1 n_2 c_1] →
  ∃ (n : Int),
  ∃ (p : Option Addr),
  ∃ (n_3 : Nat),
  ∃ (c : Nat),
  ∃ (b : Bool),
  ∃ (b_2 : Bool),
  ∃ (p_2 : Option Addr),
  ∃ (n_4 : Nat),
  ∃ (c_2 : Nat),
  (w'.cell? (Addr.mk w.heap.size 0 none) =
  some (Value.int IntKind.i64 n) ∧
  w'.cell?
  (Addr.mk w.heap.size 1 none) =
  some (Value.slice p n_3 c) ∧
  w'.cell?
  (Addr.mk w.heap.size 2
  none) =
  some (Value.bool b) ∧
  w'.cell?
  (Addr.mk w.heap.size 3
  none) =
  some (Value.bool b_2) ∧
  w'.cell?
  (Addr.mk w.heap.size 4
  none) =
  some
  (Value.slice p_2 n_4
  c_2) ∧
  True) ∧
  R
  (Ending.returned
  (Value.tuple
  #[Value.agg
  #[Value.int IntKind.i64 n,
  Value.slice p n_3 c,
  Value.bool b,
  Value.bool b_2,
  Value.slice p_2 n_4 c_2],
  Value.int IntKind.i64 0,
  Value.bool false]))
  w')
  (∃ (I : List Value → World → Prop),
  ∃ (μ : List Value → World → Nat),
  I [Value.int IntKind.i64 0] w'_3 ∧
  ∀ (g : Nat → Value) (i : Int) (w'_4 : World),
  I [Value.int IntKind.i64 i] w'_4 →
  cnd (decide (i < IntKind.i64.wrap (↑b.toNat : Int)))
  (0 ≤ IntKind.i64.wrap (IntKind.i64.wrap 6 + i) ∧
  ∃ (b : UInt8),
  s'[(IntKind.i64.wrap (IntKind.i64.wrap 6 + i)).toNat]? = some b ∧
  ∃ (p : Option Addr),
  ∃ (n : Nat),
  ∃ (c : Nat),
  w'_4.cell? (Addr.mk w'.heap.size 1 none) =
  some (Value.slice p n c) ∧
  ∀ (w'_5 : World),
  w'_5 =
  w'_4.alloc
  (Obj.cells
  #[Value.bool ((↑b.toNat : Int).tmod 2 == 1),
  Value.bool
  ((IntKind.u8.wrap
  ((↑b.toNat : Int).tdiv 2)).tmod
  2 ==
  1),
  Value.bool
  ((IntKind.u8.wrap
  ((↑b.toNat : Int).tdiv 4)).tmod
  2 ==
  1),
  Value.int IntKind.i64 0,
  Value.int IntKind.i64 0]
  50) →
  RunsV Proofs.Try.prog
  (Builtin.append_ #[22, 22] 22
  #[Value.slice p n c,
  Value.slice
  (some (Addr.mk w'_4.heap.size 0 none)) 1 1])
  w'_5 fun (v : Value) (w'_6 : World) =>
  ∃ (p : Option Addr),
  ∃ (n : Nat),
  ∃ (c : Nat),
  v = Value.slice p n c ∧
  ((w'_6.cell?
  (Addr.mk w'.heap.size 1
  none)).isSome =
  true ∧
  w'_6.frozen?
  (Addr.mk w'.heap.size 1 none) =
  false) ∧
  ∀ (w'_7 : World),
  w'_7 =
  w'_6.setCell
  (Addr.mk w'.heap.size 1 none)
  (Value.slice p n c) →
  Goes I μ [Value.int IntKind.i64 i]
  w'_4
  [Value.int IntKind.i64
  (IntKind.i64.wrap (i + 1))]
  w'_7)
  (0 ≤
  IntKind.i64.wrap
  (IntKind.i64.wrap 6 + IntKind.i64.wrap (↑b.toNat : Int)) ∧
  ∃ (b_1 : UInt8),
  s'[(IntKind.i64.wrap
  (IntKind.i64.wrap 6 +
  IntKind.i64.wrap (↑b.toNat : Int))).toNat]? =
  some b_1 ∧
  ((w'_4.cell? (Addr.mk w'.heap.size 2 none)).isSome = true ∧
  w'_4.frozen? (Addr.mk w'.heap.size 2 none) = false) ∧
  ∀ (w'_5 : World),
  w'_5 =
  w'_4.setCell (Addr.mk w'.heap.size 2 none)
  (Value.bool ((↑b_1.toNat : Int).tmod 2 == 1)) →
  0 ≤
  IntKind.i64.wrap
  (IntKind.i64.wrap 6 +
  IntKind.i64.wrap (↑b.toNat : Int)) ∧
  ∃ (b_2 : UInt8),
  s'[(IntKind.i64.wrap
  (IntKind.i64.wrap 6 +
  IntKind.i64.wrap
  (↑b.toNat : Int))).toNat]? =
  some b_2 ∧
  ((w'_5.cell? (Addr.mk w'.heap.size 3 none)).isSome =
  true ∧
  w'_5.frozen? (Addr.mk w'.heap.size 3 none) =
  false) ∧
  ∀ (w'_6 : World),
  w'_6 =
  w'_5.setCell (Addr.mk w'.heap.size 3 none)
  (Value.bool
  ((IntKind.u8.wrap
  ((↑b_2.toNat : Int).tdiv 2)).tmod
  2 ==
  1)) →
  Calls Proofs.Try.prog 38
  #[Value.string s',
  Value.int IntKind.i64
  (IntKind.i64.wrap
  (IntKind.i64.wrap
  (IntKind.i64.wrap 6 +
  IntKind.i64.wrap
  (↑b.toNat : Int)) +
  1))]
  w'_6 fun (e : Ending) (w'_7 : World) =>
  ∃ (n : Int),
  e =
  Ending.returned
  (Value.int IntKind.u32 n) ∧
  cnd
  (decide
  (IntKind.i64.wrap n >
  IntKind.i64.wrap
  ((IntKind.i64.wrap
  ((↑s'.size : Int) -
  IntKind.i64.wrap
  (IntKind.i64.wrap
  (IntKind.i64.wrap
  6 +
  IntKind.i64.wrap
  (↑b.toNat :
  Int)) +
  5))).tdiv
  4)))
  (∃ (n : Int),
  ∃ (p : Option Addr),
  ∃ (n_1 : Nat),
  ∃ (c : Nat),
  ∃ (b : Bool),
  ∃ (b_3 : Bool),
  ∃ (p_1 : Option Addr),
  ∃ (n_2 : Nat),
  ∃ (c_1 : Nat),
  (w'_7.cell?
  (Addr.mk
  w'.heap.size
  0 none) =
  some
  (Value.int
  IntKind.i64
  n) ∧
  w'_7.cell?
  (Addr.mk
  w'.heap.size
  1 none) =
  some
  (Value.slice
  p n_1 c) ∧
  w'_7.cell?
  (Addr.mk
  w'.heap.size
  2
  none) =
  some
  (Value.bool
  b) ∧
  w'_7.cell?
  (Addr.mk
  w'.heap.size
  3
  none) =
  some
  (Value.bool
  b_3) ∧
  w'_7.cell?
  (Addr.mk
  w'.heap.size
  4
  none) =
  some
  (Value.slice
  p_1
  n_2
  c_1) ∧
  True) ∧
  SetsAt w'_7
  (Addr.mk
  w.heap.size 0
  none)
  0
  [Value.int
  IntKind.i64
  n,
  Value.slice p
  n_1 c,
  Value.bool b,
  Value.bool
  b_3,
  Value.slice
  p_1 n_2
  c_1] ∧
  ∀ (w' : World),
  w' =
  setCellsAt
  w'_7
  (Addr.mk
  w.heap.size
  0 none)
  0
  [Value.int
  IntKind.i64
  n,
  Value.slice
  p n_1
  c,
  Value.bool
  b,
  Value.bool
  b_3,
  Value.slice
  p_1
  n_2
  c_1] →
  ∃ (n : Int),
  ∃ (p :
  Option
  Addr),
  ∃ (n_3 :
  Nat),
  ∃ (c :
  Nat),
  ∃ (b :
  Bool),
  ∃
  (b_4
  :
  Bool),
  ∃
  (p_2
  :
  Option
  Addr),
  ∃
  (n_4
  :
  Nat),
  ∃
  (c_2
  :
  Nat),
  (w'.cell?
  (Addr.mk
  w.heap.size
  0
  none) =
  some
  (Value.int
  IntKind.i64
  n) ∧
  w'.cell?
  (Addr.mk
  w.heap.size
  1
  none) =
  some
  (Value.slice
  p
  n_3
  c) ∧
  w'.cell?
  (Addr.mk
  w.heap.size
  2
  none) =
  some
  (Value.bool
  b) ∧
  w'.cell?
  (Addr.mk
  w.heap.size
  3
  none) =
  some
  (Value.bool
  b_4) ∧
  w'.cell?
  (Addr.mk
  w.heap.size
  4
  none) =
  some
  (Value.slice
  p_2
  n_4
  c_2) ∧
  True) ∧
  R
  (Ending.returned
  (Value.tuple
  #[Value.agg
  #[Value.int
  IntKind.i64
  n,
  Value.slice
  p
  n_3
  c,
  Value.bool
  b,
  Value.bool
  b_4,
  Value.slice
  p_2
  n_4
  c_2],
  Value.int
  IntKind.i64
  0,
  Value.bool
  false]))
  w')
  (∃ (I : List Value → World → Prop),
  ∃ (μ : List Value → World → Nat),
  I [Value.int IntKind.i64 0] w'_7 ∧
  ∀ (g : Nat → Value) (i : Int)
  (w'_8 : World),
  I [Value.int IntKind.i64 i]
  w'_8 →
  cnd
  (decide
  (i < IntKind.i64.wrap n))
  (∃ (C : World → Prop),
  (∀ (w' : World),
  Later w'_8 w' →
  C w') ∧
  ∀ (w'_9 : World),
  Later w'_8 w'_9 →
  ∃ (p : Option Addr),
  ∃ (n : Nat),
  ∃ (c : Nat),
  (∀
  (w'_10 :
  World),
  C w'_10 →
  w'_10.cell?
  (Addr.mk
  w'.heap.size
  4
  none) =
  some
  (Value.slice
  p
  n
  c)) ∧
  Calls
  Proofs.Try.prog
  38
  #[Value.string
  s',
  Value.int
  IntKind.i64
  (IntKind.i64.wrap
  (IntKind.i64.wrap
  (IntKind.i64.wrap
  (IntKind.i64.wrap
  6 +
  IntKind.i64.wrap
  (↑b.toNat :
  Int)) +
  5) +
  IntKind.i64.wrap
  (4 *
  i)))]
  w'_9
  fun
  (e :
  Ending)
  (w'_10 :
  World) =>
  ∃ (n_1 :
  Int),
  e =
  Ending.returned
  (Value.int
  IntKind.u32
  n_1) ∧
  C
  w'_10 ∧
  ∀
  (w'_11 :
  World),
  w'_11 =
  w'_10.alloc
  (Obj.cells
  #[Value.int
  IntKind.u32
  n_1]
  42) →
  C
  w'_11 ∧
  RunsV
  Proofs.Try.prog
  (Builtin.append_
  #[23,
  23]
  23
  #[Value.slice
  p
  n
  c,
  Value.slice
  (some
  (Addr.mk
  w'_10.heap.size
  0
  none))
  1
  1])
  w'_11
  fun
  (v :
  Value)
  (w'_12 :
  World) =>
  ∃
  (p
  :
  Option
  Addr),
  ∃
  (n
  :
  Nat),
  ∃
  (c
  :
  Nat),
  v =
  Value.slice
  p
  n
  c ∧
  C
  w'_12 ∧
  ((w'_12.cell?
  (Addr.mk
  w'.heap.size
  4
  none)).isSome =
  true ∧
  w'_12.frozen?
  (Addr.mk
  w'.heap.size
  4
  none) =
  false) ∧
  ∀
  (w'_13 :
  World),
  w'_13 =
  w'_12.setCell
  (Addr.mk
  w'.heap.size
  4
  none)
  (Value.slice
  p
  n
  c) →
  Goes
  I
  μ
  [Value.int
  IntKind.i64
  i]
  w'_8
  [Value.int
  IntKind.i64
  (IntKind.i64.wrap
  (i +
  1))]
  w'_13)
  (∃ (n_1 : Int),
  ∃ (p : Option Addr),
  ∃ (n_2 : Nat),
  ∃ (c : Nat),
  ∃ (b_3 : Bool),
  ∃ (b_4 : Bool),
  ∃ (p_1 :
  Option Addr),
  ∃ (n_3 : Nat),
  ∃ (c_1 :
  Nat),
  (w'_8.cell?
  (Addr.mk
  w'.heap.size
  0
  none) =
  some
  (Value.int
  IntKind.i64
  n_1) ∧
  w'_8.cell?
  (Addr.mk
  w'.heap.size
  1
  none) =
  some
  (Value.slice
  p
  n_2
  c) ∧
  w'_8.cell?
  (Addr.mk
  w'.heap.size
  2
  none) =
  some
  (Value.bool
  b_3) ∧
  w'_8.cell?
  (Addr.mk
  w'.heap.size
  3
  none) =
  some
  (Value.bool
  b_4) ∧
  w'_8.cell?
  (Addr.mk
  w'.heap.size
  4
  none) =
  some
  (Value.slice
  p_1
  n_3
  c_1) ∧
  True) ∧
  SetsAt
  w'_8
  (Addr.mk
  w.heap.size
  0
  none)
  0
  [Value.int
  IntKind.i64
  n_1,
  Value.slice
  p
  n_2
  c,
  Value.bool
  b_3,
  Value.bool
  b_4,
  Value.slice
  p_1
  n_3
  c_1] ∧
  ∀
  (w' :
  World),
  w' =
  setCellsAt
  w'_8
  (Addr.mk
  w.heap.size
  0
  none)
  0
  [Value.int
  IntKind.i64
  n_1,
  Value.slice
  p
  n_2
  c,
  Value.bool
  b_3,
  Value.bool
  b_4,
  Value.slice
  p_1
  n_3
  c_1] →
  ∃
  (n_4
  :
  Int),
  ∃
  (p
  :
  Option
  Addr),
  ∃
  (n_5
  :
  Nat),
  ∃
  (c
  :
  Nat),
  ∃
  (b_5
  :
  Bool),
  ∃
  (b_6
  :
  Bool),
  ∃
  (p_2
  :
  Option
  Addr),
  ∃
  (n_6
  :
  Nat),
  ∃
  (c_2
  :
  Nat),
  (w'.cell?
  (Addr.mk
  w.heap.size
  0
  none) =
  some
  (Value.int
  IntKind.i64
  n_4) ∧
  w'.cell?
  (Addr.mk
  w.heap.size
  1
  none) =
  some
  (Value.slice
  p
  n_5
  c) ∧
  w'.cell?
  (Addr.mk
  w.heap.size
  2
  none) =
  some
  (Value.bool
  b_5) ∧
  w'.cell?
  (Addr.mk
  w.heap.size
  3
  none) =
  some
  (Value.bool
  b_6) ∧
  w'.cell?
  (Addr.mk
  w.heap.size
  4
  none) =
  some
  (Value.slice
  p_2
  n_6
  c_2) ∧
  True) ∧
  R
  (Ending.returned
  (Value.tuple
  #[Value.agg
  #[Value.int
  IntKind.i64
  n_4,
  Value.slice
  p
  n_5
  c,
  Value.bool
  b_5,
  Value.bool
  b_6,
  Value.slice
  p_2
  n_6
  c_2],
  Value.int
  IntKind.i64
  (IntKind.i64.wrap
  (IntKind.i64.wrap
  (IntKind.i64.wrap
  (IntKind.i64.wrap
  6 +
  IntKind.i64.wrap
  (↑b.toNat :
  Int)) +
  5) +
  IntKind.i64.wrap
  (4 *
  IntKind.i64.wrap
  n))),
  Value.bool
  true]))
  w')))))
theorem ref30_read.vc_eq (s' : ByteArray) (w : World) (R : Ending → World → Prop) : fnV Try.prog ref30_read.H 30 [Value.string s'] w R = ref30_read.vc s' w R := by kernel_rfl
theorem ref30_read.calls {s' : ByteArray} {w : World} {R : Ending → World → Prop} (h : ref30_read.vc s' w R) : Calls Try.prog 30 ([Value.string s'] : List Value).toArray w R := calls_of_eq (ref30_read.vc_eq s' w R) h

/- function 17: sacristy/sacristyref30.Get -/
abbrev ref30_Get.N : FuncId := 17
def ref30_Get.H : Hints := {  }
def ref30_Get.vc (s' : ByteArray) (w : World) (R : Ending → World → Prop) : Prop :=
  ∀ (w' : World),
  w' =
  w.alloc
  (Obj.cells
  #[Value.int IntKind.i64 0, Value.slice none 0 0, Value.bool false, Value.bool false, Value.slice none 0 0]
  25) →
  (0 ≤ gomin (↑s'.size : Int) 4 ∧ gomin (↑s'.size : Int) 4 ≤ (↑s'.size : Int)) ∧
  (0 ≤ gomin (↑s'.size : Int) 4 ∧ gomin (↑s'.size : Int) 4 ≤ 4) ∧
  ∀ (w'_1 : World),
  Later w' w'_1 →
  cnd
  (!(s'.extract 0 (gomin (↑s'.size : Int) 4).toNat).toList ==
  ((ByteArray.mk #[83, 67, 82, 49]).extract 0 (gomin (↑s'.size : Int) 4).toNat).toList)
  (SetsAt w'_1 (Addr.mk w.heap.size 0 none) 0
  [Value.int IntKind.i64 0, Value.slice none 0 0, Value.bool false, Value.bool false,
  Value.slice none 0 0] ∧
  ∀ (w' : World),
  w' =
  setCellsAt w'_1 (Addr.mk w.heap.size 0 none) 0
  [Value.int IntKind.i64 0, Value.slice none 0 0, Value.bool false, Value.bool false,
  Value.slice none 0 0] →
  ∃ (n : Int),
  ∃ (p : Option Addr),
  ∃ (n_1 : Nat),
  ∃ (c : Nat),
  ∃ (b : Bool),
  ∃ (b_1 : Bool),
  ∃ (p_1 : Option Addr),
  ∃ (n_2 : Nat),
  ∃ (c_1 : Nat),
  (w'.cell? (Addr.mk w.heap.size 0 none) = some (Value.int IntKind.i64 n) ∧
  w'.cell? (Addr.mk w.heap.size 1 none) = some (Value.slice p n_1 c) ∧
  w'.cell? (Addr.mk w.heap.size 2 none) = some (Value.bool b) ∧
  w'.cell? (Addr.mk w.heap.size 3 none) = some (Value.bool b_1) ∧
  w'.cell? (Addr.mk w.heap.size 4 none) = some (Value.slice p_1 n_2 c_1) ∧
  True) ∧
  R
  (Ending.returned
  (Value.tuple
  #[Value.agg
  #[Value.int IntKind.i64 n, Value.slice p n_1 c, Value.bool b,
  Value.bool b_1, Value.slice p_1 n_2 c_1],
  Value.int IntKind.i64 7]))
  w')
  (Calls Proofs.Try.prog 30 #[Value.string s'] w'_1 fun (e : Ending) (w' : World) =>
  ∃ (n : Int),
  ∃ (p : Option Addr),
  ∃ (n_1 : Nat),
  ∃ (c : Nat),
  ∃ (b : Bool),
  ∃ (b_1 : Bool),
  ∃ (p_1 : Option Addr),
  ∃ (n_2 : Nat),
  ∃ (c_1 : Nat),
  ∃ (n_3 : Int),
  ∃ (b_2 : Bool),
  e =
  Ending.returned
  (Value.tuple
  #[Value.agg
  #[Value.int IntKind.i64 n, Value.slice p n_1 c, Value.bool b,
  Value.bool b_1, Value.slice p_1 n_2 c_1],
  Value.int IntKind.i64 n_3, Value.bool b_2]) ∧
  ∀ (w'_2 : World),
  w'_2 =
  w'.alloc
  (Obj.cells
  #[Value.int IntKind.i64 0, Value.slice none 0 0, Value.bool false,
  Value.bool false, Value.slice none 0 0]
  25) →
  SetsAt w'_2 (Addr.mk w'.heap.size 0 none) 0
  [Value.int IntKind.i64 n, Value.slice p n_1 c, Value.bool b,
  Value.bool b_1, Value.slice p_1 n_2 c_1] ∧
  ∀ (w'_3 : World),
  w'_3 =
  setCellsAt w'_2 (Addr.mk w'.heap.size 0 none) 0
  [Value.int IntKind.i64 n, Value.slice p n_1 c, Value.bool b,
  Value.bool b_1, Value.slice p_1 n_2 c_1] →
  cnd (!b_2)
  (SetsAt w'_3 (Addr.mk w.heap.size 0 none) 0
  [Value.int IntKind.i64 0, Value.slice none 0 0,
  Value.bool false, Value.bool false, Value.slice none 0 0] ∧
  ∀ (w' : World),
  w' =
  setCellsAt w'_3 (Addr.mk w.heap.size 0 none) 0
  [Value.int IntKind.i64 0, Value.slice none 0 0,
  Value.bool false, Value.bool false,
  Value.slice none 0 0] →
  ∃ (n : Int),
  ∃ (p : Option Addr),
  ∃ (n_4 : Nat),
  ∃ (c : Nat),
  ∃ (b : Bool),
  ∃ (b_3 : Bool),
  ∃ (p_2 : Option Addr),
  ∃ (n_5 : Nat),
  ∃ (c_2 : Nat),
  (w'.cell? (Addr.mk w.heap.size 0 none) =
  some (Value.int IntKind.i64 n) ∧
  w'.cell? (Addr.mk w.heap.size 1 none) =
  some (Value.slice p n_4 c) ∧
  w'.cell?
  (Addr.mk w.heap.size 2 none) =
  some (Value.bool b) ∧
  w'.cell?
  (Addr.mk w.heap.size 3 none) =
  some (Value.bool b_3) ∧
  w'.cell?
  (Addr.mk w.heap.size 4
  none) =
  some
  (Value.slice p_2 n_5 c_2) ∧
  True) ∧
  R
  (Ending.returned
  (Value.tuple
  #[Value.agg
  #[Value.int IntKind.i64 n,
  Value.slice p n_4 c,
  Value.bool b, Value.bool b_3,
  Value.slice p_2 n_5 c_2],
  Value.int IntKind.i64 6]))
  w')
  (cnd (n_3 != (↑s'.size : Int))
  (SetsAt w'_3 (Addr.mk w.heap.size 0 none) 0
  [Value.int IntKind.i64 0, Value.slice none 0 0,
  Value.bool false, Value.bool false, Value.slice none 0 0] ∧
  ∀ (w' : World),
  w' =
  setCellsAt w'_3 (Addr.mk w.heap.size 0 none) 0
  [Value.int IntKind.i64 0, Value.slice none 0 0,
  Value.bool false, Value.bool false,
  Value.slice none 0 0] →
  ∃ (n : Int),
  ∃ (p : Option Addr),
  ∃ (n_4 : Nat),
  ∃ (c : Nat),
  ∃ (b : Bool),
  ∃ (b_3 : Bool),
  ∃ (p_2 : Option Addr),
  ∃ (n_5 : Nat),
  ∃ (c_2 : Nat),
  (w'.cell? (Addr.mk w.heap.size 0 none) =
  some (Value.int IntKind.i64 n) ∧
  w'.cell?
  (Addr.mk w.heap.size 1 none) =
  some (Value.slice p n_4 c) ∧
  w'.cell?
  (Addr.mk w.heap.size 2 none) =
  some (Value.bool b) ∧
  w'.cell?
  (Addr.mk w.heap.size 3
  none) =
  some (Value.bool b_3) ∧
  w'.cell?
  (Addr.mk w.heap.size 4
  none) =
  some
  (Value.slice p_2 n_5
  c_2) ∧
  True) ∧
  R
  (Ending.returned
  (Value.tuple
  #[Value.agg
  #[Value.int IntKind.i64 n,
  Value.slice p n_4 c,
  Value.bool b,
  Value.bool b_3,
  Value.slice p_2 n_5 c_2],
  Value.int IntKind.i64 7]))
  w')
  (∃ (n : Int),
  ∃ (p : Option Addr),
  ∃ (n_4 : Nat),
  ∃ (c : Nat),
  ∃ (b : Bool),
  ∃ (b_3 : Bool),
  ∃ (p_2 : Option Addr),
  ∃ (n_5 : Nat),
  ∃ (c_2 : Nat),
  (w'_3.cell? (Addr.mk w'.heap.size 0 none) =
  some (Value.int IntKind.i64 n) ∧
  w'_3.cell? (Addr.mk w'.heap.size 1 none) =
  some (Value.slice p n_4 c) ∧
  w'_3.cell? (Addr.mk w'.heap.size 2 none) =
  some (Value.bool b) ∧
  w'_3.cell?
  (Addr.mk w'.heap.size 3 none) =
  some (Value.bool b_3) ∧
  w'_3.cell?
  (Addr.mk w'.heap.size 4 none) =
  some (Value.slice p_2 n_5 c_2) ∧
  True) ∧
  Calls Proofs.Try.prog 13
  #[Value.agg
  #[Value.int IntKind.i64 n,
  Value.slice p n_4 c, Value.bool b,
  Value.bool b_3,
  Value.slice p_2 n_5 c_2]]
  w'_3 fun (e : Ending) (w'_4 : World) =>
  ∃ (b : Bool),
  e = Ending.returned (Value.bool b) ∧
  cnd (!b)
  (SetsAt w'_4
  (Addr.mk w.heap.size 0 none) 0
  [Value.int IntKind.i64 0,
  Value.slice none 0 0,
  Value.bool false,
  Value.bool false,
  Value.slice none 0 0] ∧
  ∀ (w' : World),
  w' =
  setCellsAt w'_4
  (Addr.mk w.heap.size 0 none)
  0
  [Value.int IntKind.i64 0,
  Value.slice none 0 0,
  Value.bool false,
  Value.bool false,
  Value.slice none 0 0] →
  ∃ (n : Int),
  ∃ (p : Option Addr),
  ∃ (n_6 : Nat),
  ∃ (c : Nat),
  ∃ (b : Bool),
  ∃ (b_4 : Bool),
  ∃ (p_3 :
  Option Addr),
  ∃ (n_7 : Nat),
  ∃ (c_3 : Nat),
  (w'.cell?
  (Addr.mk
  w.heap.size
  0
  none) =
  some
  (Value.int
  IntKind.i64
  n) ∧
  w'.cell?
  (Addr.mk
  w.heap.size
  1
  none) =
  some
  (Value.slice
  p
  n_6
  c) ∧
  w'.cell?
  (Addr.mk
  w.heap.size
  2
  none) =
  some
  (Value.bool
  b) ∧
  w'.cell?
  (Addr.mk
  w.heap.size
  3
  none) =
  some
  (Value.bool
  b_4) ∧
  w'.cell?
  (Addr.mk
  w.heap.size
  4
  none) =
  some
  (Value.slice
  p_3
  n_7
  c_3) ∧
  True) ∧
  R
  (Ending.returned
  (Value.tuple
  #[Value.agg
  #[Value.int
  IntKind.i64
  n,
  Value.slice
  p
  n_6
  c,
  Value.bool
  b,
  Value.bool
  b_4,
  Value.slice
  p_3
  n_7
  c_3],
  Value.int
  IntKind.i64
  7]))
  w')
  (∃ (n : Int),
  ∃ (p : Option Addr),
  ∃ (n_6 : Nat),
  ∃ (c : Nat),
  ∃ (b : Bool),
  ∃ (b_4 : Bool),
  ∃ (p_3 : Option Addr),
  ∃ (n_7 : Nat),
  ∃ (c_3 : Nat),
  (w'_4.cell?
  (Addr.mk
  w'.heap.size
  0 none) =
  some
  (Value.int
  IntKind.i64
  n) ∧
  w'_4.cell?
  (Addr.mk
  w'.heap.size
  1
  none) =
  some
  (Value.slice
  p n_6
  c) ∧
  w'_4.cell?
  (Addr.mk
  w'.heap.size
  2
  none) =
  some
  (Value.bool
  b) ∧
  w'_4.cell?
  (Addr.mk
  w'.heap.size
  3
  none) =
  some
  (Value.bool
  b_4) ∧
  w'_4.cell?
  (Addr.mk
  w'.heap.size
  4
  none) =
  some
  (Value.slice
  p_3
  n_7
  c_3) ∧
  True) ∧
  Calls
  Proofs.Try.prog
  14
  #[Value.agg
  #[Value.int
  IntKind.i64
  n,
  Value.slice
  p n_6 c,
  Value.bool
  b,
  Value.bool
  b_4,
  Value.slice
  p_3 n_7
  c_3]]
  w'_4
  fun (e : Ending)
  (w'_5 :
  World) =>
  ∃ (s :
  ByteArray),
  e =
  Ending.returned
  (Value.string
  s) ∧
  cnd
  (!s.toList ==
  s'.toList)
  (SetsAt
  w'_5
  (Addr.mk
  w.heap.size
  0
  none)
  0
  [Value.int
  IntKind.i64
  0,
  Value.slice
  none
  0
  0,
  Value.bool
  false,
  Value.bool
  false,
  Value.slice
  none
  0
  0] ∧
  ∀
  (w' :
  World),
  w' =
  setCellsAt
  w'_5
  (Addr.mk
  w.heap.size
  0
  none)
  0
  [Value.int
  IntKind.i64
  0,
  Value.slice
  none
  0
  0,
  Value.bool
  false,
  Value.bool
  false,
  Value.slice
  none
  0
  0] →
  ∃ (n
  :
  Int),
  ∃
  (p
  :
  Option
  Addr),
  ∃
  (n_8
  :
  Nat),
  ∃
  (c
  :
  Nat),
  ∃
  (b
  :
  Bool),
  ∃
  (b_5
  :
  Bool),
  ∃
  (p_4
  :
  Option
  Addr),
  ∃
  (n_9
  :
  Nat),
  ∃
  (c_4
  :
  Nat),
  (w'.cell?
  (Addr.mk
  w.heap.size
  0
  none) =
  some
  (Value.int
  IntKind.i64
  n) ∧
  w'.cell?
  (Addr.mk
  w.heap.size
  1
  none) =
  some
  (Value.slice
  p
  n_8
  c) ∧
  w'.cell?
  (Addr.mk
  w.heap.size
  2
  none) =
  some
  (Value.bool
  b) ∧
  w'.cell?
  (Addr.mk
  w.heap.size
  3
  none) =
  some
  (Value.bool
  b_5) ∧
  w'.cell?
  (Addr.mk
  w.heap.size
  4
  none) =
  some
  (Value.slice
  p_4
  n_9
  c_4) ∧
  True) ∧
  R
  (Ending.returned
  (Value.tuple
  #[Value.agg
  #[Value.int
  IntKind.i64
  n,
  Value.slice
  p
  n_8
  c,
  Value.bool
  b,
  Value.bool
  b_5,
  Value.slice
  p_4
  n_9
  c_4],
  Value.int
  IntKind.i64
  7]))
  w')
  (∃ (n :
  Int),
  ∃ (p :
  Option
  Addr),
  ∃ (n_8
  :
  Nat),
  ∃ (c
  :
  Nat),
  ∃
  (b
  :
  Bool),
  ∃
  (b_5
  :
  Bool),
  ∃
  (p_4
  :
  Option
  Addr),
  ∃
  (n_9
  :
  Nat),
  ∃
  (c_4
  :
  Nat),
  (w'_5.cell?
  (Addr.mk
  w'.heap.size
  0
  none) =
  some
  (Value.int
  IntKind.i64
  n) ∧
  w'_5.cell?
  (Addr.mk
  w'.heap.size
  1
  none) =
  some
  (Value.slice
  p
  n_8
  c) ∧
  w'_5.cell?
  (Addr.mk
  w'.heap.size
  2
  none) =
  some
  (Value.bool
  b) ∧
  w'_5.cell?
  (Addr.mk
  w'.heap.size
  3
  none) =
  some
  (Value.bool
  b_5) ∧
  w'_5.cell?
  (Addr.mk
  w'.heap.size
  4
  none) =
  some
  (Value.slice
  p_4
  n_9
  c_4) ∧
  True) ∧
  SetsAt
  w'_5
  (Addr.mk
  w.heap.size
  0
  none)
  0
  [Value.int
  IntKind.i64
  n,
  Value.slice
  p
  n_8
  c,
  Value.bool
  b,
  Value.bool
  b_5,
  Value.slice
  p_4
  n_9
  c_4] ∧
  ∀
  (w' :
  World),
  w' =
  setCellsAt
  w'_5
  (Addr.mk
  w.heap.size
  0
  none)
  0
  [Value.int
  IntKind.i64
  n,
  Value.slice
  p
  n_8
  c,
  Value.bool
  b,
  Value.bool
  b_5,
  Value.slice
  p_4
  n_9
  c_4] →
  ∃
  (n
  :
  Int),
  ∃
  (p
  :
  Option
  Addr),
  ∃
  (n_10
  :
  Nat),
  ∃
  (c
  :
  Nat),
  ∃
  (b
  :
  Bool),
  ∃
  (b_6
  :
  Bool),
  ∃
  (p_5
  :
  Option
  Addr),
  ∃
  (n_11
  :
  Nat),
  ∃
  (c_5
  :
  Nat),
  (w'.cell?
  (Addr.mk
  w.heap.size
  0
  none) =
  some
  (Value.int
  IntKind.i64
  n) ∧
  w'.cell?
  (Addr.mk
  w.heap.size
  1
  none) =
  some
  (Value.slice
  p
  n_10
  c) ∧
  w'.cell?
  (Addr.mk
  w.heap.size
  2
  none) =
  some
  (Value.bool
  b) ∧
  w'.cell?
  (Addr.mk
  w.heap.size
  3
  none) =
  some
  (Value.bool
  b_6) ∧
  w'.cell?
  (Addr.mk
  w.heap.size
  4
  none) =
  some
  (Value.slice
  p_5
  n_11
  c_5) ∧
  True) ∧
  R
  (Ending.returned
  (Value.tuple
  #[Value.agg
  #[Value.int
  IntKind.i64
  n,
  Value.slice
  p
  n_10
  c,
  Value.bool
  b,
  Value.bool
  b_6,
  Value.slice
  p_5
  n_11
  c_5],
  Value.int
  IntKind.i64
  0]))
  w')))))
theorem ref30_Get.vc_eq (s' : ByteArray) (w : World) (R : Ending → World → Prop) : fnV Try.prog ref30_Get.H 17 [Value.string s'] w R = ref30_Get.vc s' w R := by kernel_rfl
theorem ref30_Get.calls {s' : ByteArray} {w : World} {R : Ending → World → Prop} (h : ref30_Get.vc s' w R) : Calls Try.prog 17 ([Value.string s'] : List Value).toArray w R := calls_of_eq (ref30_Get.vc_eq s' w R) h

/- function 12: sacristy/sacristyref30.Same -/
abbrev ref30_Same.N : FuncId := 12
def ref30_Same.H : Hints := { loops := [(5, [(5, .one (.int .i64))]), (10, [(6, .one (.int .i64))])] }
def ref30_Same.vc (a'_0 : Int) (a'_1 : Option Addr) (a'_1n : Nat) (a'_1c : Nat) (a'_2 : Bool) (a'_3 : Bool) (a'_4 : Option Addr) (a'_4n : Nat) (a'_4c : Nat) (b'_0 : Int) (b'_1 : Option Addr) (b'_1n : Nat) (b'_1c : Nat) (b'_2 : Bool) (b'_3 : Bool) (b'_4 : Option Addr) (b'_4n : Nat) (b'_4c : Nat) (w : World) (R : Ending → World → Prop) : Prop :=
  ∀ (w' : World),
  w' =
  w.alloc
  (Obj.cells
  #[Value.int IntKind.i64 a'_0, Value.slice a'_1 a'_1n a'_1c, Value.bool a'_2, Value.bool a'_3,
  Value.slice a'_4 a'_4n a'_4c]
  25) →
  ∀ (w'_1 : World),
  w'_1 =
  w'.alloc
  (Obj.cells
  #[Value.int IntKind.i64 b'_0, Value.slice b'_1 b'_1n b'_1c, Value.bool b'_2, Value.bool b'_3,
  Value.slice b'_4 b'_4n b'_4c]
  25) →
  ∃ (n : Int),
  w'_1.cell? (Addr.mk w.heap.size 0 none) = some (Value.int IntKind.i64 n) ∧
  ∃ (n_1 : Int),
  w'_1.cell? (Addr.mk w'.heap.size 0 none) = some (Value.int IntKind.i64 n_1) ∧
  cnd (n != n_1) (R (Ending.returned (Value.bool false)) w'_1)
  (∃ (b : Bool),
  w'_1.cell? (Addr.mk w.heap.size 2 none) = some (Value.bool b) ∧
  ∃ (b_1 : Bool),
  w'_1.cell? (Addr.mk w'.heap.size 2 none) = some (Value.bool b_1) ∧
  cnd (!b == b_1) (R (Ending.returned (Value.bool false)) w'_1)
  (∃ (b : Bool),
  w'_1.cell? (Addr.mk w.heap.size 3 none) = some (Value.bool b) ∧
  ∃ (b_2 : Bool),
  w'_1.cell? (Addr.mk w'.heap.size 3 none) = some (Value.bool b_2) ∧
  cnd (!b == b_2) (R (Ending.returned (Value.bool false)) w'_1)
  (∃ (p : Option Addr),
  ∃ (n : Nat),
  ∃ (c : Nat),
  w'_1.cell? (Addr.mk w.heap.size 1 none) = some (Value.slice p n c) ∧
  ∃ (p : Option Addr),
  ∃ (n_2 : Nat),
  ∃ (c : Nat),
  w'_1.cell? (Addr.mk w'.heap.size 1 none) =
  some (Value.slice p n_2 c) ∧
  cnd ((↑n : Int) != (↑n_2 : Int))
  (R (Ending.returned (Value.bool false)) w'_1)
  (∃ (p : Option Addr),
  ∃ (n : Nat),
  ∃ (c : Nat),
  w'_1.cell? (Addr.mk w.heap.size 4 none) =
  some (Value.slice p n c) ∧
  ∃ (p : Option Addr),
  ∃ (n_3 : Nat),
  ∃ (c : Nat),
  w'_1.cell? (Addr.mk w'.heap.size 4 none) =
  some (Value.slice p n_3 c) ∧
  cnd ((↑n : Int) != (↑n_3 : Int))
  (R (Ending.returned (Value.bool false)) w'_1)
  (∃ (I : List Value → World → Prop),
  ∃ (μ : List Value → World → Nat),
  I [Value.int IntKind.i64 0] w'_1 ∧
  ∀ (g : Nat → Value) (i : Int)
  (w'_2 : World),
  I [Value.int IntKind.i64 i] w'_2 →
  ∃ (p : Option Addr),
  ∃ (n : Nat),
  ∃ (c : Nat),
  w'_2.cell?
  (Addr.mk w.heap.size 1
  none) =
  some (Value.slice p n c) ∧
  cnd
  (decide (i < (↑n : Int)))
  (∃ (p : Option Addr),
  ∃ (n : Nat),
  ∃ (c : Nat),
  (∀ (w' : World),
  Later w'_2 w' →
  w'.cell?
  (Addr.mk
  w.heap.size
  1
  none) =
  some
  (Value.slice
  p n
  c)) ∧
  (0 ≤ i ∧
  i <
  (↑n :
  Int)) ∧
  Deref p
  fun
  (a :
  Addr) =>
  ∃ (b : Bool),
  ∃ (b_3 :
  Bool),
  ∃ (b_4 :
  Bool),
  ∃ (n :
  Int),
  ∃ (n_4
  :
  Int),
  (∀
  (w' :
  World),
  Later
  w'_2
  w' →
  w'.cell?
  (a.add
  (i.toNat *
  5)) =
  some
  (Value.bool
  b) ∧
  w'.cell?
  ((a.add
  (i.toNat *
  5)).add
  1) =
  some
  (Value.bool
  b_3) ∧
  w'.cell?
  ((a.add
  (i.toNat *
  5)).add
  2) =
  some
  (Value.bool
  b_4) ∧
  w'.cell?
  ((a.add
  (i.toNat *
  5)).add
  3) =
  some
  (Value.int
  IntKind.i64
  n) ∧
  w'.cell?
  ((a.add
  (i.toNat *
  5)).add
  4) =
  some
  (Value.int
  IntKind.i64
  n_4) ∧
  True) ∧
  ∃
  (p
  :
  Option
  Addr),
  ∃
  (n_5
  :
  Nat),
  ∃
  (c
  :
  Nat),
  (∀
  (w'_3 :
  World),
  Later
  w'_2
  w'_3 →
  w'_3.cell?
  (Addr.mk
  w'.heap.size
  1
  none) =
  some
  (Value.slice
  p
  n_5
  c)) ∧
  (0 ≤
  i ∧
  i <
  (↑n_5 :
  Int)) ∧
  Deref
  p
  fun
  (a :
  Addr) =>
  ∃
  (b_5
  :
  Bool),
  ∃
  (b_6
  :
  Bool),
  ∃
  (b_7
  :
  Bool),
  ∃
  (n_6
  :
  Int),
  ∃
  (n_7
  :
  Int),
  (∀
  (w' :
  World),
  Later
  w'_2
  w' →
  w'.cell?
  (a.add
  (i.toNat *
  5)) =
  some
  (Value.bool
  b_5) ∧
  w'.cell?
  ((a.add
  (i.toNat *
  5)).add
  1) =
  some
  (Value.bool
  b_6) ∧
  w'.cell?
  ((a.add
  (i.toNat *
  5)).add
  2) =
  some
  (Value.bool
  b_7) ∧
  w'.cell?
  ((a.add
  (i.toNat *
  5)).add
  3) =
  some
  (Value.int
  IntKind.i64
  n_6) ∧
  w'.cell?
  ((a.add
  (i.toNat *
  5)).add
  4) =
  some
  (Value.int
  IntKind.i64
  n_7) ∧
  True) ∧
  ∃
  (b_8
  :
  Bool),
  EqRuns
  Proofs.Try.prog
  BinOp.neq
  50
  (Operand.tmp
  55)
  (Operand.tmp
  60)
  (Value.agg
  #[Value.bool
  b,
  Value.bool
  b_3,
  Value.bool
  b_4,
  Value.int
  IntKind.i64
  n,
  Value.int
  IntKind.i64
  n_4])
  (Value.agg
  #[Value.bool
  b_5,
  Value.bool
  b_6,
  Value.bool
  b_7,
  Value.int
  IntKind.i64
  n_6,
  Value.int
  IntKind.i64
  n_7])
  b_8 ∧
  ∀
  (w' :
  World),
  Later
  w'_2
  w' →
  cnd
  b_8
  (R
  (Ending.returned
  (Value.bool
  false))
  w')
  (Goes
  I
  μ
  [Value.int
  IntKind.i64
  i]
  w'_2
  [Value.int
  IntKind.i64
  (IntKind.i64.wrap
  (i +
  1))]
  w'))
  (∃ (I :
  List Value →
  World → Prop),
  ∃ (μ :
  List Value →
  World → Nat),
  I
  [Value.int
  IntKind.i64 0]
  w'_2 ∧
  ∀ (g : Nat → Value)
  (i : Int)
  (w'_3 : World),
  I
  [Value.int
  IntKind.i64
  i]
  w'_3 →
  ∃ (p :
  Option Addr),
  ∃ (n : Nat),
  ∃ (c : Nat),
  w'_3.cell?
  (Addr.mk
  w.heap.size
  4
  none) =
  some
  (Value.slice
  p
  n
  c) ∧
  cnd
  (decide
  (i <
  (↑n :
  Int)))
  (∃ (p
  :
  Option
  Addr),
  ∃ (n
  :
  Nat),
  ∃
  (c
  :
  Nat),
  (∀
  (w' :
  World),
  Later
  w'_3
  w' →
  w'.cell?
  (Addr.mk
  w.heap.size
  4
  none) =
  some
  (Value.slice
  p
  n
  c)) ∧
  (0 ≤
  i ∧
  i <
  (↑n :
  Int)) ∧
  Deref
  p
  fun
  (a :
  Addr) =>
  ∃
  (n
  :
  Int),
  (∀
  (w' :
  World),
  Later
  w'_3
  w' →
  w'.cell?
  (a.add
  (i.toNat *
  1)) =
  some
  (Value.int
  IntKind.u32
  n)) ∧
  ∃
  (p
  :
  Option
  Addr),
  ∃
  (n_4
  :
  Nat),
  ∃
  (c
  :
  Nat),
  (∀
  (w'_4 :
  World),
  Later
  w'_3
  w'_4 →
  w'_4.cell?
  (Addr.mk
  w'.heap.size
  4
  none) =
  some
  (Value.slice
  p
  n_4
  c)) ∧
  (0 ≤
  i ∧
  i <
  (↑n_4 :
  Int)) ∧
  Deref
  p
  fun
  (a :
  Addr) =>
  ∃
  (n_5
  :
  Int),
  (∀
  (w' :
  World),
  Later
  w'_3
  w' →
  w'.cell?
  (a.add
  (i.toNat *
  1)) =
  some
  (Value.int
  IntKind.u32
  n_5)) ∧
  ∀
  (w' :
  World),
  Later
  w'_3
  w' →
  cnd
  (n !=
  n_5)
  (R
  (Ending.returned
  (Value.bool
  false))
  w')
  (Goes
  I
  μ
  [Value.int
  IntKind.i64
  i]
  w'_3
  [Value.int
  IntKind.i64
  (IntKind.i64.wrap
  (i +
  1))]
  w'))
  (R
  (Ending.returned
  (Value.bool
  true))
  w'_3)))))))
theorem ref30_Same.vc_eq (a'_0 : Int) (a'_1 : Option Addr) (a'_1n : Nat) (a'_1c : Nat) (a'_2 : Bool) (a'_3 : Bool) (a'_4 : Option Addr) (a'_4n : Nat) (a'_4c : Nat) (b'_0 : Int) (b'_1 : Option Addr) (b'_1n : Nat) (b'_1c : Nat) (b'_2 : Bool) (b'_3 : Bool) (b'_4 : Option Addr) (b'_4n : Nat) (b'_4c : Nat) (w : World) (R : Ending → World → Prop) : fnV Try.prog ref30_Same.H 12 [Value.agg
  #[Value.int IntKind.i64 a'_0, Value.slice a'_1 a'_1n a'_1c, Value.bool a'_2, Value.bool a'_3,
  Value.slice a'_4 a'_4n a'_4c],
  Value.agg
  #[Value.int IntKind.i64 b'_0, Value.slice b'_1 b'_1n b'_1c, Value.bool b'_2, Value.bool b'_3,
  Value.slice b'_4 b'_4n b'_4c]] w R = ref30_Same.vc a'_0 a'_1 a'_1n a'_1c a'_2 a'_3 a'_4 a'_4n a'_4c b'_0 b'_1 b'_1n b'_1c b'_2 b'_3 b'_4 b'_4n b'_4c w R := by kernel_rfl
theorem ref30_Same.calls {a'_0 : Int} {a'_1 : Option Addr} {a'_1n : Nat} {a'_1c : Nat} {a'_2 : Bool} {a'_3 : Bool} {a'_4 : Option Addr} {a'_4n : Nat} {a'_4c : Nat} {b'_0 : Int} {b'_1 : Option Addr} {b'_1n : Nat} {b'_1c : Nat} {b'_2 : Bool} {b'_3 : Bool} {b'_4 : Option Addr} {b'_4n : Nat} {b'_4c : Nat} {w : World} {R : Ending → World → Prop} (h : ref30_Same.vc a'_0 a'_1 a'_1n a'_1c a'_2 a'_3 a'_4 a'_4n a'_4c b'_0 b'_1 b'_1n b'_1c b'_2 b'_3 b'_4 b'_4n b'_4c w R) : Calls Try.prog 12 ([Value.agg
  #[Value.int IntKind.i64 a'_0, Value.slice a'_1 a'_1n a'_1c, Value.bool a'_2, Value.bool a'_3,
  Value.slice a'_4 a'_4n a'_4c],
  Value.agg
  #[Value.int IntKind.i64 b'_0, Value.slice b'_1 b'_1n b'_1c, Value.bool b'_2, Value.bool b'_3,
  Value.slice b'_4 b'_4n b'_4c]] : List Value).toArray w R := calls_of_eq (ref30_Same.vc_eq a'_0 a'_1 a'_1n a'_1c a'_2 a'_3 a'_4 a'_4n a'_4c b'_0 b'_1 b'_1n b'_1c b'_2 b'_3 b'_4 b'_4n b'_4c w R) h

/- function 8: sacristy/sacristyref30.Copy -/
abbrev ref30_Copy.N : FuncId := 8
def ref30_Copy.H : Hints := {  }
def ref30_Copy.vc (x'_0 : Int) (x'_1 : Option Addr) (x'_1n : Nat) (x'_1c : Nat) (x'_2 : Bool) (x'_3 : Bool) (x'_4 : Option Addr) (x'_4n : Nat) (x'_4c : Nat) (w : World) (R : Ending → World → Prop) : Prop :=
  ∀ (w' : World),
  w' =
  w.alloc
  (Obj.cells
  #[Value.int IntKind.i64 x'_0, Value.slice x'_1 x'_1n x'_1c, Value.bool x'_2, Value.bool x'_3,
  Value.slice x'_4 x'_4n x'_4c]
  25) →
  ∀ (w'_1 : World),
  w'_1 =
  w'.alloc
  (Obj.cells
  #[Value.int IntKind.i64 0, Value.slice none 0 0, Value.bool false, Value.bool false, Value.slice none 0 0]
  25) →
  ∃ (p : Option Addr),
  ∃ (n : Nat),
  ∃ (c : Nat),
  w'_1.cell? (Addr.mk w.heap.size 1 none) = some (Value.slice p n c) ∧
  RunsV Proofs.Try.prog (Builtin.append_ #[22, 22] 22 #[Value.slice none 0 0, Value.slice p n c]) w'_1
  fun (v : Value) (w'_2 : World) =>
  ∃ (p : Option Addr),
  ∃ (n : Nat),
  ∃ (c : Nat),
  v = Value.slice p n c ∧
  ((w'_2.cell? (Addr.mk w.heap.size 1 none)).isSome = true ∧
  w'_2.frozen? (Addr.mk w.heap.size 1 none) = false) ∧
  ∀ (w'_3 : World),
  w'_3 = w'_2.setCell (Addr.mk w.heap.size 1 none) (Value.slice p n c) →
  ∃ (p : Option Addr),
  ∃ (n : Nat),
  ∃ (c : Nat),
  w'_3.cell? (Addr.mk w.heap.size 4 none) = some (Value.slice p n c) ∧
  RunsV Proofs.Try.prog
  (Builtin.append_ #[23, 23] 23 #[Value.slice none 0 0, Value.slice p n c]) w'_3
  fun (v : Value) (w'_4 : World) =>
  ∃ (p : Option Addr),
  ∃ (n : Nat),
  ∃ (c : Nat),
  v = Value.slice p n c ∧
  ((w'_4.cell? (Addr.mk w.heap.size 4 none)).isSome = true ∧
  w'_4.frozen? (Addr.mk w.heap.size 4 none) = false) ∧
  ∀ (w'_5 : World),
  w'_5 =
  w'_4.setCell (Addr.mk w.heap.size 4 none)
  (Value.slice p n c) →
  ∃ (n : Int),
  ∃ (p : Option Addr),
  ∃ (n_1 : Nat),
  ∃ (c : Nat),
  ∃ (b : Bool),
  ∃ (b_1 : Bool),
  ∃ (p_1 : Option Addr),
  ∃ (n_2 : Nat),
  ∃ (c_1 : Nat),
  (w'_5.cell? (Addr.mk w.heap.size 0 none) =
  some (Value.int IntKind.i64 n) ∧
  w'_5.cell? (Addr.mk w.heap.size 1 none) =
  some (Value.slice p n_1 c) ∧
  w'_5.cell?
  (Addr.mk w.heap.size 2 none) =
  some (Value.bool b) ∧
  w'_5.cell?
  (Addr.mk w.heap.size 3 none) =
  some (Value.bool b_1) ∧
  w'_5.cell?
  (Addr.mk w.heap.size 4 none) =
  some (Value.slice p_1 n_2 c_1) ∧
  True) ∧
  SetsAt w'_5 (Addr.mk w'.heap.size 0 none) 0
  [Value.int IntKind.i64 n,
  Value.slice p n_1 c, Value.bool b,
  Value.bool b_1,
  Value.slice p_1 n_2 c_1] ∧
  ∀ (w'_6 : World),
  w'_6 =
  setCellsAt w'_5
  (Addr.mk w'.heap.size 0 none) 0
  [Value.int IntKind.i64 n,
  Value.slice p n_1 c,
  Value.bool b, Value.bool b_1,
  Value.slice p_1 n_2 c_1] →
  ∃ (n : Int),
  ∃ (p : Option Addr),
  ∃ (n_3 : Nat),
  ∃ (c : Nat),
  ∃ (b : Bool),
  ∃ (b_2 : Bool),
  ∃ (p_2 : Option Addr),
  ∃ (n_4 : Nat),
  ∃ (c_2 : Nat),
  (w'_6.cell?
  (Addr.mk
  w'.heap.size
  0 none) =
  some
  (Value.int
  IntKind.i64
  n) ∧
  w'_6.cell?
  (Addr.mk
  w'.heap.size
  1
  none) =
  some
  (Value.slice
  p n_3
  c) ∧
  w'_6.cell?
  (Addr.mk
  w'.heap.size
  2
  none) =
  some
  (Value.bool
  b) ∧
  w'_6.cell?
  (Addr.mk
  w'.heap.size
  3
  none) =
  some
  (Value.bool
  b_2) ∧
  w'_6.cell?
  (Addr.mk
  w'.heap.size
  4
  none) =
  some
  (Value.slice
  p_2
  n_4
  c_2) ∧
  True) ∧
  R
  (Ending.returned
  (Value.agg
  #[Value.int
  IntKind.i64
  n,
  Value.slice
  p n_3 c,
  Value.bool
  b,
  Value.bool
  b_2,
  Value.slice
  p_2 n_4
  c_2]))
  w'_6
theorem ref30_Copy.vc_eq (x'_0 : Int) (x'_1 : Option Addr) (x'_1n : Nat) (x'_1c : Nat) (x'_2 : Bool) (x'_3 : Bool) (x'_4 : Option Addr) (x'_4n : Nat) (x'_4c : Nat) (w : World) (R : Ending → World → Prop) : fnV Try.prog ref30_Copy.H 8 [Value.agg
  #[Value.int IntKind.i64 x'_0, Value.slice x'_1 x'_1n x'_1c, Value.bool x'_2, Value.bool x'_3,
  Value.slice x'_4 x'_4n x'_4c]] w R = ref30_Copy.vc x'_0 x'_1 x'_1n x'_1c x'_2 x'_3 x'_4 x'_4n x'_4c w R := by kernel_rfl
theorem ref30_Copy.calls {x'_0 : Int} {x'_1 : Option Addr} {x'_1n : Nat} {x'_1c : Nat} {x'_2 : Bool} {x'_3 : Bool} {x'_4 : Option Addr} {x'_4n : Nat} {x'_4c : Nat} {w : World} {R : Ending → World → Prop} (h : ref30_Copy.vc x'_0 x'_1 x'_1n x'_1c x'_2 x'_3 x'_4 x'_4n x'_4c w R) : Calls Try.prog 8 ([Value.agg
  #[Value.int IntKind.i64 x'_0, Value.slice x'_1 x'_1n x'_1c, Value.bool x'_2, Value.bool x'_3,
  Value.slice x'_4 x'_4n x'_4c]] : List Value).toArray w R := calls_of_eq (ref30_Copy.vc_eq x'_0 x'_1 x'_1n x'_1c x'_2 x'_3 x'_4 x'_4n x'_4c w R) h

end Go.Proofs.Ytjoikaklincfoaa
