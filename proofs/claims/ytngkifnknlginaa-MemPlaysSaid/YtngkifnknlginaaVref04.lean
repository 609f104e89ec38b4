/-
The explicit conditions of some functions of the program, printed by this repo's own program over VcTop: what is proved is that each is the condition.
Conditions: none.
-/
import Derived.Test.YtngkifnknlginaaVcTop
import Derived.Test.YtngkifnknlginaaProg
namespace Go.Proofs.Ytngkifnknlginaa
open Go Go.Vc Go.RowKit
set_option linter.unusedVariables false
set_option maxRecDepth 100000

/- function 20: sacristy/sacristyref04.May -/
abbrev ref04_May.N : FuncId := 20
def ref04_May.H : Hints := { loops := [(3, [(3, .one (.int .i64))]), (9, [(5, .one (.int .i64))])] }
def ref04_May.vc (l' : Option Addr) (l'n : Nat) (l'c : Nat) (w : World) (R : Ending → World → Prop) : Prop :=
  ∃ (I : List Value → World → Prop),
  ∃ (μ : List Value → World → Nat),
  I [Value.int IntKind.i64 0] w ∧
  ∀ (g : Nat → Value) (i : Int) (w' : World),
  I [Value.int IntKind.i64 i] w' →
  cnd (decide (i < (↑l'n : Int)))
  ((0 ≤ i ∧ i < (↑l'n : Int)) ∧
  Deref l' fun (a : Addr) =>
  ∃ (n : Int),
  ∃ (n_1 : Int),
  ∃ (n_2 : Int),
  (w'.cell? (a.add (i.toNat * 3)) = some (Value.int IntKind.u64 n) ∧
  w'.cell? ((a.add (i.toNat * 3)).add 1) = some (Value.int IntKind.u64 n_1) ∧
  w'.cell? ((a.add (i.toNat * 3)).add 2) = some (Value.int IntKind.u8 n_2) ∧ True) ∧
  ∀ (w'_1 : World),
  w'_1 =
  w'.alloc
  (Obj.cells #[Value.int IntKind.u64 0, Value.int IntKind.u64 0, Value.int IntKind.u8 0]
  42) →
  SetsAt w'_1 (Addr.mk w'.heap.size 0 none) 0
  [Value.int IntKind.u64 n, Value.int IntKind.u64 n_1, Value.int IntKind.u8 n_2] ∧
  ∀ (w'_2 : World),
  w'_2 =
  setCellsAt w'_1 (Addr.mk w'.heap.size 0 none) 0
  [Value.int IntKind.u64 n, Value.int IntKind.u64 n_1, Value.int IntKind.u8 n_2] →
  ∃ (n : Int),
  w'_2.cell? (Addr.mk w'.heap.size 2 none) = some (Value.int IntKind.u8 n) ∧
  cnd (decide (n < 1)) (R (Ending.returned (Value.bool false)) w'_2)
  (∃ (n : Int),
  w'_2.cell? (Addr.mk w'.heap.size 2 none) = some (Value.int IntKind.u8 n) ∧
  cnd (decide (n > 4)) (R (Ending.returned (Value.bool false)) w'_2)
  (∃ (n : Int),
  w'_2.cell? (Addr.mk w'.heap.size 1 none) =
  some (Value.int IntKind.u64 n) ∧
  cnd (decide (n < 1)) (R (Ending.returned (Value.bool false)) w'_2)
  (∃ (n : Int),
  w'_2.cell? (Addr.mk w'.heap.size 1 none) =
  some (Value.int IntKind.u64 n) ∧
  cnd (decide (n > 1048576))
  (R (Ending.returned (Value.bool false)) w'_2)
  (∃ (n : Int),
  w'_2.cell? (Addr.mk w'.heap.size 0 none) =
  some (Value.int IntKind.u64 n) ∧
  ∃ (n_3 : Int),
  w'_2.cell? (Addr.mk w'.heap.size 1 none) =
  some (Value.int IntKind.u64 n_3) ∧
  cnd
  (decide
  (n > IntKind.u64.wrap (1099511627776 - n_3)))
  (R (Ending.returned (Value.bool false)) w'_2)
  (∃ (I_1 : List Value → World → Prop),
  ∃ (μ_1 : List Value → World → Nat),
  I_1 [Value.int IntKind.i64 0] w'_2 ∧
  ∀ (g : Nat → Value) (k : Int) (w'_3 : World),
  I_1 [Value.int IntKind.i64 k] w'_3 →
  cnd (decide (k < i))
  (∃ (n : Int),
  (∀ (w'_4 : World),
  Later w'_3 w'_4 →
  w'_4.cell?
  (Addr.mk w'.heap.size 0
  none) =
  some
  (Value.int IntKind.u64 n)) ∧
  (0 ≤ k ∧ k < (↑l'n : Int)) ∧
  Deref l' fun (a : Addr) =>
  ∃ (n_4 : Int),
  (∀ (w' : World),
  Later w'_3 w' →
  w'.cell?
  (a.add
  (k.toNat * 3)) =
  some
  (Value.int
  IntKind.u64
  n_4)) ∧
  (0 ≤ k ∧ k < (↑l'n : Int)) ∧
  Deref l' fun (a : Addr) =>
  ∃ (n_5 : Int),
  (∀ (w' : World),
  Later w'_3 w' →
  w'.cell?
  ((a.add
  (k.toNat *
  3)).add
  1) =
  some
  (Value.int
  IntKind.u64
  n_5)) ∧
  cnd
  (decide
  (n <
  IntKind.u64.wrap
  (n_4 +
  n_5)))
  ((0 ≤ k ∧
  k <
  (↑l'n :
  Int)) ∧
  Deref l'
  fun
  (a :
  Addr) =>
  ∃ (n : Int),
  (∀
  (w' :
  World),
  Later
  w'_3
  w' →
  w'.cell?
  (a.add
  (k.toNat *
  3)) =
  some
  (Value.int
  IntKind.u64
  n)) ∧
  ∃ (n_6 :
  Int),
  (∀
  (w'_4 :
  World),
  Later
  w'_3
  w'_4 →
  w'_4.cell?
  (Addr.mk
  w'.heap.size
  0
  none) =
  some
  (Value.int
  IntKind.u64
  n_6)) ∧
  ∃ (n_7
  :
  Int),
  (∀
  (w'_4 :
  World),
  Later
  w'_3
  w'_4 →
  w'_4.cell?
  (Addr.mk
  w'.heap.size
  1
  none) =
  some
  (Value.int
  IntKind.u64
  n_7)) ∧
  ∀
  (w' :
  World),
  Later
  w'_3
  w' →
  cnd
  (decide
  (n <
  IntKind.u64.wrap
  (n_6 +
  n_7)))
  (R
  (Ending.returned
  (Value.bool
  false))
  w')
  (Goes
  I_1
  μ_1
  [Value.int
  IntKind.i64
  k]
  w'_3
  [Value.int
  IntKind.i64
  (IntKind.i64.wrap
  (k +
  1))]
  w'))
  (∀ (w' : World),
  Later w'_3 w' →
  Goes I_1 μ_1
  [Value.int
  IntKind.i64
  k]
  w'_3
  [Value.int
  IntKind.i64
  (IntKind.i64.wrap
  (k +
  1))]
  w'))
  (Goes I μ [Value.int IntKind.i64 i] w'
  [Value.int IntKind.i64
  (IntKind.i64.wrap (i + 1))]
  w'_3)))))))
  (cnd (decide ((↑l'n : Int) ≥ 1)) (R (Ending.returned (Value.bool (decide ((↑l'n : Int) ≤ 16)))) w')
  (R (Ending.returned (Value.bool false)) w'))
theorem ref04_May.vc_eq (l' : Option Addr) (l'n : Nat) (l'c : Nat) (w : World) (R : Ending → World → Prop) : fnV Try.prog ref04_May.H 20 [Value.slice l' l'n l'c] w R = ref04_May.vc l' l'n l'c w R := by kernel_rfl
theorem ref04_May.calls {l' : Option Addr} {l'n : Nat} {l'c : Nat} {w : World} {R : Ending → World → Prop} (h : ref04_May.vc l' l'n l'c w R) : Calls Try.prog 20 ([Value.slice l' l'n l'c] : List Value).toArray w R := calls_of_eq (ref04_May.vc_eq l' l'n l'c w R) h

/- function 16: sacristy/sacristyref04.New -/
abbrev ref04_New.N : FuncId := 16
def ref04_New.H : Hints := { loops := [(6, [(5, .one (.int .i64))])], mixes := [(7, 1001), (8, 1001)] }
def ref04_New.vc (l' : Option Addr) (l'n : Nat) (l'c : Nat) (w : World) (R : Ending → World → Prop) : Prop :=
  Calls Proofs.Try.prog 20 #[Value.slice l' l'n l'c] w fun (e : Ending) (w' : World) =>
  ∃ (b : Bool),
  e = Ending.returned (Value.bool b) ∧
  cnd (!b) (R (Ending.returned (Value.tuple #[Value.pointer none, Value.int IntKind.i64 2])) w')
  (RunsV Proofs.Try.prog (Builtin.append_ #[22, 22] 22 #[Value.slice none 0 0, Value.slice l' l'n l'c]) w'
  fun (v : Value) (w' : World) =>
  ∃ (p : Option Addr),
  ∃ (n : Nat),
  ∃ (c : Nat),
  v = Value.slice p n c ∧
  ∀ (w'_1 : World),
  w'_1 = w'.alloc (Obj.cells #[Value.slice p n c, Value.slice none 0 0, Value.slice none 0 0] 79) →
  ∃ (I : List Value → World → Prop),
  ∃ (μ : List Value → World → Nat),
  I [Value.int IntKind.i64 0] w'_1 ∧
  ∀ (g : Nat → Value) (i : Int) (w'_2 : World),
  I [Value.int IntKind.i64 i] w'_2 →
  cnd (decide (i < (↑l'n : Int)))
  (∃ (C : World → Prop),
  (∀ (w' : World), Later w'_2 w' → C w') ∧
  ∀ (w'_3 : World),
  Later w'_2 w'_3 →
  ∃ (p : Option Addr),
  ∃ (n : Nat),
  ∃ (c : Nat),
  (∀ (w'_4 : World),
  C w'_4 →
  w'_4.cell? (Addr.mk w'.heap.size 1 none) =
  some (Value.slice p n c)) ∧
  (0 ≤ i ∧ i < (↑l'n : Int)) ∧
  Deref l' fun (a : Addr) =>
  ∃ (n_1 : Int),
  (∀ (w' : World),
  C w' →
  w'.cell? ((a.add (i.toNat * 3)).add 1) =
  some (Value.int IntKind.u64 n_1)) ∧
  RunsV Proofs.Try.prog
  (Instr.makeSlice 60
  (Value.int IntKind.i64 (IntKind.i64.wrap n_1))
  (Value.int IntKind.i64 (IntKind.i64.wrap n_1)))
  w'_3 fun (v : Value) (w'_4 : World) =>
  ∃ (p_1 : Option Addr),
  ∃ (n_2 : Nat),
  ∃ (c_1 : Nat),
  v = Value.slice p_1 n_2 c_1 ∧
  C w'_4 ∧
  ∀ (w'_5 : World),
  w'_5 =
  w'_4.alloc
  (Obj.cells #[Value.slice p_1 n_2 c_1]
  60) →
  C w'_5 ∧
  RunsV Proofs.Try.prog
  (Builtin.append_ #[76, 76] 76
  #[Value.slice p n c,
  Value.slice
  (some
  (Addr.mk w'_4.heap.size 0 none))
  1 1])
  w'_5 fun (v : Value) (w'_6 : World) =>
  ∃ (p : Option Addr),
  ∃ (n : Nat),
  ∃ (c : Nat),
  v = Value.slice p n c ∧
  C w'_6 ∧
  ((w'_6.cell?
  (Addr.mk w'.heap.size
  1 none)).isSome =
  true ∧
  w'_6.frozen?
  (Addr.mk w'.heap.size 1
  none) =
  false) ∧
  ∀ (w'_7 : World),
  w'_7 =
  w'_6.setCell
  (Addr.mk w'.heap.size
  1 none)
  (Value.slice p n c) →
  ∃ (C : World → Prop),
  (∀ (w' : World),
  Later w'_7 w' →
  C w') ∧
  ∀ (w'_8 : World),
  Later w'_7 w'_8 →
  ∃ (p :
  Option Addr),
  ∃ (n : Nat),
  ∃ (c : Nat),
  (∀
  (w'_9 :
  World),
  C w'_9 →
  w'_9.cell?
  (Addr.mk
  w'.heap.size
  2
  none) =
  some
  (Value.slice
  p
  n
  c)) ∧
  (0 ≤ i ∧
  i <
  (↑l'n :
  Int)) ∧
  Deref l'
  fun
  (a :
  Addr) =>
  ∃ (n_3
  :
  Int),
  (∀
  (w' :
  World),
  C
  w' →
  w'.cell?
  ((a.add
  (i.toNat *
  3)).add
  1) =
  some
  (Value.int
  IntKind.u64
  n_3)) ∧
  RunsV
  Proofs.Try.prog
  (Instr.makeSlice
  43
  (Value.int
  IntKind.i64
  (IntKind.i64.wrap
  n_3))
  (Value.int
  IntKind.i64
  (IntKind.i64.wrap
  n_3)))
  w'_8
  fun
  (v :
  Value)
  (w'_9 :
  World) =>
  ∃
  (p_2
  :
  Option
  Addr),
  ∃
  (n_4
  :
  Nat),
  ∃
  (c_2
  :
  Nat),
  v =
  Value.slice
  p_2
  n_4
  c_2 ∧
  C
  w'_9 ∧
  ∀
  (w'_10 :
  World),
  w'_10 =
  w'_9.alloc
  (Obj.cells
  #[Value.slice
  p_2
  n_4
  c_2]
  43) →
  C
  w'_10 ∧
  RunsV
  Proofs.Try.prog
  (Builtin.append_
  #[77,
  77]
  77
  #[Value.slice
  p
  n
  c,
  Value.slice
  (some
  (Addr.mk
  w'_9.heap.size
  0
  none))
  1
  1])
  w'_10
  fun
  (v :
  Value)
  (w'_11 :
  World) =>
  ∃
  (p
  :
  Option
  Addr),
  ∃
  (n
  :
  Nat),
  ∃
  (c
  :
  Nat),
  v =
  Value.slice
  p
  n
  c ∧
  C
  w'_11 ∧
  ((w'_11.cell?
  (Addr.mk
  w'.heap.size
  2
  none)).isSome =
  true ∧
  w'_11.frozen?
  (Addr.mk
  w'.heap.size
  2
  none) =
  false) ∧
  ∀
  (w'_12 :
  World),
  w'_12 =
  w'_11.setCell
  (Addr.mk
  w'.heap.size
  2
  none)
  (Value.slice
  p
  n
  c) →
  Goes
  I
  μ
  [Value.int
  IntKind.i64
  i]
  w'_2
  [Value.int
  IntKind.i64
  (IntKind.i64.wrap
  (i +
  1))]
  w'_12)
  (R
  (Ending.returned
  (Value.tuple
  #[Value.pointer (some (Addr.mk w'.heap.size 0 none)), Value.int IntKind.i64 0]))
  w'_2))
theorem ref04_New.vc_eq (l' : Option Addr) (l'n : Nat) (l'c : Nat) (w : World) (R : Ending → World → Prop) : fnV Try.prog ref04_New.H 16 [Value.slice l' l'n l'c] w R = ref04_New.vc l' l'n l'c w R := by kernel_rfl
theorem ref04_New.calls {l' : Option Addr} {l'n : Nat} {l'c : Nat} {w : World} {R : Ending → World → Prop} (h : ref04_New.vc l' l'n l'c w R) : Calls Try.prog 16 ([Value.slice l' l'n l'c] : List Value).toArray w R := calls_of_eq (ref04_New.vc_eq l' l'n l'c w R) h

/- function 40: (*sacristy/sacristyref04.Mem).in -/
abbrev sacristy_ref04_Mem_in.N : FuncId := 40
def sacristy_ref04_Mem_in.H : Hints := { loops := [(3, [(8, .one (.int .i64))])] }
def sacristy_ref04_Mem_in.vc (m' : Option Addr) (at' : Int) (n' : Int) (w : World) (R : Ending → World → Prop) : Prop :=
  ∃ (I : List Value → World → Prop),
  ∃ (μ : List Value → World → Nat),
  I [Value.int IntKind.i64 0] w ∧
  ∀ (g : Nat → Value) (i : Int) (w' : World),
  I [Value.int IntKind.i64 i] w' →
  Deref m' fun (a : Addr) =>
  ∃ (p : Option Addr),
  ∃ (n : Nat),
  ∃ (c : Nat),
  w'.cell? a = some (Value.slice p n c) ∧
  cnd (decide (i < (↑n : Int)))
  (Deref m' fun (a : Addr) =>
  ∃ (p : Option Addr),
  ∃ (n : Nat),
  ∃ (c : Nat),
  w'.cell? a = some (Value.slice p n c) ∧
  (0 ≤ i ∧ i < (↑n : Int)) ∧
  Deref p fun (a : Addr) =>
  ∃ (n : Int),
  ∃ (n_1 : Int),
  ∃ (n_2 : Int),
  (w'.cell? (a.add (i.toNat * 3)) = some (Value.int IntKind.u64 n) ∧
  w'.cell? ((a.add (i.toNat * 3)).add 1) =
  some (Value.int IntKind.u64 n_1) ∧
  w'.cell? ((a.add (i.toNat * 3)).add 2) =
  some (Value.int IntKind.u8 n_2) ∧
  True) ∧
  ∀ (w'_1 : World),
  w'_1 =
  w'.alloc
  (Obj.cells
  #[Value.int IntKind.u64 0, Value.int IntKind.u64 0,
  Value.int IntKind.u8 0]
  42) →
  SetsAt w'_1 (Addr.mk w'.heap.size 0 none) 0
  [Value.int IntKind.u64 n, Value.int IntKind.u64 n_1,
  Value.int IntKind.u8 n_2] ∧
  ∀ (w'_2 : World),
  w'_2 =
  setCellsAt w'_1 (Addr.mk w'.heap.size 0 none) 0
  [Value.int IntKind.u64 n, Value.int IntKind.u64 n_1,
  Value.int IntKind.u8 n_2] →
  ∃ (n : Int),
  w'_2.cell? (Addr.mk w'.heap.size 0 none) =
  some (Value.int IntKind.u64 n) ∧
  cnd (decide (at' ≥ n))
  (∃ (n : Int),
  w'_2.cell? (Addr.mk w'.heap.size 0 none) =
  some (Value.int IntKind.u64 n) ∧
  ∃ (n_3 : Int),
  w'_2.cell? (Addr.mk w'.heap.size 1 none) =
  some (Value.int IntKind.u64 n_3) ∧
  cnd (decide (at' < IntKind.u64.wrap (n + n_3)))
  (∃ (n : Int),
  w'_2.cell? (Addr.mk w'.heap.size 0 none) =
  some (Value.int IntKind.u64 n) ∧
  ∃ (n_4 : Int),
  w'_2.cell? (Addr.mk w'.heap.size 1 none) =
  some (Value.int IntKind.u64 n_4) ∧
  cnd
  (decide
  (IntKind.u64.wrap n' ≤
  IntKind.u64.wrap
  (IntKind.u64.wrap (n + n_4) -
  at')))
  (∃ (n : Int),
  (∀ (w'_3 : World),
  Later w'_2 w'_3 →
  w'_3.cell?
  (Addr.mk w'.heap.size 0
  none) =
  some
  (Value.int IntKind.u64 n)) ∧
  ∀ (w' : World),
  Later w'_2 w' →
  R
  (Ending.returned
  (Value.tuple
  #[Value.int IntKind.i64 i,
  Value.int IntKind.i64
  (IntKind.i64.wrap
  (IntKind.u64.wrap
  (at' - n)))]))
  w')
  (Goes I μ [Value.int IntKind.i64 i] w'
  [Value.int IntKind.i64
  (IntKind.i64.wrap (i + 1))]
  w'_2))
  (Goes I μ [Value.int IntKind.i64 i] w'
  [Value.int IntKind.i64
  (IntKind.i64.wrap (i + 1))]
  w'_2))
  (Goes I μ [Value.int IntKind.i64 i] w'
  [Value.int IntKind.i64 (IntKind.i64.wrap (i + 1))] w'_2))
  (R (Ending.returned (Value.tuple #[Value.int IntKind.i64 (-1), Value.int IntKind.i64 0])) w')
theorem sacristy_ref04_Mem_in.vc_eq (m' : Option Addr) (at' : Int) (n' : Int) (w : World) (R : Ending → World → Prop) : fnV Try.prog sacristy_ref04_Mem_in.H 40 [Value.pointer m', Value.int IntKind.u64 at', Value.int IntKind.i64 n'] w R = sacristy_ref04_Mem_in.vc m' at' n' w R := by kernel_rfl
theorem sacristy_ref04_Mem_in.calls {m' : Option Addr} {at' : Int} {n' : Int} {w : World} {R : Ending → World → Prop} (h : sacristy_ref04_Mem_in.vc m' at' n' w R) : Calls Try.prog 40 ([Value.pointer m', Value.int IntKind.u64 at', Value.int IntKind.i64 n'] : List Value).toArray w R := calls_of_eq (sacristy_ref04_Mem_in.vc_eq m' at' n' w R) h

/- function 31: (*sacristy/sacristyref04.Mem).Load -/
abbrev sacristy_ref04_Mem_Load.N : FuncId := 31
def sacristy_ref04_Mem_Load.H : Hints := { loops := [(10, [(11, .one (.int .u64)), (12, .one .bool), (13, .one (.int .i64))])] }
def sacristy_ref04_Mem_Load.vc (m' : Option Addr) (at' : Int) (n' : Int) (w : World) (R : Ending → World → Prop) : Prop :=
  cnd (decide (n' < 1))
  (R (Ending.returned (Value.tuple #[Value.int IntKind.u64 0, Value.bool false, Value.int IntKind.i64 2])) w)
  (cnd (decide (n' > 8))
  (R (Ending.returned (Value.tuple #[Value.int IntKind.u64 0, Value.bool false, Value.int IntKind.i64 2])) w)
  (Calls Proofs.Try.prog 40 #[Value.pointer m', Value.int IntKind.u64 at', Value.int IntKind.i64 n'] w
  fun (e : Ending) (w' : World) =>
  ∃ (n : Int),
  ∃ (n_1 : Int),
  e = Ending.returned (Value.tuple #[Value.int IntKind.i64 n, Value.int IntKind.i64 n_1]) ∧
  cnd (decide (n < 0))
  (R (Ending.returned (Value.tuple #[Value.int IntKind.u64 0, Value.bool false, Value.int IntKind.i64 40]))
  w')
  (Deref m' fun (a : Addr) =>
  ∃ (p : Option Addr),
  ∃ (n_2 : Nat),
  ∃ (c : Nat),
  w'.cell? a = some (Value.slice p n_2 c) ∧
  (0 ≤ n ∧ n < (↑n_2 : Int)) ∧
  Deref p fun (a : Addr) =>
  ∃ (n_3 : Int),
  w'.cell? ((a.add (n.toNat * 3)).add 2) = some (Value.int IntKind.u8 n_3) ∧
  cnd (n_3 == 1)
  (R
  (Ending.returned
  (Value.tuple
  #[Value.int IntKind.u64 0, Value.bool false, Value.int IntKind.i64 40]))
  w')
  (∃ (I : List Value → World → Prop),
  ∃ (μ : List Value → World → Nat),
  I
  [Value.int IntKind.u64 0, Value.bool false,
  Value.int IntKind.i64 (IntKind.i64.wrap (n' - 1))]
  w' ∧
  ∀ (g : Nat → Value) (v : Int) (taint : Bool) (j : Int) (w' : World),
  I [Value.int IntKind.u64 v, Value.bool taint, Value.int IntKind.i64 j] w' →
  cnd (decide (j ≥ 0))
  (Deref m' fun (a : Addr) =>
  ∃ (p : Option Addr),
  ∃ (n_4 : Nat),
  ∃ (c : Nat),
  w'.cell? (a.add 1) = some (Value.slice p n_4 c) ∧
  (0 ≤ n ∧ n < (↑n_4 : Int)) ∧
  Deref p fun (a : Addr) =>
  ∃ (p : Option Addr),
  ∃ (n_5 : Nat),
  ∃ (c : Nat),
  w'.cell? (a.add (n.toNat * 1)) =
  some (Value.slice p n_5 c) ∧
  (0 ≤ IntKind.i64.wrap (n_1 + j) ∧
  IntKind.i64.wrap (n_1 + j) < (↑n_5 : Int)) ∧
  Deref p fun (a : Addr) =>
  ∃ (n_6 : Int),
  w'.cell?
  (a.add
  ((IntKind.i64.wrap (n_1 + j)).toNat *
  1)) =
  some (Value.int IntKind.u8 n_6) ∧
  cnd taint
  (Goes I μ
  [Value.int IntKind.u64 v,
  Value.bool taint,
  Value.int IntKind.i64 j]
  w'
  [Value.int IntKind.u64
  (IntKind.u64.wrap
  (IntKind.u64.wrap (256 * v) +
  IntKind.u64.wrap n_6)),
  Value.bool true,
  Value.int IntKind.i64
  (IntKind.i64.wrap (j - 1))]
  w')
  (Deref m' fun (a : Addr) =>
  ∃ (p : Option Addr),
  ∃ (n_7 : Nat),
  ∃ (c : Nat),
  w'.cell? (a.add 2) =
  some (Value.slice p n_7 c) ∧
  (0 ≤ n ∧ n < (↑n_7 : Int)) ∧
  Deref p fun (a : Addr) =>
  ∃ (p : Option Addr),
  ∃ (n_8 : Nat),
  ∃ (c : Nat),
  w'.cell?
  (a.add
  (n.toNat *
  1)) =
  some
  (Value.slice p
  n_8 c) ∧
  (0 ≤
  IntKind.i64.wrap
  (n_1 + j) ∧
  IntKind.i64.wrap
  (n_1 + j) <
  (↑n_8 :
  Int)) ∧
  Deref p
  fun
  (a : Addr) =>
  ∃ (b : Bool),
  w'.cell?
  (a.add
  ((IntKind.i64.wrap
  (n_1 +
  j)).toNat *
  1)) =
  some
  (Value.bool
  b) ∧
  Goes I μ
  [Value.int
  IntKind.u64
  v,
  Value.bool
  taint,
  Value.int
  IntKind.i64
  j]
  w'
  [Value.int
  IntKind.u64
  (IntKind.u64.wrap
  (IntKind.u64.wrap
  (256 *
  v) +
  IntKind.u64.wrap
  n_6)),
  Value.bool
  b,
  Value.int
  IntKind.i64
  (IntKind.i64.wrap
  (j -
  1))]
  w'))
  (R
  (Ending.returned
  (Value.tuple
  #[Value.int IntKind.u64 v, Value.bool taint,
  Value.int IntKind.i64 0]))
  w')))))
theorem sacristy_ref04_Mem_Load.vc_eq (m' : Option Addr) (at' : Int) (n' : Int) (w : World) (R : Ending → World → Prop) : fnV Try.prog sacristy_ref04_Mem_Load.H 31 [Value.pointer m', Value.int IntKind.u64 at', Value.int IntKind.i64 n'] w R = sacristy_ref04_Mem_Load.vc m' at' n' w R := by kernel_rfl
theorem sacristy_ref04_Mem_Load.calls {m' : Option Addr} {at' : Int} {n' : Int} {w : World} {R : Ending → World → Prop} (h : sacristy_ref04_Mem_Load.vc m' at' n' w R) : Calls Try.prog 31 ([Value.pointer m', Value.int IntKind.u64 at', Value.int IntKind.i64 n'] : List Value).toArray w R := calls_of_eq (sacristy_ref04_Mem_Load.vc_eq m' at' n' w R) h

/- function 32: (*sacristy/sacristyref04.Mem).Store -/
abbrev sacristy_ref04_Mem_Store.N : FuncId := 32
def sacristy_ref04_Mem_Store.H : Hints := { loops := [(8, [(3, .one (.int .u64)), (13, .one (.int .i64))])] }
def sacristy_ref04_Mem_Store.vc (m' : Option Addr) (at' : Int) (n' : Int) (v' : Int) (taint' : Bool) (w : World) (R : Ending → World → Prop) : Prop :=
  cnd (decide (n' < 1)) (R (Ending.returned (Value.int IntKind.i64 2)) w)
  (cnd (decide (n' > 8)) (R (Ending.returned (Value.int IntKind.i64 2)) w)
  (Calls Proofs.Try.prog 40 #[Value.pointer m', Value.int IntKind.u64 at', Value.int IntKind.i64 n'] w
  fun (e : Ending) (w' : World) =>
  ∃ (n : Int),
  ∃ (n_1 : Int),
  e = Ending.returned (Value.tuple #[Value.int IntKind.i64 n, Value.int IntKind.i64 n_1]) ∧
  cnd (decide (n < 0)) (R (Ending.returned (Value.int IntKind.i64 40)) w')
  (Deref m' fun (a : Addr) =>
  ∃ (p : Option Addr),
  ∃ (n_2 : Nat),
  ∃ (c : Nat),
  w'.cell? a = some (Value.slice p n_2 c) ∧
  (0 ≤ n ∧ n < (↑n_2 : Int)) ∧
  Deref p fun (a : Addr) =>
  ∃ (n_3 : Int),
  w'.cell? ((a.add (n.toNat * 3)).add 2) = some (Value.int IntKind.u8 n_3) ∧
  cnd (n_3 != 3)
  (Deref m' fun (a : Addr) =>
  ∃ (p : Option Addr),
  ∃ (n_4 : Nat),
  ∃ (c : Nat),
  w'.cell? a = some (Value.slice p n_4 c) ∧
  (0 ≤ n ∧ n < (↑n_4 : Int)) ∧
  Deref p fun (a : Addr) =>
  ∃ (n_5 : Int),
  w'.cell? ((a.add (n.toNat * 3)).add 2) =
  some (Value.int IntKind.u8 n_5) ∧
  cnd (n_5 != 4) (R (Ending.returned (Value.int IntKind.i64 40)) w')
  (∃ (I : List Value → World → Prop),
  ∃ (μ : List Value → World → Nat),
  I [Value.int IntKind.u64 v', Value.int IntKind.i64 0] w' ∧
  ∀ (g : Nat → Value) (v j : Int) (w' : World),
  I [Value.int IntKind.u64 v, Value.int IntKind.i64 j] w' →
  cnd (decide (j < n'))
  (Deref m' fun (a : Addr) =>
  ∃ (p : Option Addr),
  ∃ (n_6 : Nat),
  ∃ (c : Nat),
  w'.cell? (a.add 1) =
  some (Value.slice p n_6 c) ∧
  (0 ≤ n ∧ n < (↑n_6 : Int)) ∧
  Deref p fun (a : Addr) =>
  ∃ (p : Option Addr),
  ∃ (n_7 : Nat),
  ∃ (c : Nat),
  w'.cell? (a.add (n.toNat * 1)) =
  some (Value.slice p n_7 c) ∧
  (0 ≤
  IntKind.i64.wrap
  (n_1 + j) ∧
  IntKind.i64.wrap (n_1 + j) <
  (↑n_7 : Int)) ∧
  Deref p fun (a : Addr) =>
  ((w'.cell?
  (a.add
  ((IntKind.i64.wrap
  (n_1 +
  j)).toNat *
  1))).isSome =
  true ∧
  w'.frozen?
  (a.add
  ((IntKind.i64.wrap
  (n_1 +
  j)).toNat *
  1)) =
  false) ∧
  ∀ (w'_1 : World),
  w'_1 =
  w'.setCell
  (a.add
  ((IntKind.i64.wrap
  (n_1 +
  j)).toNat *
  1))
  (Value.int
  IntKind.u8
  (IntKind.u8.wrap
  (v.tmod
  256))) →
  Deref m'
  fun (a : Addr) =>
  ∃ (p : Option Addr),
  ∃ (n_8 : Nat),
  ∃ (c : Nat),
  w'_1.cell?
  (a.add
  2) =
  some
  (Value.slice
  p n_8
  c) ∧
  (0 ≤ n ∧
  n <
  (↑n_8 :
  Int)) ∧
  Deref p
  fun
  (a :
  Addr) =>
  ∃ (p :
  Option
  Addr),
  ∃ (n_9
  :
  Nat),
  ∃ (c
  :
  Nat),
  w'_1.cell?
  (a.add
  (n.toNat *
  1)) =
  some
  (Value.slice
  p
  n_9
  c) ∧
  (0 ≤
  IntKind.i64.wrap
  (n_1 +
  j) ∧
  IntKind.i64.wrap
  (n_1 +
  j) <
  (↑n_9 :
  Int)) ∧
  Deref
  p
  fun
  (a :
  Addr) =>
  ((w'_1.cell?
  (a.add
  ((IntKind.i64.wrap
  (n_1 +
  j)).toNat *
  1))).isSome =
  true ∧
  w'_1.frozen?
  (a.add
  ((IntKind.i64.wrap
  (n_1 +
  j)).toNat *
  1)) =
  false) ∧
  ∀
  (w'_2 :
  World),
  w'_2 =
  w'_1.setCell
  (a.add
  ((IntKind.i64.wrap
  (n_1 +
  j)).toNat *
  1))
  (Value.bool
  taint') →
  Goes
  I
  μ
  [Value.int
  IntKind.u64
  v,
  Value.int
  IntKind.i64
  j]
  w'
  [Value.int
  IntKind.u64
  (IntKind.u64.wrap
  (v.tdiv
  256)),
  Value.int
  IntKind.i64
  (IntKind.i64.wrap
  (j +
  1))]
  w'_2)
  (R (Ending.returned (Value.int IntKind.i64 0)) w')))
  (∃ (I : List Value → World → Prop),
  ∃ (μ : List Value → World → Nat),
  I [Value.int IntKind.u64 v', Value.int IntKind.i64 0] w' ∧
  ∀ (g : Nat → Value) (v j : Int) (w' : World),
  I [Value.int IntKind.u64 v, Value.int IntKind.i64 j] w' →
  cnd (decide (j < n'))
  (Deref m' fun (a : Addr) =>
  ∃ (p : Option Addr),
  ∃ (n_4 : Nat),
  ∃ (c : Nat),
  w'.cell? (a.add 1) = some (Value.slice p n_4 c) ∧
  (0 ≤ n ∧ n < (↑n_4 : Int)) ∧
  Deref p fun (a : Addr) =>
  ∃ (p : Option Addr),
  ∃ (n_5 : Nat),
  ∃ (c : Nat),
  w'.cell? (a.add (n.toNat * 1)) =
  some (Value.slice p n_5 c) ∧
  (0 ≤ IntKind.i64.wrap (n_1 + j) ∧
  IntKind.i64.wrap (n_1 + j) < (↑n_5 : Int)) ∧
  Deref p fun (a : Addr) =>
  ((w'.cell?
  (a.add
  ((IntKind.i64.wrap
  (n_1 + j)).toNat *
  1))).isSome =
  true ∧
  w'.frozen?
  (a.add
  ((IntKind.i64.wrap (n_1 + j)).toNat *
  1)) =
  false) ∧
  ∀ (w'_1 : World),
  w'_1 =
  w'.setCell
  (a.add
  ((IntKind.i64.wrap
  (n_1 + j)).toNat *
  1))
  (Value.int IntKind.u8
  (IntKind.u8.wrap (v.tmod 256))) →
  Deref m' fun (a : Addr) =>
  ∃ (p : Option Addr),
  ∃ (n_6 : Nat),
  ∃ (c : Nat),
  w'_1.cell? (a.add 2) =
  some (Value.slice p n_6 c) ∧
  (0 ≤ n ∧ n < (↑n_6 : Int)) ∧
  Deref p fun (a : Addr) =>
  ∃ (p : Option Addr),
  ∃ (n_7 : Nat),
  ∃ (c : Nat),
  w'_1.cell?
  (a.add
  (n.toNat *
  1)) =
  some
  (Value.slice p
  n_7 c) ∧
  (0 ≤
  IntKind.i64.wrap
  (n_1 + j) ∧
  IntKind.i64.wrap
  (n_1 + j) <
  (↑n_7 :
  Int)) ∧
  Deref p
  fun
  (a : Addr) =>
  ((w'_1.cell?
  (a.add
  ((IntKind.i64.wrap
  (n_1 +
  j)).toNat *
  1))).isSome =
  true ∧
  w'_1.frozen?
  (a.add
  ((IntKind.i64.wrap
  (n_1 +
  j)).toNat *
  1)) =
  false) ∧
  ∀
  (w'_2 :
  World),
  w'_2 =
  w'_1.setCell
  (a.add
  ((IntKind.i64.wrap
  (n_1 +
  j)).toNat *
  1))
  (Value.bool
  taint') →
  Goes I μ
  [Value.int
  IntKind.u64
  v,
  Value.int
  IntKind.i64
  j]
  w'
  [Value.int
  IntKind.u64
  (IntKind.u64.wrap
  (v.tdiv
  256)),
  Value.int
  IntKind.i64
  (IntKind.i64.wrap
  (j +
  1))]
  w'_2)
  (R (Ending.returned (Value.int IntKind.i64 0)) w')))))
theorem sacristy_ref04_Mem_Store.vc_eq (m' : Option Addr) (at' : Int) (n' : Int) (v' : Int) (taint' : Bool) (w : World) (R : Ending → World → Prop) : fnV Try.prog sacristy_ref04_Mem_Store.H 32 [Value.pointer m', Value.int IntKind.u64 at', Value.int IntKind.i64 n', Value.int IntKind.u64 v', Value.bool taint'] w R = sacristy_ref04_Mem_Store.vc m' at' n' v' taint' w R := by kernel_rfl
theorem sacristy_ref04_Mem_Store.calls {m' : Option Addr} {at' : Int} {n' : Int} {v' : Int} {taint' : Bool} {w : World} {R : Ending → World → Prop} (h : sacristy_ref04_Mem_Store.vc m' at' n' v' taint' w R) : Calls Try.prog 32 ([Value.pointer m', Value.int IntKind.u64 at', Value.int IntKind.i64 n', Value.int IntKind.u64 v', Value.bool taint'] : List Value).toArray w R := calls_of_eq (sacristy_ref04_Mem_Store.vc_eq m' at' n' v' taint' w R) h

/- function 33: (*sacristy/sacristyref04.Mem).Fetch -/
abbrev sacristy_ref04_Mem_Fetch.N : FuncId := 33
def sacristy_ref04_Mem_Fetch.H : Hints := { loops := [(7, [(8, .one (.int .u32)), (9, .one (.int .i64))])] }
def sacristy_ref04_Mem_Fetch.vc (m' : Option Addr) (at' : Int) (w : World) (R : Ending → World → Prop) : Prop :=
  Calls Proofs.Try.prog 40 #[Value.pointer m', Value.int IntKind.u64 at', Value.int IntKind.i64 4] w
  fun (e : Ending) (w' : World) =>
  ∃ (n : Int),
  ∃ (n_1 : Int),
  e = Ending.returned (Value.tuple #[Value.int IntKind.i64 n, Value.int IntKind.i64 n_1]) ∧
  cnd (at'.tmod 4 != 0)
  (R (Ending.returned (Value.tuple #[Value.int IntKind.u32 0, Value.int IntKind.i64 40])) w')
  (cnd (decide (n < 0))
  (R (Ending.returned (Value.tuple #[Value.int IntKind.u32 0, Value.int IntKind.i64 40])) w')
  (Deref m' fun (a : Addr) =>
  ∃ (p : Option Addr),
  ∃ (n_2 : Nat),
  ∃ (c : Nat),
  w'.cell? a = some (Value.slice p n_2 c) ∧
  (0 ≤ n ∧ n < (↑n_2 : Int)) ∧
  Deref p fun (a : Addr) =>
  ∃ (n_3 : Int),
  w'.cell? ((a.add (n.toNat * 3)).add 2) = some (Value.int IntKind.u8 n_3) ∧
  cnd (n_3 != 1)
  (R (Ending.returned (Value.tuple #[Value.int IntKind.u32 0, Value.int IntKind.i64 40]))
  w')
  (∃ (I : List Value → World → Prop),
  ∃ (μ : List Value → World → Nat),
  I [Value.int IntKind.u32 0, Value.int IntKind.i64 3] w' ∧
  ∀ (g : Nat → Value) (v j : Int) (w' : World),
  I [Value.int IntKind.u32 v, Value.int IntKind.i64 j] w' →
  cnd (decide (j ≥ 0))
  (Deref m' fun (a : Addr) =>
  ∃ (p : Option Addr),
  ∃ (n_4 : Nat),
  ∃ (c : Nat),
  w'.cell? (a.add 1) = some (Value.slice p n_4 c) ∧
  (0 ≤ n ∧ n < (↑n_4 : Int)) ∧
  Deref p fun (a : Addr) =>
  ∃ (p : Option Addr),
  ∃ (n_5 : Nat),
  ∃ (c : Nat),
  w'.cell? (a.add (n.toNat * 1)) =
  some (Value.slice p n_5 c) ∧
  (0 ≤ IntKind.i64.wrap (n_1 + j) ∧
  IntKind.i64.wrap (n_1 + j) < (↑n_5 : Int)) ∧
  Deref p fun (a : Addr) =>
  ∃ (n : Int),
  w'.cell?
  (a.add
  ((IntKind.i64.wrap (n_1 + j)).toNat *
  1)) =
  some (Value.int IntKind.u8 n) ∧
  Goes I μ
  [Value.int IntKind.u32 v,
  Value.int IntKind.i64 j]
  w'
  [Value.int IntKind.u32
  (IntKind.u32.wrap
  (IntKind.u32.wrap (256 * v) +
  IntKind.u32.wrap n)),
  Value.int IntKind.i64
  (IntKind.i64.wrap (j - 1))]
  w')
  (R
  (Ending.returned
  (Value.tuple #[Value.int IntKind.u32 v, Value.int IntKind.i64 0]))
  w'))))
theorem sacristy_ref04_Mem_Fetch.vc_eq (m' : Option Addr) (at' : Int) (w : World) (R : Ending → World → Prop) : fnV Try.prog sacristy_ref04_Mem_Fetch.H 33 [Value.pointer m', Value.int IntKind.u64 at'] w R = sacristy_ref04_Mem_Fetch.vc m' at' w R := by kernel_rfl
theorem sacristy_ref04_Mem_Fetch.calls {m' : Option Addr} {at' : Int} {w : World} {R : Ending → World → Prop} (h : sacristy_ref04_Mem_Fetch.vc m' at' w R) : Calls Try.prog 33 ([Value.pointer m', Value.int IntKind.u64 at'] : List Value).toArray w R := calls_of_eq (sacristy_ref04_Mem_Fetch.vc_eq m' at' w R) h

/- function 34: (*sacristy/sacristyref04.Mem).Set -/
abbrev sacristy_ref04_Mem_Set.N : FuncId := 34
def sacristy_ref04_Mem_Set.H : Hints := { loops := [(6, [(11, .one (.int .i64))])], tails := [(7, 14)] }
def sacristy_ref04_Mem_Set.vc (m' : Option Addr) (at' : Int) (s' : ByteArray) (taint' : Bool) (w : World) (R : Ending → World → Prop) : Prop :=
  Calls Proofs.Try.prog 40 #[Value.pointer m', Value.int IntKind.u64 at', Value.int IntKind.i64 (↑s'.size : Int)] w
  fun (e : Ending) (w' : World) =>
  ∃ (n : Int),
  ∃ (n_1 : Int),
  e = Ending.returned (Value.tuple #[Value.int IntKind.i64 n, Value.int IntKind.i64 n_1]) ∧
  cnd (decide (n < 0)) (R (Ending.returned (Value.int IntKind.i64 40)) w')
  (∃ (I : List Value → World → Prop),
  ∃ (μ : List Value → World → Nat),
  I [Value.int IntKind.i64 0] w' ∧
  ∀ (g : Nat → Value) (j : Int) (w' : World),
  I [Value.int IntKind.i64 j] w' →
  cnd (decide (j < (↑s'.size : Int)))
  (Deref m' fun (a : Addr) =>
  ∃ (p : Option Addr),
  ∃ (n_2 : Nat),
  ∃ (c : Nat),
  (∀ (w'_1 : World), Later w' w'_1 → w'_1.cell? (a.add 1) = some (Value.slice p n_2 c)) ∧
  (0 ≤ n ∧ n < (↑n_2 : Int)) ∧
  Deref p fun (a : Addr) =>
  ∃ (p : Option Addr),
  ∃ (n_3 : Nat),
  ∃ (c : Nat),
  (∀ (w'_1 : World),
  Later w' w'_1 →
  w'_1.cell? (a.add (n.toNat * 1)) = some (Value.slice p n_3 c)) ∧
  0 ≤ j ∧
  ∃ (b : UInt8),
  s'[j.toNat]? = some b ∧
  (0 ≤ IntKind.i64.wrap (n_1 + j) ∧
  IntKind.i64.wrap (n_1 + j) < (↑n_3 : Int)) ∧
  Deref p fun (a : Addr) =>
  ∀ (w'_1 : World),
  Later w' w'_1 →
  ((w'_1.cell?
  (a.add
  ((IntKind.i64.wrap (n_1 + j)).toNat *
  1))).isSome =
  true ∧
  w'_1.frozen?
  (a.add ((IntKind.i64.wrap (n_1 + j)).toNat * 1)) =
  false) ∧
  ∀ (w'_2 : World),
  w'_2 =
  w'_1.setCell
  (a.add ((IntKind.i64.wrap (n_1 + j)).toNat * 1))
  (Value.int IntKind.u8 (↑b.toNat : Int)) →
  Deref m' fun (a : Addr) =>
  ∃ (p : Option Addr),
  ∃ (n_4 : Nat),
  ∃ (c : Nat),
  w'_2.cell? (a.add 2) =
  some (Value.slice p n_4 c) ∧
  (0 ≤ n ∧ n < (↑n_4 : Int)) ∧
  Deref p fun (a : Addr) =>
  ∃ (p : Option Addr),
  ∃ (n_5 : Nat),
  ∃ (c : Nat),
  w'_2.cell? (a.add (n.toNat * 1)) =
  some (Value.slice p n_5 c) ∧
  (0 ≤ IntKind.i64.wrap (n_1 + j) ∧
  IntKind.i64.wrap (n_1 + j) <
  (↑n_5 : Int)) ∧
  Deref p fun (a : Addr) =>
  ((w'_2.cell?
  (a.add
  ((IntKind.i64.wrap
  (n_1 +
  j)).toNat *
  1))).isSome =
  true ∧
  w'_2.frozen?
  (a.add
  ((IntKind.i64.wrap
  (n_1 +
  j)).toNat *
  1)) =
  false) ∧
  ∀ (w'_3 : World),
  w'_3 =
  w'_2.setCell
  (a.add
  ((IntKind.i64.wrap
  (n_1 +
  j)).toNat *
  1))
  (Value.bool
  taint') →
  Goes I μ
  [Value.int IntKind.i64
  j]
  w'
  [Value.int IntKind.i64
  (IntKind.i64.wrap
  (j + 1))]
  w'_3)
  (R (Ending.returned (Value.int IntKind.i64 0)) w'))
theorem sacristy_ref04_Mem_Set.vc_eq (m' : Option Addr) (at' : Int) (s' : ByteArray) (taint' : Bool) (w : World) (R : Ending → World → Prop) : fnV Try.prog sacristy_ref04_Mem_Set.H 34 [Value.pointer m', Value.int IntKind.u64 at', Value.string s', Value.bool taint'] w R = sacristy_ref04_Mem_Set.vc m' at' s' taint' w R := by kernel_rfl
theorem sacristy_ref04_Mem_Set.calls {m' : Option Addr} {at' : Int} {s' : ByteArray} {taint' : Bool} {w : World} {R : Ending → World → Prop} (h : sacristy_ref04_Mem_Set.vc m' at' s' taint' w R) : Calls Try.prog 34 ([Value.pointer m', Value.int IntKind.u64 at', Value.string s', Value.bool taint'] : List Value).toArray w R := calls_of_eq (sacristy_ref04_Mem_Set.vc_eq m' at' s' taint' w R) h

/- function 35: (*sacristy/sacristyref04.Mem).Bytes -/
abbrev sacristy_ref04_Mem_Bytes.N : FuncId := 35
def sacristy_ref04_Mem_Bytes.H : Hints := { mixes := [(6, 1001)] }
def sacristy_ref04_Mem_Bytes.vc (m' : Option Addr) (at' : Int) (n' : Int) (w : World) (R : Ending → World → Prop) : Prop :=
  cnd (decide (n' < 0))
  (R (Ending.returned (Value.tuple #[Value.string (ByteArray.mk #[]), Value.slice none 0 0, Value.int IntKind.i64 2]))
  w)
  (cnd (decide (n' > 1048576))
  (R (Ending.returned (Value.tuple #[Value.string (ByteArray.mk #[]), Value.slice none 0 0, Value.int IntKind.i64 2]))
  w)
  (Calls Proofs.Try.prog 40 #[Value.pointer m', Value.int IntKind.u64 at', Value.int IntKind.i64 n'] w
  fun (e : Ending) (w' : World) =>
  ∃ (n : Int),
  ∃ (n_1 : Int),
  e = Ending.returned (Value.tuple #[Value.int IntKind.i64 n, Value.int IntKind.i64 n_1]) ∧
  cnd (decide (n < 0))
  (R
  (Ending.returned
  (Value.tuple #[Value.string (ByteArray.mk #[]), Value.slice none 0 0, Value.int IntKind.i64 40]))
  w')
  (∃ (C : World → Prop),
  (∀ (w'_1 : World), Later w' w'_1 → C w'_1) ∧
  ∀ (w'_1 : World),
  Later w' w'_1 →
  Deref m' fun (a : Addr) =>
  ∃ (p : Option Addr),
  ∃ (n_2 : Nat),
  ∃ (c : Nat),
  (∀ (w' : World), C w' → w'.cell? (a.add 1) = some (Value.slice p n_2 c)) ∧
  (0 ≤ n ∧ n < (↑n_2 : Int)) ∧
  Deref p fun (a : Addr) =>
  ∃ (p : Option Addr),
  ∃ (n_3 : Nat),
  ∃ (c : Nat),
  (∀ (w' : World),
  C w' → w'.cell? (a.add (n.toNat * 1)) = some (Value.slice p n_3 c)) ∧
  (0 ≤ IntKind.i64.wrap (n_1 + n') ∧
  IntKind.i64.wrap (n_1 + n') ≤ (↑c : Int)) ∧
  (0 ≤ n_1 ∧ n_1 ≤ (↑(IntKind.i64.wrap (n_1 + n')).toNat : Int)) ∧
  LooksV Proofs.Try.prog C
  (convert 60 9
  (Value.slice (reslice p n_1.toNat c 1)
  ((IntKind.i64.wrap (n_1 + n')).toNat - n_1.toNat)
  (c - n_1.toNat)))
  fun (v : Value) =>
  ∃ (s : ByteArray),
  v = Value.string s ∧
  Deref m' fun (a : Addr) =>
  ∃ (p : Option Addr),
  ∃ (n_4 : Nat),
  ∃ (c : Nat),
  (∀ (w' : World),
  C w' →
  w'.cell? (a.add 2) = some (Value.slice p n_4 c)) ∧
  (0 ≤ n ∧ n < (↑n_4 : Int)) ∧
  Deref p fun (a : Addr) =>
  ∃ (p : Option Addr),
  ∃ (n_5 : Nat),
  ∃ (c : Nat),
  (∀ (w' : World),
  C w' →
  w'.cell? (a.add (n.toNat * 1)) =
  some (Value.slice p n_5 c)) ∧
  (0 ≤ IntKind.i64.wrap (n_1 + n') ∧
  IntKind.i64.wrap (n_1 + n') ≤
  (↑c : Int)) ∧
  (0 ≤ n_1 ∧
  n_1 ≤
  (↑(IntKind.i64.wrap
  (n_1 + n')).toNat :
  Int)) ∧
  RunsV Proofs.Try.prog
  (Builtin.append_ #[43, 43] 43
  #[Value.slice none 0 0,
  Value.slice
  (reslice p n_1.toNat c 1)
  ((IntKind.i64.wrap
  (n_1 + n')).toNat -
  n_1.toNat)
  (c - n_1.toNat)])
  w'_1 fun (v : Value) (w' : World) =>
  ∃ (p : Option Addr),
  ∃ (n : Nat),
  ∃ (c : Nat),
  v = Value.slice p n c ∧
  C w' ∧
  R
  (Ending.returned
  (Value.tuple
  #[Value.string s,
  Value.slice p n c,
  Value.int
  IntKind.i64 0]))
  w')))
theorem sacristy_ref04_Mem_Bytes.vc_eq (m' : Option Addr) (at' : Int) (n' : Int) (w : World) (R : Ending → World → Prop) : fnV Try.prog sacristy_ref04_Mem_Bytes.H 35 [Value.pointer m', Value.int IntKind.u64 at', Value.int IntKind.i64 n'] w R = sacristy_ref04_Mem_Bytes.vc m' at' n' w R := by kernel_rfl
theorem sacristy_ref04_Mem_Bytes.calls {m' : Option Addr} {at' : Int} {n' : Int} {w : World} {R : Ending → World → Prop} (h : sacristy_ref04_Mem_Bytes.vc m' at' n' w R) : Calls Try.prog 35 ([Value.pointer m', Value.int IntKind.u64 at', Value.int IntKind.i64 n'] : List Value).toArray w R := calls_of_eq (sacristy_ref04_Mem_Bytes.vc_eq m' at' n' w R) h

/- function 36: sacristy/sacristyref04.Same -/
abbrev ref04_Same.N : FuncId := 36
def ref04_Same.H : Hints := { loops := [(5, [(5, .one (.int .i64))])] }
def ref04_Same.vc (a' : Option Addr) (a'n : Nat) (a'c : Nat) (b' : Option Addr) (b'n : Nat) (b'c : Nat) (w : World) (R : Ending → World → Prop) : Prop :=
  cnd ((↑a'n : Int) != (↑b'n : Int)) (R (Ending.returned (Value.bool false)) w)
  (∃ (I : List Value → World → Prop),
  ∃ (μ : List Value → World → Nat),
  I [Value.int IntKind.i64 0] w ∧
  ∀ (g : Nat → Value) (i : Int) (w' : World),
  I [Value.int IntKind.i64 i] w' →
  cnd (decide (i < (↑a'n : Int)))
  ((0 ≤ i ∧ i < (↑a'n : Int)) ∧
  Deref a' fun (a : Addr) =>
  ∃ (b : Bool),
  (∀ (w'_1 : World), Later w' w'_1 → w'_1.cell? (a.add (i.toNat * 1)) = some (Value.bool b)) ∧
  (0 ≤ i ∧ i < (↑b'n : Int)) ∧
  Deref b' fun (a : Addr) =>
  ∃ (b_1 : Bool),
  (∀ (w'_1 : World),
  Later w' w'_1 → w'_1.cell? (a.add (i.toNat * 1)) = some (Value.bool b_1)) ∧
  ∀ (w'_1 : World),
  Later w' w'_1 →
  cnd (!b == b_1) (R (Ending.returned (Value.bool false)) w'_1)
  (Goes I μ [Value.int IntKind.i64 i] w'
  [Value.int IntKind.i64 (IntKind.i64.wrap (i + 1))] w'_1))
  (R (Ending.returned (Value.bool true)) w'))
theorem ref04_Same.vc_eq (a' : Option Addr) (a'n : Nat) (a'c : Nat) (b' : Option Addr) (b'n : Nat) (b'c : Nat) (w : World) (R : Ending → World → Prop) : fnV Try.prog ref04_Same.H 36 [Value.slice a' a'n a'c, Value.slice b' b'n b'c] w R = ref04_Same.vc a' a'n a'c b' b'n b'c w R := by kernel_rfl
theorem ref04_Same.calls {a' : Option Addr} {a'n : Nat} {a'c : Nat} {b' : Option Addr} {b'n : Nat} {b'c : Nat} {w : World} {R : Ending → World → Prop} (h : ref04_Same.vc a' a'n a'c b' b'n b'c w R) : Calls Try.prog 36 ([Value.slice a' a'n a'c, Value.slice b' b'n b'c] : List Value).toArray w R := calls_of_eq (ref04_Same.vc_eq a' a'n a'c b' b'n b'c w R) h

end Go.Proofs.Ytngkifnknlginaa
