/-
The explicit conditions of some functions of the program, printed by this repo's own program over VcTop: what is proved is that each is the condition.
Conditions: none.
-/
import Derived.Test.YtglakmkedoklmaaVcTop
import Derived.Test.YtglakmkedoklmaaProg
namespace Go.Proofs.Ytglakmkedoklmaa
open Go Go.Vc Go.RowKit
set_option linter.unusedVariables false
set_option maxRecDepth 100000

/- function 8: sacristy/fix.Fix -/
abbrev fix_Fix.N : FuncId := 8
def fix_Fix.H : Hints := { loops := [(6, [(2, .one .slice), (18, .one (.int .i64))])], tails := [(11, 9)], edges := [(11, [(0, 9)])] }
def fix_Fix.vc (l' : Option Addr) (l'n : Nat) (l'c : Nat) (w : World) (R : Ending → World → Prop) : Prop :=
  Calls Proofs.Try.prog 17 #[Value.slice l' l'n l'c] w fun (e : Ending) (w' : World) =>
  ∃ (p : Option Addr),
  ∃ (n : Int),
  e = Ending.returned (Value.tuple #[Value.pointer p, Value.int IntKind.i64 n]) ∧
  cnd (n != 0) (R (Ending.returned (Value.tuple #[Value.slice none 0 0, Value.int IntKind.i64 n])) w')
  (∃ (I : List Value → World → Prop),
  ∃ (μ : List Value → World → Nat),
  I [Value.slice none 0 0, Value.int IntKind.i64 0] w' ∧
  ∀ (g : Nat → Value) (out : Option Addr) (outn outc : Nat) (s18 : Int) (w' : World),
  I [Value.slice out outn outc, Value.int IntKind.i64 s18] w' →
  cnd (decide (s18 < (↑l'n : Int)))
  ((0 ≤ s18 ∧ s18 < (↑l'n : Int)) ∧
  Deref l' fun (a : Addr) =>
  ∃ (n : Int),
  ∃ (n_1 : Int),
  ∃ (n_2 : Int),
  ∃ (n_3 : Int),
  ∃ (n_4 : Int),
  ∃ (n_5 : Int),
  ∃ (n_6 : Int),
  (w'.cell? (a.add (s18.toNat * 7)) = some (Value.int IntKind.i64 n) ∧
  w'.cell? ((a.add (s18.toNat * 7)).add 1) = some (Value.int IntKind.u8 n_1) ∧
  w'.cell? ((a.add (s18.toNat * 7)).add 2) =
  some (Value.int IntKind.u8 n_2) ∧
  w'.cell? ((a.add (s18.toNat * 7)).add 3) =
  some (Value.int IntKind.u8 n_3) ∧
  w'.cell? ((a.add (s18.toNat * 7)).add 4) =
  some (Value.int IntKind.u8 n_4) ∧
  w'.cell? ((a.add (s18.toNat * 7)).add 5) =
  some (Value.int IntKind.i64 n_5) ∧
  w'.cell? ((a.add (s18.toNat * 7)).add 6) =
  some (Value.int IntKind.i64 n_6) ∧
  True) ∧
  ∀ (w'_1 : World),
  w'_1 =
  w'.alloc
  (Obj.cells
  #[Value.int IntKind.i64 0, Value.int IntKind.u8 0,
  Value.int IntKind.u8 0, Value.int IntKind.u8 0,
  Value.int IntKind.u8 0, Value.int IntKind.i64 0,
  Value.int IntKind.i64 0]
  37) →
  SetsAt w'_1 (Addr.mk w'.heap.size 0 none) 0
  [Value.int IntKind.i64 n, Value.int IntKind.u8 n_1,
  Value.int IntKind.u8 n_2, Value.int IntKind.u8 n_3,
  Value.int IntKind.u8 n_4, Value.int IntKind.i64 n_5,
  Value.int IntKind.i64 n_6] ∧
  ∀ (w'_2 : World),
  w'_2 =
  setCellsAt w'_1 (Addr.mk w'.heap.size 0 none) 0
  [Value.int IntKind.i64 n, Value.int IntKind.u8 n_1,
  Value.int IntKind.u8 n_2, Value.int IntKind.u8 n_3,
  Value.int IntKind.u8 n_4, Value.int IntKind.i64 n_5,
  Value.int IntKind.i64 n_6] →
  ∃ (n : Int),
  ∃ (n_7 : Int),
  ∃ (n_8 : Int),
  ∃ (n_9 : Int),
  ∃ (n_10 : Int),
  (w'_2.cell? (Addr.mk w'.heap.size 1 none) =
  some (Value.int IntKind.u8 n) ∧
  w'_2.cell? (Addr.mk w'.heap.size 2 none) =
  some (Value.int IntKind.u8 n_7) ∧
  w'_2.cell? (Addr.mk w'.heap.size 3 none) =
  some (Value.int IntKind.u8 n_8) ∧
  w'_2.cell? (Addr.mk w'.heap.size 4 none) =
  some (Value.int IntKind.u8 n_9) ∧
  w'_2.cell? (Addr.mk w'.heap.size 5 none) =
  some (Value.int IntKind.i64 n_10) ∧
  True) ∧
  ∀ (w'_3 : World),
  w'_3 =
  w'_2.alloc
  (Obj.cells
  #[Value.int IntKind.u8 0,
  Value.int IntKind.u8 0,
  Value.int IntKind.u8 0,
  Value.int IntKind.u8 0,
  Value.int IntKind.i64 0]
  35) →
  SetsAt w'_3 (Addr.mk w'_2.heap.size 0 none) 0
  [Value.int IntKind.u8 n,
  Value.int IntKind.u8 n_7,
  Value.int IntKind.u8 n_8,
  Value.int IntKind.u8 n_9,
  Value.int IntKind.i64 n_10] ∧
  ∀ (w'_4 : World),
  w'_4 =
  setCellsAt w'_3
  (Addr.mk w'_2.heap.size 0 none) 0
  [Value.int IntKind.u8 n,
  Value.int IntKind.u8 n_7,
  Value.int IntKind.u8 n_8,
  Value.int IntKind.u8 n_9,
  Value.int IntKind.i64 n_10] →
  ∃ (n : Int),
  w'_4.cell? (Addr.mk w'.heap.size 6 none) =
  some (Value.int IntKind.i64 n) ∧
  cnd (decide (n < 0))
  (∃ (n : Int),
  ∃ (n_11 : Int),
  ∃ (n_12 : Int),
  ∃ (n_13 : Int),
  ∃ (n_14 : Int),
  (w'_4.cell?
  (Addr.mk
  w'_2.heap.size 0
  none) =
  some
  (Value.int IntKind.u8
  n) ∧
  w'_4.cell?
  (Addr.mk
  w'_2.heap.size 1
  none) =
  some
  (Value.int
  IntKind.u8 n_11) ∧
  w'_4.cell?
  (Addr.mk
  w'_2.heap.size 2
  none) =
  some
  (Value.int
  IntKind.u8
  n_12) ∧
  w'_4.cell?
  (Addr.mk
  w'_2.heap.size
  3 none) =
  some
  (Value.int
  IntKind.u8
  n_13) ∧
  w'_4.cell?
  (Addr.mk
  w'_2.heap.size
  4 none) =
  some
  (Value.int
  IntKind.i64
  n_14) ∧
  True) ∧
  ∀ (w'_5 : World),
  w'_5 =
  w'_4.alloc
  (Obj.cells
  #[Value.int
  IntKind.u8 n,
  Value.int
  IntKind.u8
  n_11,
  Value.int
  IntKind.u8
  n_12,
  Value.int
  IntKind.u8
  n_13,
  Value.int
  IntKind.i64
  n_14]
  35) →
  RunsV Proofs.Try.prog
  (Builtin.append_
  #[25, 25] 25
  #[Value.slice out
  outn outc,
  Value.slice
  (some
  (Addr.mk
  w'_4.heap.size
  0 none))
  1 1])
  w'_5
  fun (v : Value)
  (w'_6 : World) =>
  ∃ (p : Option Addr),
  ∃ (n : Nat),
  ∃ (c : Nat),
  v =
  Value.slice
  p n c ∧
  Goes I μ
  [Value.slice
  out outn
  outc,
  Value.int
  IntKind.i64
  s18]
  w'
  [Value.slice
  p n c,
  Value.int
  IntKind.i64
  (IntKind.i64.wrap
  (s18 +
  1))]
  w'_6)
  (Deref p fun (a : Addr) =>
  ∃ (p_1 : Option Addr),
  ∃ (n : Nat),
  ∃ (c : Nat),
  w'_4.cell? (a.add 2) =
  some (Value.slice p_1 n c) ∧
  (0 ≤ s18 ∧ s18 < (↑n : Int)) ∧
  Deref p_1 fun (a : Addr) =>
  ∃ (b : Bool),
  w'_4.cell?
  (a.add
  (s18.toNat *
  1)) =
  some
  (Value.bool b) ∧
  cnd b
  (∃ (n : Int),
  (∀ (w' : World),
  Later w'_4
  w' →
  w'.cell?
  (Addr.mk
  w'_2.heap.size
  0
  none) =
  some
  (Value.int
  IntKind.u8
  n)) ∧
  ∃ (n_11 : Int),
  (∀
  (w' :
  World),
  Later w'_4
  w' →
  Calls
  Proofs.Try.prog
  18
  #[Value.int
  IntKind.u8
  n]
  w'
  fun
  (e :
  Ending)
  (w'' :
  World) =>
  e =
  Ending.returned
  (Value.int
  IntKind.u8
  n_11) ∧
  Later
  w'
  w'') ∧
  ∃ (n : Int),
  (∀
  (w' :
  World),
  Later
  w'_4
  w' →
  w'.cell?
  (Addr.mk
  w'_2.heap.size
  2
  none) =
  some
  (Value.int
  IntKind.u8
  n)) ∧
  ∃ (n_12
  :
  Int),
  (∀
  (w' :
  World),
  Later
  w'_4
  w' →
  w'.cell?
  (Addr.mk
  w'_2.heap.size
  3
  none) =
  some
  (Value.int
  IntKind.u8
  n_12)) ∧
  ∀
  (w'_5 :
  World),
  Later
  w'_4
  w'_5 →
  ∀
  (w'_6 :
  World),
  w'_6 =
  w'_5.alloc
  (Obj.cells
  #[Value.int
  IntKind.u8
  n_11,
  Value.int
  IntKind.u8
  0,
  Value.int
  IntKind.u8
  n,
  Value.int
  IntKind.u8
  n_12,
  Value.int
  IntKind.i64
  8]
  35) →
  RunsV
  Proofs.Try.prog
  (Builtin.append_
  #[25,
  25]
  25
  #[Value.slice
  out
  outn
  outc,
  Value.slice
  (some
  (Addr.mk
  w'_5.heap.size
  0
  none))
  1
  1])
  w'_6
  fun
  (v :
  Value)
  (w'_7 :
  World) =>
  ∃
  (p_2
  :
  Option
  Addr),
  ∃
  (n
  :
  Nat),
  ∃
  (c
  :
  Nat),
  v =
  Value.slice
  p_2
  n
  c ∧
  Calls
  Proofs.Try.prog
  19
  #[Value.pointer
  p,
  Value.int
  IntKind.i64
  s18]
  w'_7
  fun
  (e :
  Ending)
  (w'_8 :
  World) =>
  ∃
  (n_13
  :
  Int),
  e =
  Ending.returned
  (Value.int
  IntKind.i64
  n_13) ∧
  SetsAt
  w'_8
  (Addr.mk
  w'_2.heap.size
  0
  none)
  0
  [Value.int
  IntKind.u8
  32,
  Value.int
  IntKind.u8
  0,
  Value.int
  IntKind.u8
  0,
  Value.int
  IntKind.u8
  0,
  Value.int
  IntKind.i64
  (IntKind.i64.wrap
  (n_13 -
  4))] ∧
  ∀
  (w'_9 :
  World),
  w'_9 =
  setCellsAt
  w'_8
  (Addr.mk
  w'_2.heap.size
  0
  none)
  0
  [Value.int
  IntKind.u8
  32,
  Value.int
  IntKind.u8
  0,
  Value.int
  IntKind.u8
  0,
  Value.int
  IntKind.u8
  0,
  Value.int
  IntKind.i64
  (IntKind.i64.wrap
  (n_13 -
  4))] →
  ∃
  (n_14
  :
  Int),
  ∃
  (n_15
  :
  Int),
  ∃
  (n_16
  :
  Int),
  ∃
  (n_17
  :
  Int),
  ∃
  (n_18
  :
  Int),
  (w'_9.cell?
  (Addr.mk
  w'_2.heap.size
  0
  none) =
  some
  (Value.int
  IntKind.u8
  n_14) ∧
  w'_9.cell?
  (Addr.mk
  w'_2.heap.size
  1
  none) =
  some
  (Value.int
  IntKind.u8
  n_15) ∧
  w'_9.cell?
  (Addr.mk
  w'_2.heap.size
  2
  none) =
  some
  (Value.int
  IntKind.u8
  n_16) ∧
  w'_9.cell?
  (Addr.mk
  w'_2.heap.size
  3
  none) =
  some
  (Value.int
  IntKind.u8
  n_17) ∧
  w'_9.cell?
  (Addr.mk
  w'_2.heap.size
  4
  none) =
  some
  (Value.int
  IntKind.i64
  n_18) ∧
  True) ∧
  ∀
  (w'_10 :
  World),
  w'_10 =
  w'_9.alloc
  (Obj.cells
  #[Value.int
  IntKind.u8
  n_14,
  Value.int
  IntKind.u8
  n_15,
  Value.int
  IntKind.u8
  n_16,
  Value.int
  IntKind.u8
  n_17,
  Value.int
  IntKind.i64
  n_18]
  35) →
  RunsV
  Proofs.Try.prog
  (Builtin.append_
  #[25,
  25]
  25
  #[Value.slice
  p_2
  n
  c,
  Value.slice
  (some
  (Addr.mk
  w'_9.heap.size
  0
  none))
  1
  1])
  w'_10
  fun
  (v :
  Value)
  (w'_11 :
  World) =>
  ∃
  (p
  :
  Option
  Addr),
  ∃
  (n
  :
  Nat),
  ∃
  (c
  :
  Nat),
  v =
  Value.slice
  p
  n
  c ∧
  Goes
  I
  μ
  [Value.slice
  out
  outn
  outc,
  Value.int
  IntKind.i64
  s18]
  w'
  [Value.slice
  p
  n
  c,
  Value.int
  IntKind.i64
  (IntKind.i64.wrap
  (s18 +
  1))]
  w'_11)
  (Calls
  Proofs.Try.prog 19
  #[Value.pointer p,
  Value.int
  IntKind.i64
  s18]
  w'_4
  fun (e : Ending)
  (w'_5 :
  World) =>
  ∃ (n : Int),
  e =
  Ending.returned
  (Value.int
  IntKind.i64
  n) ∧
  ((w'_5.cell?
  (Addr.mk
  w'_2.heap.size
  4
  none)).isSome =
  true ∧
  w'_5.frozen?
  (Addr.mk
  w'_2.heap.size
  4
  none) =
  false) ∧
  ∀
  (w'_6 :
  World),
  w'_6 =
  w'_5.setCell
  (Addr.mk
  w'_2.heap.size
  4
  none)
  (Value.int
  IntKind.i64
  n) →
  ∃ (n :
  Int),
  ∃
  (n_11
  :
  Int),
  ∃
  (n_12
  :
  Int),
  ∃
  (n_13
  :
  Int),
  ∃
  (n_14
  :
  Int),
  (w'_6.cell?
  (Addr.mk
  w'_2.heap.size
  0
  none) =
  some
  (Value.int
  IntKind.u8
  n) ∧
  w'_6.cell?
  (Addr.mk
  w'_2.heap.size
  1
  none) =
  some
  (Value.int
  IntKind.u8
  n_11) ∧
  w'_6.cell?
  (Addr.mk
  w'_2.heap.size
  2
  none) =
  some
  (Value.int
  IntKind.u8
  n_12) ∧
  w'_6.cell?
  (Addr.mk
  w'_2.heap.size
  3
  none) =
  some
  (Value.int
  IntKind.u8
  n_13) ∧
  w'_6.cell?
  (Addr.mk
  w'_2.heap.size
  4
  none) =
  some
  (Value.int
  IntKind.i64
  n_14) ∧
  True) ∧
  ∀
  (w'_7 :
  World),
  w'_7 =
  w'_6.alloc
  (Obj.cells
  #[Value.int
  IntKind.u8
  n,
  Value.int
  IntKind.u8
  n_11,
  Value.int
  IntKind.u8
  n_12,
  Value.int
  IntKind.u8
  n_13,
  Value.int
  IntKind.i64
  n_14]
  35) →
  RunsV
  Proofs.Try.prog
  (Builtin.append_
  #[25,
  25]
  25
  #[Value.slice
  out
  outn
  outc,
  Value.slice
  (some
  (Addr.mk
  w'_6.heap.size
  0
  none))
  1
  1])
  w'_7
  fun
  (v :
  Value)
  (w'_8 :
  World) =>
  ∃
  (p
  :
  Option
  Addr),
  ∃
  (n
  :
  Nat),
  ∃
  (c
  :
  Nat),
  v =
  Value.slice
  p
  n
  c ∧
  Goes
  I
  μ
  [Value.slice
  out
  outn
  outc,
  Value.int
  IntKind.i64
  s18]
  w'
  [Value.slice
  p
  n
  c,
  Value.int
  IntKind.i64
  (IntKind.i64.wrap
  (s18 +
  1))]
  w'_8)))
  (R (Ending.returned (Value.tuple #[Value.slice out outn outc, Value.int IntKind.i64 0])) w'))
theorem fix_Fix.vc_eq (l' : Option Addr) (l'n : Nat) (l'c : Nat) (w : World) (R : Ending → World → Prop) : fnV Try.prog fix_Fix.H 8 [Value.slice l' l'n l'c] w R = fix_Fix.vc l' l'n l'c w R := by kernel_rfl
theorem fix_Fix.calls {l' : Option Addr} {l'n : Nat} {l'c : Nat} {w : World} {R : Ending → World → Prop} (h : fix_Fix.vc l' l'n l'c w R) : Calls Try.prog 8 ([Value.slice l' l'n l'c] : List Value).toArray w R := calls_of_eq (fix_Fix.vc_eq l' l'n l'c w R) h

/- function 9: sacristy/fix.Places -/
abbrev fix_Places.N : FuncId := 9
def fix_Places.H : Hints := {  }
def fix_Places.vc (l' : Option Addr) (l'n : Nat) (l'c : Nat) (w : World) (R : Ending → World → Prop) : Prop :=
  Calls Proofs.Try.prog 17 #[Value.slice l' l'n l'c] w fun (e : Ending) (w' : World) =>
  ∃ (p : Option Addr),
  ∃ (n : Int),
  e = Ending.returned (Value.tuple #[Value.pointer p, Value.int IntKind.i64 n]) ∧
  cnd (n != 0) (R (Ending.returned (Value.tuple #[Value.slice none 0 0, Value.int IntKind.i64 n])) w')
  (Deref p fun (a : Addr) =>
  ∃ (p : Option Addr),
  ∃ (n : Nat),
  ∃ (c : Nat),
  w'.cell? (a.add 3) = some (Value.slice p n c) ∧
  R (Ending.returned (Value.tuple #[Value.slice p n c, Value.int IntKind.i64 0])) w')
theorem fix_Places.vc_eq (l' : Option Addr) (l'n : Nat) (l'c : Nat) (w : World) (R : Ending → World → Prop) : fnV Try.prog fix_Places.H 9 [Value.slice l' l'n l'c] w R = fix_Places.vc l' l'n l'c w R := by kernel_rfl
theorem fix_Places.calls {l' : Option Addr} {l'n : Nat} {l'c : Nat} {w : World} {R : Ending → World → Prop} (h : fix_Places.vc l' l'n l'c w R) : Calls Try.prog 9 ([Value.slice l' l'n l'c] : List Value).toArray w R := calls_of_eq (fix_Places.vc_eq l' l'n l'c w R) h

/- function 17: sacristy/fix.made -/
abbrev fix_made.N : FuncId := 17
def fix_made.H : Hints := { loops := [(6, []), (9, [(30, .one (.int .i64))])], mixes := [(1, 10)] }
def fix_made.vc (l' : Option Addr) (l'n : Nat) (l'c : Nat) (w : World) (R : Ending → World → Prop) : Prop :=
  True ∧
  ∀ (k : Nat),
  w.heap.size ≤ k →
  (0 ≤ (↑l'n : Int) ∧ (↑l'n : Int) = (↑l'n : Int) ∧ (↑l'n : Int) ≤ 16777216 ∧ 1 ≤ 1024 ∧ 1 = 1 ∧ 0 < 1) ∧
  ∀ (k_1 : Nat),
  w.heap.size ≤ k_1 →
  (0 ≤ (↑l'n : Int) ∧ (↑l'n : Int) = (↑l'n : Int) ∧ (↑l'n : Int) ≤ 16777216 ∧ 8 ≤ 1024 ∧ 1 = 1 ∧ 0 < 1) ∧
  ∀ (k_2 : Nat),
  w.heap.size ≤ k_2 →
  True ∧
  ∀ (k_3 : Nat),
  w.heap.size ≤ k_3 →
  ∀ (w' : World),
  Vc.Good w
  [(k_3,
  Obj.cells
  #[Value.slice l' l'n l'c, Value.map (some k),
  Value.slice (some (Addr.mk k_1 0 none)) (↑l'n : Int).toNat (↑l'n : Int).toNat,
  Value.slice (some (Addr.mk k_2 0 none)) (↑l'n : Int).toNat (↑l'n : Int).toNat]
  52),
  (k_2, Obj.cells (repL [Value.int IntKind.i64 0] (↑l'n : Int).toNat).toArray 3),
  (k_1, Obj.cells (repL [Value.bool false] (↑l'n : Int).toNat).toArray 4),
  (k, Obj.map #[] 0)]
  w' →
  Calls Proofs.Try.prog 30 #[Value.pointer (some (Addr.mk k_3 0 none))] w'
  fun (e : Ending) (w' : World) =>
  ∃ (n : Int),
  e = Ending.returned (Value.int IntKind.i64 n) ∧
  cnd (n != 0)
  (R (Ending.returned (Value.tuple #[Value.pointer none, Value.int IntKind.i64 n]))
  w')
  (∃ (I : List Value → World → Prop),
  ∃ (μ : List Value → World → Nat),
  I [] w' ∧
  ∀ (g : Nat → Value) (w' : World),
  I [] w' →
  Calls Proofs.Try.prog 31 #[Value.pointer (some (Addr.mk k_3 0 none))] w'
  fun (e : Ending) (w'_1 : World) =>
  ∃ (b : Bool),
  e = Ending.returned (Value.bool b) ∧
  cnd b (Goes I μ [] w' [] w'_1)
  (Calls Proofs.Try.prog 32
  #[Value.pointer (some (Addr.mk k_3 0 none))] w'_1
  fun (e : Ending) (w' : World) =>
  e = Ending.returned (Value.tuple #[]) ∧
  ∃ (I : List Value → World → Prop),
  ∃ (μ : List Value → World → Nat),
  I [Value.int IntKind.i64 0] w' ∧
  ∀ (g : Nat → Value) (s30 : Int) (w' : World),
  I [Value.int IntKind.i64 s30] w' →
  cnd (decide (s30 < (↑l'n : Int)))
  ((0 ≤ s30 ∧ s30 < (↑l'n : Int)) ∧
  Deref l' fun (a : Addr) =>
  ∃ (n : Int),
  ∃ (n_1 : Int),
  ∃ (n_2 : Int),
  ∃ (n_3 : Int),
  ∃ (n_4 : Int),
  ∃ (n_5 : Int),
  ∃ (n_6 : Int),
  (w'.cell?
  (a.add
  (s30.toNat * 7)) =
  some
  (Value.int IntKind.i64
  n) ∧
  w'.cell?
  ((a.add
  (s30.toNat *
  7)).add
  1) =
  some
  (Value.int IntKind.u8
  n_1) ∧
  w'.cell?
  ((a.add
  (s30.toNat *
  7)).add
  2) =
  some
  (Value.int
  IntKind.u8 n_2) ∧
  w'.cell?
  ((a.add
  (s30.toNat *
  7)).add
  3) =
  some
  (Value.int
  IntKind.u8
  n_3) ∧
  w'.cell?
  ((a.add
  (s30.toNat *
  7)).add
  4) =
  some
  (Value.int
  IntKind.u8
  n_4) ∧
  w'.cell?
  ((a.add
  (s30.toNat *
  7)).add
  5) =
  some
  (Value.int
  IntKind.i64
  n_5) ∧
  w'.cell?
  ((a.add
  (s30.toNat *
  7)).add
  6) =
  some
  (Value.int
  IntKind.i64
  n_6) ∧
  True) ∧
  ∀ (w'_2 : World),
  w'_2 =
  w'.alloc
  (Obj.cells
  #[Value.int
  IntKind.i64 0,
  Value.int
  IntKind.u8 0,
  Value.int
  IntKind.u8 0,
  Value.int
  IntKind.u8 0,
  Value.int
  IntKind.u8 0,
  Value.int
  IntKind.i64 0,
  Value.int
  IntKind.i64 0]
  37) →
  SetsAt w'_2
  (Addr.mk w'.heap.size
  0 none)
  0
  [Value.int IntKind.i64
  n,
  Value.int IntKind.u8
  n_1,
  Value.int IntKind.u8
  n_2,
  Value.int IntKind.u8
  n_3,
  Value.int IntKind.u8
  n_4,
  Value.int
  IntKind.i64 n_5,
  Value.int
  IntKind.i64 n_6] ∧
  ∀ (w'_3 : World),
  w'_3 =
  setCellsAt w'_2
  (Addr.mk
  w'.heap.size 0
  none)
  0
  [Value.int
  IntKind.i64
  n,
  Value.int
  IntKind.u8
  n_1,
  Value.int
  IntKind.u8
  n_2,
  Value.int
  IntKind.u8
  n_3,
  Value.int
  IntKind.u8
  n_4,
  Value.int
  IntKind.i64
  n_5,
  Value.int
  IntKind.i64
  n_6] →
  ∃ (n : Int),
  w'_3.cell?
  (Addr.mk
  w'.heap.size
  6 none) =
  some
  (Value.int
  IntKind.i64
  n) ∧
  cnd
  (decide
  (n < 0))
  (Goes I μ
  [Value.int
  IntKind.i64
  s30]
  w'
  [Value.int
  IntKind.i64
  (IntKind.i64.wrap
  (s30 +
  1))]
  w'_3)
  (Calls
  Proofs.Try.prog
  19
  #[Value.pointer
  (some
  (Addr.mk
  k_3
  0
  none)),
  Value.int
  IntKind.i64
  s30]
  w'_3
  fun
  (e :
  Ending)
  (w'_4 :
  World) =>
  ∃ (n : Int),
  e =
  Ending.returned
  (Value.int
  IntKind.i64
  n) ∧
  ∃ (p :
  Option
  Addr),
  ∃ (n_7
  :
  Nat),
  ∃ (c
  :
  Nat),
  w'_4.cell?
  (Addr.mk
  k_3
  2
  none) =
  some
  (Value.slice
  p
  n_7
  c) ∧
  (0 ≤
  s30 ∧
  s30 <
  (↑n_7 :
  Int)) ∧
  Deref
  p
  fun
  (a :
  Addr) =>
  ∃
  (b
  :
  Bool),
  w'_4.cell?
  (a.add
  (s30.toNat *
  1)) =
  some
  (Value.bool
  b) ∧
  cnd
  b
  (cnd
  (decide
  (IntKind.i64.wrap
  (n -
  4) <
  -1048576))
  (R
  (Ending.returned
  (Value.tuple
  #[Value.pointer
  none,
  Value.int
  IntKind.i64
  290]))
  w'_4)
  (cnd
  (decide
  (IntKind.i64.wrap
  (n -
  4) >
  1048574))
  (R
  (Ending.returned
  (Value.tuple
  #[Value.pointer
  none,
  Value.int
  IntKind.i64
  290]))
  w'_4)
  (Goes
  I
  μ
  [Value.int
  IntKind.i64
  s30]
  w'
  [Value.int
  IntKind.i64
  (IntKind.i64.wrap
  (s30 +
  1))]
  w'_4)))
  (cnd
  (decide
  (n <
  -1048576))
  (R
  (Ending.returned
  (Value.tuple
  #[Value.pointer
  none,
  Value.int
  IntKind.i64
  290]))
  w'_4)
  (cnd
  (decide
  (n >
  1048574))
  (R
  (Ending.returned
  (Value.tuple
  #[Value.pointer
  none,
  Value.int
  IntKind.i64
  290]))
  w'_4)
  (Goes
  I
  μ
  [Value.int
  IntKind.i64
  s30]
  w'
  [Value.int
  IntKind.i64
  (IntKind.i64.wrap
  (s30 +
  1))]
  w'_4)))))
  (R
  (Ending.returned
  (Value.tuple
  #[Value.pointer (some (Addr.mk k_3 0 none)),
  Value.int IntKind.i64 0]))
  w')))
theorem fix_made.vc_eq (l' : Option Addr) (l'n : Nat) (l'c : Nat) (w : World) (R : Ending → World → Prop) : fnV Try.prog fix_made.H 17 [Value.slice l' l'n l'c] w R = fix_made.vc l' l'n l'c w R := by kernel_rfl
theorem fix_made.calls {l' : Option Addr} {l'n : Nat} {l'c : Nat} {w : World} {R : Ending → World → Prop} (h : fix_made.vc l' l'n l'c w R) : Calls Try.prog 17 ([Value.slice l' l'n l'c] : List Value).toArray w R := calls_of_eq (fix_made.vc_eq l' l'n l'c w R) h

/- function 18: sacristy/fix.opposite -/
abbrev fix_opposite.N : FuncId := 18
def fix_opposite.H : Hints := {  }
def fix_opposite.vc (op' : Int) (w : World) (R : Ending → World → Prop) : Prop :=
  RunsV Proofs.Try.prog
  (Instr.makeMap 75
  (Option.map
  (ev
  [Value.int IntKind.u8 op', Value.tuple #[], Value.int IntKind.u8 0, Value.tuple #[], Value.tuple #[],
  Value.tuple #[], Value.tuple #[]])
  none))
  w fun (v : Value) (w' : World) =>
  ∃ (r : Option Nat),
  v = Value.map r ∧
  RunsV Proofs.Try.prog
  (do Instr.mapUpdate 75 (Value.map r) (Value.int IntKind.u8 28) (Value.int IntKind.u8 29); pure (Value.tuple #[]))
  w' fun (x : Value) (w' : World) =>
  RunsV Proofs.Try.prog
  (do Instr.mapUpdate 75 (Value.map r) (Value.int IntKind.u8 29) (Value.int IntKind.u8 28); pure (Value.tuple #[]))
  w' fun (x : Value) (w' : World) =>
  RunsV Proofs.Try.prog
  (do Instr.mapUpdate 75 (Value.map r) (Value.int IntKind.u8 30) (Value.int IntKind.u8 31); pure (Value.tuple #[]))
  w' fun (x : Value) (w' : World) =>
  RunsV Proofs.Try.prog
  (do Instr.mapUpdate 75 (Value.map r) (Value.int IntKind.u8 31) (Value.int IntKind.u8 30); pure (Value.tuple #[]))
  w' fun (x : Value) (w' : World) =>
  RunsV Proofs.Try.prog (Instr.lookup 75 (Value.map r) (Value.int IntKind.u8 op') false) w'
  fun (v : Value) (w' : World) =>
  ∃ (n : Int), v = Value.int IntKind.u8 n ∧ R (Ending.returned (Value.int IntKind.u8 n)) w'
theorem fix_opposite.vc_eq (op' : Int) (w : World) (R : Ending → World → Prop) : fnV Try.prog fix_opposite.H 18 [Value.int IntKind.u8 op'] w R = fix_opposite.vc op' w R := by kernel_rfl
theorem fix_opposite.calls {op' : Int} {w : World} {R : Ending → World → Prop} (h : fix_opposite.vc op' w R) : Calls Try.prog 18 ([Value.int IntKind.u8 op'] : List Value).toArray w R := calls_of_eq (fix_opposite.vc_eq op' w R) h

/- function 19: (*sacristy/fix.layout).way -/
abbrev sacristy_fix_layout_way.N : FuncId := 19
def sacristy_fix_layout_way.H : Hints := {  }
def sacristy_fix_layout_way.vc (c' : Option Addr) (i' : Int) (w : World) (R : Ending → World → Prop) : Prop :=
  Deref c' fun (a : Addr) =>
  ∃ (p : Option Addr),
  ∃ (n : Nat),
  ∃ (c : Nat),
  (∀ (w' : World), Later w w' → w'.cell? (a.add 3) = some (Value.slice p n c)) ∧
  Deref c' fun (a : Addr) =>
  ∃ (r : Option Nat),
  (∀ (w' : World), Later w w' → w'.cell? (a.add 1) = some (Value.map r)) ∧
  Deref c' fun (a : Addr) =>
  ∃ (p_1 : Option Addr),
  ∃ (n_1 : Nat),
  ∃ (c : Nat),
  (∀ (w' : World), Later w w' → w'.cell? a = some (Value.slice p_1 n_1 c)) ∧
  (0 ≤ i' ∧ i' < (↑n_1 : Int)) ∧
  Deref p_1 fun (a : Addr) =>
  ∃ (n_2 : Int),
  (∀ (w' : World),
  Later w w' →
  w'.cell? ((a.add (i'.toNat * 7)).add 6) = some (Value.int IntKind.i64 n_2)) ∧
  ∃ (n_3 : Int),
  (∀ (w' : World),
  Later w w' →
  Sem.run Proofs.Try.prog
  (Instr.lookup 49 (Value.map r) (Value.int IntKind.i64 n_2) false) w' =
  Result.ok (Value.int IntKind.i64 n_3) w') ∧
  (0 ≤ n_3 ∧ n_3 < (↑n : Int)) ∧
  Deref p fun (a : Addr) =>
  ∃ (n : Int),
  (∀ (w' : World),
  Later w w' →
  w'.cell? (a.add (n_3.toNat * 1)) = some (Value.int IntKind.i64 n)) ∧
  Deref c' fun (a : Addr) =>
  ∃ (p : Option Addr),
  ∃ (n_4 : Nat),
  ∃ (c : Nat),
  (∀ (w' : World),
  Later w w' →
  w'.cell? (a.add 3) = some (Value.slice p n_4 c)) ∧
  (0 ≤ i' ∧ i' < (↑n_4 : Int)) ∧
  Deref p fun (a : Addr) =>
  ∃ (n_5 : Int),
  (∀ (w' : World),
  Later w w' →
  w'.cell? (a.add (i'.toNat * 1)) =
  some (Value.int IntKind.i64 n_5)) ∧
  ∀ (w' : World),
  Later w w' →
  R
  (Ending.returned
  (Value.int IntKind.i64
  (IntKind.i64.wrap (n - n_5))))
  w'
theorem sacristy_fix_layout_way.vc_eq (c' : Option Addr) (i' : Int) (w : World) (R : Ending → World → Prop) : fnV Try.prog sacristy_fix_layout_way.H 19 [Value.pointer c', Value.int IntKind.i64 i'] w R = sacristy_fix_layout_way.vc c' i' w R := by kernel_rfl
theorem sacristy_fix_layout_way.calls {c' : Option Addr} {i' : Int} {w : World} {R : Ending → World → Prop} (h : sacristy_fix_layout_way.vc c' i' w R) : Calls Try.prog 19 ([Value.pointer c', Value.int IntKind.i64 i'] : List Value).toArray w R := calls_of_eq (sacristy_fix_layout_way.vc_eq c' i' w R) h

/- function 30: (*sacristy/fix.layout).look -/
abbrev sacristy_fix_layout_look.N : FuncId := 30
def sacristy_fix_layout_look.H : Hints := { loops := [(5, [(24, .one (.int .i64))]), (17, [(85, .one (.int .i64))])], tails := [(13, 7)] }
def sacristy_fix_layout_look.vc (c' : Option Addr) (w : World) (R : Ending → World → Prop) : Prop :=
  Deref c' fun (a : Addr) =>
  ∃ (p : Option Addr),
  ∃ (n : Nat),
  ∃ (c : Nat),
  w.cell? a = some (Value.slice p n c) ∧
  cnd (decide ((↑n : Int) > 131072)) (R (Ending.returned (Value.int IntKind.i64 2)) w)
  (Deref c' fun (a : Addr) =>
  ∃ (p : Option Addr),
  ∃ (n : Nat),
  ∃ (c : Nat),
  w.cell? a = some (Value.slice p n c) ∧
  ∃ (I : List Value → World → Prop),
  ∃ (μ : List Value → World → Nat),
  I [Value.int IntKind.i64 0] w ∧
  ∀ (g : Nat → Value) (s24 : Int) (w' : World),
  I [Value.int IntKind.i64 s24] w' →
  cnd (decide (s24 < (↑n : Int)))
  ((0 ≤ s24 ∧ s24 < (↑n : Int)) ∧
  Deref p fun (a : Addr) =>
  ∃ (n : Int),
  ∃ (n_1 : Int),
  ∃ (n_2 : Int),
  ∃ (n_3 : Int),
  ∃ (n_4 : Int),
  ∃ (n_5 : Int),
  ∃ (n_6 : Int),
  (w'.cell? (a.add (s24.toNat * 7)) = some (Value.int IntKind.i64 n) ∧
  w'.cell? ((a.add (s24.toNat * 7)).add 1) =
  some (Value.int IntKind.u8 n_1) ∧
  w'.cell? ((a.add (s24.toNat * 7)).add 2) =
  some (Value.int IntKind.u8 n_2) ∧
  w'.cell? ((a.add (s24.toNat * 7)).add 3) =
  some (Value.int IntKind.u8 n_3) ∧
  w'.cell? ((a.add (s24.toNat * 7)).add 4) =
  some (Value.int IntKind.u8 n_4) ∧
  w'.cell? ((a.add (s24.toNat * 7)).add 5) =
  some (Value.int IntKind.i64 n_5) ∧
  w'.cell? ((a.add (s24.toNat * 7)).add 6) =
  some (Value.int IntKind.i64 n_6) ∧
  True) ∧
  ∀ (w'_1 : World),
  w'_1 =
  w'.alloc
  (Obj.cells
  #[Value.int IntKind.i64 0, Value.int IntKind.u8 0,
  Value.int IntKind.u8 0, Value.int IntKind.u8 0,
  Value.int IntKind.u8 0, Value.int IntKind.i64 0,
  Value.int IntKind.i64 0]
  37) →
  SetsAt w'_1 (Addr.mk w'.heap.size 0 none) 0
  [Value.int IntKind.i64 n, Value.int IntKind.u8 n_1,
  Value.int IntKind.u8 n_2, Value.int IntKind.u8 n_3,
  Value.int IntKind.u8 n_4, Value.int IntKind.i64 n_5,
  Value.int IntKind.i64 n_6] ∧
  ∀ (w'_2 : World),
  w'_2 =
  setCellsAt w'_1 (Addr.mk w'.heap.size 0 none) 0
  [Value.int IntKind.i64 n, Value.int IntKind.u8 n_1,
  Value.int IntKind.u8 n_2,
  Value.int IntKind.u8 n_3,
  Value.int IntKind.u8 n_4,
  Value.int IntKind.i64 n_5,
  Value.int IntKind.i64 n_6] →
  ∃ (n : Int),
  ∃ (n_7 : Int),
  ∃ (n_8 : Int),
  ∃ (n_9 : Int),
  ∃ (n_10 : Int),
  (w'_2.cell? (Addr.mk w'.heap.size 1 none) =
  some (Value.int IntKind.u8 n) ∧
  w'_2.cell? (Addr.mk w'.heap.size 2 none) =
  some (Value.int IntKind.u8 n_7) ∧
  w'_2.cell?
  (Addr.mk w'.heap.size 3 none) =
  some (Value.int IntKind.u8 n_8) ∧
  w'_2.cell?
  (Addr.mk w'.heap.size 4 none) =
  some (Value.int IntKind.u8 n_9) ∧
  w'_2.cell?
  (Addr.mk w'.heap.size 5
  none) =
  some
  (Value.int IntKind.i64 n_10) ∧
  True) ∧
  Calls Proofs.Try.prog 24
  #[Value.agg
  #[Value.int IntKind.u8 n,
  Value.int IntKind.u8 n_7,
  Value.int IntKind.u8 n_8,
  Value.int IntKind.u8 n_9,
  Value.int IntKind.i64 n_10]]
  w'_2 fun (e : Ending) (w'_3 : World) =>
  ∃ (n : Int),
  ∃ (n_11 : Int),
  e =
  Ending.returned
  (Value.tuple
  #[Value.int IntKind.u32 n,
  Value.int IntKind.i64
  n_11]) ∧
  cnd (n_11 != 0)
  (R
  (Ending.returned
  (Value.int IntKind.i64 2))
  w'_3)
  (∃ (n : Int),
  w'_3.cell?
  (Addr.mk w'.heap.size 0
  none) =
  some
  (Value.int IntKind.i64
  n) ∧
  cnd (decide (n < -1))
  (R
  (Ending.returned
  (Value.int IntKind.i64
  2))
  w'_3)
  (∃ (n : Int),
  w'_3.cell?
  (Addr.mk
  w'.heap.size 6
  none) =
  some
  (Value.int
  IntKind.i64 n) ∧
  cnd (decide (n < -1))
  (R
  (Ending.returned
  (Value.int
  IntKind.i64 2))
  w'_3)
  (∃ (n : Int),
  w'_3.cell?
  (Addr.mk
  w'.heap.size
  6 none) =
  some
  (Value.int
  IntKind.i64
  n) ∧
  cnd
  (decide (n ≥ 0))
  (∃ (n : Int),
  ∃ (n_12 :
  Int),
  ∃ (n_13 :
  Int),
  ∃ (n_14 :
  Int),
  ∃ (n_15
  :
  Int),
  (w'_3.cell?
  (Addr.mk
  w'.heap.size
  1
  none) =
  some
  (Value.int
  IntKind.u8
  n) ∧
  w'_3.cell?
  (Addr.mk
  w'.heap.size
  2
  none) =
  some
  (Value.int
  IntKind.u8
  n_12) ∧
  w'_3.cell?
  (Addr.mk
  w'.heap.size
  3
  none) =
  some
  (Value.int
  IntKind.u8
  n_13) ∧
  w'_3.cell?
  (Addr.mk
  w'.heap.size
  4
  none) =
  some
  (Value.int
  IntKind.u8
  n_14) ∧
  w'_3.cell?
  (Addr.mk
  w'.heap.size
  5
  none) =
  some
  (Value.int
  IntKind.i64
  n_15) ∧
  True) ∧
  Calls
  Proofs.Try.prog
  40
  #[Value.agg
  #[Value.int
  IntKind.u8
  n,
  Value.int
  IntKind.u8
  n_12,
  Value.int
  IntKind.u8
  n_13,
  Value.int
  IntKind.u8
  n_14,
  Value.int
  IntKind.i64
  n_15]]
  w'_3
  fun
  (e :
  Ending)
  (w'_4 :
  World) =>
  ∃
  (b
  :
  Bool),
  e =
  Ending.returned
  (Value.bool
  b) ∧
  cnd
  (!b)
  (R
  (Ending.returned
  (Value.int
  IntKind.i64
  2))
  w'_4)
  (∃
  (n
  :
  Int),
  w'_4.cell?
  (Addr.mk
  w'.heap.size
  0
  none) =
  some
  (Value.int
  IntKind.i64
  n) ∧
  cnd
  (decide
  (n ≥
  0))
  (Deref
  c'
  fun
  (a :
  Addr) =>
  ∃
  (r
  :
  Option
  Nat),
  (∀
  (w' :
  World),
  Later
  w'_4
  w' →
  w'.cell?
  (a.add
  1) =
  some
  (Value.map
  r)) ∧
  ∃
  (n
  :
  Int),
  (∀
  (w'_5 :
  World),
  Later
  w'_4
  w'_5 →
  w'_5.cell?
  (Addr.mk
  w'.heap.size
  0
  none) =
  some
  (Value.int
  IntKind.i64
  n)) ∧
  ∃
  (n_16
  :
  Int),
  ∃
  (b
  :
  Bool),
  (∀
  (w' :
  World),
  Later
  w'_4
  w' →
  Sem.run
  Proofs.Try.prog
  (Instr.lookup
  49
  (Value.map
  r)
  (Value.int
  IntKind.i64
  n)
  true)
  w' =
  Result.ok
  (Value.tuple
  #[Value.int
  IntKind.i64
  n_16,
  Value.bool
  b])
  w') ∧
  ∀
  (w'_5 :
  World),
  Later
  w'_4
  w'_5 →
  cnd
  b
  (R
  (Ending.returned
  (Value.int
  IntKind.i64
  2))
  w'_5)
  (Deref
  c'
  fun
  (a :
  Addr) =>
  ∃
  (r
  :
  Option
  Nat),
  (∀
  (w' :
  World),
  Later
  w'_5
  w' →
  w'.cell?
  (a.add
  1) =
  some
  (Value.map
  r)) ∧
  ∃
  (n
  :
  Int),
  (∀
  (w'_6 :
  World),
  Later
  w'_5
  w'_6 →
  w'_6.cell?
  (Addr.mk
  w'.heap.size
  0
  none) =
  some
  (Value.int
  IntKind.i64
  n)) ∧
  ∀
  (w'_6 :
  World),
  Later
  w'_5
  w'_6 →
  RunsV
  Proofs.Try.prog
  (do Instr.mapUpdate 49 (Value.map r) (Value.int IntKind.i64 n) (Value.int IntKind.i64 s24); pure (Value.tuple #[]))
  w'_6
  fun
  (x :
  Value)
  (w'_7 :
  World) =>
  Goes
  I
  μ
  [Value.int
  IntKind.i64
  s24]
  w'
  [Value.int
  IntKind.i64
  (IntKind.i64.wrap
  (s24 +
  1))]
  w'_7))
  (Goes
  I
  μ
  [Value.int
  IntKind.i64
  s24]
  w'
  [Value.int
  IntKind.i64
  (IntKind.i64.wrap
  (s24 +
  1))]
  w'_4)))
  (∃ (n : Int),
  w'_3.cell?
  (Addr.mk
  w'.heap.size
  0
  none) =
  some
  (Value.int
  IntKind.i64
  n) ∧
  cnd
  (decide
  (n ≥ 0))
  (Deref c'
  fun
  (a :
  Addr) =>
  ∃ (r :
  Option
  Nat),
  (∀
  (w' :
  World),
  Later
  w'_3
  w' →
  w'.cell?
  (a.add
  1) =
  some
  (Value.map
  r)) ∧
  ∃ (n
  :
  Int),
  (∀
  (w'_4 :
  World),
  Later
  w'_3
  w'_4 →
  w'_4.cell?
  (Addr.mk
  w'.heap.size
  0
  none) =
  some
  (Value.int
  IntKind.i64
  n)) ∧
  ∃
  (n_12
  :
  Int),
  ∃
  (b
  :
  Bool),
  (∀
  (w' :
  World),
  Later
  w'_3
  w' →
  Sem.run
  Proofs.Try.prog
  (Instr.lookup
  49
  (Value.map
  r)
  (Value.int
  IntKind.i64
  n)
  true)
  w' =
  Result.ok
  (Value.tuple
  #[Value.int
  IntKind.i64
  n_12,
  Value.bool
  b])
  w') ∧
  ∀
  (w'_4 :
  World),
  Later
  w'_3
  w'_4 →
  cnd
  b
  (R
  (Ending.returned
  (Value.int
  IntKind.i64
  2))
  w'_4)
  (Deref
  c'
  fun
  (a :
  Addr) =>
  ∃
  (r
  :
  Option
  Nat),
  (∀
  (w' :
  World),
  Later
  w'_4
  w' →
  w'.cell?
  (a.add
  1) =
  some
  (Value.map
  r)) ∧
  ∃
  (n
  :
  Int),
  (∀
  (w'_5 :
  World),
  Later
  w'_4
  w'_5 →
  w'_5.cell?
  (Addr.mk
  w'.heap.size
  0
  none) =
  some
  (Value.int
  IntKind.i64
  n)) ∧
  ∀
  (w'_5 :
  World),
  Later
  w'_4
  w'_5 →
  RunsV
  Proofs.Try.prog
  (do Instr.mapUpdate 49 (Value.map r) (Value.int IntKind.i64 n) (Value.int IntKind.i64 s24); pure (Value.tuple #[]))
  w'_5
  fun
  (x :
  Value)
  (w'_6 :
  World) =>
  Goes
  I
  μ
  [Value.int
  IntKind.i64
  s24]
  w'
  [Value.int
  IntKind.i64
  (IntKind.i64.wrap
  (s24 +
  1))]
  w'_6))
  (Goes I μ
  [Value.int
  IntKind.i64
  s24]
  w'
  [Value.int
  IntKind.i64
  (IntKind.i64.wrap
  (s24 +
  1))]
  w'_3))))))
  (Deref c' fun (a : Addr) =>
  ∃ (p : Option Addr),
  ∃ (n : Nat),
  ∃ (c : Nat),
  w'.cell? a = some (Value.slice p n c) ∧
  ∃ (I : List Value → World → Prop),
  ∃ (μ : List Value → World → Nat),
  I [Value.int IntKind.i64 0] w' ∧
  ∀ (g : Nat → Value) (s85 : Int) (w' : World),
  I [Value.int IntKind.i64 s85] w' →
  cnd (decide (s85 < (↑n : Int)))
  ((0 ≤ s85 ∧ s85 < (↑n : Int)) ∧
  Deref p fun (a : Addr) =>
  ∃ (n : Int),
  ∃ (n_1 : Int),
  ∃ (n_2 : Int),
  ∃ (n_3 : Int),
  ∃ (n_4 : Int),
  ∃ (n_5 : Int),
  ∃ (n_6 : Int),
  (w'.cell? (a.add (s85.toNat * 7)) =
  some (Value.int IntKind.i64 n) ∧
  w'.cell? ((a.add (s85.toNat * 7)).add 1) =
  some (Value.int IntKind.u8 n_1) ∧
  w'.cell?
  ((a.add (s85.toNat * 7)).add 2) =
  some (Value.int IntKind.u8 n_2) ∧
  w'.cell?
  ((a.add (s85.toNat * 7)).add
  3) =
  some (Value.int IntKind.u8 n_3) ∧
  w'.cell?
  ((a.add (s85.toNat * 7)).add
  4) =
  some
  (Value.int IntKind.u8 n_4) ∧
  w'.cell?
  ((a.add (s85.toNat * 7)).add
  5) =
  some
  (Value.int IntKind.i64
  n_5) ∧
  w'.cell?
  ((a.add
  (s85.toNat * 7)).add
  6) =
  some
  (Value.int IntKind.i64
  n_6) ∧
  True) ∧
  ∀ (w'_1 : World),
  w'_1 =
  w'.alloc
  (Obj.cells
  #[Value.int IntKind.i64 0,
  Value.int IntKind.u8 0,
  Value.int IntKind.u8 0,
  Value.int IntKind.u8 0,
  Value.int IntKind.u8 0,
  Value.int IntKind.i64 0,
  Value.int IntKind.i64 0]
  37) →
  SetsAt w'_1
  (Addr.mk w'.heap.size 0 none) 0
  [Value.int IntKind.i64 n,
  Value.int IntKind.u8 n_1,
  Value.int IntKind.u8 n_2,
  Value.int IntKind.u8 n_3,
  Value.int IntKind.u8 n_4,
  Value.int IntKind.i64 n_5,
  Value.int IntKind.i64 n_6] ∧
  ∀ (w'_2 : World),
  w'_2 =
  setCellsAt w'_1
  (Addr.mk w'.heap.size 0 none)
  0
  [Value.int IntKind.i64 n,
  Value.int IntKind.u8 n_1,
  Value.int IntKind.u8 n_2,
  Value.int IntKind.u8 n_3,
  Value.int IntKind.u8 n_4,
  Value.int IntKind.i64 n_5,
  Value.int IntKind.i64 n_6] →
  Deref c' fun (a : Addr) =>
  ∃ (r : Option Nat),
  (∀ (w' : World),
  Later w'_2 w' →
  w'.cell? (a.add 1) =
  some (Value.map r)) ∧
  ∃ (n : Int),
  (∀ (w'_3 : World),
  Later w'_2 w'_3 →
  w'_3.cell?
  (Addr.mk
  w'.heap.size 6
  none) =
  some
  (Value.int
  IntKind.i64
  n)) ∧
  ∃ (n_7 : Int),
  ∃ (b : Bool),
  (∀ (w' : World),
  Later w'_2 w' →
  Sem.run
  Proofs.Try.prog
  (Instr.lookup
  49
  (Value.map
  r)
  (Value.int
  IntKind.i64
  n)
  true)
  w' =
  Result.ok
  (Value.tuple
  #[Value.int
  IntKind.i64
  n_7,
  Value.bool
  b])
  w') ∧
  ∀ (w'_3 : World),
  Later w'_2
  w'_3 →
  ∃ (n : Int),
  w'_3.cell?
  (Addr.mk
  w'.heap.size
  6
  none) =
  some
  (Value.int
  IntKind.i64
  n) ∧
  cnd
  (decide
  (n ≥
  0))
  (cnd
  (!b)
  (R
  (Ending.returned
  (Value.int
  IntKind.i64
  2))
  w'_3)
  (Goes
  I μ
  [Value.int
  IntKind.i64
  s85]
  w'
  [Value.int
  IntKind.i64
  (IntKind.i64.wrap
  (s85 +
  1))]
  w'_3))
  (Goes I
  μ
  [Value.int
  IntKind.i64
  s85]
  w'
  [Value.int
  IntKind.i64
  (IntKind.i64.wrap
  (s85 +
  1))]
  w'_3))
  (R (Ending.returned (Value.int IntKind.i64 0)) w')))
theorem sacristy_fix_layout_look.vc_eq (c' : Option Addr) (w : World) (R : Ending → World → Prop) : fnV Try.prog sacristy_fix_layout_look.H 30 [Value.pointer c'] w R = sacristy_fix_layout_look.vc c' w R := by kernel_rfl
theorem sacristy_fix_layout_look.calls {c' : Option Addr} {w : World} {R : Ending → World → Prop} (h : sacristy_fix_layout_look.vc c' w R) : Calls Try.prog 30 ([Value.pointer c'] : List Value).toArray w R := calls_of_eq (sacristy_fix_layout_look.vc_eq c' w R) h

/- function 31: (*sacristy/fix.layout).grow -/
abbrev sacristy_fix_layout_grow.N : FuncId := 31
def sacristy_fix_layout_grow.H : Hints := { loops := [(6, [(3, .one .bool), (15, .one (.int .i64))])] }
def sacristy_fix_layout_grow.vc (c' : Option Addr) (w : World) (R : Ending → World → Prop) : Prop :=
  ∀ (w' : World),
  w' = w.alloc (Obj.cells #[Value.pointer c'] 46) →
  ∃ (p : Option Addr),
  w'.cell? (Addr.mk w.heap.size 0 none) = some (Value.pointer p) ∧
  Calls Proofs.Try.prog 32 #[Value.pointer p] w' fun (e : Ending) (w' : World) =>
  e = Ending.returned (Value.tuple #[]) ∧
  ∃ (p : Option Addr),
  w'.cell? (Addr.mk w.heap.size 0 none) = some (Value.pointer p) ∧
  Deref p fun (a : Addr) =>
  ∃ (p : Option Addr),
  ∃ (n : Nat),
  ∃ (c : Nat),
  w'.cell? a = some (Value.slice p n c) ∧
  ∃ (I : List Value → World → Prop),
  ∃ (μ : List Value → World → Nat),
  I [Value.bool false, Value.int IntKind.i64 0] w' ∧
  ∀ (g : Nat → Value) (some : Bool) (s15 : Int) (w' : World),
  I [Value.bool some, Value.int IntKind.i64 s15] w' →
  cnd (decide (s15 < (↑n : Int)))
  ((0 ≤ s15 ∧ s15 < (↑n : Int)) ∧
  Deref p fun (a : Addr) =>
  ∃ (n : Int),
  ∃ (n_1 : Int),
  ∃ (n_2 : Int),
  ∃ (n_3 : Int),
  ∃ (n_4 : Int),
  ∃ (n_5 : Int),
  ∃ (n_6 : Int),
  (w'.cell? (a.add (s15.toNat * 7)) =
  Option.some (Value.int IntKind.i64 n) ∧
  w'.cell? ((a.add (s15.toNat * 7)).add 1) =
  Option.some (Value.int IntKind.u8 n_1) ∧
  w'.cell? ((a.add (s15.toNat * 7)).add 2) =
  Option.some (Value.int IntKind.u8 n_2) ∧
  w'.cell? ((a.add (s15.toNat * 7)).add 3) =
  Option.some (Value.int IntKind.u8 n_3) ∧
  w'.cell? ((a.add (s15.toNat * 7)).add 4) =
  Option.some (Value.int IntKind.u8 n_4) ∧
  w'.cell? ((a.add (s15.toNat * 7)).add 5) =
  Option.some (Value.int IntKind.i64 n_5) ∧
  w'.cell? ((a.add (s15.toNat * 7)).add 6) =
  Option.some (Value.int IntKind.i64 n_6) ∧
  True) ∧
  ∀ (w'_1 : World),
  w'_1 =
  w'.alloc
  (Obj.cells
  #[Value.int IntKind.i64 0, Value.int IntKind.u8 0,
  Value.int IntKind.u8 0, Value.int IntKind.u8 0,
  Value.int IntKind.u8 0, Value.int IntKind.i64 0,
  Value.int IntKind.i64 0]
  37) →
  SetsAt w'_1 (Addr.mk w'.heap.size 0 none) 0
  [Value.int IntKind.i64 n, Value.int IntKind.u8 n_1,
  Value.int IntKind.u8 n_2, Value.int IntKind.u8 n_3,
  Value.int IntKind.u8 n_4, Value.int IntKind.i64 n_5,
  Value.int IntKind.i64 n_6] ∧
  ∀ (w'_2 : World),
  w'_2 =
  setCellsAt w'_1 (Addr.mk w'.heap.size 0 none) 0
  [Value.int IntKind.i64 n,
  Value.int IntKind.u8 n_1,
  Value.int IntKind.u8 n_2,
  Value.int IntKind.u8 n_3,
  Value.int IntKind.u8 n_4,
  Value.int IntKind.i64 n_5,
  Value.int IntKind.i64 n_6] →
  ∃ (n : Int),
  w'_2.cell? (Addr.mk w'.heap.size 6 none) =
  Option.some (Value.int IntKind.i64 n) ∧
  cnd (decide (n ≥ 0))
  (∃ (n : Int),
  w'_2.cell? (Addr.mk w'.heap.size 1 none) =
  Option.some (Value.int IntKind.u8 n) ∧
  cnd (n != 32)
  (∃ (p : Option Addr),
  w'_2.cell?
  (Addr.mk w.heap.size 0 none) =
  Option.some (Value.pointer p) ∧
  Deref p fun (a : Addr) =>
  ∃ (p : Option Addr),
  ∃ (n : Nat),
  ∃ (c : Nat),
  w'_2.cell? (a.add 2) =
  Option.some
  (Value.slice p n c) ∧
  (0 ≤ s15 ∧
  s15 < (↑n : Int)) ∧
  Deref p
  fun (a : Addr) =>
  ∃ (b : Bool),
  w'_2.cell?
  (a.add
  (s15.toNat *
  1)) =
  Option.some
  (Value.bool
  b) ∧
  cnd (!b)
  (Calls
  Proofs.Try.prog
  41
  #[Value.int
  IntKind.i64
  s15,
  Value.pointer
  (Option.some
  (Addr.mk
  w.heap.size
  0
  none))]
  w'_2
  fun
  (e : Ending)
  (w'_3 :
  World) =>
  ∃ (b : Bool),
  e =
  Ending.returned
  (Value.bool
  b) ∧
  cnd (!b)
  (∃ (p :
  Option
  Addr),
  w'_3.cell?
  (Addr.mk
  w.heap.size
  0
  none) =
  Option.some
  (Value.pointer
  p) ∧
  Deref
  p
  fun
  (a :
  Addr) =>
  ∃
  (p
  :
  Option
  Addr),
  ∃
  (n
  :
  Nat),
  ∃
  (c
  :
  Nat),
  w'_3.cell?
  (a.add
  2) =
  Option.some
  (Value.slice
  p
  n
  c) ∧
  (0 ≤
  s15 ∧
  s15 <
  (↑n :
  Int)) ∧
  Deref
  p
  fun
  (a :
  Addr) =>
  ((w'_3.cell?
  (a.add
  (s15.toNat *
  1))).isSome =
  true ∧
  w'_3.frozen?
  (a.add
  (s15.toNat *
  1)) =
  false) ∧
  ∀
  (w'_4 :
  World),
  w'_4 =
  w'_3.setCell
  (a.add
  (s15.toNat *
  1))
  (Value.bool
  true) →
  Goes
  I
  μ
  [Value.bool
  some,
  Value.int
  IntKind.i64
  s15]
  w'
  [Value.bool
  true,
  Value.int
  IntKind.i64
  (IntKind.i64.wrap
  (s15 +
  1))]
  w'_4)
  (Goes I
  μ
  [Value.bool
  some,
  Value.int
  IntKind.i64
  s15]
  w'
  [Value.bool
  some,
  Value.int
  IntKind.i64
  (IntKind.i64.wrap
  (s15 +
  1))]
  w'_3))
  (Goes I μ
  [Value.bool
  some,
  Value.int
  IntKind.i64
  s15]
  w'
  [Value.bool
  some,
  Value.int
  IntKind.i64
  (IntKind.i64.wrap
  (s15 +
  1))]
  w'_2))
  (Goes I μ
  [Value.bool some,
  Value.int IntKind.i64 s15]
  w'
  [Value.bool some,
  Value.int IntKind.i64
  (IntKind.i64.wrap (s15 + 1))]
  w'_2))
  (Goes I μ
  [Value.bool some, Value.int IntKind.i64 s15]
  w'
  [Value.bool some,
  Value.int IntKind.i64
  (IntKind.i64.wrap (s15 + 1))]
  w'_2))
  (R (Ending.returned (Value.bool some)) w')
theorem sacristy_fix_layout_grow.vc_eq (c' : Option Addr) (w : World) (R : Ending → World → Prop) : fnV Try.prog sacristy_fix_layout_grow.H 31 [Value.pointer c'] w R = sacristy_fix_layout_grow.vc c' w R := by kernel_rfl
theorem sacristy_fix_layout_grow.calls {c' : Option Addr} {w : World} {R : Ending → World → Prop} (h : sacristy_fix_layout_grow.vc c' w R) : Calls Try.prog 31 ([Value.pointer c'] : List Value).toArray w R := calls_of_eq (sacristy_fix_layout_grow.vc_eq c' w R) h

/- function 32: (*sacristy/fix.layout).lay -/
abbrev sacristy_fix_layout_lay.N : FuncId := 32
def sacristy_fix_layout_lay.H : Hints := { loops := [(3, [(2, .one (.int .i64)), (9, .one (.int .i64))])] }
def sacristy_fix_layout_lay.vc (c' : Option Addr) (w : World) (R : Ending → World → Prop) : Prop :=
  Deref c' fun (a : Addr) =>
  ∃ (p : Option Addr),
  ∃ (n : Nat),
  ∃ (c : Nat),
  w.cell? a = some (Value.slice p n c) ∧
  ∃ (I : List Value → World → Prop),
  ∃ (μ : List Value → World → Nat),
  I [Value.int IntKind.i64 0, Value.int IntKind.i64 0] w ∧
  ∀ (g : Nat → Value) (p s9 : Int) (w' : World),
  I [Value.int IntKind.i64 p, Value.int IntKind.i64 s9] w' →
  cnd (decide (s9 < (↑n : Int)))
  (Deref c' fun (a : Addr) =>
  ∃ (p_1 : Option Addr),
  ∃ (n : Nat),
  ∃ (c : Nat),
  w'.cell? (a.add 3) = some (Value.slice p_1 n c) ∧
  (0 ≤ s9 ∧ s9 < (↑n : Int)) ∧
  Deref p_1 fun (a : Addr) =>
  ((w'.cell? (a.add (s9.toNat * 1))).isSome = true ∧
  w'.frozen? (a.add (s9.toNat * 1)) = false) ∧
  ∀ (w'_1 : World),
  w'_1 = w'.setCell (a.add (s9.toNat * 1)) (Value.int IntKind.i64 p) →
  Deref c' fun (a : Addr) =>
  ∃ (p_2 : Option Addr),
  ∃ (n : Nat),
  ∃ (c : Nat),
  w'_1.cell? (a.add 2) = some (Value.slice p_2 n c) ∧
  (0 ≤ s9 ∧ s9 < (↑n : Int)) ∧
  Deref p_2 fun (a : Addr) =>
  ∃ (b : Bool),
  w'_1.cell? (a.add (s9.toNat * 1)) = some (Value.bool b) ∧
  cnd b
  (Goes I μ
  [Value.int IntKind.i64 p, Value.int IntKind.i64 s9] w'
  [Value.int IntKind.i64
  (IntKind.i64.wrap (IntKind.i64.wrap (p + 4) + 4)),
  Value.int IntKind.i64 (IntKind.i64.wrap (s9 + 1))]
  w'_1)
  (Goes I μ
  [Value.int IntKind.i64 p, Value.int IntKind.i64 s9] w'
  [Value.int IntKind.i64 (IntKind.i64.wrap (p + 4)),
  Value.int IntKind.i64 (IntKind.i64.wrap (s9 + 1))]
  w'_1))
  (R (Ending.returned (Value.tuple #[])) w')
theorem sacristy_fix_layout_lay.vc_eq (c' : Option Addr) (w : World) (R : Ending → World → Prop) : fnV Try.prog sacristy_fix_layout_lay.H 32 [Value.pointer c'] w R = sacristy_fix_layout_lay.vc c' w R := by kernel_rfl
theorem sacristy_fix_layout_lay.calls {c' : Option Addr} {w : World} {R : Ending → World → Prop} (h : sacristy_fix_layout_lay.vc c' w R) : Calls Try.prog 32 ([Value.pointer c'] : List Value).toArray w R := calls_of_eq (sacristy_fix_layout_lay.vc_eq c' w R) h

/- function 40: sacristy/fix.jumps -/
abbrev fix_jumps.N : FuncId := 40
def fix_jumps.H : Hints := {  }
def fix_jumps.vc (x'_0 : Int) (x'_1 : Int) (x'_2 : Int) (x'_3 : Int) (x'_4 : Int) (w : World) (R : Ending → World → Prop) : Prop :=
  ∀ (w' : World),
  w' =
  w.alloc
  (Obj.cells
  #[Value.int IntKind.u8 x'_0, Value.int IntKind.u8 x'_1, Value.int IntKind.u8 x'_2, Value.int IntKind.u8 x'_3,
  Value.int IntKind.i64 x'_4]
  35) →
  ∃ (n : Int),
  w'.cell? (Addr.mk w.heap.size 0 none) = some (Value.int IntKind.u8 n) ∧
  cnd (decide (n ≥ 28))
  (∃ (n : Int),
  w'.cell? (Addr.mk w.heap.size 0 none) = some (Value.int IntKind.u8 n) ∧
  cnd (decide (n ≤ 32))
  (∃ (n : Int),
  w'.cell? (Addr.mk w.heap.size 4 none) = some (Value.int IntKind.i64 n) ∧
  R (Ending.returned (Value.bool (n == 0))) w')
  (R (Ending.returned (Value.bool false)) w'))
  (R (Ending.returned (Value.bool false)) w')
theorem fix_jumps.vc_eq (x'_0 : Int) (x'_1 : Int) (x'_2 : Int) (x'_3 : Int) (x'_4 : Int) (w : World) (R : Ending → World → Prop) : fnV Try.prog fix_jumps.H 40 [Value.agg
  #[Value.int IntKind.u8 x'_0, Value.int IntKind.u8 x'_1, Value.int IntKind.u8 x'_2, Value.int IntKind.u8 x'_3,
  Value.int IntKind.i64 x'_4]] w R = fix_jumps.vc x'_0 x'_1 x'_2 x'_3 x'_4 w R := by kernel_rfl
theorem fix_jumps.calls {x'_0 : Int} {x'_1 : Int} {x'_2 : Int} {x'_3 : Int} {x'_4 : Int} {w : World} {R : Ending → World → Prop} (h : fix_jumps.vc x'_0 x'_1 x'_2 x'_3 x'_4 w R) : Calls Try.prog 40 ([Value.agg
  #[Value.int IntKind.u8 x'_0, Value.int IntKind.u8 x'_1, Value.int IntKind.u8 x'_2, Value.int IntKind.u8 x'_3,
  Value.int IntKind.i64 x'_4]] : List Value).toArray w R := calls_of_eq (fix_jumps.vc_eq x'_0 x'_1 x'_2 x'_3 x'_4 w R) h

/- function 41: (*sacristy/fix.layout).grow$1 -/
abbrev sacristy_fix_layout_grow_1.N : FuncId := 41
def sacristy_fix_layout_grow_1.H : Hints := {  }
def sacristy_fix_layout_grow_1.vc (i' : Int) (c0 : Option Addr) (w : World) (R : Ending → World → Prop) : Prop :=
  Deref c0 fun (ad : Addr) =>
  ∃ (p : Option Addr),
  w.cell? ad = some (Value.pointer p) ∧
  Calls Proofs.Try.prog 19 #[Value.pointer p, Value.int IntKind.i64 i'] w fun (e : Ending) (w' : World) =>
  ∃ (n : Int),
  e = Ending.returned (Value.int IntKind.i64 n) ∧
  cnd (decide (n < -4096)) (R (Ending.returned (Value.bool false)) w')
  (R (Ending.returned (Value.bool !decide (n > 4094))) w')
theorem sacristy_fix_layout_grow_1.vc_eq (i' : Int) (c0 : Option Addr) (w : World) (R : Ending → World → Prop) : fnV Try.prog sacristy_fix_layout_grow_1.H 41 [Value.int IntKind.i64 i', Value.pointer c0] w R = sacristy_fix_layout_grow_1.vc i' c0 w R := by kernel_rfl
theorem sacristy_fix_layout_grow_1.calls {i' : Int} {c0 : Option Addr} {w : World} {R : Ending → World → Prop} (h : sacristy_fix_layout_grow_1.vc i' c0 w R) : Calls Try.prog 41 ([Value.int IntKind.i64 i', Value.pointer c0] : List Value).toArray w R := calls_of_eq (sacristy_fix_layout_grow_1.vc_eq i' c0 w R) h

end Go.Proofs.Ytglakmkedoklmaa
