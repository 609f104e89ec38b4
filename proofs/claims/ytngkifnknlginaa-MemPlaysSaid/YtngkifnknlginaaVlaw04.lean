/-
The explicit conditions of some functions of the program, printed by this repo's own program over VcTop: what is proved is that each is the condition.
Conditions: none.
-/
import Derived.Test.YtngkifnknlginaaVcTop
import Derived.Test.YtngkifnknlginaaProg
namespace Go.Proofs.Ytngkifnknlginaa
open Go Go.Vc Go.RowKit
set_option linter.unusedVariables false
set_option maxRecDepth 100000

/- function 9: sacristy/sacristylaw04.alive -/
abbrev law04_alive.N : FuncId := 9
def law04_alive.H : Hints := {  }
def law04_alive.vc (w : World) (R : Ending → World → Prop) : Prop :=
  ∀ (w' : World),
  w' =
  w.alloc
  (Obj.cells
  #[Value.int IntKind.u64 100, Value.int IntKind.u64 16, Value.int IntKind.u8 3, Value.int IntKind.u64 200,
  Value.int IntKind.u64 8, Value.int IntKind.u8 1]
  42) →
  Calls Proofs.Try.prog 10 #[Value.slice (some (Addr.mk w.heap.size 0 none)) 2 2] w' fun (e : Ending) (w' : World) =>
  ∃ (p : Option Addr),
  ∃ (n : Int),
  e = Ending.returned (Value.tuple #[Value.pointer p, Value.int IntKind.i64 n]) ∧
  cnd (n != 0) (R (Ending.returned (Value.bool false)) w')
  (∃ (b : Bool),
  EqRuns Proofs.Try.prog BinOp.eql 28 (Operand.tmp 32) (Operand.const (Value.pointer none))
  (Value.pointer p) (Value.pointer none) b ∧
  cnd b (R (Ending.returned (Value.bool false)) w')
  (Calls Proofs.Try.prog 12
  #[Value.pointer p, Value.int IntKind.u64 100, Value.int IntKind.i64 2, Value.int IntKind.u64 4660,
  Value.bool true]
  w' fun (e : Ending) (w' : World) =>
  ∃ (n : Int),
  e = Ending.returned (Value.int IntKind.i64 n) ∧
  Calls Proofs.Try.prog 13
  #[Value.pointer p, Value.int IntKind.u64 101, Value.int IntKind.i64 1] w'
  fun (e : Ending) (w' : World) =>
  ∃ (n_1 : Int),
  ∃ (b : Bool),
  ∃ (n_2 : Int),
  e =
  Ending.returned
  (Value.tuple
  #[Value.int IntKind.u64 n_1, Value.bool b, Value.int IntKind.i64 n_2]) ∧
  Calls Proofs.Try.prog 13
  #[Value.pointer p, Value.int IntKind.u64 102, Value.int IntKind.i64 1] w'
  fun (e : Ending) (w' : World) =>
  ∃ (n_3 : Int),
  ∃ (b_1 : Bool),
  ∃ (n_4 : Int),
  e =
  Ending.returned
  (Value.tuple
  #[Value.int IntKind.u64 n_3, Value.bool b_1,
  Value.int IntKind.i64 n_4]) ∧
  Calls Proofs.Try.prog 13
  #[Value.pointer p, Value.int IntKind.u64 109, Value.int IntKind.i64 8]
  w' fun (e : Ending) (w' : World) =>
  ∃ (n_5 : Int),
  ∃ (b_2 : Bool),
  ∃ (n_6 : Int),
  e =
  Ending.returned
  (Value.tuple
  #[Value.int IntKind.u64 n_5, Value.bool b_2,
  Value.int IntKind.i64 n_6]) ∧
  Calls Proofs.Try.prog 13
  #[Value.pointer p, Value.int IntKind.u64 108,
  Value.int IntKind.i64 8]
  w' fun (e : Ending) (w' : World) =>
  ∃ (n_7 : Int),
  ∃ (b_3 : Bool),
  ∃ (n_8 : Int),
  e =
  Ending.returned
  (Value.tuple
  #[Value.int IntKind.u64 n_7, Value.bool b_3,
  Value.int IntKind.i64 n_8]) ∧
  Calls Proofs.Try.prog 15
  #[Value.pointer p, Value.int IntKind.u64 200] w'
  fun (e : Ending) (w' : World) =>
  ∃ (n_9 : Int),
  ∃ (n_10 : Int),
  e =
  Ending.returned
  (Value.tuple
  #[Value.int IntKind.u32 n_9,
  Value.int IntKind.i64 n_10]) ∧
  Calls Proofs.Try.prog 15
  #[Value.pointer p,
  Value.int IntKind.u64 202]
  w' fun (e : Ending) (w' : World) =>
  ∃ (n_11 : Int),
  ∃ (n_12 : Int),
  e =
  Ending.returned
  (Value.tuple
  #[Value.int IntKind.u32 n_11,
  Value.int IntKind.i64 n_12]) ∧
  Calls Proofs.Try.prog 10
  #[Value.slice none 0 0] w'
  fun (e : Ending) (w' : World) =>
  ∃ (p_1 : Option Addr),
  ∃ (n_13 : Int),
  e =
  Ending.returned
  (Value.tuple
  #[Value.pointer p_1,
  Value.int IntKind.i64
  n_13]) ∧
  cnd (n == 0)
  (cnd (n_1 == 18)
  (cnd b
  (cnd (n_2 == 0)
  (cnd (n_3 == 0)
  (cnd (!b_1)
  (cnd (n_4 == 0)
  (cnd (n_6 == 40)
  (cnd
  (n_8 == 0)
  (cnd
  (n_10 ==
  0)
  (cnd
  (n_12 ==
  40)
  (cnd
  (n_13 ==
  2)
  (Calls
  Proofs.Try.prog
  12
  #[Value.pointer
  p,
  Value.int
  IntKind.u64
  200,
  Value.int
  IntKind.i64
  1,
  Value.int
  IntKind.u64
  1,
  Value.bool
  false]
  w'
  fun
  (e :
  Ending)
  (w' :
  World) =>
  ∃ (n
  :
  Int),
  e =
  Ending.returned
  (Value.int
  IntKind.i64
  n) ∧
  R
  (Ending.returned
  (Value.bool
  (n ==
  40)))
  w')
  (R
  (Ending.returned
  (Value.bool
  false))
  w'))
  (R
  (Ending.returned
  (Value.bool
  false))
  w'))
  (R
  (Ending.returned
  (Value.bool
  false))
  w'))
  (R
  (Ending.returned
  (Value.bool
  false))
  w'))
  (R
  (Ending.returned
  (Value.bool
  false))
  w'))
  (R
  (Ending.returned
  (Value.bool
  false))
  w'))
  (R
  (Ending.returned
  (Value.bool
  false))
  w'))
  (R
  (Ending.returned
  (Value.bool
  false))
  w'))
  (R
  (Ending.returned
  (Value.bool
  false))
  w'))
  (R
  (Ending.returned
  (Value.bool false))
  w'))
  (R
  (Ending.returned
  (Value.bool false))
  w'))
  (R
  (Ending.returned
  (Value.bool false))
  w')))
theorem law04_alive.vc_eq (w : World) (R : Ending → World → Prop) : fnV Try.prog law04_alive.H 9 [] w R = law04_alive.vc w R := by kernel_rfl
theorem law04_alive.calls {w : World} {R : Ending → World → Prop} (h : law04_alive.vc w R) : Calls Try.prog 9 ([] : List Value).toArray w R := calls_of_eq (law04_alive.vc_eq w R) h

/- function 7: sacristy/sacristylaw04.Large -/
abbrev law04_Large.N : FuncId := 7
def law04_Large.H : Hints := { loops := [(4, [(3, .one (.int .u64)), (4, .one (.int .i64))])] }
def law04_Large.vc (l' : Option Addr) (l'n : Nat) (l'c : Nat) (w : World) (R : Ending → World → Prop) : Prop :=
  ∃ (I : List Value → World → Prop),
  ∃ (μ : List Value → World → Nat),
  I [Value.int IntKind.u64 0, Value.int IntKind.i64 0] w ∧
  ∀ (g : Nat → Value) (n i : Int) (w' : World),
  I [Value.int IntKind.u64 n, Value.int IntKind.i64 i] w' →
  cnd (decide (i < (↑l'n : Int)))
  (cnd (decide (i < 20))
  ((0 ≤ i ∧ i < (↑l'n : Int)) ∧
  Deref l' fun (a : Addr) =>
  ∃ (n_1 : Int),
  w'.cell? ((a.add (i.toNat * 3)).add 1) = some (Value.int IntKind.u64 n_1) ∧
  Goes I μ [Value.int IntKind.u64 n, Value.int IntKind.i64 i] w'
  [Value.int IntKind.u64 (IntKind.u64.wrap (n + gomin n_1 2097152)),
  Value.int IntKind.i64 (IntKind.i64.wrap (i + 1))]
  w')
  (Calls Proofs.Try.prog 20 #[Value.slice l' l'n l'c] w' fun (e : Ending) (w' : World) =>
  ∃ (b : Bool),
  e = Ending.returned (Value.bool b) ∧
  cnd b
  (cnd (decide (n > 131072)) (R (Ending.returned (Value.bool true)) w')
  (R (Ending.returned (Value.bool (decide ((↑l'n : Int) > 40)))) w'))
  (R (Ending.returned (Value.bool (decide ((↑l'n : Int) > 40)))) w')))
  (Calls Proofs.Try.prog 20 #[Value.slice l' l'n l'c] w' fun (e : Ending) (w' : World) =>
  ∃ (b : Bool),
  e = Ending.returned (Value.bool b) ∧
  cnd b
  (cnd (decide (n > 131072)) (R (Ending.returned (Value.bool true)) w')
  (R (Ending.returned (Value.bool (decide ((↑l'n : Int) > 40)))) w'))
  (R (Ending.returned (Value.bool (decide ((↑l'n : Int) > 40)))) w'))
theorem law04_Large.vc_eq (l' : Option Addr) (l'n : Nat) (l'c : Nat) (w : World) (R : Ending → World → Prop) : fnV Try.prog law04_Large.H 7 [Value.slice l' l'n l'c] w R = law04_Large.vc l' l'n l'c w R := by kernel_rfl
theorem law04_Large.calls {l' : Option Addr} {l'n : Nat} {l'c : Nat} {w : World} {R : Ending → World → Prop} (h : law04_Large.vc l' l'n l'c w R) : Calls Try.prog 7 ([Value.slice l' l'n l'c] : List Value).toArray w R := calls_of_eq (law04_Large.vc_eq l' l'n l'c w R) h

/- function 8: sacristy/sacristylaw04.heavy -/
abbrev law04_heavy.N : FuncId := 8
def law04_heavy.H : Hints := { loops := [(4, [(3, .one (.int .i64)), (4, .one (.int .i64))])] }
def law04_heavy.vc (l' : Option Addr) (l'n : Nat) (l'c : Nat) (w : World) (R : Ending → World → Prop) : Prop :=
  ∃ (I : List Value → World → Prop),
  ∃ (μ : List Value → World → Nat),
  I [Value.int IntKind.i64 0, Value.int IntKind.i64 0] w ∧
  ∀ (g : Nat → Value) (n i : Int) (w' : World),
  I [Value.int IntKind.i64 n, Value.int IntKind.i64 i] w' →
  cnd (decide (i < (↑l'n : Int)))
  (cnd (decide (i < 300))
  ((0 ≤ i ∧ i < (↑l'n : Int)) ∧
  Deref l' fun (a : Addr) =>
  ∃ (s : ByteArray),
  w'.cell? ((a.add (i.toNat * 6)).add 4) = some (Value.string s) ∧
  (0 ≤ i ∧ i < (↑l'n : Int)) ∧
  Deref l' fun (a : Addr) =>
  ∃ (n_1 : Int),
  w'.cell? (a.add (i.toNat * 6)) = some (Value.int IntKind.i64 n_1) ∧
  cnd (n_1 == 4)
  ((0 ≤ i ∧ i < (↑l'n : Int)) ∧
  Deref l' fun (a : Addr) =>
  ∃ (n_2 : Int),
  w'.cell? ((a.add (i.toNat * 6)).add 2) = some (Value.int IntKind.i64 n_2) ∧
  cnd (decide (n_2 > 0))
  ((0 ≤ i ∧ i < (↑l'n : Int)) ∧
  Deref l' fun (a : Addr) =>
  ∃ (n_3 : Int),
  w'.cell? ((a.add (i.toNat * 6)).add 2) =
  some (Value.int IntKind.i64 n_3) ∧
  cnd (decide (n_3 ≤ 1048576))
  ((0 ≤ i ∧ i < (↑l'n : Int)) ∧
  Deref l' fun (a : Addr) =>
  ∃ (n_4 : Int),
  w'.cell? ((a.add (i.toNat * 6)).add 2) =
  some (Value.int IntKind.i64 n_4) ∧
  cnd
  (decide
  (IntKind.i64.wrap
  (IntKind.i64.wrap (n + (↑s.size : Int)) + n_4) >
  131072))
  (R (Ending.returned (Value.bool true)) w')
  (Goes I μ
  [Value.int IntKind.i64 n, Value.int IntKind.i64 i] w'
  [Value.int IntKind.i64
  (IntKind.i64.wrap
  (IntKind.i64.wrap (n + (↑s.size : Int)) + n_4)),
  Value.int IntKind.i64 (IntKind.i64.wrap (i + 1))]
  w'))
  (cnd (decide (IntKind.i64.wrap (n + (↑s.size : Int)) > 131072))
  (R (Ending.returned (Value.bool true)) w')
  (Goes I μ [Value.int IntKind.i64 n, Value.int IntKind.i64 i] w'
  [Value.int IntKind.i64 (IntKind.i64.wrap (n + (↑s.size : Int))),
  Value.int IntKind.i64 (IntKind.i64.wrap (i + 1))]
  w')))
  (cnd (decide (IntKind.i64.wrap (n + (↑s.size : Int)) > 131072))
  (R (Ending.returned (Value.bool true)) w')
  (Goes I μ [Value.int IntKind.i64 n, Value.int IntKind.i64 i] w'
  [Value.int IntKind.i64 (IntKind.i64.wrap (n + (↑s.size : Int))),
  Value.int IntKind.i64 (IntKind.i64.wrap (i + 1))]
  w')))
  (cnd (decide (IntKind.i64.wrap (n + (↑s.size : Int)) > 131072))
  (R (Ending.returned (Value.bool true)) w')
  (Goes I μ [Value.int IntKind.i64 n, Value.int IntKind.i64 i] w'
  [Value.int IntKind.i64 (IntKind.i64.wrap (n + (↑s.size : Int))),
  Value.int IntKind.i64 (IntKind.i64.wrap (i + 1))]
  w')))
  (R (Ending.returned (Value.bool (decide ((↑l'n : Int) > 200)))) w'))
  (R (Ending.returned (Value.bool (decide ((↑l'n : Int) > 200)))) w')
theorem law04_heavy.vc_eq (l' : Option Addr) (l'n : Nat) (l'c : Nat) (w : World) (R : Ending → World → Prop) : fnV Try.prog law04_heavy.H 8 [Value.slice l' l'n l'c] w R = law04_heavy.vc l' l'n l'c w R := by kernel_rfl
theorem law04_heavy.calls {l' : Option Addr} {l'n : Nat} {l'c : Nat} {w : World} {R : Ending → World → Prop} (h : law04_heavy.vc l' l'n l'c w R) : Calls Try.prog 8 ([Value.slice l' l'n l'c] : List Value).toArray w R := calls_of_eq (law04_heavy.vc_eq l' l'n l'c w R) h

/- function 6: sacristy/sacristylaw04.MemNil -/
abbrev law04_MemNil.N : FuncId := 6
def law04_MemNil.H : Hints := {  }
def law04_MemNil.vc (s'_0 : Int) (s'_1 : Int) (s'_2 : Int) (s'_3 : Int) (s'_4 : ByteArray) (s'_5 : Bool) (w : World) (R : Ending → World → Prop) : Prop :=
  ∀ (w' : World),
  w' =
  w.alloc
  (Obj.cells
  #[Value.int IntKind.i64 s'_0, Value.int IntKind.u64 s'_1, Value.int IntKind.i64 s'_2,
  Value.int IntKind.u64 s'_3, Value.string s'_4, Value.bool s'_5]
  33) →
  ∃ (s : ByteArray),
  w'.cell? (Addr.mk w.heap.size 4 none) = some (Value.string s) ∧
  cnd (decide ((↑s.size : Int) > 4096))
  (Calls Proofs.Try.prog 9 #[] w' fun (e : Ending) (w' : World) =>
  ∃ (b : Bool), e = Ending.returned (Value.bool b) ∧ R (Ending.returned (Value.bool b)) w')
  (∃ (n : Int),
  w'.cell? (Addr.mk w.heap.size 1 none) = some (Value.int IntKind.u64 n) ∧
  ∃ (n_1 : Int),
  w'.cell? (Addr.mk w.heap.size 2 none) = some (Value.int IntKind.i64 n_1) ∧
  Calls Proofs.Try.prog 13 #[Value.pointer none, Value.int IntKind.u64 n, Value.int IntKind.i64 n_1] w'
  fun (e : Ending) (w' : World) =>
  ∃ (n : Int),
  ∃ (b : Bool),
  ∃ (n_2 : Int),
  e =
  Ending.returned
  (Value.tuple #[Value.int IntKind.u64 n, Value.bool b, Value.int IntKind.i64 n_2]) ∧
  ∃ (n_3 : Int),
  w'.cell? (Addr.mk w.heap.size 1 none) = some (Value.int IntKind.u64 n_3) ∧
  Calls Proofs.Try.prog 15 #[Value.pointer none, Value.int IntKind.u64 n_3] w'
  fun (e : Ending) (w' : World) =>
  ∃ (n_4 : Int),
  ∃ (n_5 : Int),
  e =
  Ending.returned
  (Value.tuple #[Value.int IntKind.u32 n_4, Value.int IntKind.i64 n_5]) ∧
  ∃ (n_6 : Int),
  w'.cell? (Addr.mk w.heap.size 1 none) = some (Value.int IntKind.u64 n_6) ∧
  ∃ (n_7 : Int),
  w'.cell? (Addr.mk w.heap.size 2 none) = some (Value.int IntKind.i64 n_7) ∧
  Calls Proofs.Try.prog 14
  #[Value.pointer none, Value.int IntKind.u64 n_6,
  Value.int IntKind.i64 n_7]
  w' fun (e : Ending) (w' : World) =>
  ∃ (s : ByteArray),
  ∃ (p : Option Addr),
  ∃ (n_8 : Nat),
  ∃ (c : Nat),
  ∃ (n_9 : Int),
  e =
  Ending.returned
  (Value.tuple
  #[Value.string s, Value.slice p n_8 c,
  Value.int IntKind.i64 n_9]) ∧
  cnd (n == 0)
  (cnd (!b)
  (cnd (n_2 == 1)
  (cnd (n_4 == 0)
  (cnd (n_5 == 1)
  (cnd (s.toList == (ByteArray.mk #[]).toList)
  (cnd ((↑n_8 : Int) == 0)
  (cnd (n_9 == 1)
  (∃ (n : Int),
  w'.cell? (Addr.mk w.heap.size 1 none) =
  some (Value.int IntKind.u64 n) ∧
  ∃ (n_10 : Int),
  w'.cell?
  (Addr.mk w.heap.size 2 none) =
  some
  (Value.int IntKind.i64 n_10) ∧
  ∃ (n_11 : Int),
  w'.cell?
  (Addr.mk w.heap.size 3
  none) =
  some
  (Value.int IntKind.u64
  n_11) ∧
  ∃ (b : Bool),
  w'.cell?
  (Addr.mk w.heap.size 5
  none) =
  some (Value.bool b) ∧
  Calls Proofs.Try.prog 12
  #[Value.pointer none,
  Value.int IntKind.u64
  n,
  Value.int IntKind.i64
  n_10,
  Value.int IntKind.u64
  n_11,
  Value.bool b]
  w'
  fun (e : Ending)
  (w' : World) =>
  ∃ (n : Int),
  e =
  Ending.returned
  (Value.int
  IntKind.i64
  n) ∧
  cnd (n == 1)
  (∃ (n : Int),
  w'.cell?
  (Addr.mk
  w.heap.size
  1
  none) =
  some
  (Value.int
  IntKind.u64
  n) ∧
  ∃ (s :
  ByteArray),
  w'.cell?
  (Addr.mk
  w.heap.size
  4
  none) =
  some
  (Value.string
  s) ∧
  ∃ (b :
  Bool),
  w'.cell?
  (Addr.mk
  w.heap.size
  5
  none) =
  some
  (Value.bool
  b) ∧
  Calls
  Proofs.Try.prog
  11
  #[Value.pointer
  none,
  Value.int
  IntKind.u64
  n,
  Value.string
  s,
  Value.bool
  b]
  w'
  fun
  (e :
  Ending)
  (w' :
  World) =>
  ∃ (n
  :
  Int),
  e =
  Ending.returned
  (Value.int
  IntKind.i64
  n) ∧
  cnd
  (n ==
  1)
  (Calls
  Proofs.Try.prog
  19
  #[Value.pointer
  none]
  w'
  fun
  (e :
  Ending)
  (w' :
  World) =>
  ∃
  (p
  :
  Option
  Addr),
  ∃
  (n
  :
  Nat),
  ∃
  (c
  :
  Nat),
  e =
  Ending.returned
  (Value.slice
  p
  n
  c) ∧
  cnd
  ((↑n :
  Int) ==
  0)
  (Calls
  Proofs.Try.prog
  9
  #[]
  w'
  fun
  (e :
  Ending)
  (w' :
  World) =>
  ∃
  (b
  :
  Bool),
  e =
  Ending.returned
  (Value.bool
  b) ∧
  R
  (Ending.returned
  (Value.bool
  b))
  w')
  (R
  (Ending.returned
  (Value.bool
  false))
  w'))
  (R
  (Ending.returned
  (Value.bool
  false))
  w'))
  (R
  (Ending.returned
  (Value.bool
  false))
  w'))
  (R (Ending.returned (Value.bool false))
  w'))
  (R (Ending.returned (Value.bool false)) w'))
  (R (Ending.returned (Value.bool false)) w'))
  (R (Ending.returned (Value.bool false)) w'))
  (R (Ending.returned (Value.bool false)) w'))
  (R (Ending.returned (Value.bool false)) w'))
  (R (Ending.returned (Value.bool false)) w'))
  (R (Ending.returned (Value.bool false)) w'))
theorem law04_MemNil.vc_eq (s'_0 : Int) (s'_1 : Int) (s'_2 : Int) (s'_3 : Int) (s'_4 : ByteArray) (s'_5 : Bool) (w : World) (R : Ending → World → Prop) : fnV Try.prog law04_MemNil.H 6 [Value.agg
  #[Value.int IntKind.i64 s'_0, Value.int IntKind.u64 s'_1, Value.int IntKind.i64 s'_2, Value.int IntKind.u64 s'_3,
  Value.string s'_4, Value.bool s'_5]] w R = law04_MemNil.vc s'_0 s'_1 s'_2 s'_3 s'_4 s'_5 w R := by kernel_rfl
theorem law04_MemNil.calls {s'_0 : Int} {s'_1 : Int} {s'_2 : Int} {s'_3 : Int} {s'_4 : ByteArray} {s'_5 : Bool} {w : World} {R : Ending → World → Prop} (h : law04_MemNil.vc s'_0 s'_1 s'_2 s'_3 s'_4 s'_5 w R) : Calls Try.prog 6 ([Value.agg
  #[Value.int IntKind.i64 s'_0, Value.int IntKind.u64 s'_1, Value.int IntKind.i64 s'_2, Value.int IntKind.u64 s'_3,
  Value.string s'_4, Value.bool s'_5]] : List Value).toArray w R := calls_of_eq (law04_MemNil.vc_eq s'_0 s'_1 s'_2 s'_3 s'_4 s'_5 w R) h

end Go.Proofs.Ytngkifnknlginaa
