/-
The explicit conditions of some functions of the program, printed by this repo's own program over VcTop: what is proved is that each is the condition.
Conditions: none.
-/
import Derived.Test.YtjoikaklincfoaaVcRange
import Derived.Test.YtjoikaklincfoaaProg
namespace Go.Proofs.Ytjoikaklincfoaa
open Go Go.Vc Go.RowKit
set_option linter.unusedVariables false
set_option maxRecDepth 100000

/- function 44: sacristy/disas.guesses$1 -/
abbrev disas_guesses_1.N : FuncId := 44
def disas_guesses_1.H : Hints := { loops := [(2, [(3, .one (.int .u8))])], conds := [(6015, []), (8021, []), (10027, [])], raw := [10], yields := [(10, 2)] }
def disas_guesses_1.vc (yield' : Value) (c0 : Option Addr) (w : World) (R : Ending → World → Prop) : Prop :=
  ∃ (I : List Value → World → Prop),
  ∃ (μ : List Value → World → Nat),
  I [Value.int IntKind.u8 1] w ∧
  ∀ (g : Nat → Value) (op : Int) (w' : World),
  I [Value.int IntKind.u8 op] w' →
  cnd (decide (op ≤ 34))
  (Deref c0 fun (ad : Addr) =>
  ∃ (n : Int),
  w'.cell? ad = some (Value.int IntKind.u32 n) ∧
  Calls Proofs.Try.prog 45 #[Value.int IntKind.u8 op, Value.int IntKind.u32 n] w'
  fun (e : Ending) (w'_1 : World) =>
  ∃ (n : Int),
  e = Ending.returned (Value.int IntKind.i64 n) ∧
  ∀ (w'_2 : World),
  w'_2 =
  w'_1.alloc
  (Obj.cells
  #[Value.int IntKind.u8 0, Value.int IntKind.u8 0, Value.int IntKind.u8 0,
  Value.int IntKind.u8 0, Value.int IntKind.i64 0]
  39) →
  SetsAt w'_2 (Addr.mk w'_1.heap.size 0 none) 0
  [Value.int IntKind.u8 op, Value.int IntKind.u8 0, Value.int IntKind.u8 0,
  Value.int IntKind.u8 0, Value.int IntKind.i64 n] ∧
  ∀ (w'_3 : World),
  w'_3 =
  setCellsAt w'_2 (Addr.mk w'_1.heap.size 0 none) 0
  [Value.int IntKind.u8 op, Value.int IntKind.u8 0, Value.int IntKind.u8 0,
  Value.int IntKind.u8 0, Value.int IntKind.i64 n] →
  Calls Proofs.Try.prog 46 #[Value.int IntKind.u8 op] w'_3
  fun (e : Ending) (w'_4 : World) =>
  ∃ (b : Bool),
  e = Ending.returned (Value.bool b) ∧
  ∃ (J : List Value → World → Prop),
  cnd b
  (Deref c0 fun (ad : Addr) =>
  ∃ (n : Int),
  w'_4.cell? ad = some (Value.int IntKind.u32 n) ∧
  Calls Proofs.Try.prog 47
  #[Value.int IntKind.u32 n, Value.int IntKind.i64 7,
  Value.int IntKind.i64 5]
  w'_4 fun (e : Ending) (w' : World) =>
  ∃ (n : Int),
  e = Ending.returned (Value.int IntKind.u32 n) ∧
  ((w'.cell? (Addr.mk w'_1.heap.size 1 none)).isSome = true ∧
  w'.frozen? (Addr.mk w'_1.heap.size 1 none) = false) ∧
  ∀ (w'_5 : World),
  w'_5 =
  w'.setCell (Addr.mk w'_1.heap.size 1 none)
  (Value.int IntKind.u8 (IntKind.u8.wrap n)) →
  J [] w'_5)
  (J [] w'_4) ∧
  ∀ (g : Nat → Value) (w'_5 : World),
  J [] w'_5 →
  Calls Proofs.Try.prog 48 #[Value.int IntKind.u8 op] w'_5
  fun (e : Ending) (w'_6 : World) =>
  ∃ (b : Bool),
  e = Ending.returned (Value.bool b) ∧
  ∃ (J : List Value → World → Prop),
  cnd b
  (Deref c0 fun (ad : Addr) =>
  ∃ (n : Int),
  w'_6.cell? ad = some (Value.int IntKind.u32 n) ∧
  Calls Proofs.Try.prog 47
  #[Value.int IntKind.u32 n, Value.int IntKind.i64 15,
  Value.int IntKind.i64 5]
  w'_6 fun (e : Ending) (w' : World) =>
  ∃ (n : Int),
  e = Ending.returned (Value.int IntKind.u32 n) ∧
  ((w'.cell?
  (Addr.mk w'_1.heap.size 2
  none)).isSome =
  true ∧
  w'.frozen? (Addr.mk w'_1.heap.size 2 none) =
  false) ∧
  ∀ (w'_7 : World),
  w'_7 =
  w'.setCell
  (Addr.mk w'_1.heap.size 2 none)
  (Value.int IntKind.u8
  (IntKind.u8.wrap n)) →
  J [] w'_7)
  (J [] w'_6) ∧
  ∀ (g : Nat → Value) (w'_7 : World),
  J [] w'_7 →
  Calls Proofs.Try.prog 49 #[Value.int IntKind.u8 op] w'_7
  fun (e : Ending) (w'_8 : World) =>
  ∃ (b : Bool),
  e = Ending.returned (Value.bool b) ∧
  ∃ (J : List Value → World → Prop),
  cnd b
  (Deref c0 fun (ad : Addr) =>
  ∃ (n : Int),
  w'_8.cell? ad =
  some (Value.int IntKind.u32 n) ∧
  Calls Proofs.Try.prog 47
  #[Value.int IntKind.u32 n,
  Value.int IntKind.i64 20,
  Value.int IntKind.i64 5]
  w'_8 fun (e : Ending) (w' : World) =>
  ∃ (n : Int),
  e =
  Ending.returned
  (Value.int IntKind.u32 n) ∧
  ((w'.cell?
  (Addr.mk w'_1.heap.size
  3 none)).isSome =
  true ∧
  w'.frozen?
  (Addr.mk w'_1.heap.size 3
  none) =
  false) ∧
  ∀ (w'_9 : World),
  w'_9 =
  w'.setCell
  (Addr.mk w'_1.heap.size
  3 none)
  (Value.int IntKind.u8
  (IntKind.u8.wrap n)) →
  J [] w'_9)
  (J [] w'_8) ∧
  ∀ (g : Nat → Value) (w'_9 : World),
  J [] w'_9 →
  ∃ (n : Int),
  ∃ (n_1 : Int),
  ∃ (n_2 : Int),
  ∃ (n_3 : Int),
  ∃ (n_4 : Int),
  (w'_9.cell?
  (Addr.mk w'_1.heap.size 0
  none) =
  some
  (Value.int IntKind.u8 n) ∧
  w'_9.cell?
  (Addr.mk w'_1.heap.size
  1 none) =
  some
  (Value.int IntKind.u8
  n_1) ∧
  w'_9.cell?
  (Addr.mk
  w'_1.heap.size 2
  none) =
  some
  (Value.int IntKind.u8
  n_2) ∧
  w'_9.cell?
  (Addr.mk
  w'_1.heap.size 3
  none) =
  some
  (Value.int
  IntKind.u8 n_3) ∧
  w'_9.cell?
  (Addr.mk
  w'_1.heap.size 4
  none) =
  some
  (Value.int
  IntKind.i64
  n_4) ∧
  True) ∧
  AsYield yield' fun (l : Nat) =>
  YieldC Proofs.Try.prog l
  #[Value.agg
  #[Value.int IntKind.u8
  n,
  Value.int IntKind.u8
  n_1,
  Value.int IntKind.u8
  n_2,
  Value.int IntKind.u8
  n_3,
  Value.int IntKind.i64
  n_4]]
  w'_9
  fun (b : Bool)
  (w'_10 : World) =>
  cnd (!b)
  (R
  (Ending.returned
  (Value.tuple #[]))
  w'_10)
  (Goes I μ
  [Value.int IntKind.u8
  op]
  w'
  [Value.int IntKind.u8
  (IntKind.u8.wrap
  (op + 1))]
  w'_10))
  (R (Ending.returned (Value.tuple #[])) w')
theorem disas_guesses_1.vc_eq (yield' : Value) (c0 : Option Addr) (w : World) (R : Ending → World → Prop) : fnV Try.prog disas_guesses_1.H 44 [yield', Value.pointer c0] w R = disas_guesses_1.vc yield' c0 w R := by kernel_rfl
theorem disas_guesses_1.calls {yield' : Value} {c0 : Option Addr} {w : World} {R : Ending → World → Prop} (h : disas_guesses_1.vc yield' c0 w R) : Calls Try.prog 44 ([yield', Value.pointer c0] : List Value).toArray w R := calls_of_eq (disas_guesses_1.vc_eq yield' c0 w R) h

/- function 31: sacristy/disas.Decode -/
abbrev disas_Decode.N : FuncId := 31
def disas_Decode.H : Hints := { rngs := [(9, [(9, .agg [(.int .u8), (.int .u8), (.int .u8), (.int .u8), (.int .i64)])], [(4, .one .ptr)])] }
def disas_Decode.vc (w' : Int) (w : World) (R : Ending → World → Prop) : Prop :=
  ∀ (w'_1 : World),
  w'_1 = w.alloc (Obj.cells #[Value.int IntKind.u32 w'] 42) →
  ∀ (w' : World),
  w' =
  w'_1.alloc
  (Obj.cells
  #[Value.int IntKind.u8 0, Value.int IntKind.u8 0, Value.int IntKind.u8 0, Value.int IntKind.u8 0,
  Value.int IntKind.i64 0]
  39) →
  ∀ (w'_2 : World),
  w'_2 = w'.alloc (Obj.cells #[Value.int IntKind.i64 0] 29) →
  ∃ (n : Int),
  w'_2.cell? (Addr.mk w.heap.size 0 none) = some (Value.int IntKind.u32 n) ∧
  Calls Proofs.Try.prog 39 #[Value.int IntKind.u32 n] w'_2 fun (e : Ending) (w'_3 : World) =>
  ∃ (v : Value),
  e = Ending.returned v ∧
  AsFn v fun (gf : FuncId) (fi lb : Array Value) =>
  cnd (entersB Proofs.Try.prog gf)
  (fi = #[] ∧
  ∃ (r : Rounds Proofs.Try.prog gf lb w'_3),
  (∀ (x : Fin r.N),
  okV
  [(9,
  Shape.agg
  [Sh.int IntKind.u8, Sh.int IntKind.u8, Sh.int IntKind.u8, Sh.int IntKind.u8,
  Sh.int IntKind.i64])]
  (r.enc x) =
  true) ∧
  (∀ (s9_0 s9_1 s9_2 s9_3 s9_4 : Int) (pre : List (Fin r.N)) (x : Fin r.N) (w1 : World),
  r.enc x =
  [Value.agg
  #[Value.int IntKind.u8 s9_0, Value.int IntKind.u8 s9_1,
  Value.int IntKind.u8 s9_2, Value.int IntKind.u8 s9_3,
  Value.int IntKind.i64 s9_4]] →
  r.I pre w1 →
  ∀ (w' : World),
  w' =
  w1.alloc
  (Obj.cells
  #[Value.int IntKind.u8 0, Value.int IntKind.u8 0,
  Value.int IntKind.u8 0, Value.int IntKind.u8 0,
  Value.int IntKind.i64 0]
  39) →
  SetsAt w' (Addr.mk w1.heap.size 0 none) 0
  [Value.int IntKind.u8 s9_0, Value.int IntKind.u8 s9_1,
  Value.int IntKind.u8 s9_2, Value.int IntKind.u8 s9_3,
  Value.int IntKind.i64 s9_4] ∧
  ∀ (w'_4 : World),
  w'_4 =
  setCellsAt w' (Addr.mk w1.heap.size 0 none) 0
  [Value.int IntKind.u8 s9_0, Value.int IntKind.u8 s9_1,
  Value.int IntKind.u8 s9_2, Value.int IntKind.u8 s9_3,
  Value.int IntKind.i64 s9_4] →
  KeepsFrom w'_3.heap.size w1 w'_4 ∧
  KpS r.Ks w1 w'_4 ∧
  r.I pre w'_4 ∧
  r.Mid x [Value.pointer (some (Addr.mk w1.heap.size 0 none))]
  w'_4) ∧
  (∀ (s9_0 s9_1 s9_2 s9_3 s9_4 : Int) (pre : List (Fin r.N)) (x : Fin r.N),
  r.enc x =
  [Value.agg
  #[Value.int IntKind.u8 s9_0, Value.int IntKind.u8 s9_1,
  Value.int IntKind.u8 s9_2, Value.int IntKind.u8 s9_3,
  Value.int IntKind.i64 s9_4]] →
  pre.length < r.N →
  ∀ (g : Nat → Value) (x_1 : Option Addr) (w'_4 : World),
  r.I pre w'_4 ∧ r.Mid x [Value.pointer x_1] w'_4 →
  Deref x_1 fun (ad : Addr) =>
  ∃ (n : Int),
  ∃ (n_1 : Int),
  ∃ (n_2 : Int),
  ∃ (n_3 : Int),
  ∃ (n_4 : Int),
  (w'_4.cell? ad = some (Value.int IntKind.u8 n) ∧
  w'_4.cell? (ad.add 1) = some (Value.int IntKind.u8 n_1) ∧
  w'_4.cell? (ad.add 2) =
  some (Value.int IntKind.u8 n_2) ∧
  w'_4.cell? (ad.add 3) =
  some (Value.int IntKind.u8 n_3) ∧
  w'_4.cell? (ad.add 4) =
  some (Value.int IntKind.i64 n_4) ∧
  True) ∧
  Calls Proofs.Try.prog 40
  #[Value.agg
  #[Value.int IntKind.u8 n, Value.int IntKind.u8 n_1,
  Value.int IntKind.u8 n_2, Value.int IntKind.u8 n_3,
  Value.int IntKind.i64 n_4]]
  w'_4 fun (e : Ending) (w'_5 : World) =>
  ∃ (n : Int),
  ∃ (n_5 : Int),
  e =
  Ending.returned
  (Value.tuple
  #[Value.int IntKind.u32 n,
  Value.int IntKind.i64 n_5]) ∧
  cnd (n_5 == 0)
  (∃ (n_6 : Int),
  w'_5.cell? (Addr.mk w.heap.size 0 none) =
  some (Value.int IntKind.u32 n_6) ∧
  cnd (n == n_6)
  (Deref x_1 fun (ad : Addr) =>
  ∃ (n : Int),
  ∃ (n_7 : Int),
  ∃ (n_8 : Int),
  ∃ (n_9 : Int),
  ∃ (n_10 : Int),
  (w'_5.cell? ad =
  some
  (Value.int IntKind.u8
  n) ∧
  w'_5.cell? (ad.add 1) =
  some
  (Value.int IntKind.u8
  n_7) ∧
  w'_5.cell? (ad.add 2) =
  some
  (Value.int
  IntKind.u8 n_8) ∧
  w'_5.cell? (ad.add 3) =
  some
  (Value.int
  IntKind.u8
  n_9) ∧
  w'_5.cell?
  (ad.add 4) =
  some
  (Value.int
  IntKind.i64
  n_10) ∧
  True) ∧
  SetsAt w'_5
  (Addr.mk w'_1.heap.size 0
  none)
  0
  [Value.int IntKind.u8 n,
  Value.int IntKind.u8
  n_7,
  Value.int IntKind.u8
  n_8,
  Value.int IntKind.u8
  n_9,
  Value.int IntKind.i64
  n_10] ∧
  ∀ (w'_6 : World),
  w'_6 =
  setCellsAt w'_5
  (Addr.mk
  w'_1.heap.size 0
  none)
  0
  [Value.int
  IntKind.u8 n,
  Value.int
  IntKind.u8 n_7,
  Value.int
  IntKind.u8 n_8,
  Value.int
  IntKind.u8 n_9,
  Value.int
  IntKind.i64
  n_10] →
  ((w'_6.cell?
  (Addr.mk
  w'.heap.size
  0
  none)).isSome =
  true ∧
  w'_6.frozen?
  (Addr.mk
  w'.heap.size 0
  none) =
  false) ∧
  ∀ (w'_7 : World),
  w'_7 =
  w'_6.setCell
  (Addr.mk
  w'.heap.size
  0 none)
  (Value.int
  IntKind.i64
  0) →
  KeepsFrom
  w'_3.heap.size
  w'_4 w'_7 ∧
  r.Ix
  (pre ++ [x])
  w'_7)
  (KeepsFrom w'_3.heap.size w'_4 w'_5 ∧
  KpS r.Ks w'_4 w'_5 ∧
  r.I (pre ++ [x]) w'_5))
  (KeepsFrom w'_3.heap.size w'_4 w'_5 ∧
  KpS r.Ks w'_4 w'_5 ∧ r.I (pre ++ [x]) w'_5)) ∧
  (∀ (D : Nat) (w1 : World),
  w'_3.heap.size ≤ D →
  r.I (List.finRange r.N) w1 →
  w1.heap[D]? = some (Obj.deferred (some [])) →
  SetsAt w1 (Addr.mk w'_1.heap.size 0 none) 0
  [Value.int IntKind.u8 0, Value.int IntKind.u8 0,
  Value.int IntKind.u8 0, Value.int IntKind.u8 0,
  Value.int IntKind.i64 0] ∧
  ∀ (w'_4 : World),
  w'_4 =
  setCellsAt w1 (Addr.mk w'_1.heap.size 0 none) 0
  [Value.int IntKind.u8 0, Value.int IntKind.u8 0,
  Value.int IntKind.u8 0, Value.int IntKind.u8 0,
  Value.int IntKind.i64 0] →
  ((w'_4.cell? (Addr.mk w'.heap.size 0 none)).isSome = true ∧
  w'_4.frozen? (Addr.mk w'.heap.size 0 none) = false) ∧
  ∀ (w'_5 : World),
  w'_5 =
  w'_4.setCell (Addr.mk w'.heap.size 0 none)
  (Value.int IntKind.i64 7) →
  w'_5.heap[D]? = some (Obj.deferred (some [])) ∧
  ∀ (w'_6 : World),
  w'_6 = w'_5.putObj D (Obj.deferred none) →
  ∃ (n : Int),
  ∃ (n_1 : Int),
  ∃ (n_2 : Int),
  ∃ (n_3 : Int),
  ∃ (n_4 : Int),
  (w'_6.cell? (Addr.mk w'_1.heap.size 0 none) =
  some (Value.int IntKind.u8 n) ∧
  w'_6.cell?
  (Addr.mk w'_1.heap.size 1 none) =
  some (Value.int IntKind.u8 n_1) ∧
  w'_6.cell?
  (Addr.mk w'_1.heap.size 2 none) =
  some (Value.int IntKind.u8 n_2) ∧
  w'_6.cell?
  (Addr.mk w'_1.heap.size 3
  none) =
  some (Value.int IntKind.u8 n_3) ∧
  w'_6.cell?
  (Addr.mk w'_1.heap.size 4
  none) =
  some
  (Value.int IntKind.i64 n_4) ∧
  True) ∧
  ∃ (n_5 : Int),
  w'_6.cell? (Addr.mk w'.heap.size 0 none) =
  some (Value.int IntKind.i64 n_5) ∧
  R
  (Ending.returned
  (Value.tuple
  #[Value.agg
  #[Value.int IntKind.u8 n,
  Value.int IntKind.u8 n_1,
  Value.int IntKind.u8 n_2,
  Value.int IntKind.u8 n_3,
  Value.int IntKind.i64 n_4],
  Value.int IntKind.i64 n_5]))
  w'_6) ∧
  ∀ (D : Nat) (pre : List (Fin r.N)) (w1 : World),
  w'_3.heap.size ≤ D →
  (∃ (t : List (Fin r.N)), pre ++ t = List.finRange r.N) →
  r.Ix pre w1 →
  w1.heap[D]? = some (Obj.deferred (some [])) →
  w1.heap[D]? = some (Obj.deferred (some [])) ∧
  ∀ (w'_4 : World),
  w'_4 = w1.putObj D (Obj.deferred none) →
  ∃ (n : Int),
  ∃ (n_1 : Int),
  ∃ (n_2 : Int),
  ∃ (n_3 : Int),
  ∃ (n_4 : Int),
  (w'_4.cell? (Addr.mk w'_1.heap.size 0 none) =
  some (Value.int IntKind.u8 n) ∧
  w'_4.cell? (Addr.mk w'_1.heap.size 1 none) =
  some (Value.int IntKind.u8 n_1) ∧
  w'_4.cell? (Addr.mk w'_1.heap.size 2 none) =
  some (Value.int IntKind.u8 n_2) ∧
  w'_4.cell? (Addr.mk w'_1.heap.size 3 none) =
  some (Value.int IntKind.u8 n_3) ∧
  w'_4.cell? (Addr.mk w'_1.heap.size 4 none) =
  some (Value.int IntKind.i64 n_4) ∧
  True) ∧
  ∃ (n_5 : Int),
  w'_4.cell? (Addr.mk w'.heap.size 0 none) =
  some (Value.int IntKind.i64 n_5) ∧
  R
  (Ending.returned
  (Value.tuple
  #[Value.agg
  #[Value.int IntKind.u8 n,
  Value.int IntKind.u8 n_1,
  Value.int IntKind.u8 n_2,
  Value.int IntKind.u8 n_3,
  Value.int IntKind.i64 n_4],
  Value.int IntKind.i64 n_5]))
  w'_4)
  False
theorem disas_Decode.vc_eq (w' : Int) (w : World) (R : Ending → World → Prop) : fnM Try.prog disas_Decode.H 31 [Value.int IntKind.u32 w'] w R = disas_Decode.vc w' w R := by kernel_rfl
theorem disas_Decode.calls {w' : Int} {w : World} {R : Ending → World → Prop} (h : disas_Decode.vc w' w R) : Calls Try.prog 31 ([Value.int IntKind.u32 w'] : List Value).toArray w R := calls_of_eqM (disas_Decode.vc_eq w' w R) h

end Go.Proofs.Ytjoikaklincfoaa
