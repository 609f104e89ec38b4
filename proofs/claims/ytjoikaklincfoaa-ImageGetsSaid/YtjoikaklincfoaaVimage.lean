/-
The explicit conditions of some functions of the program, printed by this repo's own program over VcTop: what is proved is that each is the condition.
Conditions: none.
-/
import Derived.Test.YtjoikaklincfoaaVcTop
import Derived.Test.YtjoikaklincfoaaProg
namespace Go.Proofs.Ytjoikaklincfoaa
open Go Go.Vc Go.RowKit
set_option linter.unusedVariables false
set_option maxRecDepth 100000

/- function 18: sacristy/image.bits -/
abbrev image_bits.N : FuncId := 18
def image_bits.H : Hints := { loops := [(3, [(2, .one (.int .u8)), (7, .one (.int .i64))])] }
def image_bits.vc (l' : Option Addr) (l'n : Nat) (l'c : Nat) (w : World) (R : Ending → World → Prop) : Prop :=
  ∃ (I : List Value → World → Prop),
  ∃ (μ : List Value → World → Nat),
  I [Value.int IntKind.u8 0, Value.int IntKind.i64 0] w ∧
  ∀ (g : Nat → Value) (b s7 : Int) (w' : World),
  I [Value.int IntKind.u8 b, Value.int IntKind.i64 s7] w' →
  cnd (decide (s7 < (↑l'n : Int)))
  ((0 ≤ s7 ∧ s7 < (↑l'n : Int)) ∧
  Deref l' fun (a : Addr) =>
  ∃ (b_1 : Bool),
  w'.cell? (a.add (s7.toNat * 1)) = some (Value.bool b_1) ∧
  cnd b_1
  (cnd (decide (s7 < 0)) False
  (Goes I μ [Value.int IntKind.u8 b, Value.int IntKind.i64 s7] w'
  [Value.int IntKind.u8 (bits BinOp.or IntKind.u8 b (IntKind.u8.wrap (1 * 2 ^ min s7.toNat 8))),
  Value.int IntKind.i64 (IntKind.i64.wrap (s7 + 1))]
  w'))
  (Goes I μ [Value.int IntKind.u8 b, Value.int IntKind.i64 s7] w'
  [Value.int IntKind.u8 b, Value.int IntKind.i64 (IntKind.i64.wrap (s7 + 1))] w'))
  (R (Ending.returned (Value.int IntKind.u8 b)) w')
theorem image_bits.vc_eq (l' : Option Addr) (l'n : Nat) (l'c : Nat) (w : World) (R : Ending → World → Prop) : fnV Try.prog image_bits.H 18 [Value.slice l' l'n l'c] w R = image_bits.vc l' l'n l'c w R := by kernel_rfl
theorem image_bits.calls {l' : Option Addr} {l'n : Nat} {l'c : Nat} {w : World} {R : Ending → World → Prop} (h : image_bits.vc l' l'n l'c w R) : Calls Try.prog 18 ([Value.slice l' l'n l'c] : List Value).toArray w R := calls_of_eq (image_bits.vc_eq l' l'n l'c w R) h

/- function 19: sacristy/image.four -/
abbrev image_four.N : FuncId := 19
def image_four.H : Hints := {  }
def image_four.vc (b' : Option Addr) (b'n : Nat) (b'c : Nat) (n' : Int) (w : World) (R : Ending → World → Prop) : Prop :=
  ∀ (w' : World),
  w' =
  w.alloc
  (Obj.cells
  #[Value.int IntKind.u8 (IntKind.u8.wrap n'), Value.int IntKind.u8 (IntKind.u8.wrap (n'.fdiv 256)),
  Value.int IntKind.u8 (IntKind.u8.wrap (n'.fdiv 65536)),
  Value.int IntKind.u8 (IntKind.u8.wrap (n'.fdiv 16777216))]
  5) →
  RunsV Proofs.Try.prog
  (Builtin.append_ #[48, 48] 48 #[Value.slice b' b'n b'c, Value.slice (some (Addr.mk w.heap.size 0 none)) 4 4]) w'
  fun (v : Value) (w' : World) =>
  ∃ (p : Option Addr), ∃ (n : Nat), ∃ (c : Nat), v = Value.slice p n c ∧ R (Ending.returned (Value.slice p n c)) w'
theorem image_four.vc_eq (b' : Option Addr) (b'n : Nat) (b'c : Nat) (n' : Int) (w : World) (R : Ending → World → Prop) : fnV Try.prog image_four.H 19 [Value.slice b' b'n b'c, Value.int IntKind.u32 n'] w R = image_four.vc b' b'n b'c n' w R := by kernel_rfl
theorem image_four.calls {b' : Option Addr} {b'n : Nat} {b'c : Nat} {n' : Int} {w : World} {R : Ending → World → Prop} (h : image_four.vc b' b'n b'c n' w R) : Calls Try.prog 19 ([Value.slice b' b'n b'c, Value.int IntKind.u32 n'] : List Value).toArray w R := calls_of_eq (image_four.vc_eq b' b'n b'c n' w R) h

/- function 29: sacristy/image.number -/
abbrev image_number.N : FuncId := 29
def image_number.H : Hints := {  }
def image_number.vc (b' : Option Addr) (b'n : Nat) (b'c : Nat) (w : World) (R : Ending → World → Prop) : Prop :=
  (Int.le 0 0 ∧ 0 < (↑b'n : Int)) ∧
  Deref b' fun (a : Addr) =>
  ∃ (n : Int),
  (∀ (w' : World), Later w w' → w'.cell? a = some (Value.int IntKind.u8 n)) ∧
  (Int.le 0 1 ∧ 1 < (↑b'n : Int)) ∧
  Deref b' fun (a : Addr) =>
  ∃ (n_1 : Int),
  (∀ (w' : World), Later w w' → w'.cell? (a.add 1) = some (Value.int IntKind.u8 n_1)) ∧
  (Int.le 0 2 ∧ 2 < (↑b'n : Int)) ∧
  Deref b' fun (a : Addr) =>
  ∃ (n_2 : Int),
  (∀ (w' : World), Later w w' → w'.cell? (a.add 2) = some (Value.int IntKind.u8 n_2)) ∧
  (Int.le 0 3 ∧ 3 < (↑b'n : Int)) ∧
  Deref b' fun (a : Addr) =>
  ∃ (n_3 : Int),
  (∀ (w' : World), Later w w' → w'.cell? (a.add 3) = some (Value.int IntKind.u8 n_3)) ∧
  ∀ (w' : World),
  Later w w' →
  R
  (Ending.returned
  (Value.int IntKind.u32
  (bits BinOp.or IntKind.u32
  (bits BinOp.or IntKind.u32
  (bits BinOp.or IntKind.u32 (IntKind.u32.wrap n)
  (IntKind.u32.wrap (IntKind.u32.wrap n_1 * 256)))
  (IntKind.u32.wrap (IntKind.u32.wrap n_2 * 65536)))
  (IntKind.u32.wrap (IntKind.u32.wrap n_3 * 16777216)))))
  w'
theorem image_number.vc_eq (b' : Option Addr) (b'n : Nat) (b'c : Nat) (w : World) (R : Ending → World → Prop) : fnV Try.prog image_number.H 29 [Value.slice b' b'n b'c] w R = image_number.vc b' b'n b'c w R := by kernel_rfl
theorem image_number.calls {b' : Option Addr} {b'n : Nat} {b'c : Nat} {w : World} {R : Ending → World → Prop} (h : image_number.vc b' b'n b'c w R) : Calls Try.prog 29 ([Value.slice b' b'n b'c] : List Value).toArray w R := calls_of_eq (image_number.vc_eq b' b'n b'c w R) h

/- function 20: (*sacristy/image.text).put -/
abbrev sacristy_image_text_put.N : FuncId := 20
def sacristy_image_text_put.H : Hints := { mixes := [(2, 1001)] }
def sacristy_image_text_put.vc (t' : Option Addr) (w' : Int) (w : World) (R : Ending → World → Prop) : Prop :=
  Calls Proofs.Try.prog 31 #[Value.int IntKind.u32 w'] w fun (e : Ending) (w' : World) =>
  ∃ (n : Int),
  ∃ (n_1 : Int),
  ∃ (n_2 : Int),
  ∃ (n_3 : Int),
  ∃ (n_4 : Int),
  ∃ (n_5 : Int),
  e =
  Ending.returned
  (Value.tuple
  #[Value.agg
  #[Value.int IntKind.u8 n, Value.int IntKind.u8 n_1, Value.int IntKind.u8 n_2,
  Value.int IntKind.u8 n_3, Value.int IntKind.i64 n_4],
  Value.int IntKind.i64 n_5]) ∧
  ∀ (w'_1 : World),
  w'_1 =
  w'.alloc
  (Obj.cells
  #[Value.int IntKind.u8 0, Value.int IntKind.u8 0, Value.int IntKind.u8 0,
  Value.int IntKind.u8 0, Value.int IntKind.i64 0]
  39) →
  SetsAt w'_1 (Addr.mk w'.heap.size 0 none) 0
  [Value.int IntKind.u8 n, Value.int IntKind.u8 n_1, Value.int IntKind.u8 n_2,
  Value.int IntKind.u8 n_3, Value.int IntKind.i64 n_4] ∧
  ∀ (w'_2 : World),
  w'_2 =
  setCellsAt w'_1 (Addr.mk w'.heap.size 0 none) 0
  [Value.int IntKind.u8 n, Value.int IntKind.u8 n_1, Value.int IntKind.u8 n_2,
  Value.int IntKind.u8 n_3, Value.int IntKind.i64 n_4] →
  ∃ (C : World → Prop),
  (∀ (w' : World), Later w'_2 w' → C w') ∧
  ∀ (w'_3 : World),
  Later w'_2 w'_3 →
  Deref t' fun (a : Addr) =>
  ∃ (p : Option Addr),
  ∃ (n : Nat),
  ∃ (c : Nat),
  (∀ (w' : World), C w' → w'.cell? a = some (Value.slice p n c)) ∧
  ∃ (n_6 : Int),
  ∃ (n_7 : Int),
  ∃ (n_8 : Int),
  ∃ (n_9 : Int),
  ∃ (n_10 : Int),
  (∀ (w'_4 : World),
  C w'_4 →
  w'_4.cell? (Addr.mk w'.heap.size 0 none) =
  some (Value.int IntKind.u8 n_6) ∧
  w'_4.cell? (Addr.mk w'.heap.size 1 none) =
  some (Value.int IntKind.u8 n_7) ∧
  w'_4.cell? (Addr.mk w'.heap.size 2 none) =
  some (Value.int IntKind.u8 n_8) ∧
  w'_4.cell? (Addr.mk w'.heap.size 3 none) =
  some (Value.int IntKind.u8 n_9) ∧
  w'_4.cell? (Addr.mk w'.heap.size 4 none) =
  some (Value.int IntKind.i64 n_10) ∧
  True) ∧
  ∀ (w' : World),
  w' =
  w'_3.alloc
  (Obj.cells
  #[Value.int IntKind.u8 n_6, Value.int IntKind.u8 n_7,
  Value.int IntKind.u8 n_8, Value.int IntKind.u8 n_9,
  Value.int IntKind.i64 n_10]
  39) →
  C w' ∧
  RunsV Proofs.Try.prog
  (Builtin.append_ #[33, 33] 33
  #[Value.slice p n c,
  Value.slice (some (Addr.mk w'_3.heap.size 0 none)) 1
  1])
  w' fun (v : Value) (w' : World) =>
  ∃ (p : Option Addr),
  ∃ (n : Nat),
  ∃ (c : Nat),
  v = Value.slice p n c ∧
  C w' ∧
  Deref t' fun (a : Addr) =>
  ((w'.cell? a).isSome = true ∧
  w'.frozen? a = false) ∧
  ∀ (w'_4 : World),
  w'_4 =
  w'.setCell a (Value.slice p n c) →
  R
  (Ending.returned
  (Value.bool (n_5 == 0)))
  w'_4
theorem sacristy_image_text_put.vc_eq (t' : Option Addr) (w' : Int) (w : World) (R : Ending → World → Prop) : fnV Try.prog sacristy_image_text_put.H 20 [Value.pointer t', Value.int IntKind.u32 w'] w R = sacristy_image_text_put.vc t' w' w R := by kernel_rfl
theorem sacristy_image_text_put.calls {t' : Option Addr} {w' : Int} {w : World} {R : Ending → World → Prop} (h : sacristy_image_text_put.vc t' w' w R) : Calls Try.prog 20 ([Value.pointer t', Value.int IntKind.u32 w'] : List Value).toArray w R := calls_of_eq (sacristy_image_text_put.vc_eq t' w' w R) h

/- function 11: sacristy/image.Text -/
abbrev image_Text.N : FuncId := 11
def image_Text.H : Hints := { loops := [(4, [(4, .one (.int .i64)), (14, .one (.int .i64))]), (17, [(79, .one (.int .i64))])] }
def image_Text.vc (x'_0 : Int) (x'_1 : Option Addr) (x'_1n : Nat) (x'_1c : Nat) (x'_2 : Bool) (x'_3 : Bool) (x'_4 : Option Addr) (x'_4n : Nat) (x'_4c : Nat) (w : World) (R : Ending → World → Prop) : Prop :=
  ∀ (w' : World),
  w' =
  w.alloc
  (Obj.cells
  #[Value.int IntKind.i64 x'_0, Value.slice x'_1 x'_1n x'_1c, Value.bool x'_2, Value.bool x'_3,
  Value.slice x'_4 x'_4n x'_4c]
  25) →
  ∃ (p : Option Addr),
  ∃ (n : Nat),
  ∃ (c : Nat),
  w'.cell? (Addr.mk w.heap.size 1 none) = some (Value.slice p n c) ∧
  ∃ (I : List Value → World → Prop),
  ∃ (μ : List Value → World → Nat),
  I [Value.int IntKind.i64 0, Value.int IntKind.i64 0] w' ∧
  ∀ (g : Nat → Value) (words s14 : Int) (w' : World),
  I [Value.int IntKind.i64 words, Value.int IntKind.i64 s14] w' →
  cnd (decide (s14 < (↑n : Int)))
  ((0 ≤ s14 ∧ s14 < (↑n : Int)) ∧
  Deref p fun (a : Addr) =>
  ∃ (b : Bool),
  ∃ (b_1 : Bool),
  ∃ (b_2 : Bool),
  ∃ (n : Int),
  ∃ (n_1 : Int),
  (w'.cell? (a.add (s14.toNat * 5)) = some (Value.bool b) ∧
  w'.cell? ((a.add (s14.toNat * 5)).add 1) = some (Value.bool b_1) ∧
  w'.cell? ((a.add (s14.toNat * 5)).add 2) = some (Value.bool b_2) ∧
  w'.cell? ((a.add (s14.toNat * 5)).add 3) =
  some (Value.int IntKind.i64 n) ∧
  w'.cell? ((a.add (s14.toNat * 5)).add 4) =
  some (Value.int IntKind.i64 n_1) ∧
  True) ∧
  ∀ (w'_1 : World),
  w'_1 =
  w'.alloc
  (Obj.cells
  #[Value.bool false, Value.bool false, Value.bool false,
  Value.int IntKind.i64 0, Value.int IntKind.i64 0]
  50) →
  SetsAt w'_1 (Addr.mk w'.heap.size 0 none) 0
  [Value.bool b, Value.bool b_1, Value.bool b_2, Value.int IntKind.i64 n,
  Value.int IntKind.i64 n_1] ∧
  ∀ (w'_2 : World),
  w'_2 =
  setCellsAt w'_1 (Addr.mk w'.heap.size 0 none) 0
  [Value.bool b, Value.bool b_1, Value.bool b_2,
  Value.int IntKind.i64 n, Value.int IntKind.i64 n_1] →
  ∃ (b : Bool),
  w'_2.cell? (Addr.mk w'.heap.size 0 none) = some (Value.bool b) ∧
  cnd b
  (∃ (n : Int),
  w'_2.cell? (Addr.mk w'.heap.size 3 none) =
  some (Value.int IntKind.i64 n) ∧
  cnd (n != 0)
  (R
  (Ending.returned
  (Value.tuple
  #[Value.slice none 0 0, Value.int IntKind.i64 2]))
  w'_2)
  (∃ (n : Int),
  w'_2.cell? (Addr.mk w'.heap.size 4 none) =
  some (Value.int IntKind.i64 n) ∧
  cnd (n != 0)
  (R
  (Ending.returned
  (Value.tuple
  #[Value.slice none 0 0,
  Value.int IntKind.i64 2]))
  w'_2)
  (∃ (b : Bool),
  w'_2.cell? (Addr.mk w'.heap.size 2 none) =
  some (Value.bool b) ∧
  cnd b
  (∃ (b : Bool),
  w'_2.cell? (Addr.mk w'.heap.size 0 none) =
  some (Value.bool b) ∧
  cnd (!b)
  (R
  (Ending.returned
  (Value.tuple
  #[Value.slice none 0 0,
  Value.int IntKind.i64 2]))
  w'_2)
  (Goes I μ
  [Value.int IntKind.i64 words,
  Value.int IntKind.i64 s14]
  w'
  [Value.int IntKind.i64
  (IntKind.i64.wrap
  (IntKind.i64.wrap (words + 1) +
  1)),
  Value.int IntKind.i64
  (IntKind.i64.wrap (s14 + 1))]
  w'_2))
  (Goes I μ
  [Value.int IntKind.i64 words,
  Value.int IntKind.i64 s14]
  w'
  [Value.int IntKind.i64
  (IntKind.i64.wrap
  (IntKind.i64.wrap (words + 1) + 1)),
  Value.int IntKind.i64
  (IntKind.i64.wrap (s14 + 1))]
  w'_2))))
  (∃ (n : Int),
  w'_2.cell? (Addr.mk w'.heap.size 3 none) =
  some (Value.int IntKind.i64 n) ∧
  cnd (n != 0)
  (R
  (Ending.returned
  (Value.tuple
  #[Value.slice none 0 0, Value.int IntKind.i64 2]))
  w'_2)
  (∃ (n : Int),
  w'_2.cell? (Addr.mk w'.heap.size 4 none) =
  some (Value.int IntKind.i64 n) ∧
  cnd (n != 0)
  (R
  (Ending.returned
  (Value.tuple
  #[Value.slice none 0 0,
  Value.int IntKind.i64 2]))
  w'_2)
  (∃ (b : Bool),
  w'_2.cell? (Addr.mk w'.heap.size 2 none) =
  some (Value.bool b) ∧
  cnd b
  (∃ (b : Bool),
  w'_2.cell? (Addr.mk w'.heap.size 0 none) =
  some (Value.bool b) ∧
  cnd (!b)
  (R
  (Ending.returned
  (Value.tuple
  #[Value.slice none 0 0,
  Value.int IntKind.i64 2]))
  w'_2)
  (Goes I μ
  [Value.int IntKind.i64 words,
  Value.int IntKind.i64 s14]
  w'
  [Value.int IntKind.i64
  (IntKind.i64.wrap (words + 1)),
  Value.int IntKind.i64
  (IntKind.i64.wrap (s14 + 1))]
  w'_2))
  (Goes I μ
  [Value.int IntKind.i64 words,
  Value.int IntKind.i64 s14]
  w'
  [Value.int IntKind.i64
  (IntKind.i64.wrap (words + 1)),
  Value.int IntKind.i64
  (IntKind.i64.wrap (s14 + 1))]
  w'_2)))))
  (∃ (n : Int),
  w'.cell? (Addr.mk w.heap.size 0 none) = some (Value.int IntKind.i64 n) ∧
  cnd (decide (n < 0))
  (R (Ending.returned (Value.tuple #[Value.slice none 0 0, Value.int IntKind.i64 2])) w')
  (∃ (n : Int),
  w'.cell? (Addr.mk w.heap.size 0 none) = some (Value.int IntKind.i64 n) ∧
  cnd (decide (n > 255))
  (R (Ending.returned (Value.tuple #[Value.slice none 0 0, Value.int IntKind.i64 2]))
  w')
  (cnd (decide (words > 8))
  (R
  (Ending.returned (Value.tuple #[Value.slice none 0 0, Value.int IntKind.i64 2]))
  w')
  (∃ (b : Bool),
  w'.cell? (Addr.mk w.heap.size 3 none) = some (Value.bool b) ∧
  cnd b
  (∃ (b : Bool),
  w'.cell? (Addr.mk w.heap.size 2 none) = some (Value.bool b) ∧
  cnd (!b)
  (R
  (Ending.returned
  (Value.tuple #[Value.slice none 0 0, Value.int IntKind.i64 2]))
  w')
  (∃ (p : Option Addr),
  ∃ (n : Nat),
  ∃ (c : Nat),
  w'.cell? (Addr.mk w.heap.size 4 none) =
  some (Value.slice p n c) ∧
  cnd (decide ((↑n : Int) < 1))
  (R
  (Ending.returned
  (Value.tuple
  #[Value.slice none 0 0, Value.int IntKind.i64 2]))
  w')
  (∃ (p : Option Addr),
  ∃ (n : Nat),
  ∃ (c : Nat),
  w'.cell? (Addr.mk w.heap.size 4 none) =
  some (Value.slice p n c) ∧
  cnd (decide ((↑n : Int) > 131072))
  (R
  (Ending.returned
  (Value.tuple
  #[Value.slice none 0 0,
  Value.int IntKind.i64 2]))
  w')
  (∀ (w'_1 : World),
  w'_1 =
  w'.alloc
  (Obj.cells #[Value.slice none 0 0] 54) →
  ∃ (p : Option Addr),
  ∃ (n : Nat),
  ∃ (c : Nat),
  w'_1.cell?
  (Addr.mk w.heap.size 4 none) =
  some (Value.slice p n c) ∧
  ∃ (I : List Value → World → Prop),
  ∃ (μ : List Value → World → Nat),
  I [Value.int IntKind.i64 0] w'_1 ∧
  ∀ (g : Nat → Value) (s79 : Int)
  (w'_2 : World),
  I [Value.int IntKind.i64 s79]
  w'_2 →
  cnd
  (decide
  (s79 < (↑n : Int)))
  ((0 ≤ s79 ∧
  s79 < (↑n : Int)) ∧
  Deref p
  fun (a : Addr) =>
  ∃ (n : Int),
  w'_2.cell?
  (a.add
  (s79.toNat *
  1)) =
  some
  (Value.int
  IntKind.u32
  n) ∧
  Calls
  Proofs.Try.prog
  20
  #[Value.pointer
  (some
  (Addr.mk
  w'.heap.size
  0
  none)),
  Value.int
  IntKind.u32
  n]
  w'_2
  fun (e : Ending)
  (w' :
  World) =>
  ∃ (b : Bool),
  e =
  Ending.returned
  (Value.bool
  b) ∧
  cnd (!b)
  (R
  (Ending.returned
  (Value.tuple
  #[Value.slice
  none
  0
  0,
  Value.int
  IntKind.i64
  2]))
  w')
  (Goes I μ
  [Value.int
  IntKind.i64
  s79]
  w'_2
  [Value.int
  IntKind.i64
  (IntKind.i64.wrap
  (s79 +
  1))]
  w'))
  (∃ (p : Option Addr),
  ∃ (n : Nat),
  ∃ (c : Nat),
  w'_2.cell?
  (Addr.mk
  w'.heap.size
  0 none) =
  some
  (Value.slice p
  n c) ∧
  R
  (Ending.returned
  (Value.tuple
  #[Value.slice
  p n c,
  Value.int
  IntKind.i64
  0]))
  w'_2)))))
  (∃ (p : Option Addr),
  ∃ (n : Nat),
  ∃ (c : Nat),
  w'.cell? (Addr.mk w.heap.size 4 none) = some (Value.slice p n c) ∧
  cnd (decide ((↑n : Int) < 1))
  (R
  (Ending.returned
  (Value.tuple
  #[Value.slice none 0 0, Value.int IntKind.i64 2]))
  w')
  (∃ (p : Option Addr),
  ∃ (n : Nat),
  ∃ (c : Nat),
  w'.cell? (Addr.mk w.heap.size 4 none) =
  some (Value.slice p n c) ∧
  cnd (decide ((↑n : Int) > 131072))
  (R
  (Ending.returned
  (Value.tuple
  #[Value.slice none 0 0, Value.int IntKind.i64 2]))
  w')
  (∀ (w'_1 : World),
  w'_1 =
  w'.alloc (Obj.cells #[Value.slice none 0 0] 54) →
  ∃ (p : Option Addr),
  ∃ (n : Nat),
  ∃ (c : Nat),
  w'_1.cell? (Addr.mk w.heap.size 4 none) =
  some (Value.slice p n c) ∧
  ∃ (I : List Value → World → Prop),
  ∃ (μ : List Value → World → Nat),
  I [Value.int IntKind.i64 0] w'_1 ∧
  ∀ (g : Nat → Value) (s79 : Int)
  (w'_2 : World),
  I [Value.int IntKind.i64 s79] w'_2 →
  cnd (decide (s79 < (↑n : Int)))
  ((0 ≤ s79 ∧ s79 < (↑n : Int)) ∧
  Deref p fun (a : Addr) =>
  ∃ (n : Int),
  w'_2.cell?
  (a.add
  (s79.toNat * 1)) =
  some
  (Value.int
  IntKind.u32 n) ∧
  Calls Proofs.Try.prog 20
  #[Value.pointer
  (some
  (Addr.mk
  w'.heap.size 0
  none)),
  Value.int
  IntKind.u32 n]
  w'_2
  fun (e : Ending)
  (w' : World) =>
  ∃ (b : Bool),
  e =
  Ending.returned
  (Value.bool
  b) ∧
  cnd (!b)
  (R
  (Ending.returned
  (Value.tuple
  #[Value.slice
  none 0
  0,
  Value.int
  IntKind.i64
  2]))
  w')
  (Goes I μ
  [Value.int
  IntKind.i64
  s79]
  w'_2
  [Value.int
  IntKind.i64
  (IntKind.i64.wrap
  (s79 +
  1))]
  w'))
  (∃ (p : Option Addr),
  ∃ (n : Nat),
  ∃ (c : Nat),
  w'_2.cell?
  (Addr.mk
  w'.heap.size 0
  none) =
  some
  (Value.slice p n
  c) ∧
  R
  (Ending.returned
  (Value.tuple
  #[Value.slice p n
  c,
  Value.int
  IntKind.i64
  0]))
  w'_2))))))))
theorem image_Text.vc_eq (x'_0 : Int) (x'_1 : Option Addr) (x'_1n : Nat) (x'_1c : Nat) (x'_2 : Bool) (x'_3 : Bool) (x'_4 : Option Addr) (x'_4n : Nat) (x'_4c : Nat) (w : World) (R : Ending → World → Prop) : fnV Try.prog image_Text.H 11 [Value.agg
  #[Value.int IntKind.i64 x'_0, Value.slice x'_1 x'_1n x'_1c, Value.bool x'_2, Value.bool x'_3,
  Value.slice x'_4 x'_4n x'_4c]] w R = image_Text.vc x'_0 x'_1 x'_1n x'_1c x'_2 x'_3 x'_4 x'_4n x'_4c w R := by kernel_rfl
theorem image_Text.calls {x'_0 : Int} {x'_1 : Option Addr} {x'_1n : Nat} {x'_1c : Nat} {x'_2 : Bool} {x'_3 : Bool} {x'_4 : Option Addr} {x'_4n : Nat} {x'_4c : Nat} {w : World} {R : Ending → World → Prop} (h : image_Text.vc x'_0 x'_1 x'_1n x'_1c x'_2 x'_3 x'_4 x'_4n x'_4c w R) : Calls Try.prog 11 ([Value.agg
  #[Value.int IntKind.i64 x'_0, Value.slice x'_1 x'_1n x'_1c, Value.bool x'_2, Value.bool x'_3,
  Value.slice x'_4 x'_4n x'_4c]] : List Value).toArray w R := calls_of_eq (image_Text.vc_eq x'_0 x'_1 x'_1n x'_1c x'_2 x'_3 x'_4 x'_4n x'_4c w R) h

/- function 9: sacristy/image.Check -/
abbrev image_Check.N : FuncId := 9
def image_Check.H : Hints := {  }
def image_Check.vc (x'_0 : Int) (x'_1 : Option Addr) (x'_1n : Nat) (x'_1c : Nat) (x'_2 : Bool) (x'_3 : Bool) (x'_4 : Option Addr) (x'_4n : Nat) (x'_4c : Nat) (w : World) (R : Ending → World → Prop) : Prop :=
  ∀ (w' : World),
  w' =
  w.alloc
  (Obj.cells
  #[Value.int IntKind.i64 x'_0, Value.slice x'_1 x'_1n x'_1c, Value.bool x'_2, Value.bool x'_3,
  Value.slice x'_4 x'_4n x'_4c]
  25) →
  ∃ (n : Int),
  ∃ (p : Option Addr),
  ∃ (n_1 : Nat),
  ∃ (c : Nat),
  ∃ (b : Bool),
  ∃ (b_1 : Bool),
  ∃ (p_1 : Option Addr),
  ∃ (n_2 : Nat),
  ∃ (c_1 : Nat),
  (w'.cell? (Addr.mk w.heap.size 0 none) = some (Value.int IntKind.i64 n) ∧
  w'.cell? (Addr.mk w.heap.size 1 none) = some (Value.slice p n_1 c) ∧
  w'.cell? (Addr.mk w.heap.size 2 none) = some (Value.bool b) ∧
  w'.cell? (Addr.mk w.heap.size 3 none) = some (Value.bool b_1) ∧
  w'.cell? (Addr.mk w.heap.size 4 none) = some (Value.slice p_1 n_2 c_1) ∧ True) ∧
  Calls Proofs.Try.prog 11
  #[Value.agg
  #[Value.int IntKind.i64 n, Value.slice p n_1 c, Value.bool b, Value.bool b_1,
  Value.slice p_1 n_2 c_1]]
  w' fun (e : Ending) (w' : World) =>
  ∃ (p : Option Addr),
  ∃ (n : Nat),
  ∃ (c : Nat),
  ∃ (n_3 : Int),
  e = Ending.returned (Value.tuple #[Value.slice p n c, Value.int IntKind.i64 n_3]) ∧
  R (Ending.returned (Value.int IntKind.i64 n_3)) w'
theorem image_Check.vc_eq (x'_0 : Int) (x'_1 : Option Addr) (x'_1n : Nat) (x'_1c : Nat) (x'_2 : Bool) (x'_3 : Bool) (x'_4 : Option Addr) (x'_4n : Nat) (x'_4c : Nat) (w : World) (R : Ending → World → Prop) : fnV Try.prog image_Check.H 9 [Value.agg
  #[Value.int IntKind.i64 x'_0, Value.slice x'_1 x'_1n x'_1c, Value.bool x'_2, Value.bool x'_3,
  Value.slice x'_4 x'_4n x'_4c]] w R = image_Check.vc x'_0 x'_1 x'_1n x'_1c x'_2 x'_3 x'_4 x'_4n x'_4c w R := by kernel_rfl
theorem image_Check.calls {x'_0 : Int} {x'_1 : Option Addr} {x'_1n : Nat} {x'_1c : Nat} {x'_2 : Bool} {x'_3 : Bool} {x'_4 : Option Addr} {x'_4n : Nat} {x'_4c : Nat} {w : World} {R : Ending → World → Prop} (h : image_Check.vc x'_0 x'_1 x'_1n x'_1c x'_2 x'_3 x'_4 x'_4n x'_4c w R) : Calls Try.prog 9 ([Value.agg
  #[Value.int IntKind.i64 x'_0, Value.slice x'_1 x'_1n x'_1c, Value.bool x'_2, Value.bool x'_3,
  Value.slice x'_4 x'_4n x'_4c]] : List Value).toArray w R := calls_of_eq (image_Check.vc_eq x'_0 x'_1 x'_1n x'_1c x'_2 x'_3 x'_4 x'_4n x'_4c w R) h

/- function 10: sacristy/image.Put -/
abbrev image_Put.N : FuncId := 10
def image_Put.H : Hints := { loops := [(7, [(5, .one .slice), (29, .one (.int .i64))]), (13, [(5, .one .slice), (62, .one (.int .i64))])], mixes := [(10, 1001)] }
def image_Put.vc (x'_0 : Int) (x'_1 : Option Addr) (x'_1n : Nat) (x'_1c : Nat) (x'_2 : Bool) (x'_3 : Bool) (x'_4 : Option Addr) (x'_4n : Nat) (x'_4c : Nat) (w : World) (R : Ending → World → Prop) : Prop :=
  ∀ (w' : World),
  w' =
  w.alloc
  (Obj.cells
  #[Value.int IntKind.i64 x'_0, Value.slice x'_1 x'_1n x'_1c, Value.bool x'_2, Value.bool x'_3,
  Value.slice x'_4 x'_4n x'_4c]
  25) →
  ∃ (n : Int),
  ∃ (p : Option Addr),
  ∃ (n_1 : Nat),
  ∃ (c : Nat),
  ∃ (b : Bool),
  ∃ (b_1 : Bool),
  ∃ (p_1 : Option Addr),
  ∃ (n_2 : Nat),
  ∃ (c_1 : Nat),
  (w'.cell? (Addr.mk w.heap.size 0 none) = some (Value.int IntKind.i64 n) ∧
  w'.cell? (Addr.mk w.heap.size 1 none) = some (Value.slice p n_1 c) ∧
  w'.cell? (Addr.mk w.heap.size 2 none) = some (Value.bool b) ∧
  w'.cell? (Addr.mk w.heap.size 3 none) = some (Value.bool b_1) ∧
  w'.cell? (Addr.mk w.heap.size 4 none) = some (Value.slice p_1 n_2 c_1) ∧ True) ∧
  Calls Proofs.Try.prog 9
  #[Value.agg
  #[Value.int IntKind.i64 n, Value.slice p n_1 c, Value.bool b, Value.bool b_1,
  Value.slice p_1 n_2 c_1]]
  w' fun (e : Ending) (w' : World) =>
  ∃ (n : Int),
  e = Ending.returned (Value.int IntKind.i64 n) ∧
  cnd (n != 0)
  (R
  (Ending.returned
  (Value.tuple #[Value.string (ByteArray.mk #[]), Value.int IntKind.i64 n]))
  w')
  (∀ (w'_1 : World),
  w'_1 =
  w'.alloc
  (Obj.cells
  #[Value.int IntKind.u8 83, Value.int IntKind.u8 67, Value.int IntKind.u8 82,
  Value.int IntKind.u8 49]
  5) →
  RunsV Proofs.Try.prog
  (convert 48 48 (Value.slice (some (Addr.mk w'.heap.size 0 none)) 4 4)) w'_1
  fun (v : Value) (w' : World) =>
  ∃ (p : Option Addr),
  ∃ (n : Nat),
  ∃ (c : Nat),
  v = Value.slice p n c ∧
  ∃ (n_3 : Int),
  w'.cell? (Addr.mk w.heap.size 0 none) =
  some (Value.int IntKind.i64 n_3) ∧
  ∃ (p_2 : Option Addr),
  ∃ (n_4 : Nat),
  ∃ (c_2 : Nat),
  w'.cell? (Addr.mk w.heap.size 1 none) =
  some (Value.slice p_2 n_4 c_2) ∧
  ∀ (w'_2 : World),
  w'_2 =
  w'.alloc
  (Obj.cells
  #[Value.int IntKind.u8 (IntKind.u8.wrap n_3),
  Value.int IntKind.u8
  (IntKind.u8.wrap (↑n_4 : Int))]
  5) →
  RunsV Proofs.Try.prog
  (Builtin.append_ #[48, 48] 48
  #[Value.slice p n c,
  Value.slice (some (Addr.mk w'.heap.size 0 none)) 2
  2])
  w'_2 fun (v : Value) (w' : World) =>
  ∃ (p : Option Addr),
  ∃ (n : Nat),
  ∃ (c : Nat),
  v = Value.slice p n c ∧
  ∃ (p_3 : Option Addr),
  ∃ (n_5 : Nat),
  ∃ (c_3 : Nat),
  w'.cell? (Addr.mk w.heap.size 1 none) =
  some (Value.slice p_3 n_5 c_3) ∧
  ∃ (I : List Value → World → Prop),
  ∃ (μ : List Value → World → Nat),
  I
  [Value.slice p n c,
  Value.int IntKind.i64 0]
  w' ∧
  ∀ (g : Nat → Value)
  (b : Option Addr) (bn bc : Nat)
  (s29 : Int) (w' : World),
  I
  [Value.slice b bn bc,
  Value.int IntKind.i64 s29]
  w' →
  cnd
  (decide
  (s29 < (↑n_5 : Int)))
  ((0 ≤ s29 ∧
  s29 < (↑n_5 : Int)) ∧
  Deref p_3
  fun (a : Addr) =>
  ∃ (b_2 : Bool),
  ∃ (b_3 : Bool),
  ∃ (b_4 : Bool),
  ∃ (n : Int),
  ∃ (n_6 : Int),
  (w'.cell?
  (a.add
  (s29.toNat *
  5)) =
  some
  (Value.bool
  b_2) ∧
  w'.cell?
  ((a.add
  (s29.toNat *
  5)).add
  1) =
  some
  (Value.bool
  b_3) ∧
  w'.cell?
  ((a.add
  (s29.toNat *
  5)).add
  2) =
  some
  (Value.bool
  b_4) ∧
  w'.cell?
  ((a.add
  (s29.toNat *
  5)).add
  3) =
  some
  (Value.int
  IntKind.i64
  n) ∧
  w'.cell?
  ((a.add
  (s29.toNat *
  5)).add
  4) =
  some
  (Value.int
  IntKind.i64
  n_6) ∧
  True) ∧
  ∀
  (w'_3 :
  World),
  w'_3 =
  w'.alloc
  (Obj.cells
  #[Value.bool
  false,
  Value.bool
  false,
  Value.bool
  false,
  Value.int
  IntKind.i64
  0,
  Value.int
  IntKind.i64
  0]
  50) →
  SetsAt
  w'_3
  (Addr.mk
  w'.heap.size
  0
  none)
  0
  [Value.bool
  b_2,
  Value.bool
  b_3,
  Value.bool
  b_4,
  Value.int
  IntKind.i64
  n,
  Value.int
  IntKind.i64
  n_6] ∧
  ∀
  (w'_4 :
  World),
  w'_4 =
  setCellsAt
  w'_3
  (Addr.mk
  w'.heap.size
  0
  none)
  0
  [Value.bool
  b_2,
  Value.bool
  b_3,
  Value.bool
  b_4,
  Value.int
  IntKind.i64
  n,
  Value.int
  IntKind.i64
  n_6] →
  ∃
  (b_5
  :
  Bool),
  w'_4.cell?
  (Addr.mk
  w'.heap.size
  0
  none) =
  some
  (Value.bool
  b_5) ∧
  ∃
  (b_6
  :
  Bool),
  w'_4.cell?
  (Addr.mk
  w'.heap.size
  1
  none) =
  some
  (Value.bool
  b_6) ∧
  ∃
  (b_7
  :
  Bool),
  w'_4.cell?
  (Addr.mk
  w'.heap.size
  2
  none) =
  some
  (Value.bool
  b_7) ∧
  ∀
  (w'_5 :
  World),
  w'_5 =
  w'_4.alloc
  (Obj.cells
  #[Value.bool
  b_5,
  Value.bool
  b_6,
  Value.bool
  b_7]
  4) →
  Calls
  Proofs.Try.prog
  18
  #[Value.slice
  (some
  (Addr.mk
  w'_4.heap.size
  0
  none))
  3
  3]
  w'_5
  fun
  (e :
  Ending)
  (w'_6 :
  World) =>
  ∃
  (n
  :
  Int),
  e =
  Ending.returned
  (Value.int
  IntKind.u8
  n) ∧
  ∀
  (w'_7 :
  World),
  w'_7 =
  w'_6.alloc
  (Obj.cells
  #[Value.int
  IntKind.u8
  n]
  5) →
  RunsV
  Proofs.Try.prog
  (Builtin.append_
  #[48,
  48]
  48
  #[Value.slice
  b
  bn
  bc,
  Value.slice
  (some
  (Addr.mk
  w'_6.heap.size
  0
  none))
  1
  1])
  w'_7
  fun
  (v :
  Value)
  (w'_8 :
  World) =>
  ∃
  (p
  :
  Option
  Addr),
  ∃
  (n
  :
  Nat),
  ∃
  (c
  :
  Nat),
  v =
  Value.slice
  p
  n
  c ∧
  Goes
  I
  μ
  [Value.slice
  b
  bn
  bc,
  Value.int
  IntKind.i64
  s29]
  w'
  [Value.slice
  p
  n
  c,
  Value.int
  IntKind.i64
  (IntKind.i64.wrap
  (s29 +
  1))]
  w'_8)
  (∃ (C : World → Prop),
  (∀ (w'_3 : World),
  Later w' w'_3 →
  C w'_3) ∧
  ∀ (w'_3 : World),
  Later w' w'_3 →
  ∃ (b_2 : Bool),
  (∀ (w' : World),
  C w' →
  w'.cell?
  (Addr.mk
  w.heap.size
  2
  none) =
  some
  (Value.bool
  b_2)) ∧
  ∃ (b_3 : Bool),
  (∀
  (w' :
  World),
  C w' →
  w'.cell?
  (Addr.mk
  w.heap.size
  3
  none) =
  some
  (Value.bool
  b_3)) ∧
  ∃ (p :
  Option
  Addr),
  ∃ (n :
  Nat),
  ∃ (c :
  Nat),
  (∀
  (w' :
  World),
  C
  w' →
  w'.cell?
  (Addr.mk
  w.heap.size
  4
  none) =
  some
  (Value.slice
  p
  n
  c)) ∧
  ∀
  (w' :
  World),
  w' =
  w'_3.alloc
  (Obj.cells
  #[Value.bool
  b_2,
  Value.bool
  b_3]
  4) →
  C
  w' ∧
  Calls
  Proofs.Try.prog
  18
  #[Value.slice
  (some
  (Addr.mk
  w'_3.heap.size
  0
  none))
  2
  2]
  w'
  fun
  (e :
  Ending)
  (w' :
  World) =>
  ∃
  (n_6
  :
  Int),
  e =
  Ending.returned
  (Value.int
  IntKind.u8
  n_6) ∧
  C
  w' ∧
  ∀
  (w'_4 :
  World),
  w'_4 =
  w'.alloc
  (Obj.cells
  #[Value.int
  IntKind.u8
  n_6]
  5) →
  C
  w'_4 ∧
  RunsV
  Proofs.Try.prog
  (Builtin.append_
  #[48,
  48]
  48
  #[Value.slice
  b
  bn
  bc,
  Value.slice
  (some
  (Addr.mk
  w'.heap.size
  0
  none))
  1
  1])
  w'_4
  fun
  (v :
  Value)
  (w' :
  World) =>
  ∃
  (p
  :
  Option
  Addr),
  ∃
  (n_7
  :
  Nat),
  ∃
  (c
  :
  Nat),
  v =
  Value.slice
  p
  n_7
  c ∧
  C
  w' ∧
  Calls
  Proofs.Try.prog
  19
  #[Value.slice
  p
  n_7
  c,
  Value.int
  IntKind.u32
  (IntKind.u32.wrap
  (↑n :
  Int))]
  w'
  fun
  (e :
  Ending)
  (w' :
  World) =>
  ∃
  (p
  :
  Option
  Addr),
  ∃
  (n
  :
  Nat),
  ∃
  (c
  :
  Nat),
  e =
  Ending.returned
  (Value.slice
  p
  n
  c) ∧
  C
  w' ∧
  ∃
  (p_4
  :
  Option
  Addr),
  ∃
  (n_8
  :
  Nat),
  ∃
  (c_4
  :
  Nat),
  w'.cell?
  (Addr.mk
  w.heap.size
  4
  none) =
  some
  (Value.slice
  p_4
  n_8
  c_4) ∧
  ∃
  (I
  :
  List
  Value →
  World →
  Prop),
  ∃
  (μ
  :
  List
  Value →
  World →
  Nat),
  I
  [Value.slice
  p
  n
  c,
  Value.int
  IntKind.i64
  0]
  w' ∧
  ∀
  (g :
  Nat →
  Value)
  (b :
  Option
  Addr)
  (bn
  bc :
  Nat)
  (s62 :
  Int)
  (w' :
  World),
  I
  [Value.slice
  b
  bn
  bc,
  Value.int
  IntKind.i64
  s62]
  w' →
  cnd
  (decide
  (s62 <
  (↑n_8 :
  Int)))
  ((0 ≤
  s62 ∧
  s62 <
  (↑n_8 :
  Int)) ∧
  Deref
  p_4
  fun
  (a :
  Addr) =>
  ∃
  (n
  :
  Int),
  w'.cell?
  (a.add
  (s62.toNat *
  1)) =
  some
  (Value.int
  IntKind.u32
  n) ∧
  Calls
  Proofs.Try.prog
  19
  #[Value.slice
  b
  bn
  bc,
  Value.int
  IntKind.u32
  n]
  w'
  fun
  (e :
  Ending)
  (w'_5 :
  World) =>
  ∃
  (p
  :
  Option
  Addr),
  ∃
  (n
  :
  Nat),
  ∃
  (c
  :
  Nat),
  e =
  Ending.returned
  (Value.slice
  p
  n
  c) ∧
  Goes
  I
  μ
  [Value.slice
  b
  bn
  bc,
  Value.int
  IntKind.i64
  s62]
  w'
  [Value.slice
  p
  n
  c,
  Value.int
  IntKind.i64
  (IntKind.i64.wrap
  (s62 +
  1))]
  w'_5)
  (RunsV
  Proofs.Try.prog
  (convert
  48
  9
  (Value.slice
  b
  bn
  bc))
  w'
  fun
  (v :
  Value)
  (w' :
  World) =>
  ∃
  (s
  :
  ByteArray),
  v =
  Value.string
  s ∧
  R
  (Ending.returned
  (Value.tuple
  #[Value.string
  s,
  Value.int
  IntKind.i64
  0]))
  w')))
theorem image_Put.vc_eq (x'_0 : Int) (x'_1 : Option Addr) (x'_1n : Nat) (x'_1c : Nat) (x'_2 : Bool) (x'_3 : Bool) (x'_4 : Option Addr) (x'_4n : Nat) (x'_4c : Nat) (w : World) (R : Ending → World → Prop) : fnV Try.prog image_Put.H 10 [Value.agg
  #[Value.int IntKind.i64 x'_0, Value.slice x'_1 x'_1n x'_1c, Value.bool x'_2, Value.bool x'_3,
  Value.slice x'_4 x'_4n x'_4c]] w R = image_Put.vc x'_0 x'_1 x'_1n x'_1c x'_2 x'_3 x'_4 x'_4n x'_4c w R := by kernel_rfl
theorem image_Put.calls {x'_0 : Int} {x'_1 : Option Addr} {x'_1n : Nat} {x'_1c : Nat} {x'_2 : Bool} {x'_3 : Bool} {x'_4 : Option Addr} {x'_4n : Nat} {x'_4c : Nat} {w : World} {R : Ending → World → Prop} (h : image_Put.vc x'_0 x'_1 x'_1n x'_1c x'_2 x'_3 x'_4 x'_4n x'_4c w R) : Calls Try.prog 10 ([Value.agg
  #[Value.int IntKind.i64 x'_0, Value.slice x'_1 x'_1n x'_1c, Value.bool x'_2, Value.bool x'_3,
  Value.slice x'_4 x'_4n x'_4c]] : List Value).toArray w R := calls_of_eq (image_Put.vc_eq x'_0 x'_1 x'_1n x'_1c x'_2 x'_3 x'_4 x'_4n x'_4c w R) h

/- function 28: sacristy/image.Get$1 -/
abbrev image_Get_1.N : FuncId := 28
def image_Get_1.H : Hints := {  }
def image_Get_1.vc (n' : Int) (c0 : Option Addr) (c1 : Option Addr) (c2 : Option Addr) (w : World) (R : Ending → World → Prop) : Prop :=
  Deref c0 fun (ad : Addr) =>
  ∃ (b : Bool),
  w.cell? ad = some (Value.bool b) ∧
  cnd b
  (Deref c0 fun (ad : Addr) =>
  ((w.cell? ad).isSome = true ∧ w.frozen? ad = false) ∧
  ∀ (w' : World),
  w' = w.setCell ad (Value.bool true) →
  Deref c0 fun (ad : Addr) =>
  ∃ (b : Bool),
  w'.cell? ad = some (Value.bool b) ∧
  cnd b
  (RunsV Proofs.Try.prog
  (Instr.makeSlice 48 (Value.int IntKind.i64 (gomin n' 8)) (Value.int IntKind.i64 (gomin n' 8)))
  w' fun (v : Value) (w' : World) =>
  ∃ (p : Option Addr),
  ∃ (n : Nat),
  ∃ (c : Nat), v = Value.slice p n c ∧ R (Ending.returned (Value.slice p n c)) w')
  (Deref c2 fun (ad : Addr) =>
  ∃ (n : Int),
  w'.cell? ad = some (Value.int IntKind.i64 n) ∧
  Deref c2 fun (ad : Addr) =>
  ((w'.cell? ad).isSome = true ∧ w'.frozen? ad = false) ∧
  ∀ (w'_1 : World),
  w'_1 = w'.setCell ad (Value.int IntKind.i64 (IntKind.i64.wrap (n + n'))) →
  Deref c1 fun (ad : Addr) =>
  ∃ (s : ByteArray),
  w'_1.cell? ad = some (Value.string s) ∧
  Deref c2 fun (ad : Addr) =>
  ∃ (n : Int),
  w'_1.cell? ad = some (Value.int IntKind.i64 n) ∧
  Deref c2 fun (ad : Addr) =>
  ∃ (n_1 : Int),
  w'_1.cell? ad = some (Value.int IntKind.i64 n_1) ∧
  (0 ≤ n_1 ∧ n_1 ≤ (↑s.size : Int)) ∧
  (0 ≤ IntKind.i64.wrap (n - n') ∧
  IntKind.i64.wrap (n - n') ≤ (↑n_1.toNat : Int)) ∧
  RunsV Proofs.Try.prog
  (convert 9 48
  (Value.string
  (s.extract (IntKind.i64.wrap (n - n')).toNat
  n_1.toNat)))
  w'_1 fun (v : Value) (w' : World) =>
  ∃ (p : Option Addr),
  ∃ (n : Nat),
  ∃ (c : Nat),
  v = Value.slice p n c ∧
  R (Ending.returned (Value.slice p n c)) w'))
  (Deref c1 fun (ad : Addr) =>
  ∃ (s : ByteArray),
  w.cell? ad = some (Value.string s) ∧
  Deref c2 fun (ad : Addr) =>
  ∃ (n : Int),
  w.cell? ad = some (Value.int IntKind.i64 n) ∧
  Deref c0 fun (ad : Addr) =>
  ((w.cell? ad).isSome = true ∧ w.frozen? ad = false) ∧
  ∀ (w' : World),
  w' = w.setCell ad (Value.bool (decide (n' > IntKind.i64.wrap ((↑s.size : Int) - n)))) →
  Deref c0 fun (ad : Addr) =>
  ∃ (b : Bool),
  w'.cell? ad = some (Value.bool b) ∧
  cnd b
  (RunsV Proofs.Try.prog
  (Instr.makeSlice 48 (Value.int IntKind.i64 (gomin n' 8))
  (Value.int IntKind.i64 (gomin n' 8)))
  w' fun (v : Value) (w' : World) =>
  ∃ (p : Option Addr),
  ∃ (n : Nat),
  ∃ (c : Nat),
  v = Value.slice p n c ∧ R (Ending.returned (Value.slice p n c)) w')
  (Deref c2 fun (ad : Addr) =>
  ∃ (n : Int),
  w'.cell? ad = some (Value.int IntKind.i64 n) ∧
  Deref c2 fun (ad : Addr) =>
  ((w'.cell? ad).isSome = true ∧ w'.frozen? ad = false) ∧
  ∀ (w'_1 : World),
  w'_1 =
  w'.setCell ad (Value.int IntKind.i64 (IntKind.i64.wrap (n + n'))) →
  Deref c1 fun (ad : Addr) =>
  ∃ (s : ByteArray),
  w'_1.cell? ad = some (Value.string s) ∧
  Deref c2 fun (ad : Addr) =>
  ∃ (n : Int),
  w'_1.cell? ad = some (Value.int IntKind.i64 n) ∧
  Deref c2 fun (ad : Addr) =>
  ∃ (n_1 : Int),
  w'_1.cell? ad = some (Value.int IntKind.i64 n_1) ∧
  (0 ≤ n_1 ∧ n_1 ≤ (↑s.size : Int)) ∧
  (0 ≤ IntKind.i64.wrap (n - n') ∧
  IntKind.i64.wrap (n - n') ≤
  (↑n_1.toNat : Int)) ∧
  RunsV Proofs.Try.prog
  (convert 9 48
  (Value.string
  (s.extract
  (IntKind.i64.wrap (n - n')).toNat
  n_1.toNat)))
  w'_1 fun (v : Value) (w' : World) =>
  ∃ (p : Option Addr),
  ∃ (n : Nat),
  ∃ (c : Nat),
  v = Value.slice p n c ∧
  R
  (Ending.returned
  (Value.slice p n c))
  w'))
theorem image_Get_1.vc_eq (n' : Int) (c0 : Option Addr) (c1 : Option Addr) (c2 : Option Addr) (w : World) (R : Ending → World → Prop) : fnV Try.prog image_Get_1.H 28 [Value.int IntKind.i64 n', Value.pointer c0, Value.pointer c1, Value.pointer c2] w R = image_Get_1.vc n' c0 c1 c2 w R := by kernel_rfl
theorem image_Get_1.calls {n' : Int} {c0 : Option Addr} {c1 : Option Addr} {c2 : Option Addr} {w : World} {R : Ending → World → Prop} (h : image_Get_1.vc n' c0 c1 c2 w R) : Calls Try.prog 28 ([Value.int IntKind.i64 n', Value.pointer c0, Value.pointer c1, Value.pointer c2] : List Value).toArray w R := calls_of_eq (image_Get_1.vc_eq n' c0 c1 c2 w R) h

/- function 16: sacristy/image.Get -/
abbrev image_Get.N : FuncId := 16
def image_Get.H : Hints := { loops := [(11, [(37, .one (.int .i64))]), (18, [(12, .one (.int .u32))])], regs := [(17, [(79, .one .bool)])], mixes := [(19, 1001)] }
def image_Get.vc (s' : ByteArray) (w : World) (R : Ending → World → Prop) : Prop :=
  ∀ (w' : World),
  w' = w.alloc (Obj.cells #[Value.string s'] 9) →
  ∀ (w'_1 : World),
  w'_1 =
  w'.alloc
  (Obj.cells
  #[Value.int IntKind.i64 0, Value.slice none 0 0, Value.bool false, Value.bool false, Value.slice none 0 0]
  25) →
  ∃ (s : ByteArray),
  w'_1.cell? (Addr.mk w.heap.size 0 none) = some (Value.string s) ∧
  ∃ (s_1 : ByteArray),
  w'_1.cell? (Addr.mk w.heap.size 0 none) = some (Value.string s_1) ∧
  (0 ≤ gomin (↑s.size : Int) 4 ∧ gomin (↑s.size : Int) 4 ≤ (↑s_1.size : Int)) ∧
  Calls Proofs.Try.prog 27
  #[Value.string (ByteArray.mk #[83, 67, 82, 49]),
  Value.string (s_1.extract 0 (gomin (↑s.size : Int) 4).toNat)]
  w'_1 fun (e : Ending) (w'_2 : World) =>
  ∃ (b : Bool),
  e = Ending.returned (Value.bool b) ∧
  cnd (!b)
  (SetsAt w'_2 (Addr.mk w'.heap.size 0 none) 0
  [Value.int IntKind.i64 0, Value.slice none 0 0, Value.bool false, Value.bool false,
  Value.slice none 0 0] ∧
  ∀ (w'_3 : World),
  w'_3 =
  setCellsAt w'_2 (Addr.mk w'.heap.size 0 none) 0
  [Value.int IntKind.i64 0, Value.slice none 0 0, Value.bool false, Value.bool false,
  Value.slice none 0 0] →
  ∃ (n : Int),
  ∃ (p : Option Addr),
  ∃ (n_1 : Nat),
  ∃ (c : Nat),
  ∃ (b : Bool),
  ∃ (b_1 : Bool),
  ∃ (p_1 : Option Addr),
  ∃ (n_2 : Nat),
  ∃ (c_1 : Nat),
  (w'_3.cell? (Addr.mk w'.heap.size 0 none) =
  some (Value.int IntKind.i64 n) ∧
  w'_3.cell? (Addr.mk w'.heap.size 1 none) =
  some (Value.slice p n_1 c) ∧
  w'_3.cell? (Addr.mk w'.heap.size 2 none) = some (Value.bool b) ∧
  w'_3.cell? (Addr.mk w'.heap.size 3 none) =
  some (Value.bool b_1) ∧
  w'_3.cell? (Addr.mk w'.heap.size 4 none) =
  some (Value.slice p_1 n_2 c_1) ∧
  True) ∧
  R
  (Ending.returned
  (Value.tuple
  #[Value.agg
  #[Value.int IntKind.i64 n, Value.slice p n_1 c,
  Value.bool b, Value.bool b_1, Value.slice p_1 n_2 c_1],
  Value.int IntKind.i64 7]))
  w'_3)
  (∀ (w'_3 : World),
  w'_3 = w'_2.alloc (Obj.cells #[Value.int IntKind.i64 0] 3) →
  ∀ (w'_4 : World),
  w'_4 = w'_3.alloc (Obj.cells #[Value.bool false] 4) →
  ((w'_4.cell? (Addr.mk w'_2.heap.size 0 none)).isSome = true ∧
  w'_4.frozen? (Addr.mk w'_2.heap.size 0 none) = false) ∧
  ∀ (w'_5 : World),
  w'_5 = w'_4.setCell (Addr.mk w'_2.heap.size 0 none) (Value.int IntKind.i64 4) →
  ((w'_5.cell? (Addr.mk w'_3.heap.size 0 none)).isSome = true ∧
  w'_5.frozen? (Addr.mk w'_3.heap.size 0 none) = false) ∧
  ∀ (w'_6 : World),
  w'_6 = w'_5.setCell (Addr.mk w'_3.heap.size 0 none) (Value.bool false) →
  ∀ (w'_7 : World),
  w'_7 =
  w'_6.alloc
  (Obj.cells
  #[Value.int IntKind.i64 0, Value.slice none 0 0,
  Value.bool false, Value.bool false, Value.slice none 0 0]
  25) →
  Calls Proofs.Try.prog 28
  #[Value.int IntKind.i64 1,
  Value.pointer (some (Addr.mk w'_3.heap.size 0 none)),
  Value.pointer (some (Addr.mk w.heap.size 0 none)),
  Value.pointer (some (Addr.mk w'_2.heap.size 0 none))]
  w'_7 fun (e : Ending) (w'_8 : World) =>
  ∃ (p : Option Addr),
  ∃ (n : Nat),
  ∃ (c : Nat),
  e = Ending.returned (Value.slice p n c) ∧
  (Int.le 0 0 ∧ 0 < (↑n : Int)) ∧
  Deref p fun (a : Addr) =>
  ∃ (n : Int),
  w'_8.cell? a = some (Value.int IntKind.u8 n) ∧
  ((w'_8.cell?
  (Addr.mk w'_6.heap.size 0 none)).isSome =
  true ∧
  w'_8.frozen? (Addr.mk w'_6.heap.size 0 none) =
  false) ∧
  ∀ (w'_9 : World),
  w'_9 =
  w'_8.setCell (Addr.mk w'_6.heap.size 0 none)
  (Value.int IntKind.i64
  (IntKind.i64.wrap n)) →
  Calls Proofs.Try.prog 28
  #[Value.int IntKind.i64 1,
  Value.pointer
  (some (Addr.mk w'_3.heap.size 0 none)),
  Value.pointer
  (some (Addr.mk w.heap.size 0 none)),
  Value.pointer
  (some (Addr.mk w'_2.heap.size 0 none))]
  w'_9 fun (e : Ending) (w'_10 : World) =>
  ∃ (p : Option Addr),
  ∃ (n : Nat),
  ∃ (c : Nat),
  e =
  Ending.returned
  (Value.slice p n c) ∧
  (Int.le 0 0 ∧ 0 < (↑n : Int)) ∧
  Deref p fun (a : Addr) =>
  ∃ (n : Int),
  w'_10.cell? a =
  some
  (Value.int IntKind.u8
  n) ∧
  ∃ (I :
  List Value →
  World → Prop),
  ∃ (μ :
  List Value →
  World → Nat),
  I
  [Value.int
  IntKind.i64 0]
  w'_10 ∧
  ∀ (g : Nat → Value)
  (s37 : Int)
  (w'_11 : World),
  I
  [Value.int
  IntKind.i64
  s37]
  w'_11 →
  cnd
  (decide
  (s37 <
  IntKind.i64.wrap
  n))
  (Calls
  Proofs.Try.prog
  28
  #[Value.int
  IntKind.i64
  1,
  Value.pointer
  (some
  (Addr.mk
  w'_3.heap.size
  0
  none)),
  Value.pointer
  (some
  (Addr.mk
  w.heap.size
  0
  none)),
  Value.pointer
  (some
  (Addr.mk
  w'_2.heap.size
  0
  none))]
  w'_11
  fun
  (e : Ending)
  (w' :
  World) =>
  ∃ (p :
  Option
  Addr),
  ∃ (n : Nat),
  ∃ (c :
  Nat),
  e =
  Ending.returned
  (Value.slice
  p
  n
  c) ∧
  (Int.le
  0
  0 ∧
  0 <
  (↑n :
  Int)) ∧
  Deref
  p
  fun
  (a :
  Addr) =>
  ∃
  (n
  :
  Int),
  w'.cell?
  a =
  some
  (Value.int
  IntKind.u8
  n) ∧
  ∃
  (p
  :
  Option
  Addr),
  ∃
  (n_1
  :
  Nat),
  ∃
  (c
  :
  Nat),
  w'.cell?
  (Addr.mk
  w'_6.heap.size
  1
  none) =
  some
  (Value.slice
  p
  n_1
  c) ∧
  ∀
  (w'_12 :
  World),
  w'_12 =
  w'.alloc
  (Obj.cells
  #[Value.bool
  (decide
  (bits
  BinOp.and
  IntKind.u8
  n
  1 >
  0)),
  Value.bool
  (decide
  (bits
  BinOp.and
  IntKind.u8
  n
  2 >
  0)),
  Value.bool
  (decide
  (bits
  BinOp.and
  IntKind.u8
  n
  4 >
  0)),
  Value.int
  IntKind.i64
  0,
  Value.int
  IntKind.i64
  0]
  50) →
  RunsV
  Proofs.Try.prog
  (Builtin.append_
  #[22,
  22]
  22
  #[Value.slice
  p
  n_1
  c,
  Value.slice
  (some
  (Addr.mk
  w'.heap.size
  0
  none))
  1
  1])
  w'_12
  fun
  (v :
  Value)
  (w' :
  World) =>
  ∃
  (p
  :
  Option
  Addr),
  ∃
  (n
  :
  Nat),
  ∃
  (c
  :
  Nat),
  v =
  Value.slice
  p
  n
  c ∧
  ((w'.cell?
  (Addr.mk
  w'_6.heap.size
  1
  none)).isSome =
  true ∧
  w'.frozen?
  (Addr.mk
  w'_6.heap.size
  1
  none) =
  false) ∧
  ∀
  (w'_13 :
  World),
  w'_13 =
  w'.setCell
  (Addr.mk
  w'_6.heap.size
  1
  none)
  (Value.slice
  p
  n
  c) →
  Goes
  I
  μ
  [Value.int
  IntKind.i64
  s37]
  w'_11
  [Value.int
  IntKind.i64
  (IntKind.i64.wrap
  (s37 +
  1))]
  w'_13)
  (Calls
  Proofs.Try.prog
  28
  #[Value.int
  IntKind.i64
  1,
  Value.pointer
  (some
  (Addr.mk
  w'_3.heap.size
  0
  none)),
  Value.pointer
  (some
  (Addr.mk
  w.heap.size
  0
  none)),
  Value.pointer
  (some
  (Addr.mk
  w'_2.heap.size
  0
  none))]
  w'_11
  fun
  (e : Ending)
  (w'_12 :
  World) =>
  ∃ (p :
  Option
  Addr),
  ∃ (n : Nat),
  ∃ (c :
  Nat),
  e =
  Ending.returned
  (Value.slice
  p
  n
  c) ∧
  (Int.le
  0
  0 ∧
  0 <
  (↑n :
  Int)) ∧
  Deref
  p
  fun
  (a :
  Addr) =>
  ∃
  (n
  :
  Int),
  w'_12.cell?
  a =
  some
  (Value.int
  IntKind.u8
  n) ∧
  ((w'_12.cell?
  (Addr.mk
  w'_6.heap.size
  2
  none)).isSome =
  true ∧
  w'_12.frozen?
  (Addr.mk
  w'_6.heap.size
  2
  none) =
  false) ∧
  ∀
  (w'_13 :
  World),
  w'_13 =
  w'_12.setCell
  (Addr.mk
  w'_6.heap.size
  2
  none)
  (Value.bool
  (decide
  (bits
  BinOp.and
  IntKind.u8
  n
  1 >
  0))) →
  ((w'_13.cell?
  (Addr.mk
  w'_6.heap.size
  3
  none)).isSome =
  true ∧
  w'_13.frozen?
  (Addr.mk
  w'_6.heap.size
  3
  none) =
  false) ∧
  ∀
  (w'_14 :
  World),
  w'_14 =
  w'_13.setCell
  (Addr.mk
  w'_6.heap.size
  3
  none)
  (Value.bool
  (decide
  (bits
  BinOp.and
  IntKind.u8
  n
  2 >
  0))) →
  Calls
  Proofs.Try.prog
  28
  #[Value.int
  IntKind.i64
  4,
  Value.pointer
  (some
  (Addr.mk
  w'_3.heap.size
  0
  none)),
  Value.pointer
  (some
  (Addr.mk
  w.heap.size
  0
  none)),
  Value.pointer
  (some
  (Addr.mk
  w'_2.heap.size
  0
  none))]
  w'_14
  fun
  (e :
  Ending)
  (w'_15 :
  World) =>
  ∃
  (p
  :
  Option
  Addr),
  ∃
  (n
  :
  Nat),
  ∃
  (c
  :
  Nat),
  e =
  Ending.returned
  (Value.slice
  p
  n
  c) ∧
  Calls
  Proofs.Try.prog
  29
  #[Value.slice
  p
  n
  c]
  w'_15
  fun
  (e :
  Ending)
  (w'_16 :
  World) =>
  ∃
  (n
  :
  Int),
  e =
  Ending.returned
  (Value.int
  IntKind.u32
  n) ∧
  ∃
  (I
  :
  List
  Value →
  World →
  Prop),
  ∃
  (μ
  :
  List
  Value →
  World →
  Nat),
  I
  [Value.int
  IntKind.u32
  n]
  w'_16 ∧
  ∀
  (g :
  Nat →
  Value)
  (n :
  Int)
  (w'_17 :
  World),
  I
  [Value.int
  IntKind.u32
  n]
  w'_17 →
  ∃
  (J
  :
  List
  Value →
  World →
  Prop),
  cnd
  (decide
  (n >
  0))
  (∃
  (b
  :
  Bool),
  w'_17.cell?
  (Addr.mk
  w'_3.heap.size
  0
  none) =
  some
  (Value.bool
  b) ∧
  J
  [Value.bool
  !b]
  w'_17)
  (J
  [Value.bool
  false]
  w'_17) ∧
  ∀
  (g :
  Nat →
  Value)
  (s79 :
  Bool)
  (w'_18 :
  World),
  J
  [Value.bool
  s79]
  w'_18 →
  cnd
  s79
  (∃
  (C
  :
  World →
  Prop),
  (∀
  (w' :
  World),
  Later
  w'_18
  w' →
  C
  w') ∧
  ∀
  (w' :
  World),
  Later
  w'_18
  w' →
  ∃
  (p
  :
  Option
  Addr),
  ∃
  (n_1
  :
  Nat),
  ∃
  (c
  :
  Nat),
  (∀
  (w' :
  World),
  C
  w' →
  w'.cell?
  (Addr.mk
  w'_6.heap.size
  4
  none) =
  some
  (Value.slice
  p
  n_1
  c)) ∧
  Calls
  Proofs.Try.prog
  28
  #[Value.int
  IntKind.i64
  4,
  Value.pointer
  (some
  (Addr.mk
  w'_3.heap.size
  0
  none)),
  Value.pointer
  (some
  (Addr.mk
  w.heap.size
  0
  none)),
  Value.pointer
  (some
  (Addr.mk
  w'_2.heap.size
  0
  none))]
  w'
  fun
  (e :
  Ending)
  (w' :
  World) =>
  ∃
  (p_1
  :
  Option
  Addr),
  ∃
  (n_2
  :
  Nat),
  ∃
  (c_1
  :
  Nat),
  e =
  Ending.returned
  (Value.slice
  p_1
  n_2
  c_1) ∧
  C
  w' ∧
  Calls
  Proofs.Try.prog
  29
  #[Value.slice
  p_1
  n_2
  c_1]
  w'
  fun
  (e :
  Ending)
  (w' :
  World) =>
  ∃
  (n_3
  :
  Int),
  e =
  Ending.returned
  (Value.int
  IntKind.u32
  n_3) ∧
  C
  w' ∧
  ∀
  (w'_19 :
  World),
  w'_19 =
  w'.alloc
  (Obj.cells
  #[Value.int
  IntKind.u32
  n_3]
  42) →
  C
  w'_19 ∧
  RunsV
  Proofs.Try.prog
  (Builtin.append_
  #[23,
  23]
  23
  #[Value.slice
  p
  n_1
  c,
  Value.slice
  (some
  (Addr.mk
  w'.heap.size
  0
  none))
  1
  1])
  w'_19
  fun
  (v :
  Value)
  (w' :
  World) =>
  ∃
  (p
  :
  Option
  Addr),
  ∃
  (n_4
  :
  Nat),
  ∃
  (c
  :
  Nat),
  v =
  Value.slice
  p
  n_4
  c ∧
  C
  w' ∧
  ((w'.cell?
  (Addr.mk
  w'_6.heap.size
  4
  none)).isSome =
  true ∧
  w'.frozen?
  (Addr.mk
  w'_6.heap.size
  4
  none) =
  false) ∧
  ∀
  (w'_20 :
  World),
  w'_20 =
  w'.setCell
  (Addr.mk
  w'_6.heap.size
  4
  none)
  (Value.slice
  p
  n_4
  c) →
  Goes
  I
  μ
  [Value.int
  IntKind.u32
  n]
  w'_17
  [Value.int
  IntKind.u32
  (IntKind.u32.wrap
  (n -
  1))]
  w'_20)
  (∃
  (b
  :
  Bool),
  w'_18.cell?
  (Addr.mk
  w'_3.heap.size
  0
  none) =
  some
  (Value.bool
  b) ∧
  cnd
  b
  (SetsAt
  w'_18
  (Addr.mk
  w'.heap.size
  0
  none)
  0
  [Value.int
  IntKind.i64
  0,
  Value.slice
  none
  0
  0,
  Value.bool
  false,
  Value.bool
  false,
  Value.slice
  none
  0
  0] ∧
  ∀
  (w'_19 :
  World),
  w'_19 =
  setCellsAt
  w'_18
  (Addr.mk
  w'.heap.size
  0
  none)
  0
  [Value.int
  IntKind.i64
  0,
  Value.slice
  none
  0
  0,
  Value.bool
  false,
  Value.bool
  false,
  Value.slice
  none
  0
  0] →
  ∃
  (n
  :
  Int),
  ∃
  (p
  :
  Option
  Addr),
  ∃
  (n_1
  :
  Nat),
  ∃
  (c
  :
  Nat),
  ∃
  (b
  :
  Bool),
  ∃
  (b_1
  :
  Bool),
  ∃
  (p_1
  :
  Option
  Addr),
  ∃
  (n_2
  :
  Nat),
  ∃
  (c_1
  :
  Nat),
  (w'_19.cell?
  (Addr.mk
  w'.heap.size
  0
  none) =
  some
  (Value.int
  IntKind.i64
  n) ∧
  w'_19.cell?
  (Addr.mk
  w'.heap.size
  1
  none) =
  some
  (Value.slice
  p
  n_1
  c) ∧
  w'_19.cell?
  (Addr.mk
  w'.heap.size
  2
  none) =
  some
  (Value.bool
  b) ∧
  w'_19.cell?
  (Addr.mk
  w'.heap.size
  3
  none) =
  some
  (Value.bool
  b_1) ∧
  w'_19.cell?
  (Addr.mk
  w'.heap.size
  4
  none) =
  some
  (Value.slice
  p_1
  n_2
  c_1) ∧
  True) ∧
  R
  (Ending.returned
  (Value.tuple
  #[Value.agg
  #[Value.int
  IntKind.i64
  n,
  Value.slice
  p
  n_1
  c,
  Value.bool
  b,
  Value.bool
  b_1,
  Value.slice
  p_1
  n_2
  c_1],
  Value.int
  IntKind.i64
  6]))
  w'_19)
  (∃
  (n
  :
  Int),
  ∃
  (p
  :
  Option
  Addr),
  ∃
  (n_1
  :
  Nat),
  ∃
  (c
  :
  Nat),
  ∃
  (b
  :
  Bool),
  ∃
  (b_1
  :
  Bool),
  ∃
  (p_1
  :
  Option
  Addr),
  ∃
  (n_2
  :
  Nat),
  ∃
  (c_1
  :
  Nat),
  (w'_18.cell?
  (Addr.mk
  w'_6.heap.size
  0
  none) =
  some
  (Value.int
  IntKind.i64
  n) ∧
  w'_18.cell?
  (Addr.mk
  w'_6.heap.size
  1
  none) =
  some
  (Value.slice
  p
  n_1
  c) ∧
  w'_18.cell?
  (Addr.mk
  w'_6.heap.size
  2
  none) =
  some
  (Value.bool
  b) ∧
  w'_18.cell?
  (Addr.mk
  w'_6.heap.size
  3
  none) =
  some
  (Value.bool
  b_1) ∧
  w'_18.cell?
  (Addr.mk
  w'_6.heap.size
  4
  none) =
  some
  (Value.slice
  p_1
  n_2
  c_1) ∧
  True) ∧
  Calls
  Proofs.Try.prog
  10
  #[Value.agg
  #[Value.int
  IntKind.i64
  n,
  Value.slice
  p
  n_1
  c,
  Value.bool
  b,
  Value.bool
  b_1,
  Value.slice
  p_1
  n_2
  c_1]]
  w'_18
  fun
  (e :
  Ending)
  (w'_19 :
  World) =>
  ∃
  (s
  :
  ByteArray),
  ∃
  (n
  :
  Int),
  e =
  Ending.returned
  (Value.tuple
  #[Value.string
  s,
  Value.int
  IntKind.i64
  n]) ∧
  cnd
  (n !=
  0)
  (SetsAt
  w'_19
  (Addr.mk
  w'.heap.size
  0
  none)
  0
  [Value.int
  IntKind.i64
  0,
  Value.slice
  none
  0
  0,
  Value.bool
  false,
  Value.bool
  false,
  Value.slice
  none
  0
  0] ∧
  ∀
  (w'_20 :
  World),
  w'_20 =
  setCellsAt
  w'_19
  (Addr.mk
  w'.heap.size
  0
  none)
  0
  [Value.int
  IntKind.i64
  0,
  Value.slice
  none
  0
  0,
  Value.bool
  false,
  Value.bool
  false,
  Value.slice
  none
  0
  0] →
  ∃
  (n
  :
  Int),
  ∃
  (p
  :
  Option
  Addr),
  ∃
  (n_3
  :
  Nat),
  ∃
  (c
  :
  Nat),
  ∃
  (b
  :
  Bool),
  ∃
  (b_2
  :
  Bool),
  ∃
  (p_2
  :
  Option
  Addr),
  ∃
  (n_4
  :
  Nat),
  ∃
  (c_2
  :
  Nat),
  (w'_20.cell?
  (Addr.mk
  w'.heap.size
  0
  none) =
  some
  (Value.int
  IntKind.i64
  n) ∧
  w'_20.cell?
  (Addr.mk
  w'.heap.size
  1
  none) =
  some
  (Value.slice
  p
  n_3
  c) ∧
  w'_20.cell?
  (Addr.mk
  w'.heap.size
  2
  none) =
  some
  (Value.bool
  b) ∧
  w'_20.cell?
  (Addr.mk
  w'.heap.size
  3
  none) =
  some
  (Value.bool
  b_2) ∧
  w'_20.cell?
  (Addr.mk
  w'.heap.size
  4
  none) =
  some
  (Value.slice
  p_2
  n_4
  c_2) ∧
  True) ∧
  R
  (Ending.returned
  (Value.tuple
  #[Value.agg
  #[Value.int
  IntKind.i64
  n,
  Value.slice
  p
  n_3
  c,
  Value.bool
  b,
  Value.bool
  b_2,
  Value.slice
  p_2
  n_4
  c_2],
  Value.int
  IntKind.i64
  7]))
  w'_20)
  (∃
  (s_2
  :
  ByteArray),
  w'_19.cell?
  (Addr.mk
  w.heap.size
  0
  none) =
  some
  (Value.string
  s_2) ∧
  cnd
  (!s.toList ==
  s_2.toList)
  (SetsAt
  w'_19
  (Addr.mk
  w'.heap.size
  0
  none)
  0
  [Value.int
  IntKind.i64
  0,
  Value.slice
  none
  0
  0,
  Value.bool
  false,
  Value.bool
  false,
  Value.slice
  none
  0
  0] ∧
  ∀
  (w'_20 :
  World),
  w'_20 =
  setCellsAt
  w'_19
  (Addr.mk
  w'.heap.size
  0
  none)
  0
  [Value.int
  IntKind.i64
  0,
  Value.slice
  none
  0
  0,
  Value.bool
  false,
  Value.bool
  false,
  Value.slice
  none
  0
  0] →
  ∃
  (n
  :
  Int),
  ∃
  (p
  :
  Option
  Addr),
  ∃
  (n_3
  :
  Nat),
  ∃
  (c
  :
  Nat),
  ∃
  (b
  :
  Bool),
  ∃
  (b_2
  :
  Bool),
  ∃
  (p_2
  :
  Option
  Addr),
  ∃
  (n_4
  :
  Nat),
  ∃
  (c_2
  :
  Nat),
  (w'_20.cell?
  (Addr.mk
  w'.heap.size
  0
  none) =
  some
  (Value.int
  IntKind.i64
  n) ∧
  w'_20.cell?
  (Addr.mk
  w'.heap.size
  1
  none) =
  some
  (Value.slice
  p
  n_3
  c) ∧
  w'_20.cell?
  (Addr.mk
  w'.heap.size
  2
  none) =
  some
  (Value.bool
  b) ∧
  w'_20.cell?
  (Addr.mk
  w'.heap.size
  3
  none) =
  some
  (Value.bool
  b_2) ∧
  w'_20.cell?
  (Addr.mk
  w'.heap.size
  4
  none) =
  some
  (Value.slice
  p_2
  n_4
  c_2) ∧
  True) ∧
  R
  (Ending.returned
  (Value.tuple
  #[Value.agg
  #[Value.int
  IntKind.i64
  n,
  Value.slice
  p
  n_3
  c,
  Value.bool
  b,
  Value.bool
  b_2,
  Value.slice
  p_2
  n_4
  c_2],
  Value.int
  IntKind.i64
  7]))
  w'_20)
  (∃
  (n
  :
  Int),
  ∃
  (p
  :
  Option
  Addr),
  ∃
  (n_3
  :
  Nat),
  ∃
  (c
  :
  Nat),
  ∃
  (b
  :
  Bool),
  ∃
  (b_2
  :
  Bool),
  ∃
  (p_2
  :
  Option
  Addr),
  ∃
  (n_4
  :
  Nat),
  ∃
  (c_2
  :
  Nat),
  (w'_19.cell?
  (Addr.mk
  w'_6.heap.size
  0
  none) =
  some
  (Value.int
  IntKind.i64
  n) ∧
  w'_19.cell?
  (Addr.mk
  w'_6.heap.size
  1
  none) =
  some
  (Value.slice
  p
  n_3
  c) ∧
  w'_19.cell?
  (Addr.mk
  w'_6.heap.size
  2
  none) =
  some
  (Value.bool
  b) ∧
  w'_19.cell?
  (Addr.mk
  w'_6.heap.size
  3
  none) =
  some
  (Value.bool
  b_2) ∧
  w'_19.cell?
  (Addr.mk
  w'_6.heap.size
  4
  none) =
  some
  (Value.slice
  p_2
  n_4
  c_2) ∧
  True) ∧
  SetsAt
  w'_19
  (Addr.mk
  w'.heap.size
  0
  none)
  0
  [Value.int
  IntKind.i64
  n,
  Value.slice
  p
  n_3
  c,
  Value.bool
  b,
  Value.bool
  b_2,
  Value.slice
  p_2
  n_4
  c_2] ∧
  ∀
  (w'_20 :
  World),
  w'_20 =
  setCellsAt
  w'_19
  (Addr.mk
  w'.heap.size
  0
  none)
  0
  [Value.int
  IntKind.i64
  n,
  Value.slice
  p
  n_3
  c,
  Value.bool
  b,
  Value.bool
  b_2,
  Value.slice
  p_2
  n_4
  c_2] →
  ∃
  (n
  :
  Int),
  ∃
  (p
  :
  Option
  Addr),
  ∃
  (n_5
  :
  Nat),
  ∃
  (c
  :
  Nat),
  ∃
  (b
  :
  Bool),
  ∃
  (b_3
  :
  Bool),
  ∃
  (p_3
  :
  Option
  Addr),
  ∃
  (n_6
  :
  Nat),
  ∃
  (c_3
  :
  Nat),
  (w'_20.cell?
  (Addr.mk
  w'.heap.size
  0
  none) =
  some
  (Value.int
  IntKind.i64
  n) ∧
  w'_20.cell?
  (Addr.mk
  w'.heap.size
  1
  none) =
  some
  (Value.slice
  p
  n_5
  c) ∧
  w'_20.cell?
  (Addr.mk
  w'.heap.size
  2
  none) =
  some
  (Value.bool
  b) ∧
  w'_20.cell?
  (Addr.mk
  w'.heap.size
  3
  none) =
  some
  (Value.bool
  b_3) ∧
  w'_20.cell?
  (Addr.mk
  w'.heap.size
  4
  none) =
  some
  (Value.slice
  p_3
  n_6
  c_3) ∧
  True) ∧
  R
  (Ending.returned
  (Value.tuple
  #[Value.agg
  #[Value.int
  IntKind.i64
  n,
  Value.slice
  p
  n_5
  c,
  Value.bool
  b,
  Value.bool
  b_3,
  Value.slice
  p_3
  n_6
  c_3],
  Value.int
  IntKind.i64
  0]))
  w'_20))))))
theorem image_Get.vc_eq (s' : ByteArray) (w : World) (R : Ending → World → Prop) : fnV Try.prog image_Get.H 16 [Value.string s'] w R = image_Get.vc s' w R := by kernel_rfl
theorem image_Get.calls {s' : ByteArray} {w : World} {R : Ending → World → Prop} (h : image_Get.vc s' w R) : Calls Try.prog 16 ([Value.string s'] : List Value).toArray w R := calls_of_eq (image_Get.vc_eq s' w R) h

/- function 27: strings.HasPrefix -/
abbrev strings_HasPrefix.N : FuncId := 27
def strings_HasPrefix.H : Hints := {  }
def strings_HasPrefix.vc (s' : ByteArray) (prefx' : ByteArray) (w : World) (R : Ending → World → Prop) : Prop :=
  Calls Proofs.Try.prog 37 #[Value.string s', Value.string prefx'] w fun (e : Ending) (w' : World) =>
  ∃ (b : Bool), e = Ending.returned (Value.bool b) ∧ R (Ending.returned (Value.bool b)) w'
theorem strings_HasPrefix.vc_eq (s' : ByteArray) (prefx' : ByteArray) (w : World) (R : Ending → World → Prop) : fnV Try.prog strings_HasPrefix.H 27 [Value.string s', Value.string prefx'] w R = strings_HasPrefix.vc s' prefx' w R := by kernel_rfl
theorem strings_HasPrefix.calls {s' : ByteArray} {prefx' : ByteArray} {w : World} {R : Ending → World → Prop} (h : strings_HasPrefix.vc s' prefx' w R) : Calls Try.prog 27 ([Value.string s', Value.string prefx'] : List Value).toArray w R := calls_of_eq (strings_HasPrefix.vc_eq s' prefx' w R) h

/- function 37: internal/stringslite.HasPrefix -/
abbrev internal_stringslite_HasPrefix.N : FuncId := 37
def internal_stringslite_HasPrefix.H : Hints := {  }
def internal_stringslite_HasPrefix.vc (s' : ByteArray) (prefx' : ByteArray) (w : World) (R : Ending → World → Prop) : Prop :=
  cnd (decide ((↑s'.size : Int) ≥ (↑prefx'.size : Int)))
  ((0 ≤ (↑prefx'.size : Int) ∧ (↑prefx'.size : Int) ≤ (↑s'.size : Int)) ∧
  R (Ending.returned (Value.bool ((s'.extract 0 (↑prefx'.size : Int).toNat).toList == prefx'.toList))) w)
  (R (Ending.returned (Value.bool false)) w)
theorem internal_stringslite_HasPrefix.vc_eq (s' : ByteArray) (prefx' : ByteArray) (w : World) (R : Ending → World → Prop) : fnV Try.prog internal_stringslite_HasPrefix.H 37 [Value.string s', Value.string prefx'] w R = internal_stringslite_HasPrefix.vc s' prefx' w R := by kernel_rfl
theorem internal_stringslite_HasPrefix.calls {s' : ByteArray} {prefx' : ByteArray} {w : World} {R : Ending → World → Prop} (h : internal_stringslite_HasPrefix.vc s' prefx' w R) : Calls Try.prog 37 ([Value.string s', Value.string prefx'] : List Value).toArray w R := calls_of_eq (internal_stringslite_HasPrefix.vc_eq s' prefx' w R) h

end Go.Proofs.Ytjoikaklincfoaa
