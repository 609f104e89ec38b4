/-
Texts of this claim, merged: Vimage, Vref30, Vref03, VcOwn, VcLoc, VcRange, Vdisasg, Vdisas, Vdisasn.
Conditions: each theorem's own.
-/
import Derived.Test.YtjoikaklincfoaaPkImageTellsB
import Derived.Test.YtjoikaklincfoaaProg
import Derived.Laws.AppendOwn
import Derived.Laws.OwnMore
import Derived.RangeFuncNested
import Derived.RangeFuncLeaves
import Derived.RangeFuncFrom

/-
The explicit conditions of some functions of the program, printed by this repo's own program over VcTop: what is proved is that each is the condition.
Conditions: none.
-/
namespace Go.Proofs.Ytjoikaklincfoaa
open Go Go.Vc Go.RowKit
set_option linter.unusedVariables false
set_option maxRecDepth 100000

/- function 18: sacristy/image.bits -/
abbrev image_bits.N : FuncId := 18
def image_bits.H : Hints := { loops := [(3, [(2, .one (.int .u8)), (7, .one (.int .i64))])] }
def image_bits.vc (l' : Option Addr) (l'n : Nat) (l'c : Nat) (w : World) (R : Ending → World → Prop) : Prop :=
  ∃ (I : List Value → World → Prop),
  ∃ (μ : List Value → World → Nat),
  I [Value.int IntKind.u8 0, Value.int IntKind.i64 0] w ∧
  ∀ (g : Nat → Value) (b s7 : Int) (w' : World),
  I [Value.int IntKind.u8 b, Value.int IntKind.i64 s7] w' →
  cnd (decide (s7 < (↑l'n : Int)))
  ((0 ≤ s7 ∧ s7 < (↑l'n : Int)) ∧
  Deref l' fun (a : Addr) =>
  ∃ (b_1 : Bool),
  w'.cell? (a.add (s7.toNat * 1)) = some (Value.bool b_1) ∧
  cnd b_1
  (cnd (decide (s7 < 0)) False
  (Goes I μ [Value.int IntKind.u8 b, Value.int IntKind.i64 s7] w'
  [Value.int IntKind.u8 (bits BinOp.or IntKind.u8 b (IntKind.u8.wrap (1 * 2 ^ min s7.toNat 8))),
  Value.int IntKind.i64 (IntKind.i64.wrap (s7 + 1))]
  w'))
  (Goes I μ [Value.int IntKind.u8 b, Value.int IntKind.i64 s7] w'
  [Value.int IntKind.u8 b, Value.int IntKind.i64 (IntKind.i64.wrap (s7 + 1))] w'))
  (R (Ending.returned (Value.int IntKind.u8 b)) w')
theorem image_bits.vc_eq (l' : Option Addr) (l'n : Nat) (l'c : Nat) (w : World) (R : Ending → World → Prop) : fnV Try.prog image_bits.H 18 [Value.slice l' l'n l'c] w R = image_bits.vc l' l'n l'c w R := by kernel_rfl
theorem image_bits.calls {l' : Option Addr} {l'n : Nat} {l'c : Nat} {w : World} {R : Ending → World → Prop} (h : image_bits.vc l' l'n l'c w R) : Calls Try.prog 18 ([Value.slice l' l'n l'c] : List Value).toArray w R := calls_of_eq (image_bits.vc_eq l' l'n l'c w R) h

/- function 19: sacristy/image.four -/
abbrev image_four.N : FuncId := 19
def image_four.H : Hints := {  }
def image_four.vc (b' : Option Addr) (b'n : Nat) (b'c : Nat) (n' : Int) (w : World) (R : Ending → World → Prop) : Prop :=
  ∀ (w' : World),
  w' =
  w.alloc
  (Obj.cells
  #[Value.int IntKind.u8 (IntKind.u8.wrap n'), Value.int IntKind.u8 (IntKind.u8.wrap (n'.fdiv 256)),
  Value.int IntKind.u8 (IntKind.u8.wrap (n'.fdiv 65536)),
  Value.int IntKind.u8 (IntKind.u8.wrap (n'.fdiv 16777216))]
  5) →
  RunsV Proofs.Try.prog
  (Builtin.append_ #[48, 48] 48 #[Value.slice b' b'n b'c, Value.slice (some (Addr.mk w.heap.size 0 none)) 4 4]) w'
  fun (v : Value) (w' : World) =>
  ∃ (p : Option Addr), ∃ (n : Nat), ∃ (c : Nat), v = Value.slice p n c ∧ R (Ending.returned (Value.slice p n c)) w'
theorem image_four.vc_eq (b' : Option Addr) (b'n : Nat) (b'c : Nat) (n' : Int) (w : World) (R : Ending → World → Prop) : fnV Try.prog image_four.H 19 [Value.slice b' b'n b'c, Value.int IntKind.u32 n'] w R = image_four.vc b' b'n b'c n' w R := by kernel_rfl
theorem image_four.calls {b' : Option Addr} {b'n : Nat} {b'c : Nat} {n' : Int} {w : World} {R : Ending → World → Prop} (h : image_four.vc b' b'n b'c n' w R) : Calls Try.prog 19 ([Value.slice b' b'n b'c, Value.int IntKind.u32 n'] : List Value).toArray w R := calls_of_eq (image_four.vc_eq b' b'n b'c n' w R) h

/- function 29: sacristy/image.number -/
abbrev image_number.N : FuncId := 29
def image_number.H : Hints := {  }
def image_number.vc (b' : Option Addr) (b'n : Nat) (b'c : Nat) (w : World) (R : Ending → World → Prop) : Prop :=
  (Int.le 0 0 ∧ 0 < (↑b'n : Int)) ∧
  Deref b' fun (a : Addr) =>
  ∃ (n : Int),
  (∀ (w' : World), Later w w' → w'.cell? a = some (Value.int IntKind.u8 n)) ∧
  (Int.le 0 1 ∧ 1 < (↑b'n : Int)) ∧
  Deref b' fun (a : Addr) =>
  ∃ (n_1 : Int),
  (∀ (w' : World), Later w w' → w'.cell? (a.add 1) = some (Value.int IntKind.u8 n_1)) ∧
  (Int.le 0 2 ∧ 2 < (↑b'n : Int)) ∧
  Deref b' fun (a : Addr) =>
  ∃ (n_2 : Int),
  (∀ (w' : World), Later w w' → w'.cell? (a.add 2) = some (Value.int IntKind.u8 n_2)) ∧
  (Int.le 0 3 ∧ 3 < (↑b'n : Int)) ∧
  Deref b' fun (a : Addr) =>
  ∃ (n_3 : Int),
  (∀ (w' : World), Later w w' → w'.cell? (a.add 3) = some (Value.int IntKind.u8 n_3)) ∧
  ∀ (w' : World),
  Later w w' →
  R
  (Ending.returned
  (Value.int IntKind.u32
  (bits BinOp.or IntKind.u32
  (bits BinOp.or IntKind.u32
  (bits BinOp.or IntKind.u32 (IntKind.u32.wrap n)
  (IntKind.u32.wrap (IntKind.u32.wrap n_1 * 256)))
  (IntKind.u32.wrap (IntKind.u32.wrap n_2 * 65536)))
  (IntKind.u32.wrap (IntKind.u32.wrap n_3 * 16777216)))))
  w'
theorem image_number.vc_eq (b' : Option Addr) (b'n : Nat) (b'c : Nat) (w : World) (R : Ending → World → Prop) : fnV Try.prog image_number.H 29 [Value.slice b' b'n b'c] w R = image_number.vc b' b'n b'c w R := by kernel_rfl
theorem image_number.calls {b' : Option Addr} {b'n : Nat} {b'c : Nat} {w : World} {R : Ending → World → Prop} (h : image_number.vc b' b'n b'c w R) : Calls Try.prog 29 ([Value.slice b' b'n b'c] : List Value).toArray w R := calls_of_eq (image_number.vc_eq b' b'n b'c w R) h

/- function 20: (*sacristy/image.text).put -/
abbrev sacristy_image_text_put.N : FuncId := 20
def sacristy_image_text_put.H : Hints := { mixes := [(2, 1001)] }
def sacristy_image_text_put.vc (t' : Option Addr) (w' : Int) (w : World) (R : Ending → World → Prop) : Prop :=
  Calls Proofs.Try.prog 31 #[Value.int IntKind.u32 w'] w fun (e : Ending) (w' : World) =>
  ∃ (n : Int),
  ∃ (n_1 : Int),
  ∃ (n_2 : Int),
  ∃ (n_3 : Int),
  ∃ (n_4 : Int),
  ∃ (n_5 : Int),
  e =
  Ending.returned
  (Value.tuple
  #[Value.agg
  #[Value.int IntKind.u8 n, Value.int IntKind.u8 n_1, Value.int IntKind.u8 n_2,
  Value.int IntKind.u8 n_3, Value.int IntKind.i64 n_4],
  Value.int IntKind.i64 n_5]) ∧
  ∀ (w'_1 : World),
  w'_1 =
  w'.alloc
  (Obj.cells
  #[Value.int IntKind.u8 0, Value.int IntKind.u8 0, Value.int IntKind.u8 0,
  Value.int IntKind.u8 0, Value.int IntKind.i64 0]
  39) →
  SetsAt w'_1 (Addr.mk w'.heap.size 0 none) 0
  [Value.int IntKind.u8 n, Value.int IntKind.u8 n_1, Value.int IntKind.u8 n_2,
  Value.int IntKind.u8 n_3, Value.int IntKind.i64 n_4] ∧
  ∀ (w'_2 : World),
  w'_2 =
  setCellsAt w'_1 (Addr.mk w'.heap.size 0 none) 0
  [Value.int IntKind.u8 n, Value.int IntKind.u8 n_1, Value.int IntKind.u8 n_2,
  Value.int IntKind.u8 n_3, Value.int IntKind.i64 n_4] →
  ∃ (C : World → Prop),
  (∀ (w' : World), Later w'_2 w' → C w') ∧
  ∀ (w'_3 : World),
  Later w'_2 w'_3 →
  Deref t' fun (a : Addr) =>
  ∃ (p : Option Addr),
  ∃ (n : Nat),
  ∃ (c : Nat),
  (∀ (w' : World), C w' → w'.cell? a = some (Value.slice p n c)) ∧
  ∃ (n_6 : Int),
  ∃ (n_7 : Int),
  ∃ (n_8 : Int),
  ∃ (n_9 : Int),
  ∃ (n_10 : Int),
  (∀ (w'_4 : World),
  C w'_4 →
  w'_4.cell? (Addr.mk w'.heap.size 0 none) =
  some (Value.int IntKind.u8 n_6) ∧
  w'_4.cell? (Addr.mk w'.heap.size 1 none) =
  some (Value.int IntKind.u8 n_7) ∧
  w'_4.cell? (Addr.mk w'.heap.size 2 none) =
  some (Value.int IntKind.u8 n_8) ∧
  w'_4.cell? (Addr.mk w'.heap.size 3 none) =
  some (Value.int IntKind.u8 n_9) ∧
  w'_4.cell? (Addr.mk w'.heap.size 4 none) =
  some (Value.int IntKind.i64 n_10) ∧
  True) ∧
  ∀ (w' : World),
  w' =
  w'_3.alloc
  (Obj.cells
  #[Value.int IntKind.u8 n_6, Value.int IntKind.u8 n_7,
  Value.int IntKind.u8 n_8, Value.int IntKind.u8 n_9,
  Value.int IntKind.i64 n_10]
  39) →
  C w' ∧
  RunsV Proofs.Try.prog
  (Builtin.append_ #[33, 33] 33
  #[Value.slice p n c,
  Value.slice (some (Addr.mk w'_3.heap.size 0 none)) 1
  1])
  w' fun (v : Value) (w' : World) =>
  ∃ (p : Option Addr),
  ∃ (n : Nat),
  ∃ (c : Nat),
  v = Value.slice p n c ∧
  C w' ∧
  Deref t' fun (a : Addr) =>
  ((w'.cell? a).isSome = true ∧
  w'.frozen? a = false) ∧
  ∀ (w'_4 : World),
  w'_4 =
  w'.setCell a (Value.slice p n c) →
  R
  (Ending.returned
  (Value.bool (n_5 == 0)))
  w'_4
theorem sacristy_image_text_put.vc_eq (t' : Option Addr) (w' : Int) (w : World) (R : Ending → World → Prop) : fnV Try.prog sacristy_image_text_put.H 20 [Value.pointer t', Value.int IntKind.u32 w'] w R = sacristy_image_text_put.vc t' w' w R := by kernel_rfl
theorem sacristy_image_text_put.calls {t' : Option Addr} {w' : Int} {w : World} {R : Ending → World → Prop} (h : sacristy_image_text_put.vc t' w' w R) : Calls Try.prog 20 ([Value.pointer t', Value.int IntKind.u32 w'] : List Value).toArray w R := calls_of_eq (sacristy_image_text_put.vc_eq t' w' w R) h

/- function 11: sacristy/image.Text -/
abbrev image_Text.N : FuncId := 11
def image_Text.H : Hints := { loops := [(4, [(4, .one (.int .i64)), (14, .one (.int .i64))]), (17, [(79, .one (.int .i64))])] }
def image_Text.vc (x'_0 : Int) (x'_1 : Option Addr) (x'_1n : Nat) (x'_1c : Nat) (x'_2 : Bool) (x'_3 : Bool) (x'_4 : Option Addr) (x'_4n : Nat) (x'_4c : Nat) (w : World) (R : Ending → World → Prop) : Prop :=
  ∀ (w' : World),
  w' =
  w.alloc
  (Obj.cells
  #[Value.int IntKind.i64 x'_0, Value.slice x'_1 x'_1n x'_1c, Value.bool x'_2, Value.bool x'_3,
  Value.slice x'_4 x'_4n x'_4c]
  25) →
  ∃ (p : Option Addr),
  ∃ (n : Nat),
  ∃ (c : Nat),
  w'.cell? (Addr.mk w.heap.size 1 none) = some (Value.slice p n c) ∧
  ∃ (I : List Value → World → Prop),
  ∃ (μ : List Value → World → Nat),
  I [Value.int IntKind.i64 0, Value.int IntKind.i64 0] w' ∧
  ∀ (g : Nat → Value) (words s14 : Int) (w' : World),
  I [Value.int IntKind.i64 words, Value.int IntKind.i64 s14] w' →
  cnd (decide (s14 < (↑n : Int)))
  ((0 ≤ s14 ∧ s14 < (↑n : Int)) ∧
  Deref p fun (a : Addr) =>
  ∃ (b : Bool),
  ∃ (b_1 : Bool),
  ∃ (b_2 : Bool),
  ∃ (n : Int),
  ∃ (n_1 : Int),
  (w'.cell? (a.add (s14.toNat * 5)) = some (Value.bool b) ∧
  w'.cell? ((a.add (s14.toNat * 5)).add 1) = some (Value.bool b_1) ∧
  w'.cell? ((a.add (s14.toNat * 5)).add 2) = some (Value.bool b_2) ∧
  w'.cell? ((a.add (s14.toNat * 5)).add 3) =
  some (Value.int IntKind.i64 n) ∧
  w'.cell? ((a.add (s14.toNat * 5)).add 4) =
  some (Value.int IntKind.i64 n_1) ∧
  True) ∧
  ∀ (w'_1 : World),
  w'_1 =
  w'.alloc
  (Obj.cells
  #[Value.bool false, Value.bool false, Value.bool false,
  Value.int IntKind.i64 0, Value.int IntKind.i64 0]
  50) →
  SetsAt w'_1 (Addr.mk w'.heap.size 0 none) 0
  [Value.bool b, Value.bool b_1, Value.bool b_2, Value.int IntKind.i64 n,
  Value.int IntKind.i64 n_1] ∧
  ∀ (w'_2 : World),
  w'_2 =
  setCellsAt w'_1 (Addr.mk w'.heap.size 0 none) 0
  [Value.bool b, Value.bool b_1, Value.bool b_2,
  Value.int IntKind.i64 n, Value.int IntKind.i64 n_1] →
  ∃ (b : Bool),
  w'_2.cell? (Addr.mk w'.heap.size 0 none) = some (Value.bool b) ∧
  cnd b
  (∃ (n : Int),
  w'_2.cell? (Addr.mk w'.heap.size 3 none) =
  some (Value.int IntKind.i64 n) ∧
  cnd (n != 0)
  (R
  (Ending.returned
  (Value.tuple
  #[Value.slice none 0 0, Value.int IntKind.i64 2]))
  w'_2)
  (∃ (n : Int),
  w'_2.cell? (Addr.mk w'.heap.size 4 none) =
  some (Value.int IntKind.i64 n) ∧
  cnd (n != 0)
  (R
  (Ending.returned
  (Value.tuple
  #[Value.slice none 0 0,
  Value.int IntKind.i64 2]))
  w'_2)
  (∃ (b : Bool),
  w'_2.cell? (Addr.mk w'.heap.size 2 none) =
  some (Value.bool b) ∧
  cnd b
  (∃ (b : Bool),
  w'_2.cell? (Addr.mk w'.heap.size 0 none) =
  some (Value.bool b) ∧
  cnd (!b)
  (R
  (Ending.returned
  (Value.tuple
  #[Value.slice none 0 0,
  Value.int IntKind.i64 2]))
  w'_2)
  (Goes I μ
  [Value.int IntKind.i64 words,
  Value.int IntKind.i64 s14]
  w'
  [Value.int IntKind.i64
  (IntKind.i64.wrap
  (IntKind.i64.wrap (words + 1) +
  1)),
  Value.int IntKind.i64
  (IntKind.i64.wrap (s14 + 1))]
  w'_2))
  (Goes I μ
  [Value.int IntKind.i64 words,
  Value.int IntKind.i64 s14]
  w'
  [Value.int IntKind.i64
  (IntKind.i64.wrap
  (IntKind.i64.wrap (words + 1) + 1)),
  Value.int IntKind.i64
  (IntKind.i64.wrap (s14 + 1))]
  w'_2))))
  (∃ (n : Int),
  w'_2.cell? (Addr.mk w'.heap.size 3 none) =
  some (Value.int IntKind.i64 n) ∧
  cnd (n != 0)
  (R
  (Ending.returned
  (Value.tuple
  #[Value.slice none 0 0, Value.int IntKind.i64 2]))
  w'_2)
  (∃ (n : Int),
  w'_2.cell? (Addr.mk w'.heap.size 4 none) =
  some (Value.int IntKind.i64 n) ∧
  cnd (n != 0)
  (R
  (Ending.returned
  (Value.tuple
  #[Value.slice none 0 0,
  Value.int IntKind.i64 2]))
  w'_2)
  (∃ (b : Bool),
  w'_2.cell? (Addr.mk w'.heap.size 2 none) =
  some (Value.bool b) ∧
  cnd b
  (∃ (b : Bool),
  w'_2.cell? (Addr.mk w'.heap.size 0 none) =
  some (Value.bool b) ∧
  cnd (!b)
  (R
  (Ending.returned
  (Value.tuple
  #[Value.slice none 0 0,
  Value.int IntKind.i64 2]))
  w'_2)
  (Goes I μ
  [Value.int IntKind.i64 words,
  Value.int IntKind.i64 s14]
  w'
  [Value.int IntKind.i64
  (IntKind.i64.wrap (words + 1)),
  Value.int IntKind.i64
  (IntKind.i64.wrap (s14 + 1))]
  w'_2))
  (Goes I μ
  [Value.int IntKind.i64 words,
  Value.int IntKind.i64 s14]
  w'
  [Value.int IntKind.i64
  (IntKind.i64.wrap (words + 1)),
  Value.int IntKind.i64
  (IntKind.i64.wrap (s14 + 1))]
  w'_2)))))
  (∃ (n : Int),
  w'.cell? (Addr.mk w.heap.size 0 none) = some (Value.int IntKind.i64 n) ∧
  cnd (decide (n < 0))
  (R (Ending.returned (Value.tuple #[Value.slice none 0 0, Value.int IntKind.i64 2])) w')
  (∃ (n : Int),
  w'.cell? (Addr.mk w.heap.size 0 none) = some (Value.int IntKind.i64 n) ∧
  cnd (decide (n > 255))
  (R (Ending.returned (Value.tuple #[Value.slice none 0 0, Value.int IntKind.i64 2]))
  w')
  (cnd (decide (words > 8))
  (R
  (Ending.returned (Value.tuple #[Value.slice none 0 0, Value.int IntKind.i64 2]))
  w')
  (∃ (b : Bool),
  w'.cell? (Addr.mk w.heap.size 3 none) = some (Value.bool b) ∧
  cnd b
  (∃ (b : Bool),
  w'.cell? (Addr.mk w.heap.size 2 none) = some (Value.bool b) ∧
  cnd (!b)
  (R
  (Ending.returned
  (Value.tuple #[Value.slice none 0 0, Value.int IntKind.i64 2]))
  w')
  (∃ (p : Option Addr),
  ∃ (n : Nat),
  ∃ (c : Nat),
  w'.cell? (Addr.mk w.heap.size 4 none) =
  some (Value.slice p n c) ∧
  cnd (decide ((↑n : Int) < 1))
  (R
  (Ending.returned
  (Value.tuple
  #[Value.slice none 0 0, Value.int IntKind.i64 2]))
  w')
  (∃ (p : Option Addr),
  ∃ (n : Nat),
  ∃ (c : Nat),
  w'.cell? (Addr.mk w.heap.size 4 none) =
  some (Value.slice p n c) ∧
  cnd (decide ((↑n : Int) > 131072))
  (R
  (Ending.returned
  (Value.tuple
  #[Value.slice none 0 0,
  Value.int IntKind.i64 2]))
  w')
  (∀ (w'_1 : World),
  w'_1 =
  w'.alloc
  (Obj.cells #[Value.slice none 0 0] 54) →
  ∃ (p : Option Addr),
  ∃ (n : Nat),
  ∃ (c : Nat),
  w'_1.cell?
  (Addr.mk w.heap.size 4 none) =
  some (Value.slice p n c) ∧
  ∃ (I : List Value → World → Prop),
  ∃ (μ : List Value → World → Nat),
  I [Value.int IntKind.i64 0] w'_1 ∧
  ∀ (g : Nat → Value) (s79 : Int)
  (w'_2 : World),
  I [Value.int IntKind.i64 s79]
  w'_2 →
  cnd
  (decide
  (s79 < (↑n : Int)))
  ((0 ≤ s79 ∧
  s79 < (↑n : Int)) ∧
  Deref p
  fun (a : Addr) =>
  ∃ (n : Int),
  w'_2.cell?
  (a.add
  (s79.toNat *
  1)) =
  some
  (Value.int
  IntKind.u32
  n) ∧
  Calls
  Proofs.Try.prog
  20
  #[Value.pointer
  (some
  (Addr.mk
  w'.heap.size
  0
  none)),
  Value.int
  IntKind.u32
  n]
  w'_2
  fun (e : Ending)
  (w' :
  World) =>
  ∃ (b : Bool),
  e =
  Ending.returned
  (Value.bool
  b) ∧
  cnd (!b)
  (R
  (Ending.returned
  (Value.tuple
  #[Value.slice
  none
  0
  0,
  Value.int
  IntKind.i64
  2]))
  w')
  (Goes I μ
  [Value.int
  IntKind.i64
  s79]
  w'_2
  [Value.int
  IntKind.i64
  (IntKind.i64.wrap
  (s79 +
  1))]
  w'))
  (∃ (p : Option Addr),
  ∃ (n : Nat),
  ∃ (c : Nat),
  w'_2.cell?
  (Addr.mk
  w'.heap.size
  0 none) =
  some
  (Value.slice p
  n c) ∧
  R
  (Ending.returned
  (Value.tuple
  #[Value.slice
  p n c,
  Value.int
  IntKind.i64
  0]))
  w'_2)))))
  (∃ (p : Option Addr),
  ∃ (n : Nat),
  ∃ (c : Nat),
  w'.cell? (Addr.mk w.heap.size 4 none) = some (Value.slice p n c) ∧
  cnd (decide ((↑n : Int) < 1))
  (R
  (Ending.returned
  (Value.tuple
  #[Value.slice none 0 0, Value.int IntKind.i64 2]))
  w')
  (∃ (p : Option Addr),
  ∃ (n : Nat),
  ∃ (c : Nat),
  w'.cell? (Addr.mk w.heap.size 4 none) =
  some (Value.slice p n c) ∧
  cnd (decide ((↑n : Int) > 131072))
  (R
  (Ending.returned
  (Value.tuple
  #[Value.slice none 0 0, Value.int IntKind.i64 2]))
  w')
  (∀ (w'_1 : World),
  w'_1 =
  w'.alloc (Obj.cells #[Value.slice none 0 0] 54) →
  ∃ (p : Option Addr),
  ∃ (n : Nat),
  ∃ (c : Nat),
  w'_1.cell? (Addr.mk w.heap.size 4 none) =
  some (Value.slice p n c) ∧
  ∃ (I : List Value → World → Prop),
  ∃ (μ : List Value → World → Nat),
  I [Value.int IntKind.i64 0] w'_1 ∧
  ∀ (g : Nat → Value) (s79 : Int)
  (w'_2 : World),
  I [Value.int IntKind.i64 s79] w'_2 →
  cnd (decide (s79 < (↑n : Int)))
  ((0 ≤ s79 ∧ s79 < (↑n : Int)) ∧
  Deref p fun (a : Addr) =>
  ∃ (n : Int),
  w'_2.cell?
  (a.add
  (s79.toNat * 1)) =
  some
  (Value.int
  IntKind.u32 n) ∧
  Calls Proofs.Try.prog 20
  #[Value.pointer
  (some
  (Addr.mk
  w'.heap.size 0
  none)),
  Value.int
  IntKind.u32 n]
  w'_2
  fun (e : Ending)
  (w' : World) =>
  ∃ (b : Bool),
  e =
  Ending.returned
  (Value.bool
  b) ∧
  cnd (!b)
  (R
  (Ending.returned
  (Value.tuple
  #[Value.slice
  none 0
  0,
  Value.int
  IntKind.i64
  2]))
  w')
  (Goes I μ
  [Value.int
  IntKind.i64
  s79]
  w'_2
  [Value.int
  IntKind.i64
  (IntKind.i64.wrap
  (s79 +
  1))]
  w'))
  (∃ (p : Option Addr),
  ∃ (n : Nat),
  ∃ (c : Nat),
  w'_2.cell?
  (Addr.mk
  w'.heap.size 0
  none) =
  some
  (Value.slice p n
  c) ∧
  R
  (Ending.returned
  (Value.tuple
  #[Value.slice p n
  c,
  Value.int
  IntKind.i64
  0]))
  w'_2))))))))
theorem image_Text.vc_eq (x'_0 : Int) (x'_1 : Option Addr) (x'_1n : Nat) (x'_1c : Nat) (x'_2 : Bool) (x'_3 : Bool) (x'_4 : Option Addr) (x'_4n : Nat) (x'_4c : Nat) (w : World) (R : Ending → World → Prop) : fnV Try.prog image_Text.H 11 [Value.agg
  #[Value.int IntKind.i64 x'_0, Value.slice x'_1 x'_1n x'_1c, Value.bool x'_2, Value.bool x'_3,
  Value.slice x'_4 x'_4n x'_4c]] w R = image_Text.vc x'_0 x'_1 x'_1n x'_1c x'_2 x'_3 x'_4 x'_4n x'_4c w R := by kernel_rfl
theorem image_Text.calls {x'_0 : Int} {x'_1 : Option Addr} {x'_1n : Nat} {x'_1c : Nat} {x'_2 : Bool} {x'_3 : Bool} {x'_4 : Option Addr} {x'_4n : Nat} {x'_4c : Nat} {w : World} {R : Ending → World → Prop} (h : image_Text.vc x'_0 x'_1 x'_1n x'_1c x'_2 x'_3 x'_4 x'_4n x'_4c w R) : Calls Try.prog 11 ([Value.agg
  #[Value.int IntKind.i64 x'_0, Value.slice x'_1 x'_1n x'_1c, Value.bool x'_2, Value.bool x'_3,
  Value.slice x'_4 x'_4n x'_4c]] : List Value).toArray w R := calls_of_eq (image_Text.vc_eq x'_0 x'_1 x'_1n x'_1c x'_2 x'_3 x'_4 x'_4n x'_4c w R) h

/- function 9: sacristy/image.Check -/
abbrev image_Check.N : FuncId := 9
def image_Check.H : Hints := {  }
def image_Check.vc (x'_0 : Int) (x'_1 : Option Addr) (x'_1n : Nat) (x'_1c : Nat) (x'_2 : Bool) (x'_3 : Bool) (x'_4 : Option Addr) (x'_4n : Nat) (x'_4c : Nat) (w : World) (R : Ending → World → Prop) : Prop :=
  ∀ (w' : World),
  w' =
  w.alloc
  (Obj.cells
  #[Value.int IntKind.i64 x'_0, Value.slice x'_1 x'_1n x'_1c, Value.bool x'_2, Value.bool x'_3,
  Value.slice x'_4 x'_4n x'_4c]
  25) →
  ∃ (n : Int),
  ∃ (p : Option Addr),
  ∃ (n_1 : Nat),
  ∃ (c : Nat),
  ∃ (b : Bool),
  ∃ (b_1 : Bool),
  ∃ (p_1 : Option Addr),
  ∃ (n_2 : Nat),
  ∃ (c_1 : Nat),
  (w'.cell? (Addr.mk w.heap.size 0 none) = some (Value.int IntKind.i64 n) ∧
  w'.cell? (Addr.mk w.heap.size 1 none) = some (Value.slice p n_1 c) ∧
  w'.cell? (Addr.mk w.heap.size 2 none) = some (Value.bool b) ∧
  w'.cell? (Addr.mk w.heap.size 3 none) = some (Value.bool b_1) ∧
  w'.cell? (Addr.mk w.heap.size 4 none) = some (Value.slice p_1 n_2 c_1) ∧ True) ∧
  Calls Proofs.Try.prog 11
  #[Value.agg
  #[Value.int IntKind.i64 n, Value.slice p n_1 c, Value.bool b, Value.bool b_1,
  Value.slice p_1 n_2 c_1]]
  w' fun (e : Ending) (w' : World) =>
  ∃ (p : Option Addr),
  ∃ (n : Nat),
  ∃ (c : Nat),
  ∃ (n_3 : Int),
  e = Ending.returned (Value.tuple #[Value.slice p n c, Value.int IntKind.i64 n_3]) ∧
  R (Ending.returned (Value.int IntKind.i64 n_3)) w'
theorem image_Check.vc_eq (x'_0 : Int) (x'_1 : Option Addr) (x'_1n : Nat) (x'_1c : Nat) (x'_2 : Bool) (x'_3 : Bool) (x'_4 : Option Addr) (x'_4n : Nat) (x'_4c : Nat) (w : World) (R : Ending → World → Prop) : fnV Try.prog image_Check.H 9 [Value.agg
  #[Value.int IntKind.i64 x'_0, Value.slice x'_1 x'_1n x'_1c, Value.bool x'_2, Value.bool x'_3,
  Value.slice x'_4 x'_4n x'_4c]] w R = image_Check.vc x'_0 x'_1 x'_1n x'_1c x'_2 x'_3 x'_4 x'_4n x'_4c w R := by kernel_rfl
theorem image_Check.calls {x'_0 : Int} {x'_1 : Option Addr} {x'_1n : Nat} {x'_1c : Nat} {x'_2 : Bool} {x'_3 : Bool} {x'_4 : Option Addr} {x'_4n : Nat} {x'_4c : Nat} {w : World} {R : Ending → World → Prop} (h : image_Check.vc x'_0 x'_1 x'_1n x'_1c x'_2 x'_3 x'_4 x'_4n x'_4c w R) : Calls Try.prog 9 ([Value.agg
  #[Value.int IntKind.i64 x'_0, Value.slice x'_1 x'_1n x'_1c, Value.bool x'_2, Value.bool x'_3,
  Value.slice x'_4 x'_4n x'_4c]] : List Value).toArray w R := calls_of_eq (image_Check.vc_eq x'_0 x'_1 x'_1n x'_1c x'_2 x'_3 x'_4 x'_4n x'_4c w R) h

/- function 10: sacristy/image.Put -/
abbrev image_Put.N : FuncId := 10
def image_Put.H : Hints := { loops := [(7, [(5, .one .slice), (29, .one (.int .i64))]), (13, [(5, .one .slice), (62, .one (.int .i64))])], mixes := [(10, 1001)] }
def image_Put.vc (x'_0 : Int) (x'_1 : Option Addr) (x'_1n : Nat) (x'_1c : Nat) (x'_2 : Bool) (x'_3 : Bool) (x'_4 : Option Addr) (x'_4n : Nat) (x'_4c : Nat) (w : World) (R : Ending → World → Prop) : Prop :=
  ∀ (w' : World),
  w' =
  w.alloc
  (Obj.cells
  #[Value.int IntKind.i64 x'_0, Value.slice x'_1 x'_1n x'_1c, Value.bool x'_2, Value.bool x'_3,
  Value.slice x'_4 x'_4n x'_4c]
  25) →
  ∃ (n : Int),
  ∃ (p : Option Addr),
  ∃ (n_1 : Nat),
  ∃ (c : Nat),
  ∃ (b : Bool),
  ∃ (b_1 : Bool),
  ∃ (p_1 : Option Addr),
  ∃ (n_2 : Nat),
  ∃ (c_1 : Nat),
  (w'.cell? (Addr.mk w.heap.size 0 none) = some (Value.int IntKind.i64 n) ∧
  w'.cell? (Addr.mk w.heap.size 1 none) = some (Value.slice p n_1 c) ∧
  w'.cell? (Addr.mk w.heap.size 2 none) = some (Value.bool b) ∧
  w'.cell? (Addr.mk w.heap.size 3 none) = some (Value.bool b_1) ∧
  w'.cell? (Addr.mk w.heap.size 4 none) = some (Value.slice p_1 n_2 c_1) ∧ True) ∧
  Calls Proofs.Try.prog 9
  #[Value.agg
  #[Value.int IntKind.i64 n, Value.slice p n_1 c, Value.bool b, Value.bool b_1,
  Value.slice p_1 n_2 c_1]]
  w' fun (e : Ending) (w' : World) =>
  ∃ (n : Int),
  e = Ending.returned (Value.int IntKind.i64 n) ∧
  cnd (n != 0)
  (R
  (Ending.returned
  (Value.tuple #[Value.string (ByteArray.mk #[]), Value.int IntKind.i64 n]))
  w')
  (∀ (w'_1 : World),
  w'_1 =
  w'.alloc
  (Obj.cells
  #[Value.int IntKind.u8 83, Value.int IntKind.u8 67, Value.int IntKind.u8 82,
  Value.int IntKind.u8 49]
  5) →
  RunsV Proofs.Try.prog
  (convert 48 48 (Value.slice (some (Addr.mk w'.heap.size 0 none)) 4 4)) w'_1
  fun (v : Value) (w' : World) =>
  ∃ (p : Option Addr),
  ∃ (n : Nat),
  ∃ (c : Nat),
  v = Value.slice p n c ∧
  ∃ (n_3 : Int),
  w'.cell? (Addr.mk w.heap.size 0 none) =
  some (Value.int IntKind.i64 n_3) ∧
  ∃ (p_2 : Option Addr),
  ∃ (n_4 : Nat),
  ∃ (c_2 : Nat),
  w'.cell? (Addr.mk w.heap.size 1 none) =
  some (Value.slice p_2 n_4 c_2) ∧
  ∀ (w'_2 : World),
  w'_2 =
  w'.alloc
  (Obj.cells
  #[Value.int IntKind.u8 (IntKind.u8.wrap n_3),
  Value.int IntKind.u8
  (IntKind.u8.wrap (↑n_4 : Int))]
  5) →
  RunsV Proofs.Try.prog
  (Builtin.append_ #[48, 48] 48
  #[Value.slice p n c,
  Value.slice (some (Addr.mk w'.heap.size 0 none)) 2
  2])
  w'_2 fun (v : Value) (w' : World) =>
  ∃ (p : Option Addr),
  ∃ (n : Nat),
  ∃ (c : Nat),
  v = Value.slice p n c ∧
  ∃ (p_3 : Option Addr),
  ∃ (n_5 : Nat),
  ∃ (c_3 : Nat),
  w'.cell? (Addr.mk w.heap.size 1 none) =
  some (Value.slice p_3 n_5 c_3) ∧
  ∃ (I : List Value → World → Prop),
  ∃ (μ : List Value → World → Nat),
  I
  [Value.slice p n c,
  Value.int IntKind.i64 0]
  w' ∧
  ∀ (g : Nat → Value)
  (b : Option Addr) (bn bc : Nat)
  (s29 : Int) (w' : World),
  I
  [Value.slice b bn bc,
  Value.int IntKind.i64 s29]
  w' →
  cnd
  (decide
  (s29 < (↑n_5 : Int)))
  ((0 ≤ s29 ∧
  s29 < (↑n_5 : Int)) ∧
  Deref p_3
  fun (a : Addr) =>
  ∃ (b_2 : Bool),
  ∃ (b_3 : Bool),
  ∃ (b_4 : Bool),
  ∃ (n : Int),
  ∃ (n_6 : Int),
  (w'.cell?
  (a.add
  (s29.toNat *
  5)) =
  some
  (Value.bool
  b_2) ∧
  w'.cell?
  ((a.add
  (s29.toNat *
  5)).add
  1) =
  some
  (Value.bool
  b_3) ∧
  w'.cell?
  ((a.add
  (s29.toNat *
  5)).add
  2) =
  some
  (Value.bool
  b_4) ∧
  w'.cell?
  ((a.add
  (s29.toNat *
  5)).add
  3) =
  some
  (Value.int
  IntKind.i64
  n) ∧
  w'.cell?
  ((a.add
  (s29.toNat *
  5)).add
  4) =
  some
  (Value.int
  IntKind.i64
  n_6) ∧
  True) ∧
  ∀
  (w'_3 :
  World),
  w'_3 =
  w'.alloc
  (Obj.cells
  #[Value.bool
  false,
  Value.bool
  false,
  Value.bool
  false,
  Value.int
  IntKind.i64
  0,
  Value.int
  IntKind.i64
  0]
  50) →
  SetsAt
  w'_3
  (Addr.mk
  w'.heap.size
  0
  none)
  0
  [Value.bool
  b_2,
  Value.bool
  b_3,
  Value.bool
  b_4,
  Value.int
  IntKind.i64
  n,
  Value.int
  IntKind.i64
  n_6] ∧
  ∀
  (w'_4 :
  World),
  w'_4 =
  setCellsAt
  w'_3
  (Addr.mk
  w'.heap.size
  0
  none)
  0
  [Value.bool
  b_2,
  Value.bool
  b_3,
  Value.bool
  b_4,
  Value.int
  IntKind.i64
  n,
  Value.int
  IntKind.i64
  n_6] →
  ∃
  (b_5
  :
  Bool),
  w'_4.cell?
  (Addr.mk
  w'.heap.size
  0
  none) =
  some
  (Value.bool
  b_5) ∧
  ∃
  (b_6
  :
  Bool),
  w'_4.cell?
  (Addr.mk
  w'.heap.size
  1
  none) =
  some
  (Value.bool
  b_6) ∧
  ∃
  (b_7
  :
  Bool),
  w'_4.cell?
  (Addr.mk
  w'.heap.size
  2
  none) =
  some
  (Value.bool
  b_7) ∧
  ∀
  (w'_5 :
  World),
  w'_5 =
  w'_4.alloc
  (Obj.cells
  #[Value.bool
  b_5,
  Value.bool
  b_6,
  Value.bool
  b_7]
  4) →
  Calls
  Proofs.Try.prog
  18
  #[Value.slice
  (some
  (Addr.mk
  w'_4.heap.size
  0
  none))
  3
  3]
  w'_5
  fun
  (e :
  Ending)
  (w'_6 :
  World) =>
  ∃
  (n
  :
  Int),
  e =
  Ending.returned
  (Value.int
  IntKind.u8
  n) ∧
  ∀
  (w'_7 :
  World),
  w'_7 =
  w'_6.alloc
  (Obj.cells
  #[Value.int
  IntKind.u8
  n]
  5) →
  RunsV
  Proofs.Try.prog
  (Builtin.append_
  #[48,
  48]
  48
  #[Value.slice
  b
  bn
  bc,
  Value.slice
  (some
  (Addr.mk
  w'_6.heap.size
  0
  none))
  1
  1])
  w'_7
  fun
  (v :
  Value)
  (w'_8 :
  World) =>
  ∃
  (p
  :
  Option
  Addr),
  ∃
  (n
  :
  Nat),
  ∃
  (c
  :
  Nat),
  v =
  Value.slice
  p
  n
  c ∧
  Goes
  I
  μ
  [Value.slice
  b
  bn
  bc,
  Value.int
  IntKind.i64
  s29]
  w'
  [Value.slice
  p
  n
  c,
  Value.int
  IntKind.i64
  (IntKind.i64.wrap
  (s29 +
  1))]
  w'_8)
  (∃ (C : World → Prop),
  (∀ (w'_3 : World),
  Later w' w'_3 →
  C w'_3) ∧
  ∀ (w'_3 : World),
  Later w' w'_3 →
  ∃ (b_2 : Bool),
  (∀ (w' : World),
  C w' →
  w'.cell?
  (Addr.mk
  w.heap.size
  2
  none) =
  some
  (Value.bool
  b_2)) ∧
  ∃ (b_3 : Bool),
  (∀
  (w' :
  World),
  C w' →
  w'.cell?
  (Addr.mk
  w.heap.size
  3
  none) =
  some
  (Value.bool
  b_3)) ∧
  ∃ (p :
  Option
  Addr),
  ∃ (n :
  Nat),
  ∃ (c :
  Nat),
  (∀
  (w' :
  World),
  C
  w' →
  w'.cell?
  (Addr.mk
  w.heap.size
  4
  none) =
  some
  (Value.slice
  p
  n
  c)) ∧
  ∀
  (w' :
  World),
  w' =
  w'_3.alloc
  (Obj.cells
  #[Value.bool
  b_2,
  Value.bool
  b_3]
  4) →
  C
  w' ∧
  Calls
  Proofs.Try.prog
  18
  #[Value.slice
  (some
  (Addr.mk
  w'_3.heap.size
  0
  none))
  2
  2]
  w'
  fun
  (e :
  Ending)
  (w' :
  World) =>
  ∃
  (n_6
  :
  Int),
  e =
  Ending.returned
  (Value.int
  IntKind.u8
  n_6) ∧
  C
  w' ∧
  ∀
  (w'_4 :
  World),
  w'_4 =
  w'.alloc
  (Obj.cells
  #[Value.int
  IntKind.u8
  n_6]
  5) →
  C
  w'_4 ∧
  RunsV
  Proofs.Try.prog
  (Builtin.append_
  #[48,
  48]
  48
  #[Value.slice
  b
  bn
  bc,
  Value.slice
  (some
  (Addr.mk
  w'.heap.size
  0
  none))
  1
  1])
  w'_4
  fun
  (v :
  Value)
  (w' :
  World) =>
  ∃
  (p
  :
  Option
  Addr),
  ∃
  (n_7
  :
  Nat),
  ∃
  (c
  :
  Nat),
  v =
  Value.slice
  p
  n_7
  c ∧
  C
  w' ∧
  Calls
  Proofs.Try.prog
  19
  #[Value.slice
  p
  n_7
  c,
  Value.int
  IntKind.u32
  (IntKind.u32.wrap
  (↑n :
  Int))]
  w'
  fun
  (e :
  Ending)
  (w' :
  World) =>
  ∃
  (p
  :
  Option
  Addr),
  ∃
  (n
  :
  Nat),
  ∃
  (c
  :
  Nat),
  e =
  Ending.returned
  (Value.slice
  p
  n
  c) ∧
  C
  w' ∧
  ∃
  (p_4
  :
  Option
  Addr),
  ∃
  (n_8
  :
  Nat),
  ∃
  (c_4
  :
  Nat),
  w'.cell?
  (Addr.mk
  w.heap.size
  4
  none) =
  some
  (Value.slice
  p_4
  n_8
  c_4) ∧
  ∃
  (I
  :
  List
  Value →
  World →
  Prop),
  ∃
  (μ
  :
  List
  Value →
  World →
  Nat),
  I
  [Value.slice
  p
  n
  c,
  Value.int
  IntKind.i64
  0]
  w' ∧
  ∀
  (g :
  Nat →
  Value)
  (b :
  Option
  Addr)
  (bn
  bc :
  Nat)
  (s62 :
  Int)
  (w' :
  World),
  I
  [Value.slice
  b
  bn
  bc,
  Value.int
  IntKind.i64
  s62]
  w' →
  cnd
  (decide
  (s62 <
  (↑n_8 :
  Int)))
  ((0 ≤
  s62 ∧
  s62 <
  (↑n_8 :
  Int)) ∧
  Deref
  p_4
  fun
  (a :
  Addr) =>
  ∃
  (n
  :
  Int),
  w'.cell?
  (a.add
  (s62.toNat *
  1)) =
  some
  (Value.int
  IntKind.u32
  n) ∧
  Calls
  Proofs.Try.prog
  19
  #[Value.slice
  b
  bn
  bc,
  Value.int
  IntKind.u32
  n]
  w'
  fun
  (e :
  Ending)
  (w'_5 :
  World) =>
  ∃
  (p
  :
  Option
  Addr),
  ∃
  (n
  :
  Nat),
  ∃
  (c
  :
  Nat),
  e =
  Ending.returned
  (Value.slice
  p
  n
  c) ∧
  Goes
  I
  μ
  [Value.slice
  b
  bn
  bc,
  Value.int
  IntKind.i64
  s62]
  w'
  [Value.slice
  p
  n
  c,
  Value.int
  IntKind.i64
  (IntKind.i64.wrap
  (s62 +
  1))]
  w'_5)
  (RunsV
  Proofs.Try.prog
  (convert
  48
  9
  (Value.slice
  b
  bn
  bc))
  w'
  fun
  (v :
  Value)
  (w' :
  World) =>
  ∃
  (s
  :
  ByteArray),
  v =
  Value.string
  s ∧
  R
  (Ending.returned
  (Value.tuple
  #[Value.string
  s,
  Value.int
  IntKind.i64
  0]))
  w')))
theorem image_Put.vc_eq (x'_0 : Int) (x'_1 : Option Addr) (x'_1n : Nat) (x'_1c : Nat) (x'_2 : Bool) (x'_3 : Bool) (x'_4 : Option Addr) (x'_4n : Nat) (x'_4c : Nat) (w : World) (R : Ending → World → Prop) : fnV Try.prog image_Put.H 10 [Value.agg
  #[Value.int IntKind.i64 x'_0, Value.slice x'_1 x'_1n x'_1c, Value.bool x'_2, Value.bool x'_3,
  Value.slice x'_4 x'_4n x'_4c]] w R = image_Put.vc x'_0 x'_1 x'_1n x'_1c x'_2 x'_3 x'_4 x'_4n x'_4c w R := by kernel_rfl
theorem image_Put.calls {x'_0 : Int} {x'_1 : Option Addr} {x'_1n : Nat} {x'_1c : Nat} {x'_2 : Bool} {x'_3 : Bool} {x'_4 : Option Addr} {x'_4n : Nat} {x'_4c : Nat} {w : World} {R : Ending → World → Prop} (h : image_Put.vc x'_0 x'_1 x'_1n x'_1c x'_2 x'_3 x'_4 x'_4n x'_4c w R) : Calls Try.prog 10 ([Value.agg
  #[Value.int IntKind.i64 x'_0, Value.slice x'_1 x'_1n x'_1c, Value.bool x'_2, Value.bool x'_3,
  Value.slice x'_4 x'_4n x'_4c]] : List Value).toArray w R := calls_of_eq (image_Put.vc_eq x'_0 x'_1 x'_1n x'_1c x'_2 x'_3 x'_4 x'_4n x'_4c w R) h

/- function 28: sacristy/image.Get$1 -/
abbrev image_Get_1.N : FuncId := 28
def image_Get_1.H : Hints := {  }
def image_Get_1.vc (n' : Int) (c0 : Option Addr) (c1 : Option Addr) (c2 : Option Addr) (w : World) (R : Ending → World → Prop) : Prop :=
  Deref c0 fun (ad : Addr) =>
  ∃ (b : Bool),
  w.cell? ad = some (Value.bool b) ∧
  cnd b
  (Deref c0 fun (ad : Addr) =>
  ((w.cell? ad).isSome = true ∧ w.frozen? ad = false) ∧
  ∀ (w' : World),
  w' = w.setCell ad (Value.bool true) →
  Deref c0 fun (ad : Addr) =>
  ∃ (b : Bool),
  w'.cell? ad = some (Value.bool b) ∧
  cnd b
  (RunsV Proofs.Try.prog
  (Instr.makeSlice 48 (Value.int IntKind.i64 (gomin n' 8)) (Value.int IntKind.i64 (gomin n' 8)))
  w' fun (v : Value) (w' : World) =>
  ∃ (p : Option Addr),
  ∃ (n : Nat),
  ∃ (c : Nat), v = Value.slice p n c ∧ R (Ending.returned (Value.slice p n c)) w')
  (Deref c2 fun (ad : Addr) =>
  ∃ (n : Int),
  w'.cell? ad = some (Value.int IntKind.i64 n) ∧
  Deref c2 fun (ad : Addr) =>
  ((w'.cell? ad).isSome = true ∧ w'.frozen? ad = false) ∧
  ∀ (w'_1 : World),
  w'_1 = w'.setCell ad (Value.int IntKind.i64 (IntKind.i64.wrap (n + n'))) →
  Deref c1 fun (ad : Addr) =>
  ∃ (s : ByteArray),
  w'_1.cell? ad = some (Value.string s) ∧
  Deref c2 fun (ad : Addr) =>
  ∃ (n : Int),
  w'_1.cell? ad = some (Value.int IntKind.i64 n) ∧
  Deref c2 fun (ad : Addr) =>
  ∃ (n_1 : Int),
  w'_1.cell? ad = some (Value.int IntKind.i64 n_1) ∧
  (0 ≤ n_1 ∧ n_1 ≤ (↑s.size : Int)) ∧
  (0 ≤ IntKind.i64.wrap (n - n') ∧
  IntKind.i64.wrap (n - n') ≤ (↑n_1.toNat : Int)) ∧
  RunsV Proofs.Try.prog
  (convert 9 48
  (Value.string
  (s.extract (IntKind.i64.wrap (n - n')).toNat
  n_1.toNat)))
  w'_1 fun (v : Value) (w' : World) =>
  ∃ (p : Option Addr),
  ∃ (n : Nat),
  ∃ (c : Nat),
  v = Value.slice p n c ∧
  R (Ending.returned (Value.slice p n c)) w'))
  (Deref c1 fun (ad : Addr) =>
  ∃ (s : ByteArray),
  w.cell? ad = some (Value.string s) ∧
  Deref c2 fun (ad : Addr) =>
  ∃ (n : Int),
  w.cell? ad = some (Value.int IntKind.i64 n) ∧
  Deref c0 fun (ad : Addr) =>
  ((w.cell? ad).isSome = true ∧ w.frozen? ad = false) ∧
  ∀ (w' : World),
  w' = w.setCell ad (Value.bool (decide (n' > IntKind.i64.wrap ((↑s.size : Int) - n)))) →
  Deref c0 fun (ad : Addr) =>
  ∃ (b : Bool),
  w'.cell? ad = some (Value.bool b) ∧
  cnd b
  (RunsV Proofs.Try.prog
  (Instr.makeSlice 48 (Value.int IntKind.i64 (gomin n' 8))
  (Value.int IntKind.i64 (gomin n' 8)))
  w' fun (v : Value) (w' : World) =>
  ∃ (p : Option Addr),
  ∃ (n : Nat),
  ∃ (c : Nat),
  v = Value.slice p n c ∧ R (Ending.returned (Value.slice p n c)) w')
  (Deref c2 fun (ad : Addr) =>
  ∃ (n : Int),
  w'.cell? ad = some (Value.int IntKind.i64 n) ∧
  Deref c2 fun (ad : Addr) =>
  ((w'.cell? ad).isSome = true ∧ w'.frozen? ad = false) ∧
  ∀ (w'_1 : World),
  w'_1 =
  w'.setCell ad (Value.int IntKind.i64 (IntKind.i64.wrap (n + n'))) →
  Deref c1 fun (ad : Addr) =>
  ∃ (s : ByteArray),
  w'_1.cell? ad = some (Value.string s) ∧
  Deref c2 fun (ad : Addr) =>
  ∃ (n : Int),
  w'_1.cell? ad = some (Value.int IntKind.i64 n) ∧
  Deref c2 fun (ad : Addr) =>
  ∃ (n_1 : Int),
  w'_1.cell? ad = some (Value.int IntKind.i64 n_1) ∧
  (0 ≤ n_1 ∧ n_1 ≤ (↑s.size : Int)) ∧
  (0 ≤ IntKind.i64.wrap (n - n') ∧
  IntKind.i64.wrap (n - n') ≤
  (↑n_1.toNat : Int)) ∧
  RunsV Proofs.Try.prog
  (convert 9 48
  (Value.string
  (s.extract
  (IntKind.i64.wrap (n - n')).toNat
  n_1.toNat)))
  w'_1 fun (v : Value) (w' : World) =>
  ∃ (p : Option Addr),
  ∃ (n : Nat),
  ∃ (c : Nat),
  v = Value.slice p n c ∧
  R
  (Ending.returned
  (Value.slice p n c))
  w'))
theorem image_Get_1.vc_eq (n' : Int) (c0 : Option Addr) (c1 : Option Addr) (c2 : Option Addr) (w : World) (R : Ending → World → Prop) : fnV Try.prog image_Get_1.H 28 [Value.int IntKind.i64 n', Value.pointer c0, Value.pointer c1, Value.pointer c2] w R = image_Get_1.vc n' c0 c1 c2 w R := by kernel_rfl
theorem image_Get_1.calls {n' : Int} {c0 : Option Addr} {c1 : Option Addr} {c2 : Option Addr} {w : World} {R : Ending → World → Prop} (h : image_Get_1.vc n' c0 c1 c2 w R) : Calls Try.prog 28 ([Value.int IntKind.i64 n', Value.pointer c0, Value.pointer c1, Value.pointer c2] : List Value).toArray w R := calls_of_eq (image_Get_1.vc_eq n' c0 c1 c2 w R) h

/- function 16: sacristy/image.Get -/
abbrev image_Get.N : FuncId := 16
def image_Get.H : Hints := { loops := [(11, [(37, .one (.int .i64))]), (18, [(12, .one (.int .u32))])], regs := [(17, [(79, .one .bool)])], mixes := [(19, 1001)] }
def image_Get.vc (s' : ByteArray) (w : World) (R : Ending → World → Prop) : Prop :=
  ∀ (w' : World),
  w' = w.alloc (Obj.cells #[Value.string s'] 9) →
  ∀ (w'_1 : World),
  w'_1 =
  w'.alloc
  (Obj.cells
  #[Value.int IntKind.i64 0, Value.slice none 0 0, Value.bool false, Value.bool false, Value.slice none 0 0]
  25) →
  ∃ (s : ByteArray),
  w'_1.cell? (Addr.mk w.heap.size 0 none) = some (Value.string s) ∧
  ∃ (s_1 : ByteArray),
  w'_1.cell? (Addr.mk w.heap.size 0 none) = some (Value.string s_1) ∧
  (0 ≤ gomin (↑s.size : Int) 4 ∧ gomin (↑s.size : Int) 4 ≤ (↑s_1.size : Int)) ∧
  Calls Proofs.Try.prog 27
  #[Value.string (ByteArray.mk #[83, 67, 82, 49]),
  Value.string (s_1.extract 0 (gomin (↑s.size : Int) 4).toNat)]
  w'_1 fun (e : Ending) (w'_2 : World) =>
  ∃ (b : Bool),
  e = Ending.returned (Value.bool b) ∧
  cnd (!b)
  (SetsAt w'_2 (Addr.mk w'.heap.size 0 none) 0
  [Value.int IntKind.i64 0, Value.slice none 0 0, Value.bool false, Value.bool false,
  Value.slice none 0 0] ∧
  ∀ (w'_3 : World),
  w'_3 =
  setCellsAt w'_2 (Addr.mk w'.heap.size 0 none) 0
  [Value.int IntKind.i64 0, Value.slice none 0 0, Value.bool false, Value.bool false,
  Value.slice none 0 0] →
  ∃ (n : Int),
  ∃ (p : Option Addr),
  ∃ (n_1 : Nat),
  ∃ (c : Nat),
  ∃ (b : Bool),
  ∃ (b_1 : Bool),
  ∃ (p_1 : Option Addr),
  ∃ (n_2 : Nat),
  ∃ (c_1 : Nat),
  (w'_3.cell? (Addr.mk w'.heap.size 0 none) =
  some (Value.int IntKind.i64 n) ∧
  w'_3.cell? (Addr.mk w'.heap.size 1 none) =
  some (Value.slice p n_1 c) ∧
  w'_3.cell? (Addr.mk w'.heap.size 2 none) = some (Value.bool b) ∧
  w'_3.cell? (Addr.mk w'.heap.size 3 none) =
  some (Value.bool b_1) ∧
  w'_3.cell? (Addr.mk w'.heap.size 4 none) =
  some (Value.slice p_1 n_2 c_1) ∧
  True) ∧
  R
  (Ending.returned
  (Value.tuple
  #[Value.agg
  #[Value.int IntKind.i64 n, Value.slice p n_1 c,
  Value.bool b, Value.bool b_1, Value.slice p_1 n_2 c_1],
  Value.int IntKind.i64 7]))
  w'_3)
  (∀ (w'_3 : World),
  w'_3 = w'_2.alloc (Obj.cells #[Value.int IntKind.i64 0] 3) →
  ∀ (w'_4 : World),
  w'_4 = w'_3.alloc (Obj.cells #[Value.bool false] 4) →
  ((w'_4.cell? (Addr.mk w'_2.heap.size 0 none)).isSome = true ∧
  w'_4.frozen? (Addr.mk w'_2.heap.size 0 none) = false) ∧
  ∀ (w'_5 : World),
  w'_5 = w'_4.setCell (Addr.mk w'_2.heap.size 0 none) (Value.int IntKind.i64 4) →
  ((w'_5.cell? (Addr.mk w'_3.heap.size 0 none)).isSome = true ∧
  w'_5.frozen? (Addr.mk w'_3.heap.size 0 none) = false) ∧
  ∀ (w'_6 : World),
  w'_6 = w'_5.setCell (Addr.mk w'_3.heap.size 0 none) (Value.bool false) →
  ∀ (w'_7 : World),
  w'_7 =
  w'_6.alloc
  (Obj.cells
  #[Value.int IntKind.i64 0, Value.slice none 0 0,
  Value.bool false, Value.bool false, Value.slice none 0 0]
  25) →
  Calls Proofs.Try.prog 28
  #[Value.int IntKind.i64 1,
  Value.pointer (some (Addr.mk w'_3.heap.size 0 none)),
  Value.pointer (some (Addr.mk w.heap.size 0 none)),
  Value.pointer (some (Addr.mk w'_2.heap.size 0 none))]
  w'_7 fun (e : Ending) (w'_8 : World) =>
  ∃ (p : Option Addr),
  ∃ (n : Nat),
  ∃ (c : Nat),
  e = Ending.returned (Value.slice p n c) ∧
  (Int.le 0 0 ∧ 0 < (↑n : Int)) ∧
  Deref p fun (a : Addr) =>
  ∃ (n : Int),
  w'_8.cell? a = some (Value.int IntKind.u8 n) ∧
  ((w'_8.cell?
  (Addr.mk w'_6.heap.size 0 none)).isSome =
  true ∧
  w'_8.frozen? (Addr.mk w'_6.heap.size 0 none) =
  false) ∧
  ∀ (w'_9 : World),
  w'_9 =
  w'_8.setCell (Addr.mk w'_6.heap.size 0 none)
  (Value.int IntKind.i64
  (IntKind.i64.wrap n)) →
  Calls Proofs.Try.prog 28
  #[Value.int IntKind.i64 1,
  Value.pointer
  (some (Addr.mk w'_3.heap.size 0 none)),
  Value.pointer
  (some (Addr.mk w.heap.size 0 none)),
  Value.pointer
  (some (Addr.mk w'_2.heap.size 0 none))]
  w'_9 fun (e : Ending) (w'_10 : World) =>
  ∃ (p : Option Addr),
  ∃ (n : Nat),
  ∃ (c : Nat),
  e =
  Ending.returned
  (Value.slice p n c) ∧
  (Int.le 0 0 ∧ 0 < (↑n : Int)) ∧
  Deref p fun (a : Addr) =>
  ∃ (n : Int),
  w'_10.cell? a =
  some
  (Value.int IntKind.u8
  n) ∧
  ∃ (I :
  List Value →
  World → Prop),
  ∃ (μ :
  List Value →
  World → Nat),
  I
  [Value.int
  IntKind.i64 0]
  w'_10 ∧
  ∀ (g : Nat → Value)
  (s37 : Int)
  (w'_11 : World),
  I
  [Value.int
  IntKind.i64
  s37]
  w'_11 →
  cnd
  (decide
  (s37 <
  IntKind.i64.wrap
  n))
  (Calls
  Proofs.Try.prog
  28
  #[Value.int
  IntKind.i64
  1,
  Value.pointer
  (some
  (Addr.mk
  w'_3.heap.size
  0
  none)),
  Value.pointer
  (some
  (Addr.mk
  w.heap.size
  0
  none)),
  Value.pointer
  (some
  (Addr.mk
  w'_2.heap.size
  0
  none))]
  w'_11
  fun
  (e : Ending)
  (w' :
  World) =>
  ∃ (p :
  Option
  Addr),
  ∃ (n : Nat),
  ∃ (c :
  Nat),
  e =
  Ending.returned
  (Value.slice
  p
  n
  c) ∧
  (Int.le
  0
  0 ∧
  0 <
  (↑n :
  Int)) ∧
  Deref
  p
  fun
  (a :
  Addr) =>
  ∃
  (n
  :
  Int),
  w'.cell?
  a =
  some
  (Value.int
  IntKind.u8
  n) ∧
  ∃
  (p
  :
  Option
  Addr),
  ∃
  (n_1
  :
  Nat),
  ∃
  (c
  :
  Nat),
  w'.cell?
  (Addr.mk
  w'_6.heap.size
  1
  none) =
  some
  (Value.slice
  p
  n_1
  c) ∧
  ∀
  (w'_12 :
  World),
  w'_12 =
  w'.alloc
  (Obj.cells
  #[Value.bool
  (decide
  (bits
  BinOp.and
  IntKind.u8
  n
  1 >
  0)),
  Value.bool
  (decide
  (bits
  BinOp.and
  IntKind.u8
  n
  2 >
  0)),
  Value.bool
  (decide
  (bits
  BinOp.and
  IntKind.u8
  n
  4 >
  0)),
  Value.int
  IntKind.i64
  0,
  Value.int
  IntKind.i64
  0]
  50) →
  RunsV
  Proofs.Try.prog
  (Builtin.append_
  #[22,
  22]
  22
  #[Value.slice
  p
  n_1
  c,
  Value.slice
  (some
  (Addr.mk
  w'.heap.size
  0
  none))
  1
  1])
  w'_12
  fun
  (v :
  Value)
  (w' :
  World) =>
  ∃
  (p
  :
  Option
  Addr),
  ∃
  (n
  :
  Nat),
  ∃
  (c
  :
  Nat),
  v =
  Value.slice
  p
  n
  c ∧
  ((w'.cell?
  (Addr.mk
  w'_6.heap.size
  1
  none)).isSome =
  true ∧
  w'.frozen?
  (Addr.mk
  w'_6.heap.size
  1
  none) =
  false) ∧
  ∀
  (w'_13 :
  World),
  w'_13 =
  w'.setCell
  (Addr.mk
  w'_6.heap.size
  1
  none)
  (Value.slice
  p
  n
  c) →
  Goes
  I
  μ
  [Value.int
  IntKind.i64
  s37]
  w'_11
  [Value.int
  IntKind.i64
  (IntKind.i64.wrap
  (s37 +
  1))]
  w'_13)
  (Calls
  Proofs.Try.prog
  28
  #[Value.int
  IntKind.i64
  1,
  Value.pointer
  (some
  (Addr.mk
  w'_3.heap.size
  0
  none)),
  Value.pointer
  (some
  (Addr.mk
  w.heap.size
  0
  none)),
  Value.pointer
  (some
  (Addr.mk
  w'_2.heap.size
  0
  none))]
  w'_11
  fun
  (e : Ending)
  (w'_12 :
  World) =>
  ∃ (p :
  Option
  Addr),
  ∃ (n : Nat),
  ∃ (c :
  Nat),
  e =
  Ending.returned
  (Value.slice
  p
  n
  c) ∧
  (Int.le
  0
  0 ∧
  0 <
  (↑n :
  Int)) ∧
  Deref
  p
  fun
  (a :
  Addr) =>
  ∃
  (n
  :
  Int),
  w'_12.cell?
  a =
  some
  (Value.int
  IntKind.u8
  n) ∧
  ((w'_12.cell?
  (Addr.mk
  w'_6.heap.size
  2
  none)).isSome =
  true ∧
  w'_12.frozen?
  (Addr.mk
  w'_6.heap.size
  2
  none) =
  false) ∧
  ∀
  (w'_13 :
  World),
  w'_13 =
  w'_12.setCell
  (Addr.mk
  w'_6.heap.size
  2
  none)
  (Value.bool
  (decide
  (bits
  BinOp.and
  IntKind.u8
  n
  1 >
  0))) →
  ((w'_13.cell?
  (Addr.mk
  w'_6.heap.size
  3
  none)).isSome =
  true ∧
  w'_13.frozen?
  (Addr.mk
  w'_6.heap.size
  3
  none) =
  false) ∧
  ∀
  (w'_14 :
  World),
  w'_14 =
  w'_13.setCell
  (Addr.mk
  w'_6.heap.size
  3
  none)
  (Value.bool
  (decide
  (bits
  BinOp.and
  IntKind.u8
  n
  2 >
  0))) →
  Calls
  Proofs.Try.prog
  28
  #[Value.int
  IntKind.i64
  4,
  Value.pointer
  (some
  (Addr.mk
  w'_3.heap.size
  0
  none)),
  Value.pointer
  (some
  (Addr.mk
  w.heap.size
  0
  none)),
  Value.pointer
  (some
  (Addr.mk
  w'_2.heap.size
  0
  none))]
  w'_14
  fun
  (e :
  Ending)
  (w'_15 :
  World) =>
  ∃
  (p
  :
  Option
  Addr),
  ∃
  (n
  :
  Nat),
  ∃
  (c
  :
  Nat),
  e =
  Ending.returned
  (Value.slice
  p
  n
  c) ∧
  Calls
  Proofs.Try.prog
  29
  #[Value.slice
  p
  n
  c]
  w'_15
  fun
  (e :
  Ending)
  (w'_16 :
  World) =>
  ∃
  (n
  :
  Int),
  e =
  Ending.returned
  (Value.int
  IntKind.u32
  n) ∧
  ∃
  (I
  :
  List
  Value →
  World →
  Prop),
  ∃
  (μ
  :
  List
  Value →
  World →
  Nat),
  I
  [Value.int
  IntKind.u32
  n]
  w'_16 ∧
  ∀
  (g :
  Nat →
  Value)
  (n :
  Int)
  (w'_17 :
  World),
  I
  [Value.int
  IntKind.u32
  n]
  w'_17 →
  ∃
  (J
  :
  List
  Value →
  World →
  Prop),
  cnd
  (decide
  (n >
  0))
  (∃
  (b
  :
  Bool),
  w'_17.cell?
  (Addr.mk
  w'_3.heap.size
  0
  none) =
  some
  (Value.bool
  b) ∧
  J
  [Value.bool
  !b]
  w'_17)
  (J
  [Value.bool
  false]
  w'_17) ∧
  ∀
  (g :
  Nat →
  Value)
  (s79 :
  Bool)
  (w'_18 :
  World),
  J
  [Value.bool
  s79]
  w'_18 →
  cnd
  s79
  (∃
  (C
  :
  World →
  Prop),
  (∀
  (w' :
  World),
  Later
  w'_18
  w' →
  C
  w') ∧
  ∀
  (w' :
  World),
  Later
  w'_18
  w' →
  ∃
  (p
  :
  Option
  Addr),
  ∃
  (n_1
  :
  Nat),
  ∃
  (c
  :
  Nat),
  (∀
  (w' :
  World),
  C
  w' →
  w'.cell?
  (Addr.mk
  w'_6.heap.size
  4
  none) =
  some
  (Value.slice
  p
  n_1
  c)) ∧
  Calls
  Proofs.Try.prog
  28
  #[Value.int
  IntKind.i64
  4,
  Value.pointer
  (some
  (Addr.mk
  w'_3.heap.size
  0
  none)),
  Value.pointer
  (some
  (Addr.mk
  w.heap.size
  0
  none)),
  Value.pointer
  (some
  (Addr.mk
  w'_2.heap.size
  0
  none))]
  w'
  fun
  (e :
  Ending)
  (w' :
  World) =>
  ∃
  (p_1
  :
  Option
  Addr),
  ∃
  (n_2
  :
  Nat),
  ∃
  (c_1
  :
  Nat),
  e =
  Ending.returned
  (Value.slice
  p_1
  n_2
  c_1) ∧
  C
  w' ∧
  Calls
  Proofs.Try.prog
  29
  #[Value.slice
  p_1
  n_2
  c_1]
  w'
  fun
  (e :
  Ending)
  (w' :
  World) =>
  ∃
  (n_3
  :
  Int),
  e =
  Ending.returned
  (Value.int
  IntKind.u32
  n_3) ∧
  C
  w' ∧
  ∀
  (w'_19 :
  World),
  w'_19 =
  w'.alloc
  (Obj.cells
  #[Value.int
  IntKind.u32
  n_3]
  42) →
  C
  w'_19 ∧
  RunsV
  Proofs.Try.prog
  (Builtin.append_
  #[23,
  23]
  23
  #[Value.slice
  p
  n_1
  c,
  Value.slice
  (some
  (Addr.mk
  w'.heap.size
  0
  none))
  1
  1])
  w'_19
  fun
  (v :
  Value)
  (w' :
  World) =>
  ∃
  (p
  :
  Option
  Addr),
  ∃
  (n_4
  :
  Nat),
  ∃
  (c
  :
  Nat),
  v =
  Value.slice
  p
  n_4
  c ∧
  C
  w' ∧
  ((w'.cell?
  (Addr.mk
  w'_6.heap.size
  4
  none)).isSome =
  true ∧
  w'.frozen?
  (Addr.mk
  w'_6.heap.size
  4
  none) =
  false) ∧
  ∀
  (w'_20 :
  World),
  w'_20 =
  w'.setCell
  (Addr.mk
  w'_6.heap.size
  4
  none)
  (Value.slice
  p
  n_4
  c) →
  Goes
  I
  μ
  [Value.int
  IntKind.u32
  n]
  w'_17
  [Value.int
  IntKind.u32
  (IntKind.u32.wrap
  (n -
  1))]
  w'_20)
  (∃
  (b
  :
  Bool),
  w'_18.cell?
  (Addr.mk
  w'_3.heap.size
  0
  none) =
  some
  (Value.bool
  b) ∧
  cnd
  b
  (SetsAt
  w'_18
  (Addr.mk
  w'.heap.size
  0
  none)
  0
  [Value.int
  IntKind.i64
  0,
  Value.slice
  none
  0
  0,
  Value.bool
  false,
  Value.bool
  false,
  Value.slice
  none
  0
  0] ∧
  ∀
  (w'_19 :
  World),
  w'_19 =
  setCellsAt
  w'_18
  (Addr.mk
  w'.heap.size
  0
  none)
  0
  [Value.int
  IntKind.i64
  0,
  Value.slice
  none
  0
  0,
  Value.bool
  false,
  Value.bool
  false,
  Value.slice
  none
  0
  0] →
  ∃
  (n
  :
  Int),
  ∃
  (p
  :
  Option
  Addr),
  ∃
  (n_1
  :
  Nat),
  ∃
  (c
  :
  Nat),
  ∃
  (b
  :
  Bool),
  ∃
  (b_1
  :
  Bool),
  ∃
  (p_1
  :
  Option
  Addr),
  ∃
  (n_2
  :
  Nat),
  ∃
  (c_1
  :
  Nat),
  (w'_19.cell?
  (Addr.mk
  w'.heap.size
  0
  none) =
  some
  (Value.int
  IntKind.i64
  n) ∧
  w'_19.cell?
  (Addr.mk
  w'.heap.size
  1
  none) =
  some
  (Value.slice
  p
  n_1
  c) ∧
  w'_19.cell?
  (Addr.mk
  w'.heap.size
  2
  none) =
  some
  (Value.bool
  b) ∧
  w'_19.cell?
  (Addr.mk
  w'.heap.size
  3
  none) =
  some
  (Value.bool
  b_1) ∧
  w'_19.cell?
  (Addr.mk
  w'.heap.size
  4
  none) =
  some
  (Value.slice
  p_1
  n_2
  c_1) ∧
  True) ∧
  R
  (Ending.returned
  (Value.tuple
  #[Value.agg
  #[Value.int
  IntKind.i64
  n,
  Value.slice
  p
  n_1
  c,
  Value.bool
  b,
  Value.bool
  b_1,
  Value.slice
  p_1
  n_2
  c_1],
  Value.int
  IntKind.i64
  6]))
  w'_19)
  (∃
  (n
  :
  Int),
  ∃
  (p
  :
  Option
  Addr),
  ∃
  (n_1
  :
  Nat),
  ∃
  (c
  :
  Nat),
  ∃
  (b
  :
  Bool),
  ∃
  (b_1
  :
  Bool),
  ∃
  (p_1
  :
  Option
  Addr),
  ∃
  (n_2
  :
  Nat),
  ∃
  (c_1
  :
  Nat),
  (w'_18.cell?
  (Addr.mk
  w'_6.heap.size
  0
  none) =
  some
  (Value.int
  IntKind.i64
  n) ∧
  w'_18.cell?
  (Addr.mk
  w'_6.heap.size
  1
  none) =
  some
  (Value.slice
  p
  n_1
  c) ∧
  w'_18.cell?
  (Addr.mk
  w'_6.heap.size
  2
  none) =
  some
  (Value.bool
  b) ∧
  w'_18.cell?
  (Addr.mk
  w'_6.heap.size
  3
  none) =
  some
  (Value.bool
  b_1) ∧
  w'_18.cell?
  (Addr.mk
  w'_6.heap.size
  4
  none) =
  some
  (Value.slice
  p_1
  n_2
  c_1) ∧
  True) ∧
  Calls
  Proofs.Try.prog
  10
  #[Value.agg
  #[Value.int
  IntKind.i64
  n,
  Value.slice
  p
  n_1
  c,
  Value.bool
  b,
  Value.bool
  b_1,
  Value.slice
  p_1
  n_2
  c_1]]
  w'_18
  fun
  (e :
  Ending)
  (w'_19 :
  World) =>
  ∃
  (s
  :
  ByteArray),
  ∃
  (n
  :
  Int),
  e =
  Ending.returned
  (Value.tuple
  #[Value.string
  s,
  Value.int
  IntKind.i64
  n]) ∧
  cnd
  (n !=
  0)
  (SetsAt
  w'_19
  (Addr.mk
  w'.heap.size
  0
  none)
  0
  [Value.int
  IntKind.i64
  0,
  Value.slice
  none
  0
  0,
  Value.bool
  false,
  Value.bool
  false,
  Value.slice
  none
  0
  0] ∧
  ∀
  (w'_20 :
  World),
  w'_20 =
  setCellsAt
  w'_19
  (Addr.mk
  w'.heap.size
  0
  none)
  0
  [Value.int
  IntKind.i64
  0,
  Value.slice
  none
  0
  0,
  Value.bool
  false,
  Value.bool
  false,
  Value.slice
  none
  0
  0] →
  ∃
  (n
  :
  Int),
  ∃
  (p
  :
  Option
  Addr),
  ∃
  (n_3
  :
  Nat),
  ∃
  (c
  :
  Nat),
  ∃
  (b
  :
  Bool),
  ∃
  (b_2
  :
  Bool),
  ∃
  (p_2
  :
  Option
  Addr),
  ∃
  (n_4
  :
  Nat),
  ∃
  (c_2
  :
  Nat),
  (w'_20.cell?
  (Addr.mk
  w'.heap.size
  0
  none) =
  some
  (Value.int
  IntKind.i64
  n) ∧
  w'_20.cell?
  (Addr.mk
  w'.heap.size
  1
  none) =
  some
  (Value.slice
  p
  n_3
  c) ∧
  w'_20.cell?
  (Addr.mk
  w'.heap.size
  2
  none) =
  some
  (Value.bool
  b) ∧
  w'_20.cell?
  (Addr.mk
  w'.heap.size
  3
  none) =
  some
  (Value.bool
  b_2) ∧
  w'_20.cell?
  (Addr.mk
  w'.heap.size
  4
  none) =
  some
  (Value.slice
  p_2
  n_4
  c_2) ∧
  True) ∧
  R
  (Ending.returned
  (Value.tuple
  #[Value.agg
  #[Value.int
  IntKind.i64
  n,
  Value.slice
  p
  n_3
  c,
  Value.bool
  b,
  Value.bool
  b_2,
  Value.slice
  p_2
  n_4
  c_2],
  Value.int
  IntKind.i64
  7]))
  w'_20)
  (∃
  (s_2
  :
  ByteArray),
  w'_19.cell?
  (Addr.mk
  w.heap.size
  0
  none) =
  some
  (Value.string
  s_2) ∧
  cnd
  (!s.toList ==
  s_2.toList)
  (SetsAt
  w'_19
  (Addr.mk
  w'.heap.size
  0
  none)
  0
  [Value.int
  IntKind.i64
  0,
  Value.slice
  none
  0
  0,
  Value.bool
  false,
  Value.bool
  false,
  Value.slice
  none
  0
  0] ∧
  ∀
  (w'_20 :
  World),
  w'_20 =
  setCellsAt
  w'_19
  (Addr.mk
  w'.heap.size
  0
  none)
  0
  [Value.int
  IntKind.i64
  0,
  Value.slice
  none
  0
  0,
  Value.bool
  false,
  Value.bool
  false,
  Value.slice
  none
  0
  0] →
  ∃
  (n
  :
  Int),
  ∃
  (p
  :
  Option
  Addr),
  ∃
  (n_3
  :
  Nat),
  ∃
  (c
  :
  Nat),
  ∃
  (b
  :
  Bool),
  ∃
  (b_2
  :
  Bool),
  ∃
  (p_2
  :
  Option
  Addr),
  ∃
  (n_4
  :
  Nat),
  ∃
  (c_2
  :
  Nat),
  (w'_20.cell?
  (Addr.mk
  w'.heap.size
  0
  none) =
  some
  (Value.int
  IntKind.i64
  n) ∧
  w'_20.cell?
  (Addr.mk
  w'.heap.size
  1
  none) =
  some
  (Value.slice
  p
  n_3
  c) ∧
  w'_20.cell?
  (Addr.mk
  w'.heap.size
  2
  none) =
  some
  (Value.bool
  b) ∧
  w'_20.cell?
  (Addr.mk
  w'.heap.size
  3
  none) =
  some
  (Value.bool
  b_2) ∧
  w'_20.cell?
  (Addr.mk
  w'.heap.size
  4
  none) =
  some
  (Value.slice
  p_2
  n_4
  c_2) ∧
  True) ∧
  R
  (Ending.returned
  (Value.tuple
  #[Value.agg
  #[Value.int
  IntKind.i64
  n,
  Value.slice
  p
  n_3
  c,
  Value.bool
  b,
  Value.bool
  b_2,
  Value.slice
  p_2
  n_4
  c_2],
  Value.int
  IntKind.i64
  7]))
  w'_20)
  (∃
  (n
  :
  Int),
  ∃
  (p
  :
  Option
  Addr),
  ∃
  (n_3
  :
  Nat),
  ∃
  (c
  :
  Nat),
  ∃
  (b
  :
  Bool),
  ∃
  (b_2
  :
  Bool),
  ∃
  (p_2
  :
  Option
  Addr),
  ∃
  (n_4
  :
  Nat),
  ∃
  (c_2
  :
  Nat),
  (w'_19.cell?
  (Addr.mk
  w'_6.heap.size
  0
  none) =
  some
  (Value.int
  IntKind.i64
  n) ∧
  w'_19.cell?
  (Addr.mk
  w'_6.heap.size
  1
  none) =
  some
  (Value.slice
  p
  n_3
  c) ∧
  w'_19.cell?
  (Addr.mk
  w'_6.heap.size
  2
  none) =
  some
  (Value.bool
  b) ∧
  w'_19.cell?
  (Addr.mk
  w'_6.heap.size
  3
  none) =
  some
  (Value.bool
  b_2) ∧
  w'_19.cell?
  (Addr.mk
  w'_6.heap.size
  4
  none) =
  some
  (Value.slice
  p_2
  n_4
  c_2) ∧
  True) ∧
  SetsAt
  w'_19
  (Addr.mk
  w'.heap.size
  0
  none)
  0
  [Value.int
  IntKind.i64
  n,
  Value.slice
  p
  n_3
  c,
  Value.bool
  b,
  Value.bool
  b_2,
  Value.slice
  p_2
  n_4
  c_2] ∧
  ∀
  (w'_20 :
  World),
  w'_20 =
  setCellsAt
  w'_19
  (Addr.mk
  w'.heap.size
  0
  none)
  0
  [Value.int
  IntKind.i64
  n,
  Value.slice
  p
  n_3
  c,
  Value.bool
  b,
  Value.bool
  b_2,
  Value.slice
  p_2
  n_4
  c_2] →
  ∃
  (n
  :
  Int),
  ∃
  (p
  :
  Option
  Addr),
  ∃
  (n_5
  :
  Nat),
  ∃
  (c
  :
  Nat),
  ∃
  (b
  :
  Bool),
  ∃
  (b_3
  :
  Bool),
  ∃
  (p_3
  :
  Option
  Addr),
  ∃
  (n_6
  :
  Nat),
  ∃
  (c_3
  :
  Nat),
  (w'_20.cell?
  (Addr.mk
  w'.heap.size
  0
  none) =
  some
  (Value.int
  IntKind.i64
  n) ∧
  w'_20.cell?
  (Addr.mk
  w'.heap.size
  1
  none) =
  some
  (Value.slice
  p
  n_5
  c) ∧
  w'_20.cell?
  (Addr.mk
  w'.heap.size
  2
  none) =
  some
  (Value.bool
  b) ∧
  w'_20.cell?
  (Addr.mk
  w'.heap.size
  3
  none) =
  some
  (Value.bool
  b_3) ∧
  w'_20.cell?
  (Addr.mk
  w'.heap.size
  4
  none) =
  some
  (Value.slice
  p_3
  n_6
  c_3) ∧
  True) ∧
  R
  (Ending.returned
  (Value.tuple
  #[Value.agg
  #[Value.int
  IntKind.i64
  n,
  Value.slice
  p
  n_5
  c,
  Value.bool
  b,
  Value.bool
  b_3,
  Value.slice
  p_3
  n_6
  c_3],
  Value.int
  IntKind.i64
  0]))
  w'_20))))))
theorem image_Get.vc_eq (s' : ByteArray) (w : World) (R : Ending → World → Prop) : fnV Try.prog image_Get.H 16 [Value.string s'] w R = image_Get.vc s' w R := by kernel_rfl
theorem image_Get.calls {s' : ByteArray} {w : World} {R : Ending → World → Prop} (h : image_Get.vc s' w R) : Calls Try.prog 16 ([Value.string s'] : List Value).toArray w R := calls_of_eq (image_Get.vc_eq s' w R) h

/- function 27: strings.HasPrefix -/
abbrev strings_HasPrefix.N : FuncId := 27
def strings_HasPrefix.H : Hints := {  }
def strings_HasPrefix.vc (s' : ByteArray) (prefx' : ByteArray) (w : World) (R : Ending → World → Prop) : Prop :=
  Calls Proofs.Try.prog 37 #[Value.string s', Value.string prefx'] w fun (e : Ending) (w' : World) =>
  ∃ (b : Bool), e = Ending.returned (Value.bool b) ∧ R (Ending.returned (Value.bool b)) w'
theorem strings_HasPrefix.vc_eq (s' : ByteArray) (prefx' : ByteArray) (w : World) (R : Ending → World → Prop) : fnV Try.prog strings_HasPrefix.H 27 [Value.string s', Value.string prefx'] w R = strings_HasPrefix.vc s' prefx' w R := by kernel_rfl
theorem strings_HasPrefix.calls {s' : ByteArray} {prefx' : ByteArray} {w : World} {R : Ending → World → Prop} (h : strings_HasPrefix.vc s' prefx' w R) : Calls Try.prog 27 ([Value.string s', Value.string prefx'] : List Value).toArray w R := calls_of_eq (strings_HasPrefix.vc_eq s' prefx' w R) h

/- function 37: internal/stringslite.HasPrefix -/
abbrev internal_stringslite_HasPrefix.N : FuncId := 37
def internal_stringslite_HasPrefix.H : Hints := {  }
def internal_stringslite_HasPrefix.vc (s' : ByteArray) (prefx' : ByteArray) (w : World) (R : Ending → World → Prop) : Prop :=
  cnd (decide ((↑s'.size : Int) ≥ (↑prefx'.size : Int)))
  ((0 ≤ (↑prefx'.size : Int) ∧ (↑prefx'.size : Int) ≤ (↑s'.size : Int)) ∧
  R (Ending.returned (Value.bool ((s'.extract 0 (↑prefx'.size : Int).toNat).toList == prefx'.toList))) w)
  (R (Ending.returned (Value.bool false)) w)
theorem internal_stringslite_HasPrefix.vc_eq (s' : ByteArray) (prefx' : ByteArray) (w : World) (R : Ending → World → Prop) : fnV Try.prog internal_stringslite_HasPrefix.H 37 [Value.string s', Value.string prefx'] w R = internal_stringslite_HasPrefix.vc s' prefx' w R := by kernel_rfl
theorem internal_stringslite_HasPrefix.calls {s' : ByteArray} {prefx' : ByteArray} {w : World} {R : Ending → World → Prop} (h : internal_stringslite_HasPrefix.vc s' prefx' w R) : Calls Try.prog 37 ([Value.string s', Value.string prefx'] : List Value).toArray w R := calls_of_eq (internal_stringslite_HasPrefix.vc_eq s' prefx' w R) h

end Go.Proofs.Ytjoikaklincfoaa

/-
The explicit conditions of some functions of the program, printed by this repo's own program over VcTop: what is proved is that each is the condition.
Conditions: none.
-/
namespace Go.Proofs.Ytjoikaklincfoaa
open Go Go.Vc Go.RowKit
set_option linter.unusedVariables false
set_option maxRecDepth 100000

/- function 21: sacristy/sacristyref30.Words -/
abbrev ref30_Words.N : FuncId := 21
def ref30_Words.H : Hints := { loops := [(4, [(3, .one (.int .i64)), (4, .one (.int .i64))])] }
def ref30_Words.vc (l' : Option Addr) (l'n : Nat) (l'c : Nat) (w : World) (R : Ending → World → Prop) : Prop :=
  ∃ (I : List Value → World → Prop),
  ∃ (μ : List Value → World → Nat),
  I [Value.int IntKind.i64 0, Value.int IntKind.i64 0] w ∧
  ∀ (g : Nat → Value) (n i : Int) (w' : World),
  I [Value.int IntKind.i64 n, Value.int IntKind.i64 i] w' →
  cnd (decide (i < (↑l'n : Int)))
  ((0 ≤ i ∧ i < (↑l'n : Int)) ∧
  Deref l' fun (a : Addr) =>
  ∃ (b : Bool),
  w'.cell? (a.add (i.toNat * 5)) = some (Value.bool b) ∧
  cnd b
  (Goes I μ [Value.int IntKind.i64 n, Value.int IntKind.i64 i] w'
  [Value.int IntKind.i64 (IntKind.i64.wrap (IntKind.i64.wrap (n + 1) + 1)),
  Value.int IntKind.i64 (IntKind.i64.wrap (i + 1))]
  w')
  (Goes I μ [Value.int IntKind.i64 n, Value.int IntKind.i64 i] w'
  [Value.int IntKind.i64 (IntKind.i64.wrap (n + 1)),
  Value.int IntKind.i64 (IntKind.i64.wrap (i + 1))]
  w'))
  (R (Ending.returned (Value.int IntKind.i64 n)) w')
theorem ref30_Words.vc_eq (l' : Option Addr) (l'n : Nat) (l'c : Nat) (w : World) (R : Ending → World → Prop) : fnV Try.prog ref30_Words.H 21 [Value.slice l' l'n l'c] w R = ref30_Words.vc l' l'n l'c w R := by kernel_rfl
theorem ref30_Words.calls {l' : Option Addr} {l'n : Nat} {l'c : Nat} {w : World} {R : Ending → World → Prop} (h : ref30_Words.vc l' l'n l'c w R) : Calls Try.prog 21 ([Value.slice l' l'n l'c] : List Value).toArray w R := calls_of_eq (ref30_Words.vc_eq l' l'n l'c w R) h

/- function 13: sacristy/sacristyref30.May -/
abbrev ref30_May.N : FuncId := 13
def ref30_May.H : Hints := { loops := [(5, [(3, .one (.int .i64))]), (11, [(5, .one (.int .i64))])], regs := [(1, [(48, .one .bool)])] }
def ref30_May.vc (x'_0 : Int) (x'_1 : Option Addr) (x'_1n : Nat) (x'_1c : Nat) (x'_2 : Bool) (x'_3 : Bool) (x'_4 : Option Addr) (x'_4n : Nat) (x'_4c : Nat) (w : World) (R : Ending → World → Prop) : Prop :=
  ∀ (w' : World),
  w' =
  w.alloc
  (Obj.cells
  #[Value.int IntKind.i64 x'_0, Value.slice x'_1 x'_1n x'_1c, Value.bool x'_2, Value.bool x'_3,
  Value.slice x'_4 x'_4n x'_4c]
  25) →
  ∃ (J : List Value → World → Prop),
  (∃ (n : Int),
  w'.cell? (Addr.mk w.heap.size 0 none) = some (Value.int IntKind.i64 n) ∧
  cnd (decide (n < 0)) (J [Value.bool true] w')
  (∃ (n : Int),
  w'.cell? (Addr.mk w.heap.size 0 none) = some (Value.int IntKind.i64 n) ∧
  cnd (decide (n > 255)) (J [Value.bool true] w')
  (∃ (p : Option Addr),
  ∃ (n : Nat),
  ∃ (c : Nat),
  w'.cell? (Addr.mk w.heap.size 1 none) = some (Value.slice p n c) ∧
  cnd (decide ((↑n : Int) > 8)) (J [Value.bool true] w')
  (∃ (p : Option Addr),
  ∃ (n : Nat),
  ∃ (c : Nat),
  w'.cell? (Addr.mk w.heap.size 1 none) = some (Value.slice p n c) ∧
  Calls Proofs.Try.prog 21 #[Value.slice p n c] w' fun (e : Ending) (w' : World) =>
  ∃ (n : Int),
  e = Ending.returned (Value.int IntKind.i64 n) ∧
  cnd (decide (n > 8)) (J [Value.bool true] w')
  (∃ (b : Bool),
  w'.cell? (Addr.mk w.heap.size 3 none) = some (Value.bool b) ∧
  cnd b
  (∃ (b : Bool),
  w'.cell? (Addr.mk w.heap.size 2 none) = some (Value.bool b) ∧
  cnd (!b) (J [Value.bool true] w')
  (∃ (p : Option Addr),
  ∃ (n : Nat),
  ∃ (c : Nat),
  w'.cell? (Addr.mk w.heap.size 4 none) =
  some (Value.slice p n c) ∧
  cnd (decide ((↑n : Int) < 1)) (J [Value.bool true] w')
  (∃ (p : Option Addr),
  ∃ (n : Nat),
  ∃ (c : Nat),
  w'.cell? (Addr.mk w.heap.size 4 none) =
  some (Value.slice p n c) ∧
  J
  [Value.bool
  (decide ((↑n : Int) > 131072))]
  w')))
  (∃ (p : Option Addr),
  ∃ (n : Nat),
  ∃ (c : Nat),
  w'.cell? (Addr.mk w.heap.size 4 none) =
  some (Value.slice p n c) ∧
  cnd (decide ((↑n : Int) < 1)) (J [Value.bool true] w')
  (∃ (p : Option Addr),
  ∃ (n : Nat),
  ∃ (c : Nat),
  w'.cell? (Addr.mk w.heap.size 4 none) =
  some (Value.slice p n c) ∧
  J [Value.bool (decide ((↑n : Int) > 131072))]
  w'))))))) ∧
  ∀ (g : Nat → Value) (s48 : Bool) (w' : World),
  J [Value.bool s48] w' →
  cnd s48 (R (Ending.returned (Value.bool false)) w')
  (∃ (I : List Value → World → Prop),
  ∃ (μ : List Value → World → Nat),
  I [Value.int IntKind.i64 0] w' ∧
  ∀ (g : Nat → Value) (i : Int) (w' : World),
  I [Value.int IntKind.i64 i] w' →
  ∃ (p : Option Addr),
  ∃ (n : Nat),
  ∃ (c : Nat),
  w'.cell? (Addr.mk w.heap.size 1 none) = some (Value.slice p n c) ∧
  cnd (decide (i < (↑n : Int)))
  (∃ (p : Option Addr),
  ∃ (n : Nat),
  ∃ (c : Nat),
  w'.cell? (Addr.mk w.heap.size 1 none) = some (Value.slice p n c) ∧
  (0 ≤ i ∧ i < (↑n : Int)) ∧
  Deref p fun (a : Addr) =>
  ∃ (b : Bool),
  ∃ (b_1 : Bool),
  ∃ (b_2 : Bool),
  ∃ (n : Int),
  ∃ (n_1 : Int),
  (w'.cell? (a.add (i.toNat * 5)) = some (Value.bool b) ∧
  w'.cell? ((a.add (i.toNat * 5)).add 1) =
  some (Value.bool b_1) ∧
  w'.cell? ((a.add (i.toNat * 5)).add 2) =
  some (Value.bool b_2) ∧
  w'.cell? ((a.add (i.toNat * 5)).add 3) =
  some (Value.int IntKind.i64 n) ∧
  w'.cell? ((a.add (i.toNat * 5)).add 4) =
  some (Value.int IntKind.i64 n_1) ∧
  True) ∧
  ∀ (w'_1 : World),
  w'_1 =
  w'.alloc
  (Obj.cells
  #[Value.bool false, Value.bool false,
  Value.bool false, Value.int IntKind.i64 0,
  Value.int IntKind.i64 0]
  50) →
  SetsAt w'_1 (Addr.mk w'.heap.size 0 none) 0
  [Value.bool b, Value.bool b_1, Value.bool b_2,
  Value.int IntKind.i64 n,
  Value.int IntKind.i64 n_1] ∧
  ∀ (w'_2 : World),
  w'_2 =
  setCellsAt w'_1 (Addr.mk w'.heap.size 0 none) 0
  [Value.bool b, Value.bool b_1, Value.bool b_2,
  Value.int IntKind.i64 n,
  Value.int IntKind.i64 n_1] →
  ∃ (n : Int),
  w'_2.cell? (Addr.mk w'.heap.size 3 none) =
  some (Value.int IntKind.i64 n) ∧
  cnd (n != 0)
  (R (Ending.returned (Value.bool false)) w'_2)
  (∃ (n : Int),
  w'_2.cell? (Addr.mk w'.heap.size 4 none) =
  some (Value.int IntKind.i64 n) ∧
  cnd (n != 0)
  (R (Ending.returned (Value.bool false))
  w'_2)
  (∃ (b : Bool),
  w'_2.cell?
  (Addr.mk w'.heap.size 2 none) =
  some (Value.bool b) ∧
  cnd b
  (∃ (b : Bool),
  w'_2.cell?
  (Addr.mk w'.heap.size 0
  none) =
  some (Value.bool b) ∧
  cnd (!b)
  (R
  (Ending.returned
  (Value.bool false))
  w'_2)
  (Goes I μ
  [Value.int IntKind.i64 i]
  w'
  [Value.int IntKind.i64
  (IntKind.i64.wrap
  (i + 1))]
  w'_2))
  (Goes I μ
  [Value.int IntKind.i64 i] w'
  [Value.int IntKind.i64
  (IntKind.i64.wrap (i + 1))]
  w'_2))))
  (∃ (I : List Value → World → Prop),
  ∃ (μ : List Value → World → Nat),
  I [Value.int IntKind.i64 0] w' ∧
  ∀ (g : Nat → Value) (i : Int) (w' : World),
  I [Value.int IntKind.i64 i] w' →
  ∃ (p : Option Addr),
  ∃ (n : Nat),
  ∃ (c : Nat),
  w'.cell? (Addr.mk w.heap.size 4 none) = some (Value.slice p n c) ∧
  cnd (decide (i < (↑n : Int)))
  (∃ (p : Option Addr),
  ∃ (n : Nat),
  ∃ (c : Nat),
  w'.cell? (Addr.mk w.heap.size 4 none) =
  some (Value.slice p n c) ∧
  (0 ≤ i ∧ i < (↑n : Int)) ∧
  Deref p fun (a : Addr) =>
  ∃ (n : Int),
  w'.cell? (a.add (i.toNat * 1)) =
  some (Value.int IntKind.u32 n) ∧
  Calls Proofs.Try.prog 15
  #[Value.int IntKind.u32 n] w'
  fun (e : Ending) (w'_1 : World) =>
  ∃ (n : Int),
  ∃ (n_1 : Int),
  ∃ (n_2 : Int),
  ∃ (n_3 : Int),
  ∃ (n_4 : Int),
  ∃ (n_5 : Int),
  e =
  Ending.returned
  (Value.tuple
  #[Value.agg
  #[Value.int IntKind.u8
  n,
  Value.int IntKind.u8
  n_1,
  Value.int IntKind.u8
  n_2,
  Value.int IntKind.u8
  n_3,
  Value.int IntKind.i64
  n_4],
  Value.int IntKind.i64
  n_5]) ∧
  ∀ (w'_2 : World),
  w'_2 =
  w'_1.alloc
  (Obj.cells
  #[Value.int IntKind.u8
  0,
  Value.int IntKind.u8
  0,
  Value.int IntKind.u8
  0,
  Value.int IntKind.u8
  0,
  Value.int IntKind.i64
  0]
  39) →
  SetsAt w'_2
  (Addr.mk w'_1.heap.size 0
  none)
  0
  [Value.int IntKind.u8 n,
  Value.int IntKind.u8
  n_1,
  Value.int IntKind.u8
  n_2,
  Value.int IntKind.u8
  n_3,
  Value.int IntKind.i64
  n_4] ∧
  ∀ (w'_3 : World),
  w'_3 =
  setCellsAt w'_2
  (Addr.mk
  w'_1.heap.size 0
  none)
  0
  [Value.int
  IntKind.u8 n,
  Value.int
  IntKind.u8 n_1,
  Value.int
  IntKind.u8 n_2,
  Value.int
  IntKind.u8 n_3,
  Value.int
  IntKind.i64
  n_4] →
  cnd (n_5 != 0)
  (R
  (Ending.returned
  (Value.bool
  false))
  w'_3)
  (Goes I μ
  [Value.int
  IntKind.i64 i]
  w'
  [Value.int
  IntKind.i64
  (IntKind.i64.wrap
  (i + 1))]
  w'_3))
  (R (Ending.returned (Value.bool true)) w')))
theorem ref30_May.vc_eq (x'_0 : Int) (x'_1 : Option Addr) (x'_1n : Nat) (x'_1c : Nat) (x'_2 : Bool) (x'_3 : Bool) (x'_4 : Option Addr) (x'_4n : Nat) (x'_4c : Nat) (w : World) (R : Ending → World → Prop) : fnV Try.prog ref30_May.H 13 [Value.agg
  #[Value.int IntKind.i64 x'_0, Value.slice x'_1 x'_1n x'_1c, Value.bool x'_2, Value.bool x'_3,
  Value.slice x'_4 x'_4n x'_4c]] w R = ref30_May.vc x'_0 x'_1 x'_1n x'_1c x'_2 x'_3 x'_4 x'_4n x'_4c w R := by kernel_rfl
theorem ref30_May.calls {x'_0 : Int} {x'_1 : Option Addr} {x'_1n : Nat} {x'_1c : Nat} {x'_2 : Bool} {x'_3 : Bool} {x'_4 : Option Addr} {x'_4n : Nat} {x'_4c : Nat} {w : World} {R : Ending → World → Prop} (h : ref30_May.vc x'_0 x'_1 x'_1n x'_1c x'_2 x'_3 x'_4 x'_4n x'_4c w R) : Calls Try.prog 13 ([Value.agg
  #[Value.int IntKind.i64 x'_0, Value.slice x'_1 x'_1n x'_1c, Value.bool x'_2, Value.bool x'_3,
  Value.slice x'_4 x'_4n x'_4c]] : List Value).toArray w R := calls_of_eq (ref30_May.vc_eq x'_0 x'_1 x'_1n x'_1c x'_2 x'_3 x'_4 x'_4n x'_4c w R) h

/- function 22: sacristy/sacristyref30.bits -/
abbrev ref30_bits.N : FuncId := 22
def ref30_bits.H : Hints := {  }
def ref30_bits.vc (a' : Bool) (b' : Bool) (c' : Bool) (w : World) (R : Ending → World → Prop) : Prop :=
  cnd a'
  (cnd b'
  (cnd c'
  (R (Ending.returned (Value.int IntKind.u8 (IntKind.u8.wrap (IntKind.u8.wrap (IntKind.u8.wrap 1 + 2) + 4)))) w)
  (R (Ending.returned (Value.int IntKind.u8 (IntKind.u8.wrap (IntKind.u8.wrap 1 + 2)))) w))
  (cnd c' (R (Ending.returned (Value.int IntKind.u8 (IntKind.u8.wrap (IntKind.u8.wrap 1 + 4)))) w)
  (R (Ending.returned (Value.int IntKind.u8 (IntKind.u8.wrap 1))) w)))
  (cnd b'
  (cnd c' (R (Ending.returned (Value.int IntKind.u8 (IntKind.u8.wrap (IntKind.u8.wrap 2 + 4)))) w)
  (R (Ending.returned (Value.int IntKind.u8 (IntKind.u8.wrap 2))) w))
  (cnd c' (R (Ending.returned (Value.int IntKind.u8 (IntKind.u8.wrap 4))) w)
  (R (Ending.returned (Value.int IntKind.u8 0)) w)))
theorem ref30_bits.vc_eq (a' : Bool) (b' : Bool) (c' : Bool) (w : World) (R : Ending → World → Prop) : fnV Try.prog ref30_bits.H 22 [Value.bool a', Value.bool b', Value.bool c'] w R = ref30_bits.vc a' b' c' w R := by kernel_rfl
theorem ref30_bits.calls {a' : Bool} {b' : Bool} {c' : Bool} {w : World} {R : Ending → World → Prop} (h : ref30_bits.vc a' b' c' w R) : Calls Try.prog 22 ([Value.bool a', Value.bool b', Value.bool c'] : List Value).toArray w R := calls_of_eq (ref30_bits.vc_eq a' b' c' w R) h

/- function 23: sacristy/sacristyref30.four -/
abbrev ref30_four.N : FuncId := 23
def ref30_four.H : Hints := {  }
def ref30_four.vc (n' : Int) (w : World) (R : Ending → World → Prop) : Prop :=
  ∀ (w' : World),
  w' =
  w.alloc
  (Obj.cells
  #[Value.int IntKind.u8 (IntKind.u8.wrap (n'.tmod 256)),
  Value.int IntKind.u8 (IntKind.u8.wrap ((IntKind.u32.wrap (n'.tdiv 256)).tmod 256)),
  Value.int IntKind.u8 (IntKind.u8.wrap ((IntKind.u32.wrap (n'.tdiv 65536)).tmod 256)),
  Value.int IntKind.u8 (IntKind.u8.wrap (IntKind.u32.wrap (n'.tdiv 16777216)))]
  5) →
  R (Ending.returned (Value.slice (some (Addr.mk w.heap.size 0 none)) 4 4)) w'
theorem ref30_four.vc_eq (n' : Int) (w : World) (R : Ending → World → Prop) : fnV Try.prog ref30_four.H 23 [Value.int IntKind.u32 n'] w R = ref30_four.vc n' w R := by kernel_rfl
theorem ref30_four.calls {n' : Int} {w : World} {R : Ending → World → Prop} (h : ref30_four.vc n' w R) : Calls Try.prog 23 ([Value.int IntKind.u32 n'] : List Value).toArray w R := calls_of_eq (ref30_four.vc_eq n' w R) h

/- function 14: sacristy/sacristyref30.Put -/
abbrev ref30_Put.N : FuncId := 14
def ref30_Put.H : Hints := { loops := [(5, [(3, .one .slice), (4, .one (.int .i64))]), (11, [(3, .one .slice), (5, .one (.int .i64))])], tails := [(6, 20)], edges := [(6, [(0, 20)])] }
def ref30_Put.vc (x'_0 : Int) (x'_1 : Option Addr) (x'_1n : Nat) (x'_1c : Nat) (x'_2 : Bool) (x'_3 : Bool) (x'_4 : Option Addr) (x'_4n : Nat) (x'_4c : Nat) (w : World) (R : Ending → World → Prop) : Prop :=
  ∀ (w' : World),
  w' =
  w.alloc
  (Obj.cells
  #[Value.int IntKind.i64 x'_0, Value.slice x'_1 x'_1n x'_1c, Value.bool x'_2, Value.bool x'_3,
  Value.slice x'_4 x'_4n x'_4c]
  25) →
  ∀ (w'_1 : World),
  w'_1 =
  w'.alloc
  (Obj.cells
  #[Value.int IntKind.u8 83, Value.int IntKind.u8 67, Value.int IntKind.u8 82, Value.int IntKind.u8 49] 5) →
  RunsV Proofs.Try.prog (convert 48 48 (Value.slice (some (Addr.mk w'.heap.size 0 none)) 4 4)) w'_1
  fun (v : Value) (w' : World) =>
  ∃ (p : Option Addr),
  ∃ (n : Nat),
  ∃ (c : Nat),
  v = Value.slice p n c ∧
  ∃ (n_1 : Int),
  w'.cell? (Addr.mk w.heap.size 0 none) = some (Value.int IntKind.i64 n_1) ∧
  ∃ (p_1 : Option Addr),
  ∃ (n_2 : Nat),
  ∃ (c_1 : Nat),
  w'.cell? (Addr.mk w.heap.size 1 none) = some (Value.slice p_1 n_2 c_1) ∧
  ∀ (w'_2 : World),
  w'_2 =
  w'.alloc
  (Obj.cells
  #[Value.int IntKind.u8 (IntKind.u8.wrap n_1),
  Value.int IntKind.u8 (IntKind.u8.wrap (↑n_2 : Int))]
  5) →
  RunsV Proofs.Try.prog
  (Builtin.append_ #[48, 48] 48
  #[Value.slice p n c, Value.slice (some (Addr.mk w'.heap.size 0 none)) 2 2])
  w'_2 fun (v : Value) (w' : World) =>
  ∃ (p : Option Addr),
  ∃ (n : Nat),
  ∃ (c : Nat),
  v = Value.slice p n c ∧
  ∃ (I : List Value → World → Prop),
  ∃ (μ : List Value → World → Nat),
  I [Value.slice p n c, Value.int IntKind.i64 0] w' ∧
  ∀ (g : Nat → Value) (b : Option Addr) (bn bc : Nat) (i : Int)
  (w' : World),
  I [Value.slice b bn bc, Value.int IntKind.i64 i] w' →
  ∃ (p : Option Addr),
  ∃ (n : Nat),
  ∃ (c : Nat),
  w'.cell? (Addr.mk w.heap.size 1 none) =
  some (Value.slice p n c) ∧
  cnd (decide (i < (↑n : Int)))
  (∃ (p : Option Addr),
  ∃ (n : Nat),
  ∃ (c : Nat),
  (∀ (w'_3 : World),
  Later w' w'_3 →
  w'_3.cell? (Addr.mk w.heap.size 1 none) =
  some (Value.slice p n c)) ∧
  (0 ≤ i ∧ i < (↑n : Int)) ∧
  Deref p fun (a : Addr) =>
  ∃ (b_1 : Bool),
  (∀ (w'_3 : World),
  Later w' w'_3 →
  w'_3.cell? (a.add (i.toNat * 5)) =
  some (Value.bool b_1)) ∧
  ∃ (p : Option Addr),
  ∃ (n : Nat),
  ∃ (c : Nat),
  (∀ (w'_3 : World),
  Later w' w'_3 →
  w'_3.cell?
  (Addr.mk w.heap.size 1
  none) =
  some
  (Value.slice p n c)) ∧
  (0 ≤ i ∧ i < (↑n : Int)) ∧
  Deref p fun (a : Addr) =>
  ∃ (b_2 : Bool),
  (∀ (w'_3 : World),
  Later w' w'_3 →
  w'_3.cell?
  ((a.add
  (i.toNat *
  5)).add
  1) =
  some
  (Value.bool
  b_2)) ∧
  ∃ (p : Option Addr),
  ∃ (n : Nat),
  ∃ (c : Nat),
  (∀ (w'_3 : World),
  Later w'
  w'_3 →
  w'_3.cell?
  (Addr.mk
  w.heap.size
  1
  none) =
  some
  (Value.slice
  p n
  c)) ∧
  (0 ≤ i ∧
  i <
  (↑n :
  Int)) ∧
  Deref p
  fun
  (a :
  Addr) =>
  ∃ (b_3 :
  Bool),
  (∀
  (w'_3 :
  World),
  Later
  w'
  w'_3 →
  w'_3.cell?
  ((a.add
  (i.toNat *
  5)).add
  2) =
  some
  (Value.bool
  b_3)) ∧
  ∃ (n :
  Int),
  (∀
  (w'_3 :
  World),
  Later
  w'
  w'_3 →
  Calls
  Proofs.Try.prog
  22
  #[Value.bool
  b_1,
  Value.bool
  b_2,
  Value.bool
  b_3]
  w'_3
  fun
  (e :
  Ending)
  (w'' :
  World) =>
  e =
  Ending.returned
  (Value.int
  IntKind.u8
  n) ∧
  Later
  w'_3
  w'') ∧
  ∀
  (w'_3 :
  World),
  Later
  w'
  w'_3 →
  ∀
  (w'_4 :
  World),
  w'_4 =
  w'_3.alloc
  (Obj.cells
  #[Value.int
  IntKind.u8
  n]
  5) →
  RunsV
  Proofs.Try.prog
  (Builtin.append_
  #[48,
  48]
  48
  #[Value.slice
  b
  bn
  bc,
  Value.slice
  (some
  (Addr.mk
  w'_3.heap.size
  0
  none))
  1
  1])
  w'_4
  fun
  (v :
  Value)
  (w'_5 :
  World) =>
  ∃
  (p
  :
  Option
  Addr),
  ∃
  (n
  :
  Nat),
  ∃
  (c
  :
  Nat),
  v =
  Value.slice
  p
  n
  c ∧
  Goes
  I
  μ
  [Value.slice
  b
  bn
  bc,
  Value.int
  IntKind.i64
  i]
  w'
  [Value.slice
  p
  n
  c,
  Value.int
  IntKind.i64
  (IntKind.i64.wrap
  (i +
  1))]
  w'_5)
  (∃ (b_1 : Bool),
  w'.cell? (Addr.mk w.heap.size 2 none) =
  some (Value.bool b_1) ∧
  ∃ (b_2 : Bool),
  w'.cell? (Addr.mk w.heap.size 3 none) =
  some (Value.bool b_2) ∧
  Calls Proofs.Try.prog 22
  #[Value.bool b_1, Value.bool b_2,
  Value.bool false]
  w' fun (e : Ending) (w' : World) =>
  ∃ (n : Int),
  e =
  Ending.returned
  (Value.int IntKind.u8 n) ∧
  ∀ (w'_3 : World),
  w'_3 =
  w'.alloc
  (Obj.cells
  #[Value.int IntKind.u8 n] 5) →
  RunsV Proofs.Try.prog
  (Builtin.append_ #[48, 48] 48
  #[Value.slice b bn bc,
  Value.slice
  (some
  (Addr.mk w'.heap.size 0
  none))
  1 1])
  w'_3 fun (v : Value) (w' : World) =>
  ∃ (p : Option Addr),
  ∃ (n : Nat),
  ∃ (c : Nat),
  v = Value.slice p n c ∧
  ∃ (p_2 : Option Addr),
  ∃ (n_3 : Nat),
  ∃ (c_2 : Nat),
  w'.cell?
  (Addr.mk
  w.heap.size 4
  none) =
  some
  (Value.slice p_2
  n_3 c_2) ∧
  Calls
  Proofs.Try.prog 23
  #[Value.int
  IntKind.u32
  (IntKind.u32.wrap
  (↑n_3 :
  Int))]
  w'
  fun (e : Ending)
  (w' : World) =>
  ∃ (p_3 :
  Option Addr),
  ∃ (n_4 : Nat),
  ∃ (c_3 : Nat),
  e =
  Ending.returned
  (Value.slice
  p_3
  n_4
  c_3) ∧
  RunsV
  Proofs.Try.prog
  (Builtin.append_
  #[48,
  48]
  48
  #[Value.slice
  p
  n
  c,
  Value.slice
  p_3
  n_4
  c_3])
  w'
  fun
  (v :
  Value)
  (w' :
  World) =>
  ∃ (p :
  Option
  Addr),
  ∃ (n :
  Nat),
  ∃ (c
  :
  Nat),
  v =
  Value.slice
  p
  n
  c ∧
  ∃
  (I
  :
  List
  Value →
  World →
  Prop),
  ∃
  (μ
  :
  List
  Value →
  World →
  Nat),
  I
  [Value.slice
  p
  n
  c,
  Value.int
  IntKind.i64
  0]
  w' ∧
  ∀
  (g :
  Nat →
  Value)
  (b :
  Option
  Addr)
  (bn
  bc :
  Nat)
  (i :
  Int)
  (w' :
  World),
  I
  [Value.slice
  b
  bn
  bc,
  Value.int
  IntKind.i64
  i]
  w' →
  ∃
  (p
  :
  Option
  Addr),
  ∃
  (n
  :
  Nat),
  ∃
  (c
  :
  Nat),
  w'.cell?
  (Addr.mk
  w.heap.size
  4
  none) =
  some
  (Value.slice
  p
  n
  c) ∧
  cnd
  (decide
  (i <
  (↑n :
  Int)))
  (∃
  (p
  :
  Option
  Addr),
  ∃
  (n
  :
  Nat),
  ∃
  (c
  :
  Nat),
  w'.cell?
  (Addr.mk
  w.heap.size
  4
  none) =
  some
  (Value.slice
  p
  n
  c) ∧
  (0 ≤
  i ∧
  i <
  (↑n :
  Int)) ∧
  Deref
  p
  fun
  (a :
  Addr) =>
  ∃
  (n
  :
  Int),
  w'.cell?
  (a.add
  (i.toNat *
  1)) =
  some
  (Value.int
  IntKind.u32
  n) ∧
  Calls
  Proofs.Try.prog
  23
  #[Value.int
  IntKind.u32
  n]
  w'
  fun
  (e :
  Ending)
  (w'_4 :
  World) =>
  ∃
  (p
  :
  Option
  Addr),
  ∃
  (n
  :
  Nat),
  ∃
  (c
  :
  Nat),
  e =
  Ending.returned
  (Value.slice
  p
  n
  c) ∧
  RunsV
  Proofs.Try.prog
  (Builtin.append_
  #[48,
  48]
  48
  #[Value.slice
  b
  bn
  bc,
  Value.slice
  p
  n
  c])
  w'_4
  fun
  (v :
  Value)
  (w'_5 :
  World) =>
  ∃
  (p
  :
  Option
  Addr),
  ∃
  (n
  :
  Nat),
  ∃
  (c
  :
  Nat),
  v =
  Value.slice
  p
  n
  c ∧
  Goes
  I
  μ
  [Value.slice
  b
  bn
  bc,
  Value.int
  IntKind.i64
  i]
  w'
  [Value.slice
  p
  n
  c,
  Value.int
  IntKind.i64
  (IntKind.i64.wrap
  (i +
  1))]
  w'_5)
  (RunsV
  Proofs.Try.prog
  (convert
  48
  9
  (Value.slice
  b
  bn
  bc))
  w'
  fun
  (v :
  Value)
  (w' :
  World) =>
  ∃
  (s
  :
  ByteArray),
  v =
  Value.string
  s ∧
  R
  (Ending.returned
  (Value.string
  s))
  w'))
theorem ref30_Put.vc_eq (x'_0 : Int) (x'_1 : Option Addr) (x'_1n : Nat) (x'_1c : Nat) (x'_2 : Bool) (x'_3 : Bool) (x'_4 : Option Addr) (x'_4n : Nat) (x'_4c : Nat) (w : World) (R : Ending → World → Prop) : fnV Try.prog ref30_Put.H 14 [Value.agg
  #[Value.int IntKind.i64 x'_0, Value.slice x'_1 x'_1n x'_1c, Value.bool x'_2, Value.bool x'_3,
  Value.slice x'_4 x'_4n x'_4c]] w R = ref30_Put.vc x'_0 x'_1 x'_1n x'_1c x'_2 x'_3 x'_4 x'_4n x'_4c w R := by kernel_rfl
theorem ref30_Put.calls {x'_0 : Int} {x'_1 : Option Addr} {x'_1n : Nat} {x'_1c : Nat} {x'_2 : Bool} {x'_3 : Bool} {x'_4 : Option Addr} {x'_4n : Nat} {x'_4c : Nat} {w : World} {R : Ending → World → Prop} (h : ref30_Put.vc x'_0 x'_1 x'_1n x'_1c x'_2 x'_3 x'_4 x'_4n x'_4c w R) : Calls Try.prog 14 ([Value.agg
  #[Value.int IntKind.i64 x'_0, Value.slice x'_1 x'_1n x'_1c, Value.bool x'_2, Value.bool x'_3,
  Value.slice x'_4 x'_4n x'_4c]] : List Value).toArray w R := calls_of_eq (ref30_Put.vc_eq x'_0 x'_1 x'_1n x'_1c x'_2 x'_3 x'_4 x'_4n x'_4c w R) h

/- function 38: sacristy/sacristyref30.value -/
abbrev ref30_value.N : FuncId := 38
def ref30_value.H : Hints := {  }
def ref30_value.vc (s' : ByteArray) (at' : Int) (w : World) (R : Ending → World → Prop) : Prop :=
  0 ≤ at' ∧
  ∃ (b : UInt8),
  s'[at'.toNat]? = some b ∧
  0 ≤ IntKind.i64.wrap (at' + 1) ∧
  ∃ (b_1 : UInt8),
  s'[(IntKind.i64.wrap (at' + 1)).toNat]? = some b_1 ∧
  0 ≤ IntKind.i64.wrap (at' + 2) ∧
  ∃ (b_2 : UInt8),
  s'[(IntKind.i64.wrap (at' + 2)).toNat]? = some b_2 ∧
  0 ≤ IntKind.i64.wrap (at' + 3) ∧
  ∃ (b_3 : UInt8),
  s'[(IntKind.i64.wrap (at' + 3)).toNat]? = some b_3 ∧
  ∀ (w' : World),
  Later w w' →
  R
  (Ending.returned
  (Value.int IntKind.u32
  (IntKind.u32.wrap
  (IntKind.u32.wrap
  (IntKind.u32.wrap
  (IntKind.u32.wrap (↑b.toNat : Int) +
  IntKind.u32.wrap (256 * IntKind.u32.wrap (↑b_1.toNat : Int))) +
  IntKind.u32.wrap (65536 * IntKind.u32.wrap (↑b_2.toNat : Int))) +
  IntKind.u32.wrap (16777216 * IntKind.u32.wrap (↑b_3.toNat : Int))))))
  w'
theorem ref30_value.vc_eq (s' : ByteArray) (at' : Int) (w : World) (R : Ending → World → Prop) : fnV Try.prog ref30_value.H 38 [Value.string s', Value.int IntKind.i64 at'] w R = ref30_value.vc s' at' w R := by kernel_rfl
theorem ref30_value.calls {s' : ByteArray} {at' : Int} {w : World} {R : Ending → World → Prop} (h : ref30_value.vc s' at' w R) : Calls Try.prog 38 ([Value.string s', Value.int IntKind.i64 at'] : List Value).toArray w R := calls_of_eq (ref30_value.vc_eq s' at' w R) h

/- function 30: sacristy/sacristyref30.read -/
abbrev ref30_read.N : FuncId := 30
def ref30_read.H : Hints := { loops := [(12, [(8, .one (.int .i64))]), (24, [(11, .one (.int .i64))])], mixes := [(25, 1001)] }
def ref30_read.vc (s' : ByteArray) (w : World) (R : Ending → World → Prop) : Prop :=
  ∀ (w' : World),
  w' =
  w.alloc
  (Obj.cells
  #[Value.int IntKind.i64 0, Value.slice none 0 0, Value.bool false, Value.bool false, Value.slice none 0 0]
  25) →
  ∀ (w'_1 : World),
  w'_1 =
  w'.alloc
  (Obj.cells
  #[Value.int IntKind.i64 0, Value.slice none 0 0, Value.bool false, Value.bool false, Value.slice none 0 0]
  25) →
  SetsAt w'_1 (Addr.mk w'.heap.size 0 none) 0
  [Value.int IntKind.i64 0, Value.slice none 0 0, Value.bool false, Value.bool false, Value.slice none 0 0] ∧
  ∀ (w'_2 : World),
  w'_2 =
  setCellsAt w'_1 (Addr.mk w'.heap.size 0 none) 0
  [Value.int IntKind.i64 0, Value.slice none 0 0, Value.bool false, Value.bool false,
  Value.slice none 0 0] →
  cnd (decide ((↑s'.size : Int) < IntKind.i64.wrap 6))
  (∃ (n : Int),
  ∃ (p : Option Addr),
  ∃ (n_1 : Nat),
  ∃ (c : Nat),
  ∃ (b : Bool),
  ∃ (b_1 : Bool),
  ∃ (p_1 : Option Addr),
  ∃ (n_2 : Nat),
  ∃ (c_1 : Nat),
  (w'_2.cell? (Addr.mk w'.heap.size 0 none) = some (Value.int IntKind.i64 n) ∧
  w'_2.cell? (Addr.mk w'.heap.size 1 none) = some (Value.slice p n_1 c) ∧
  w'_2.cell? (Addr.mk w'.heap.size 2 none) = some (Value.bool b) ∧
  w'_2.cell? (Addr.mk w'.heap.size 3 none) = some (Value.bool b_1) ∧
  w'_2.cell? (Addr.mk w'.heap.size 4 none) = some (Value.slice p_1 n_2 c_1) ∧
  True) ∧
  SetsAt w'_2 (Addr.mk w.heap.size 0 none) 0
  [Value.int IntKind.i64 n, Value.slice p n_1 c, Value.bool b, Value.bool b_1,
  Value.slice p_1 n_2 c_1] ∧
  ∀ (w' : World),
  w' =
  setCellsAt w'_2 (Addr.mk w.heap.size 0 none) 0
  [Value.int IntKind.i64 n, Value.slice p n_1 c, Value.bool b,
  Value.bool b_1, Value.slice p_1 n_2 c_1] →
  ∃ (n : Int),
  ∃ (p : Option Addr),
  ∃ (n_3 : Nat),
  ∃ (c : Nat),
  ∃ (b : Bool),
  ∃ (b_2 : Bool),
  ∃ (p_2 : Option Addr),
  ∃ (n_4 : Nat),
  ∃ (c_2 : Nat),
  (w'.cell? (Addr.mk w.heap.size 0 none) =
  some (Value.int IntKind.i64 n) ∧
  w'.cell? (Addr.mk w.heap.size 1 none) =
  some (Value.slice p n_3 c) ∧
  w'.cell? (Addr.mk w.heap.size 2 none) =
  some (Value.bool b) ∧
  w'.cell? (Addr.mk w.heap.size 3 none) =
  some (Value.bool b_2) ∧
  w'.cell? (Addr.mk w.heap.size 4 none) =
  some (Value.slice p_2 n_4 c_2) ∧
  True) ∧
  R
  (Ending.returned
  (Value.tuple
  #[Value.agg
  #[Value.int IntKind.i64 n, Value.slice p n_3 c,
  Value.bool b, Value.bool b_2,
  Value.slice p_2 n_4 c_2],
  Value.int IntKind.i64 0, Value.bool false]))
  w')
  (Int.le 0 4 ∧
  ∃ (b : UInt8),
  s'[4]? = some b ∧
  ((w'_2.cell? (Addr.mk w'.heap.size 0 none)).isSome = true ∧
  w'_2.frozen? (Addr.mk w'.heap.size 0 none) = false) ∧
  ∀ (w'_3 : World),
  w'_3 =
  w'_2.setCell (Addr.mk w'.heap.size 0 none)
  (Value.int IntKind.i64 (IntKind.i64.wrap (↑b.toNat : Int))) →
  Int.le 0 (IntKind.i64.wrap 5) ∧
  ∃ (b : UInt8),
  s'[5]? = some b ∧
  cnd
  (decide
  ((↑s'.size : Int) <
  IntKind.i64.wrap
  (IntKind.i64.wrap (IntKind.i64.wrap 6 + IntKind.i64.wrap (↑b.toNat : Int)) +
  5)))
  (∃ (n : Int),
  ∃ (p : Option Addr),
  ∃ (n_1 : Nat),
  ∃ (c : Nat),
  ∃ (b : Bool),
  ∃ (b_1 : Bool),
  ∃ (p_1 : Option Addr),
  ∃ (n_2 : Nat),
  ∃ (c_1 : Nat),
  (w'_3.cell? (Addr.mk w'.heap.size 0 none) =
  some (Value.int IntKind.i64 n) ∧
  w'_3.cell? (Addr.mk w'.heap.size 1 none) =
  some (Value.slice p n_1 c) ∧
  w'_3.cell? (Addr.mk w'.heap.size 2 none) =
  some (Value.bool b) ∧
  w'_3.cell? (Addr.mk w'.heap.size 3 none) =
  some (Value.bool b_1) ∧
  w'_3.cell? (Addr.mk w'.heap.size 4 none) =
  some (Value.slice p_1 n_2 c_1) ∧
  True) ∧
  SetsAt w'_3 (Addr.mk w.heap.size 0 none) 0
  [Value.int IntKind.i64 n, Value.slice p n_1 c, Value.bool b,
  Value.bool b_1, Value.slice p_1 n_2 c_1] ∧
  ∀ (w' : World),
  w' =
  setCellsAt w'_3 (Addr.mk w.heap.size 0 none) 0
  [Value.int IntKind.i64 n, Value.slice p n_1 c,
  Value.bool b, Value.bool b_1,
  Value.slice p_1 n_2 c_1] →
  ∃ (n : Int),
  ∃ (p : Option Addr),
  ∃ (n_3 : Nat),
  ∃ (c : Nat),
  ∃ (b : Bool),
  ∃ (b_2 : Bool),
  ∃ (p_2 : Option Addr),
  ∃ (n_4 : Nat),
  ∃ (c_2 : Nat),
  (w'.cell? (Addr.mk w.heap.size 0 none) =
  some (Value.int IntKind.i64 n) ∧
  w'.cell?
  (Addr.mk w.heap.size 1 none) =
  some (Value.slice p n_3 c) ∧
  w'.cell?
  (Addr.mk w.heap.size 2
  none) =
  some (Value.bool b) ∧
  w'.cell?
  (Addr.mk w.heap.size 3
  none) =
  some (Value.bool b_2) ∧
  w'.cell?
  (Addr.mk w.heap.size 4
  none) =
  some
  (Value.slice p_2 n_4
  c_2) ∧
  True) ∧
  R
  (Ending.returned
  (Value.tuple
  #[Value.agg
  #[Value.int IntKind.i64 n,
  Value.slice p n_3 c,
  Value.bool b,
  Value.bool b_2,
  Value.slice p_2 n_4 c_2],
  Value.int IntKind.i64 0,
  Value.bool false]))
  w')
  (∃ (I : List Value → World → Prop),
  ∃ (μ : List Value → World → Nat),
  I [Value.int IntKind.i64 0] w'_3 ∧
  ∀ (g : Nat → Value) (i : Int) (w'_4 : World),
  I [Value.int IntKind.i64 i] w'_4 →
  cnd (decide (i < IntKind.i64.wrap (↑b.toNat : Int)))
  (0 ≤ IntKind.i64.wrap (IntKind.i64.wrap 6 + i) ∧
  ∃ (b : UInt8),
  s'[(IntKind.i64.wrap (IntKind.i64.wrap 6 + i)).toNat]? = some b ∧
  ∃ (p : Option Addr),
  ∃ (n : Nat),
  ∃ (c : Nat),
  w'_4.cell? (Addr.mk w'.heap.size 1 none) =
  some (Value.slice p n c) ∧
  ∀ (w'_5 : World),
  w'_5 =
  w'_4.alloc
  (Obj.cells
  #[Value.bool ((↑b.toNat : Int).tmod 2 == 1),
  Value.bool
  ((IntKind.u8.wrap
  ((↑b.toNat : Int).tdiv 2)).tmod
  2 ==
  1),
  Value.bool
  ((IntKind.u8.wrap
  ((↑b.toNat : Int).tdiv 4)).tmod
  2 ==
  1),
  Value.int IntKind.i64 0,
  Value.int IntKind.i64 0]
  50) →
  RunsV Proofs.Try.prog
  (Builtin.append_ #[22, 22] 22
  #[Value.slice p n c,
  Value.slice
  (some (Addr.mk w'_4.heap.size 0 none)) 1 1])
  w'_5 fun (v : Value) (w'_6 : World) =>
  ∃ (p : Option Addr),
  ∃ (n : Nat),
  ∃ (c : Nat),
  v = Value.slice p n c ∧
  ((w'_6.cell?
  (Addr.mk w'.heap.size 1
  none)).isSome =
  true ∧
  w'_6.frozen?
  (Addr.mk w'.heap.size 1 none) =
  false) ∧
  ∀ (w'_7 : World),
  w'_7 =
  w'_6.setCell
  (Addr.mk w'.heap.size 1 none)
  (Value.slice p n c) →
  Goes I μ [Value.int IntKind.i64 i]
  w'_4
  [Value.int IntKind.i64
  (IntKind.i64.wrap (i + 1))]
  w'_7)
  (0 ≤
  IntKind.i64.wrap
  (IntKind.i64.wrap 6 + IntKind.i64.wrap (↑b.toNat : Int)) ∧
  ∃ (b_1 : UInt8),
  s'[(IntKind.i64.wrap
  (IntKind.i64.wrap 6 +
  IntKind.i64.wrap (↑b.toNat : Int))).toNat]? =
  some b_1 ∧
  ((w'_4.cell? (Addr.mk w'.heap.size 2 none)).isSome = true ∧
  w'_4.frozen? (Addr.mk w'.heap.size 2 none) = false) ∧
  ∀ (w'_5 : World),
  w'_5 =
  w'_4.setCell (Addr.mk w'.heap.size 2 none)
  (Value.bool ((↑b_1.toNat : Int).tmod 2 == 1)) →
  0 ≤
  IntKind.i64.wrap
  (IntKind.i64.wrap 6 +
  IntKind.i64.wrap (↑b.toNat : Int)) ∧
  ∃ (b_2 : UInt8),
  s'[(IntKind.i64.wrap
  (IntKind.i64.wrap 6 +
  IntKind.i64.wrap
  (↑b.toNat : Int))).toNat]? =
  some b_2 ∧
  ((w'_5.cell? (Addr.mk w'.heap.size 3 none)).isSome =
  true ∧
  w'_5.frozen? (Addr.mk w'.heap.size 3 none) =
  false) ∧
  ∀ (w'_6 : World),
  w'_6 =
  w'_5.setCell (Addr.mk w'.heap.size 3 none)
  (Value.bool
  ((IntKind.u8.wrap
  ((↑b_2.toNat : Int).tdiv 2)).tmod
  2 ==
  1)) →
  Calls Proofs.Try.prog 38
  #[Value.string s',
  Value.int IntKind.i64
  (IntKind.i64.wrap
  (IntKind.i64.wrap
  (IntKind.i64.wrap 6 +
  IntKind.i64.wrap
  (↑b.toNat : Int)) +
  1))]
  w'_6 fun (e : Ending) (w'_7 : World) =>
  ∃ (n : Int),
  e =
  Ending.returned
  (Value.int IntKind.u32 n) ∧
  cnd
  (decide
  (IntKind.i64.wrap n >
  IntKind.i64.wrap
  ((IntKind.i64.wrap
  ((↑s'.size : Int) -
  IntKind.i64.wrap
  (IntKind.i64.wrap
  (IntKind.i64.wrap
  6 +
  IntKind.i64.wrap
  (↑b.toNat :
  Int)) +
  5))).tdiv
  4)))
  (∃ (n : Int),
  ∃ (p : Option Addr),
  ∃ (n_1 : Nat),
  ∃ (c : Nat),
  ∃ (b : Bool),
  ∃ (b_3 : Bool),
  ∃ (p_1 : Option Addr),
  ∃ (n_2 : Nat),
  ∃ (c_1 : Nat),
  (w'_7.cell?
  (Addr.mk
  w'.heap.size
  0 none) =
  some
  (Value.int
  IntKind.i64
  n) ∧
  w'_7.cell?
  (Addr.mk
  w'.heap.size
  1 none) =
  some
  (Value.slice
  p n_1 c) ∧
  w'_7.cell?
  (Addr.mk
  w'.heap.size
  2
  none) =
  some
  (Value.bool
  b) ∧
  w'_7.cell?
  (Addr.mk
  w'.heap.size
  3
  none) =
  some
  (Value.bool
  b_3) ∧
  w'_7.cell?
  (Addr.mk
  w'.heap.size
  4
  none) =
  some
  (Value.slice
  p_1
  n_2
  c_1) ∧
  True) ∧
  SetsAt w'_7
  (Addr.mk
  w.heap.size 0
  none)
  0
  [Value.int
  IntKind.i64
  n,
  Value.slice p
  n_1 c,
  Value.bool b,
  Value.bool
  b_3,
  Value.slice
  p_1 n_2
  c_1] ∧
  ∀ (w' : World),
  w' =
  setCellsAt
  w'_7
  (Addr.mk
  w.heap.size
  0 none)
  0
  [Value.int
  IntKind.i64
  n,
  Value.slice
  p n_1
  c,
  Value.bool
  b,
  Value.bool
  b_3,
  Value.slice
  p_1
  n_2
  c_1] →
  ∃ (n : Int),
  ∃ (p :
  Option
  Addr),
  ∃ (n_3 :
  Nat),
  ∃ (c :
  Nat),
  ∃ (b :
  Bool),
  ∃
  (b_4
  :
  Bool),
  ∃
  (p_2
  :
  Option
  Addr),
  ∃
  (n_4
  :
  Nat),
  ∃
  (c_2
  :
  Nat),
  (w'.cell?
  (Addr.mk
  w.heap.size
  0
  none) =
  some
  (Value.int
  IntKind.i64
  n) ∧
  w'.cell?
  (Addr.mk
  w.heap.size
  1
  none) =
  some
  (Value.slice
  p
  n_3
  c) ∧
  w'.cell?
  (Addr.mk
  w.heap.size
  2
  none) =
  some
  (Value.bool
  b) ∧
  w'.cell?
  (Addr.mk
  w.heap.size
  3
  none) =
  some
  (Value.bool
  b_4) ∧
  w'.cell?
  (Addr.mk
  w.heap.size
  4
  none) =
  some
  (Value.slice
  p_2
  n_4
  c_2) ∧
  True) ∧
  R
  (Ending.returned
  (Value.tuple
  #[Value.agg
  #[Value.int
  IntKind.i64
  n,
  Value.slice
  p
  n_3
  c,
  Value.bool
  b,
  Value.bool
  b_4,
  Value.slice
  p_2
  n_4
  c_2],
  Value.int
  IntKind.i64
  0,
  Value.bool
  false]))
  w')
  (∃ (I : List Value → World → Prop),
  ∃ (μ : List Value → World → Nat),
  I [Value.int IntKind.i64 0] w'_7 ∧
  ∀ (g : Nat → Value) (i : Int)
  (w'_8 : World),
  I [Value.int IntKind.i64 i]
  w'_8 →
  cnd
  (decide
  (i < IntKind.i64.wrap n))
  (∃ (C : World → Prop),
  (∀ (w' : World),
  Later w'_8 w' →
  C w') ∧
  ∀ (w'_9 : World),
  Later w'_8 w'_9 →
  ∃ (p : Option Addr),
  ∃ (n : Nat),
  ∃ (c : Nat),
  (∀
  (w'_10 :
  World),
  C w'_10 →
  w'_10.cell?
  (Addr.mk
  w'.heap.size
  4
  none) =
  some
  (Value.slice
  p
  n
  c)) ∧
  Calls
  Proofs.Try.prog
  38
  #[Value.string
  s',
  Value.int
  IntKind.i64
  (IntKind.i64.wrap
  (IntKind.i64.wrap
  (IntKind.i64.wrap
  (IntKind.i64.wrap
  6 +
  IntKind.i64.wrap
  (↑b.toNat :
  Int)) +
  5) +
  IntKind.i64.wrap
  (4 *
  i)))]
  w'_9
  fun
  (e :
  Ending)
  (w'_10 :
  World) =>
  ∃ (n_1 :
  Int),
  e =
  Ending.returned
  (Value.int
  IntKind.u32
  n_1) ∧
  C
  w'_10 ∧
  ∀
  (w'_11 :
  World),
  w'_11 =
  w'_10.alloc
  (Obj.cells
  #[Value.int
  IntKind.u32
  n_1]
  42) →
  C
  w'_11 ∧
  RunsV
  Proofs.Try.prog
  (Builtin.append_
  #[23,
  23]
  23
  #[Value.slice
  p
  n
  c,
  Value.slice
  (some
  (Addr.mk
  w'_10.heap.size
  0
  none))
  1
  1])
  w'_11
  fun
  (v :
  Value)
  (w'_12 :
  World) =>
  ∃
  (p
  :
  Option
  Addr),
  ∃
  (n
  :
  Nat),
  ∃
  (c
  :
  Nat),
  v =
  Value.slice
  p
  n
  c ∧
  C
  w'_12 ∧
  ((w'_12.cell?
  (Addr.mk
  w'.heap.size
  4
  none)).isSome =
  true ∧
  w'_12.frozen?
  (Addr.mk
  w'.heap.size
  4
  none) =
  false) ∧
  ∀
  (w'_13 :
  World),
  w'_13 =
  w'_12.setCell
  (Addr.mk
  w'.heap.size
  4
  none)
  (Value.slice
  p
  n
  c) →
  Goes
  I
  μ
  [Value.int
  IntKind.i64
  i]
  w'_8
  [Value.int
  IntKind.i64
  (IntKind.i64.wrap
  (i +
  1))]
  w'_13)
  (∃ (n_1 : Int),
  ∃ (p : Option Addr),
  ∃ (n_2 : Nat),
  ∃ (c : Nat),
  ∃ (b_3 : Bool),
  ∃ (b_4 : Bool),
  ∃ (p_1 :
  Option Addr),
  ∃ (n_3 : Nat),
  ∃ (c_1 :
  Nat),
  (w'_8.cell?
  (Addr.mk
  w'.heap.size
  0
  none) =
  some
  (Value.int
  IntKind.i64
  n_1) ∧
  w'_8.cell?
  (Addr.mk
  w'.heap.size
  1
  none) =
  some
  (Value.slice
  p
  n_2
  c) ∧
  w'_8.cell?
  (Addr.mk
  w'.heap.size
  2
  none) =
  some
  (Value.bool
  b_3) ∧
  w'_8.cell?
  (Addr.mk
  w'.heap.size
  3
  none) =
  some
  (Value.bool
  b_4) ∧
  w'_8.cell?
  (Addr.mk
  w'.heap.size
  4
  none) =
  some
  (Value.slice
  p_1
  n_3
  c_1) ∧
  True) ∧
  SetsAt
  w'_8
  (Addr.mk
  w.heap.size
  0
  none)
  0
  [Value.int
  IntKind.i64
  n_1,
  Value.slice
  p
  n_2
  c,
  Value.bool
  b_3,
  Value.bool
  b_4,
  Value.slice
  p_1
  n_3
  c_1] ∧
  ∀
  (w' :
  World),
  w' =
  setCellsAt
  w'_8
  (Addr.mk
  w.heap.size
  0
  none)
  0
  [Value.int
  IntKind.i64
  n_1,
  Value.slice
  p
  n_2
  c,
  Value.bool
  b_3,
  Value.bool
  b_4,
  Value.slice
  p_1
  n_3
  c_1] →
  ∃
  (n_4
  :
  Int),
  ∃
  (p
  :
  Option
  Addr),
  ∃
  (n_5
  :
  Nat),
  ∃
  (c
  :
  Nat),
  ∃
  (b_5
  :
  Bool),
  ∃
  (b_6
  :
  Bool),
  ∃
  (p_2
  :
  Option
  Addr),
  ∃
  (n_6
  :
  Nat),
  ∃
  (c_2
  :
  Nat),
  (w'.cell?
  (Addr.mk
  w.heap.size
  0
  none) =
  some
  (Value.int
  IntKind.i64
  n_4) ∧
  w'.cell?
  (Addr.mk
  w.heap.size
  1
  none) =
  some
  (Value.slice
  p
  n_5
  c) ∧
  w'.cell?
  (Addr.mk
  w.heap.size
  2
  none) =
  some
  (Value.bool
  b_5) ∧
  w'.cell?
  (Addr.mk
  w.heap.size
  3
  none) =
  some
  (Value.bool
  b_6) ∧
  w'.cell?
  (Addr.mk
  w.heap.size
  4
  none) =
  some
  (Value.slice
  p_2
  n_6
  c_2) ∧
  True) ∧
  R
  (Ending.returned
  (Value.tuple
  #[Value.agg
  #[Value.int
  IntKind.i64
  n_4,
  Value.slice
  p
  n_5
  c,
  Value.bool
  b_5,
  Value.bool
  b_6,
  Value.slice
  p_2
  n_6
  c_2],
  Value.int
  IntKind.i64
  (IntKind.i64.wrap
  (IntKind.i64.wrap
  (IntKind.i64.wrap
  (IntKind.i64.wrap
  6 +
  IntKind.i64.wrap
  (↑b.toNat :
  Int)) +
  5) +
  IntKind.i64.wrap
  (4 *
  IntKind.i64.wrap
  n))),
  Value.bool
  true]))
  w')))))
theorem ref30_read.vc_eq (s' : ByteArray) (w : World) (R : Ending → World → Prop) : fnV Try.prog ref30_read.H 30 [Value.string s'] w R = ref30_read.vc s' w R := by kernel_rfl
theorem ref30_read.calls {s' : ByteArray} {w : World} {R : Ending → World → Prop} (h : ref30_read.vc s' w R) : Calls Try.prog 30 ([Value.string s'] : List Value).toArray w R := calls_of_eq (ref30_read.vc_eq s' w R) h

/- function 17: sacristy/sacristyref30.Get -/
abbrev ref30_Get.N : FuncId := 17
def ref30_Get.H : Hints := {  }
def ref30_Get.vc (s' : ByteArray) (w : World) (R : Ending → World → Prop) : Prop :=
  ∀ (w' : World),
  w' =
  w.alloc
  (Obj.cells
  #[Value.int IntKind.i64 0, Value.slice none 0 0, Value.bool false, Value.bool false, Value.slice none 0 0]
  25) →
  (0 ≤ gomin (↑s'.size : Int) 4 ∧ gomin (↑s'.size : Int) 4 ≤ (↑s'.size : Int)) ∧
  (0 ≤ gomin (↑s'.size : Int) 4 ∧ gomin (↑s'.size : Int) 4 ≤ 4) ∧
  ∀ (w'_1 : World),
  Later w' w'_1 →
  cnd
  (!(s'.extract 0 (gomin (↑s'.size : Int) 4).toNat).toList ==
  ((ByteArray.mk #[83, 67, 82, 49]).extract 0 (gomin (↑s'.size : Int) 4).toNat).toList)
  (SetsAt w'_1 (Addr.mk w.heap.size 0 none) 0
  [Value.int IntKind.i64 0, Value.slice none 0 0, Value.bool false, Value.bool false,
  Value.slice none 0 0] ∧
  ∀ (w' : World),
  w' =
  setCellsAt w'_1 (Addr.mk w.heap.size 0 none) 0
  [Value.int IntKind.i64 0, Value.slice none 0 0, Value.bool false, Value.bool false,
  Value.slice none 0 0] →
  ∃ (n : Int),
  ∃ (p : Option Addr),
  ∃ (n_1 : Nat),
  ∃ (c : Nat),
  ∃ (b : Bool),
  ∃ (b_1 : Bool),
  ∃ (p_1 : Option Addr),
  ∃ (n_2 : Nat),
  ∃ (c_1 : Nat),
  (w'.cell? (Addr.mk w.heap.size 0 none) = some (Value.int IntKind.i64 n) ∧
  w'.cell? (Addr.mk w.heap.size 1 none) = some (Value.slice p n_1 c) ∧
  w'.cell? (Addr.mk w.heap.size 2 none) = some (Value.bool b) ∧
  w'.cell? (Addr.mk w.heap.size 3 none) = some (Value.bool b_1) ∧
  w'.cell? (Addr.mk w.heap.size 4 none) = some (Value.slice p_1 n_2 c_1) ∧
  True) ∧
  R
  (Ending.returned
  (Value.tuple
  #[Value.agg
  #[Value.int IntKind.i64 n, Value.slice p n_1 c, Value.bool b,
  Value.bool b_1, Value.slice p_1 n_2 c_1],
  Value.int IntKind.i64 7]))
  w')
  (Calls Proofs.Try.prog 30 #[Value.string s'] w'_1 fun (e : Ending) (w' : World) =>
  ∃ (n : Int),
  ∃ (p : Option Addr),
  ∃ (n_1 : Nat),
  ∃ (c : Nat),
  ∃ (b : Bool),
  ∃ (b_1 : Bool),
  ∃ (p_1 : Option Addr),
  ∃ (n_2 : Nat),
  ∃ (c_1 : Nat),
  ∃ (n_3 : Int),
  ∃ (b_2 : Bool),
  e =
  Ending.returned
  (Value.tuple
  #[Value.agg
  #[Value.int IntKind.i64 n, Value.slice p n_1 c, Value.bool b,
  Value.bool b_1, Value.slice p_1 n_2 c_1],
  Value.int IntKind.i64 n_3, Value.bool b_2]) ∧
  ∀ (w'_2 : World),
  w'_2 =
  w'.alloc
  (Obj.cells
  #[Value.int IntKind.i64 0, Value.slice none 0 0, Value.bool false,
  Value.bool false, Value.slice none 0 0]
  25) →
  SetsAt w'_2 (Addr.mk w'.heap.size 0 none) 0
  [Value.int IntKind.i64 n, Value.slice p n_1 c, Value.bool b,
  Value.bool b_1, Value.slice p_1 n_2 c_1] ∧
  ∀ (w'_3 : World),
  w'_3 =
  setCellsAt w'_2 (Addr.mk w'.heap.size 0 none) 0
  [Value.int IntKind.i64 n, Value.slice p n_1 c, Value.bool b,
  Value.bool b_1, Value.slice p_1 n_2 c_1] →
  cnd (!b_2)
  (SetsAt w'_3 (Addr.mk w.heap.size 0 none) 0
  [Value.int IntKind.i64 0, Value.slice none 0 0,
  Value.bool false, Value.bool false, Value.slice none 0 0] ∧
  ∀ (w' : World),
  w' =
  setCellsAt w'_3 (Addr.mk w.heap.size 0 none) 0
  [Value.int IntKind.i64 0, Value.slice none 0 0,
  Value.bool false, Value.bool false,
  Value.slice none 0 0] →
  ∃ (n : Int),
  ∃ (p : Option Addr),
  ∃ (n_4 : Nat),
  ∃ (c : Nat),
  ∃ (b : Bool),
  ∃ (b_3 : Bool),
  ∃ (p_2 : Option Addr),
  ∃ (n_5 : Nat),
  ∃ (c_2 : Nat),
  (w'.cell? (Addr.mk w.heap.size 0 none) =
  some (Value.int IntKind.i64 n) ∧
  w'.cell? (Addr.mk w.heap.size 1 none) =
  some (Value.slice p n_4 c) ∧
  w'.cell?
  (Addr.mk w.heap.size 2 none) =
  some (Value.bool b) ∧
  w'.cell?
  (Addr.mk w.heap.size 3 none) =
  some (Value.bool b_3) ∧
  w'.cell?
  (Addr.mk w.heap.size 4
  none) =
  some
  (Value.slice p_2 n_5 c_2) ∧
  True) ∧
  R
  (Ending.returned
  (Value.tuple
  #[Value.agg
  #[Value.int IntKind.i64 n,
  Value.slice p n_4 c,
  Value.bool b, Value.bool b_3,
  Value.slice p_2 n_5 c_2],
  Value.int IntKind.i64 6]))
  w')
  (cnd (n_3 != (↑s'.size : Int))
  (SetsAt w'_3 (Addr.mk w.heap.size 0 none) 0
  [Value.int IntKind.i64 0, Value.slice none 0 0,
  Value.bool false, Value.bool false, Value.slice none 0 0] ∧
  ∀ (w' : World),
  w' =
  setCellsAt w'_3 (Addr.mk w.heap.size 0 none) 0
  [Value.int IntKind.i64 0, Value.slice none 0 0,
  Value.bool false, Value.bool false,
  Value.slice none 0 0] →
  ∃ (n : Int),
  ∃ (p : Option Addr),
  ∃ (n_4 : Nat),
  ∃ (c : Nat),
  ∃ (b : Bool),
  ∃ (b_3 : Bool),
  ∃ (p_2 : Option Addr),
  ∃ (n_5 : Nat),
  ∃ (c_2 : Nat),
  (w'.cell? (Addr.mk w.heap.size 0 none) =
  some (Value.int IntKind.i64 n) ∧
  w'.cell?
  (Addr.mk w.heap.size 1 none) =
  some (Value.slice p n_4 c) ∧
  w'.cell?
  (Addr.mk w.heap.size 2 none) =
  some (Value.bool b) ∧
  w'.cell?
  (Addr.mk w.heap.size 3
  none) =
  some (Value.bool b_3) ∧
  w'.cell?
  (Addr.mk w.heap.size 4
  none) =
  some
  (Value.slice p_2 n_5
  c_2) ∧
  True) ∧
  R
  (Ending.returned
  (Value.tuple
  #[Value.agg
  #[Value.int IntKind.i64 n,
  Value.slice p n_4 c,
  Value.bool b,
  Value.bool b_3,
  Value.slice p_2 n_5 c_2],
  Value.int IntKind.i64 7]))
  w')
  (∃ (n : Int),
  ∃ (p : Option Addr),
  ∃ (n_4 : Nat),
  ∃ (c : Nat),
  ∃ (b : Bool),
  ∃ (b_3 : Bool),
  ∃ (p_2 : Option Addr),
  ∃ (n_5 : Nat),
  ∃ (c_2 : Nat),
  (w'_3.cell? (Addr.mk w'.heap.size 0 none) =
  some (Value.int IntKind.i64 n) ∧
  w'_3.cell? (Addr.mk w'.heap.size 1 none) =
  some (Value.slice p n_4 c) ∧
  w'_3.cell? (Addr.mk w'.heap.size 2 none) =
  some (Value.bool b) ∧
  w'_3.cell?
  (Addr.mk w'.heap.size 3 none) =
  some (Value.bool b_3) ∧
  w'_3.cell?
  (Addr.mk w'.heap.size 4 none) =
  some (Value.slice p_2 n_5 c_2) ∧
  True) ∧
  Calls Proofs.Try.prog 13
  #[Value.agg
  #[Value.int IntKind.i64 n,
  Value.slice p n_4 c, Value.bool b,
  Value.bool b_3,
  Value.slice p_2 n_5 c_2]]
  w'_3 fun (e : Ending) (w'_4 : World) =>
  ∃ (b : Bool),
  e = Ending.returned (Value.bool b) ∧
  cnd (!b)
  (SetsAt w'_4
  (Addr.mk w.heap.size 0 none) 0
  [Value.int IntKind.i64 0,
  Value.slice none 0 0,
  Value.bool false,
  Value.bool false,
  Value.slice none 0 0] ∧
  ∀ (w' : World),
  w' =
  setCellsAt w'_4
  (Addr.mk w.heap.size 0 none)
  0
  [Value.int IntKind.i64 0,
  Value.slice none 0 0,
  Value.bool false,
  Value.bool false,
  Value.slice none 0 0] →
  ∃ (n : Int),
  ∃ (p : Option Addr),
  ∃ (n_6 : Nat),
  ∃ (c : Nat),
  ∃ (b : Bool),
  ∃ (b_4 : Bool),
  ∃ (p_3 :
  Option Addr),
  ∃ (n_7 : Nat),
  ∃ (c_3 : Nat),
  (w'.cell?
  (Addr.mk
  w.heap.size
  0
  none) =
  some
  (Value.int
  IntKind.i64
  n) ∧
  w'.cell?
  (Addr.mk
  w.heap.size
  1
  none) =
  some
  (Value.slice
  p
  n_6
  c) ∧
  w'.cell?
  (Addr.mk
  w.heap.size
  2
  none) =
  some
  (Value.bool
  b) ∧
  w'.cell?
  (Addr.mk
  w.heap.size
  3
  none) =
  some
  (Value.bool
  b_4) ∧
  w'.cell?
  (Addr.mk
  w.heap.size
  4
  none) =
  some
  (Value.slice
  p_3
  n_7
  c_3) ∧
  True) ∧
  R
  (Ending.returned
  (Value.tuple
  #[Value.agg
  #[Value.int
  IntKind.i64
  n,
  Value.slice
  p
  n_6
  c,
  Value.bool
  b,
  Value.bool
  b_4,
  Value.slice
  p_3
  n_7
  c_3],
  Value.int
  IntKind.i64
  7]))
  w')
  (∃ (n : Int),
  ∃ (p : Option Addr),
  ∃ (n_6 : Nat),
  ∃ (c : Nat),
  ∃ (b : Bool),
  ∃ (b_4 : Bool),
  ∃ (p_3 : Option Addr),
  ∃ (n_7 : Nat),
  ∃ (c_3 : Nat),
  (w'_4.cell?
  (Addr.mk
  w'.heap.size
  0 none) =
  some
  (Value.int
  IntKind.i64
  n) ∧
  w'_4.cell?
  (Addr.mk
  w'.heap.size
  1
  none) =
  some
  (Value.slice
  p n_6
  c) ∧
  w'_4.cell?
  (Addr.mk
  w'.heap.size
  2
  none) =
  some
  (Value.bool
  b) ∧
  w'_4.cell?
  (Addr.mk
  w'.heap.size
  3
  none) =
  some
  (Value.bool
  b_4) ∧
  w'_4.cell?
  (Addr.mk
  w'.heap.size
  4
  none) =
  some
  (Value.slice
  p_3
  n_7
  c_3) ∧
  True) ∧
  Calls
  Proofs.Try.prog
  14
  #[Value.agg
  #[Value.int
  IntKind.i64
  n,
  Value.slice
  p n_6 c,
  Value.bool
  b,
  Value.bool
  b_4,
  Value.slice
  p_3 n_7
  c_3]]
  w'_4
  fun (e : Ending)
  (w'_5 :
  World) =>
  ∃ (s :
  ByteArray),
  e =
  Ending.returned
  (Value.string
  s) ∧
  cnd
  (!s.toList ==
  s'.toList)
  (SetsAt
  w'_5
  (Addr.mk
  w.heap.size
  0
  none)
  0
  [Value.int
  IntKind.i64
  0,
  Value.slice
  none
  0
  0,
  Value.bool
  false,
  Value.bool
  false,
  Value.slice
  none
  0
  0] ∧
  ∀
  (w' :
  World),
  w' =
  setCellsAt
  w'_5
  (Addr.mk
  w.heap.size
  0
  none)
  0
  [Value.int
  IntKind.i64
  0,
  Value.slice
  none
  0
  0,
  Value.bool
  false,
  Value.bool
  false,
  Value.slice
  none
  0
  0] →
  ∃ (n
  :
  Int),
  ∃
  (p
  :
  Option
  Addr),
  ∃
  (n_8
  :
  Nat),
  ∃
  (c
  :
  Nat),
  ∃
  (b
  :
  Bool),
  ∃
  (b_5
  :
  Bool),
  ∃
  (p_4
  :
  Option
  Addr),
  ∃
  (n_9
  :
  Nat),
  ∃
  (c_4
  :
  Nat),
  (w'.cell?
  (Addr.mk
  w.heap.size
  0
  none) =
  some
  (Value.int
  IntKind.i64
  n) ∧
  w'.cell?
  (Addr.mk
  w.heap.size
  1
  none) =
  some
  (Value.slice
  p
  n_8
  c) ∧
  w'.cell?
  (Addr.mk
  w.heap.size
  2
  none) =
  some
  (Value.bool
  b) ∧
  w'.cell?
  (Addr.mk
  w.heap.size
  3
  none) =
  some
  (Value.bool
  b_5) ∧
  w'.cell?
  (Addr.mk
  w.heap.size
  4
  none) =
  some
  (Value.slice
  p_4
  n_9
  c_4) ∧
  True) ∧
  R
  (Ending.returned
  (Value.tuple
  #[Value.agg
  #[Value.int
  IntKind.i64
  n,
  Value.slice
  p
  n_8
  c,
  Value.bool
  b,
  Value.bool
  b_5,
  Value.slice
  p_4
  n_9
  c_4],
  Value.int
  IntKind.i64
  7]))
  w')
  (∃ (n :
  Int),
  ∃ (p :
  Option
  Addr),
  ∃ (n_8
  :
  Nat),
  ∃ (c
  :
  Nat),
  ∃
  (b
  :
  Bool),
  ∃
  (b_5
  :
  Bool),
  ∃
  (p_4
  :
  Option
  Addr),
  ∃
  (n_9
  :
  Nat),
  ∃
  (c_4
  :
  Nat),
  (w'_5.cell?
  (Addr.mk
  w'.heap.size
  0
  none) =
  some
  (Value.int
  IntKind.i64
  n) ∧
  w'_5.cell?
  (Addr.mk
  w'.heap.size
  1
  none) =
  some
  (Value.slice
  p
  n_8
  c) ∧
  w'_5.cell?
  (Addr.mk
  w'.heap.size
  2
  none) =
  some
  (Value.bool
  b) ∧
  w'_5.cell?
  (Addr.mk
  w'.heap.size
  3
  none) =
  some
  (Value.bool
  b_5) ∧
  w'_5.cell?
  (Addr.mk
  w'.heap.size
  4
  none) =
  some
  (Value.slice
  p_4
  n_9
  c_4) ∧
  True) ∧
  SetsAt
  w'_5
  (Addr.mk
  w.heap.size
  0
  none)
  0
  [Value.int
  IntKind.i64
  n,
  Value.slice
  p
  n_8
  c,
  Value.bool
  b,
  Value.bool
  b_5,
  Value.slice
  p_4
  n_9
  c_4] ∧
  ∀
  (w' :
  World),
  w' =
  setCellsAt
  w'_5
  (Addr.mk
  w.heap.size
  0
  none)
  0
  [Value.int
  IntKind.i64
  n,
  Value.slice
  p
  n_8
  c,
  Value.bool
  b,
  Value.bool
  b_5,
  Value.slice
  p_4
  n_9
  c_4] →
  ∃
  (n
  :
  Int),
  ∃
  (p
  :
  Option
  Addr),
  ∃
  (n_10
  :
  Nat),
  ∃
  (c
  :
  Nat),
  ∃
  (b
  :
  Bool),
  ∃
  (b_6
  :
  Bool),
  ∃
  (p_5
  :
  Option
  Addr),
  ∃
  (n_11
  :
  Nat),
  ∃
  (c_5
  :
  Nat),
  (w'.cell?
  (Addr.mk
  w.heap.size
  0
  none) =
  some
  (Value.int
  IntKind.i64
  n) ∧
  w'.cell?
  (Addr.mk
  w.heap.size
  1
  none) =
  some
  (Value.slice
  p
  n_10
  c) ∧
  w'.cell?
  (Addr.mk
  w.heap.size
  2
  none) =
  some
  (Value.bool
  b) ∧
  w'.cell?
  (Addr.mk
  w.heap.size
  3
  none) =
  some
  (Value.bool
  b_6) ∧
  w'.cell?
  (Addr.mk
  w.heap.size
  4
  none) =
  some
  (Value.slice
  p_5
  n_11
  c_5) ∧
  True) ∧
  R
  (Ending.returned
  (Value.tuple
  #[Value.agg
  #[Value.int
  IntKind.i64
  n,
  Value.slice
  p
  n_10
  c,
  Value.bool
  b,
  Value.bool
  b_6,
  Value.slice
  p_5
  n_11
  c_5],
  Value.int
  IntKind.i64
  0]))
  w')))))
theorem ref30_Get.vc_eq (s' : ByteArray) (w : World) (R : Ending → World → Prop) : fnV Try.prog ref30_Get.H 17 [Value.string s'] w R = ref30_Get.vc s' w R := by kernel_rfl
theorem ref30_Get.calls {s' : ByteArray} {w : World} {R : Ending → World → Prop} (h : ref30_Get.vc s' w R) : Calls Try.prog 17 ([Value.string s'] : List Value).toArray w R := calls_of_eq (ref30_Get.vc_eq s' w R) h

/- function 12: sacristy/sacristyref30.Same -/
abbrev ref30_Same.N : FuncId := 12
def ref30_Same.H : Hints := { loops := [(5, [(5, .one (.int .i64))]), (10, [(6, .one (.int .i64))])] }
def ref30_Same.vc (a'_0 : Int) (a'_1 : Option Addr) (a'_1n : Nat) (a'_1c : Nat) (a'_2 : Bool) (a'_3 : Bool) (a'_4 : Option Addr) (a'_4n : Nat) (a'_4c : Nat) (b'_0 : Int) (b'_1 : Option Addr) (b'_1n : Nat) (b'_1c : Nat) (b'_2 : Bool) (b'_3 : Bool) (b'_4 : Option Addr) (b'_4n : Nat) (b'_4c : Nat) (w : World) (R : Ending → World → Prop) : Prop :=
  ∀ (w' : World),
  w' =
  w.alloc
  (Obj.cells
  #[Value.int IntKind.i64 a'_0, Value.slice a'_1 a'_1n a'_1c, Value.bool a'_2, Value.bool a'_3,
  Value.slice a'_4 a'_4n a'_4c]
  25) →
  ∀ (w'_1 : World),
  w'_1 =
  w'.alloc
  (Obj.cells
  #[Value.int IntKind.i64 b'_0, Value.slice b'_1 b'_1n b'_1c, Value.bool b'_2, Value.bool b'_3,
  Value.slice b'_4 b'_4n b'_4c]
  25) →
  ∃ (n : Int),
  w'_1.cell? (Addr.mk w.heap.size 0 none) = some (Value.int IntKind.i64 n) ∧
  ∃ (n_1 : Int),
  w'_1.cell? (Addr.mk w'.heap.size 0 none) = some (Value.int IntKind.i64 n_1) ∧
  cnd (n != n_1) (R (Ending.returned (Value.bool false)) w'_1)
  (∃ (b : Bool),
  w'_1.cell? (Addr.mk w.heap.size 2 none) = some (Value.bool b) ∧
  ∃ (b_1 : Bool),
  w'_1.cell? (Addr.mk w'.heap.size 2 none) = some (Value.bool b_1) ∧
  cnd (!b == b_1) (R (Ending.returned (Value.bool false)) w'_1)
  (∃ (b : Bool),
  w'_1.cell? (Addr.mk w.heap.size 3 none) = some (Value.bool b) ∧
  ∃ (b_2 : Bool),
  w'_1.cell? (Addr.mk w'.heap.size 3 none) = some (Value.bool b_2) ∧
  cnd (!b == b_2) (R (Ending.returned (Value.bool false)) w'_1)
  (∃ (p : Option Addr),
  ∃ (n : Nat),
  ∃ (c : Nat),
  w'_1.cell? (Addr.mk w.heap.size 1 none) = some (Value.slice p n c) ∧
  ∃ (p : Option Addr),
  ∃ (n_2 : Nat),
  ∃ (c : Nat),
  w'_1.cell? (Addr.mk w'.heap.size 1 none) =
  some (Value.slice p n_2 c) ∧
  cnd ((↑n : Int) != (↑n_2 : Int))
  (R (Ending.returned (Value.bool false)) w'_1)
  (∃ (p : Option Addr),
  ∃ (n : Nat),
  ∃ (c : Nat),
  w'_1.cell? (Addr.mk w.heap.size 4 none) =
  some (Value.slice p n c) ∧
  ∃ (p : Option Addr),
  ∃ (n_3 : Nat),
  ∃ (c : Nat),
  w'_1.cell? (Addr.mk w'.heap.size 4 none) =
  some (Value.slice p n_3 c) ∧
  cnd ((↑n : Int) != (↑n_3 : Int))
  (R (Ending.returned (Value.bool false)) w'_1)
  (∃ (I : List Value → World → Prop),
  ∃ (μ : List Value → World → Nat),
  I [Value.int IntKind.i64 0] w'_1 ∧
  ∀ (g : Nat → Value) (i : Int)
  (w'_2 : World),
  I [Value.int IntKind.i64 i] w'_2 →
  ∃ (p : Option Addr),
  ∃ (n : Nat),
  ∃ (c : Nat),
  w'_2.cell?
  (Addr.mk w.heap.size 1
  none) =
  some (Value.slice p n c) ∧
  cnd
  (decide (i < (↑n : Int)))
  (∃ (p : Option Addr),
  ∃ (n : Nat),
  ∃ (c : Nat),
  (∀ (w' : World),
  Later w'_2 w' →
  w'.cell?
  (Addr.mk
  w.heap.size
  1
  none) =
  some
  (Value.slice
  p n
  c)) ∧
  (0 ≤ i ∧
  i <
  (↑n :
  Int)) ∧
  Deref p
  fun
  (a :
  Addr) =>
  ∃ (b : Bool),
  ∃ (b_3 :
  Bool),
  ∃ (b_4 :
  Bool),
  ∃ (n :
  Int),
  ∃ (n_4
  :
  Int),
  (∀
  (w' :
  World),
  Later
  w'_2
  w' →
  w'.cell?
  (a.add
  (i.toNat *
  5)) =
  some
  (Value.bool
  b) ∧
  w'.cell?
  ((a.add
  (i.toNat *
  5)).add
  1) =
  some
  (Value.bool
  b_3) ∧
  w'.cell?
  ((a.add
  (i.toNat *
  5)).add
  2) =
  some
  (Value.bool
  b_4) ∧
  w'.cell?
  ((a.add
  (i.toNat *
  5)).add
  3) =
  some
  (Value.int
  IntKind.i64
  n) ∧
  w'.cell?
  ((a.add
  (i.toNat *
  5)).add
  4) =
  some
  (Value.int
  IntKind.i64
  n_4) ∧
  True) ∧
  ∃
  (p
  :
  Option
  Addr),
  ∃
  (n_5
  :
  Nat),
  ∃
  (c
  :
  Nat),
  (∀
  (w'_3 :
  World),
  Later
  w'_2
  w'_3 →
  w'_3.cell?
  (Addr.mk
  w'.heap.size
  1
  none) =
  some
  (Value.slice
  p
  n_5
  c)) ∧
  (0 ≤
  i ∧
  i <
  (↑n_5 :
  Int)) ∧
  Deref
  p
  fun
  (a :
  Addr) =>
  ∃
  (b_5
  :
  Bool),
  ∃
  (b_6
  :
  Bool),
  ∃
  (b_7
  :
  Bool),
  ∃
  (n_6
  :
  Int),
  ∃
  (n_7
  :
  Int),
  (∀
  (w' :
  World),
  Later
  w'_2
  w' →
  w'.cell?
  (a.add
  (i.toNat *
  5)) =
  some
  (Value.bool
  b_5) ∧
  w'.cell?
  ((a.add
  (i.toNat *
  5)).add
  1) =
  some
  (Value.bool
  b_6) ∧
  w'.cell?
  ((a.add
  (i.toNat *
  5)).add
  2) =
  some
  (Value.bool
  b_7) ∧
  w'.cell?
  ((a.add
  (i.toNat *
  5)).add
  3) =
  some
  (Value.int
  IntKind.i64
  n_6) ∧
  w'.cell?
  ((a.add
  (i.toNat *
  5)).add
  4) =
  some
  (Value.int
  IntKind.i64
  n_7) ∧
  True) ∧
  ∃
  (b_8
  :
  Bool),
  EqRuns
  Proofs.Try.prog
  BinOp.neq
  50
  (Operand.tmp
  55)
  (Operand.tmp
  60)
  (Value.agg
  #[Value.bool
  b,
  Value.bool
  b_3,
  Value.bool
  b_4,
  Value.int
  IntKind.i64
  n,
  Value.int
  IntKind.i64
  n_4])
  (Value.agg
  #[Value.bool
  b_5,
  Value.bool
  b_6,
  Value.bool
  b_7,
  Value.int
  IntKind.i64
  n_6,
  Value.int
  IntKind.i64
  n_7])
  b_8 ∧
  ∀
  (w' :
  World),
  Later
  w'_2
  w' →
  cnd
  b_8
  (R
  (Ending.returned
  (Value.bool
  false))
  w')
  (Goes
  I
  μ
  [Value.int
  IntKind.i64
  i]
  w'_2
  [Value.int
  IntKind.i64
  (IntKind.i64.wrap
  (i +
  1))]
  w'))
  (∃ (I :
  List Value →
  World → Prop),
  ∃ (μ :
  List Value →
  World → Nat),
  I
  [Value.int
  IntKind.i64 0]
  w'_2 ∧
  ∀ (g : Nat → Value)
  (i : Int)
  (w'_3 : World),
  I
  [Value.int
  IntKind.i64
  i]
  w'_3 →
  ∃ (p :
  Option Addr),
  ∃ (n : Nat),
  ∃ (c : Nat),
  w'_3.cell?
  (Addr.mk
  w.heap.size
  4
  none) =
  some
  (Value.slice
  p
  n
  c) ∧
  cnd
  (decide
  (i <
  (↑n :
  Int)))
  (∃ (p
  :
  Option
  Addr),
  ∃ (n
  :
  Nat),
  ∃
  (c
  :
  Nat),
  (∀
  (w' :
  World),
  Later
  w'_3
  w' →
  w'.cell?
  (Addr.mk
  w.heap.size
  4
  none) =
  some
  (Value.slice
  p
  n
  c)) ∧
  (0 ≤
  i ∧
  i <
  (↑n :
  Int)) ∧
  Deref
  p
  fun
  (a :
  Addr) =>
  ∃
  (n
  :
  Int),
  (∀
  (w' :
  World),
  Later
  w'_3
  w' →
  w'.cell?
  (a.add
  (i.toNat *
  1)) =
  some
  (Value.int
  IntKind.u32
  n)) ∧
  ∃
  (p
  :
  Option
  Addr),
  ∃
  (n_4
  :
  Nat),
  ∃
  (c
  :
  Nat),
  (∀
  (w'_4 :
  World),
  Later
  w'_3
  w'_4 →
  w'_4.cell?
  (Addr.mk
  w'.heap.size
  4
  none) =
  some
  (Value.slice
  p
  n_4
  c)) ∧
  (0 ≤
  i ∧
  i <
  (↑n_4 :
  Int)) ∧
  Deref
  p
  fun
  (a :
  Addr) =>
  ∃
  (n_5
  :
  Int),
  (∀
  (w' :
  World),
  Later
  w'_3
  w' →
  w'.cell?
  (a.add
  (i.toNat *
  1)) =
  some
  (Value.int
  IntKind.u32
  n_5)) ∧
  ∀
  (w' :
  World),
  Later
  w'_3
  w' →
  cnd
  (n !=
  n_5)
  (R
  (Ending.returned
  (Value.bool
  false))
  w')
  (Goes
  I
  μ
  [Value.int
  IntKind.i64
  i]
  w'_3
  [Value.int
  IntKind.i64
  (IntKind.i64.wrap
  (i +
  1))]
  w'))
  (R
  (Ending.returned
  (Value.bool
  true))
  w'_3)))))))
theorem ref30_Same.vc_eq (a'_0 : Int) (a'_1 : Option Addr) (a'_1n : Nat) (a'_1c : Nat) (a'_2 : Bool) (a'_3 : Bool) (a'_4 : Option Addr) (a'_4n : Nat) (a'_4c : Nat) (b'_0 : Int) (b'_1 : Option Addr) (b'_1n : Nat) (b'_1c : Nat) (b'_2 : Bool) (b'_3 : Bool) (b'_4 : Option Addr) (b'_4n : Nat) (b'_4c : Nat) (w : World) (R : Ending → World → Prop) : fnV Try.prog ref30_Same.H 12 [Value.agg
  #[Value.int IntKind.i64 a'_0, Value.slice a'_1 a'_1n a'_1c, Value.bool a'_2, Value.bool a'_3,
  Value.slice a'_4 a'_4n a'_4c],
  Value.agg
  #[Value.int IntKind.i64 b'_0, Value.slice b'_1 b'_1n b'_1c, Value.bool b'_2, Value.bool b'_3,
  Value.slice b'_4 b'_4n b'_4c]] w R = ref30_Same.vc a'_0 a'_1 a'_1n a'_1c a'_2 a'_3 a'_4 a'_4n a'_4c b'_0 b'_1 b'_1n b'_1c b'_2 b'_3 b'_4 b'_4n b'_4c w R := by kernel_rfl
theorem ref30_Same.calls {a'_0 : Int} {a'_1 : Option Addr} {a'_1n : Nat} {a'_1c : Nat} {a'_2 : Bool} {a'_3 : Bool} {a'_4 : Option Addr} {a'_4n : Nat} {a'_4c : Nat} {b'_0 : Int} {b'_1 : Option Addr} {b'_1n : Nat} {b'_1c : Nat} {b'_2 : Bool} {b'_3 : Bool} {b'_4 : Option Addr} {b'_4n : Nat} {b'_4c : Nat} {w : World} {R : Ending → World → Prop} (h : ref30_Same.vc a'_0 a'_1 a'_1n a'_1c a'_2 a'_3 a'_4 a'_4n a'_4c b'_0 b'_1 b'_1n b'_1c b'_2 b'_3 b'_4 b'_4n b'_4c w R) : Calls Try.prog 12 ([Value.agg
  #[Value.int IntKind.i64 a'_0, Value.slice a'_1 a'_1n a'_1c, Value.bool a'_2, Value.bool a'_3,
  Value.slice a'_4 a'_4n a'_4c],
  Value.agg
  #[Value.int IntKind.i64 b'_0, Value.slice b'_1 b'_1n b'_1c, Value.bool b'_2, Value.bool b'_3,
  Value.slice b'_4 b'_4n b'_4c]] : List Value).toArray w R := calls_of_eq (ref30_Same.vc_eq a'_0 a'_1 a'_1n a'_1c a'_2 a'_3 a'_4 a'_4n a'_4c b'_0 b'_1 b'_1n b'_1c b'_2 b'_3 b'_4 b'_4n b'_4c w R) h

/- function 8: sacristy/sacristyref30.Copy -/
abbrev ref30_Copy.N : FuncId := 8
def ref30_Copy.H : Hints := {  }
def ref30_Copy.vc (x'_0 : Int) (x'_1 : Option Addr) (x'_1n : Nat) (x'_1c : Nat) (x'_2 : Bool) (x'_3 : Bool) (x'_4 : Option Addr) (x'_4n : Nat) (x'_4c : Nat) (w : World) (R : Ending → World → Prop) : Prop :=
  ∀ (w' : World),
  w' =
  w.alloc
  (Obj.cells
  #[Value.int IntKind.i64 x'_0, Value.slice x'_1 x'_1n x'_1c, Value.bool x'_2, Value.bool x'_3,
  Value.slice x'_4 x'_4n x'_4c]
  25) →
  ∀ (w'_1 : World),
  w'_1 =
  w'.alloc
  (Obj.cells
  #[Value.int IntKind.i64 0, Value.slice none 0 0, Value.bool false, Value.bool false, Value.slice none 0 0]
  25) →
  ∃ (p : Option Addr),
  ∃ (n : Nat),
  ∃ (c : Nat),
  w'_1.cell? (Addr.mk w.heap.size 1 none) = some (Value.slice p n c) ∧
  RunsV Proofs.Try.prog (Builtin.append_ #[22, 22] 22 #[Value.slice none 0 0, Value.slice p n c]) w'_1
  fun (v : Value) (w'_2 : World) =>
  ∃ (p : Option Addr),
  ∃ (n : Nat),
  ∃ (c : Nat),
  v = Value.slice p n c ∧
  ((w'_2.cell? (Addr.mk w.heap.size 1 none)).isSome = true ∧
  w'_2.frozen? (Addr.mk w.heap.size 1 none) = false) ∧
  ∀ (w'_3 : World),
  w'_3 = w'_2.setCell (Addr.mk w.heap.size 1 none) (Value.slice p n c) →
  ∃ (p : Option Addr),
  ∃ (n : Nat),
  ∃ (c : Nat),
  w'_3.cell? (Addr.mk w.heap.size 4 none) = some (Value.slice p n c) ∧
  RunsV Proofs.Try.prog
  (Builtin.append_ #[23, 23] 23 #[Value.slice none 0 0, Value.slice p n c]) w'_3
  fun (v : Value) (w'_4 : World) =>
  ∃ (p : Option Addr),
  ∃ (n : Nat),
  ∃ (c : Nat),
  v = Value.slice p n c ∧
  ((w'_4.cell? (Addr.mk w.heap.size 4 none)).isSome = true ∧
  w'_4.frozen? (Addr.mk w.heap.size 4 none) = false) ∧
  ∀ (w'_5 : World),
  w'_5 =
  w'_4.setCell (Addr.mk w.heap.size 4 none)
  (Value.slice p n c) →
  ∃ (n : Int),
  ∃ (p : Option Addr),
  ∃ (n_1 : Nat),
  ∃ (c : Nat),
  ∃ (b : Bool),
  ∃ (b_1 : Bool),
  ∃ (p_1 : Option Addr),
  ∃ (n_2 : Nat),
  ∃ (c_1 : Nat),
  (w'_5.cell? (Addr.mk w.heap.size 0 none) =
  some (Value.int IntKind.i64 n) ∧
  w'_5.cell? (Addr.mk w.heap.size 1 none) =
  some (Value.slice p n_1 c) ∧
  w'_5.cell?
  (Addr.mk w.heap.size 2 none) =
  some (Value.bool b) ∧
  w'_5.cell?
  (Addr.mk w.heap.size 3 none) =
  some (Value.bool b_1) ∧
  w'_5.cell?
  (Addr.mk w.heap.size 4 none) =
  some (Value.slice p_1 n_2 c_1) ∧
  True) ∧
  SetsAt w'_5 (Addr.mk w'.heap.size 0 none) 0
  [Value.int IntKind.i64 n,
  Value.slice p n_1 c, Value.bool b,
  Value.bool b_1,
  Value.slice p_1 n_2 c_1] ∧
  ∀ (w'_6 : World),
  w'_6 =
  setCellsAt w'_5
  (Addr.mk w'.heap.size 0 none) 0
  [Value.int IntKind.i64 n,
  Value.slice p n_1 c,
  Value.bool b, Value.bool b_1,
  Value.slice p_1 n_2 c_1] →
  ∃ (n : Int),
  ∃ (p : Option Addr),
  ∃ (n_3 : Nat),
  ∃ (c : Nat),
  ∃ (b : Bool),
  ∃ (b_2 : Bool),
  ∃ (p_2 : Option Addr),
  ∃ (n_4 : Nat),
  ∃ (c_2 : Nat),
  (w'_6.cell?
  (Addr.mk
  w'.heap.size
  0 none) =
  some
  (Value.int
  IntKind.i64
  n) ∧
  w'_6.cell?
  (Addr.mk
  w'.heap.size
  1
  none) =
  some
  (Value.slice
  p n_3
  c) ∧
  w'_6.cell?
  (Addr.mk
  w'.heap.size
  2
  none) =
  some
  (Value.bool
  b) ∧
  w'_6.cell?
  (Addr.mk
  w'.heap.size
  3
  none) =
  some
  (Value.bool
  b_2) ∧
  w'_6.cell?
  (Addr.mk
  w'.heap.size
  4
  none) =
  some
  (Value.slice
  p_2
  n_4
  c_2) ∧
  True) ∧
  R
  (Ending.returned
  (Value.agg
  #[Value.int
  IntKind.i64
  n,
  Value.slice
  p n_3 c,
  Value.bool
  b,
  Value.bool
  b_2,
  Value.slice
  p_2 n_4
  c_2]))
  w'_6
theorem ref30_Copy.vc_eq (x'_0 : Int) (x'_1 : Option Addr) (x'_1n : Nat) (x'_1c : Nat) (x'_2 : Bool) (x'_3 : Bool) (x'_4 : Option Addr) (x'_4n : Nat) (x'_4c : Nat) (w : World) (R : Ending → World → Prop) : fnV Try.prog ref30_Copy.H 8 [Value.agg
  #[Value.int IntKind.i64 x'_0, Value.slice x'_1 x'_1n x'_1c, Value.bool x'_2, Value.bool x'_3,
  Value.slice x'_4 x'_4n x'_4c]] w R = ref30_Copy.vc x'_0 x'_1 x'_1n x'_1c x'_2 x'_3 x'_4 x'_4n x'_4c w R := by kernel_rfl
theorem ref30_Copy.calls {x'_0 : Int} {x'_1 : Option Addr} {x'_1n : Nat} {x'_1c : Nat} {x'_2 : Bool} {x'_3 : Bool} {x'_4 : Option Addr} {x'_4n : Nat} {x'_4c : Nat} {w : World} {R : Ending → World → Prop} (h : ref30_Copy.vc x'_0 x'_1 x'_1n x'_1c x'_2 x'_3 x'_4 x'_4n x'_4c w R) : Calls Try.prog 8 ([Value.agg
  #[Value.int IntKind.i64 x'_0, Value.slice x'_1 x'_1n x'_1c, Value.bool x'_2, Value.bool x'_3,
  Value.slice x'_4 x'_4n x'_4c]] : List Value).toArray w R := calls_of_eq (ref30_Copy.vc_eq x'_0 x'_1 x'_1n x'_1c x'_2 x'_3 x'_4 x'_4n x'_4c w R) h

end Go.Proofs.Ytjoikaklincfoaa

/-
The explicit conditions of some functions of the program, printed by this repo's own program over VcTop: what is proved is that each is the condition.
Conditions: none.
-/
namespace Go.Proofs.Ytjoikaklincfoaa
open Go Go.Vc Go.RowKit
set_option linter.unusedVariables false
set_option maxRecDepth 100000

/- function 33: sacristy/sacristyref03.field -/
abbrev ref03_field.N : FuncId := 33
def ref03_field.H : Hints := {  }
def ref03_field.vc (w' : Int) (at' : Int) (n' : Int) (w : World) (R : Ending → World → Prop) : Prop :=
  cnd (decide (IntKind.u64.wrap at' < 0)) False
  (cnd (decide (IntKind.u64.wrap n' < 0)) False
  (cnd (decide (IntKind.u32.wrap (1 * 2 ^ min (IntKind.u64.wrap n').toNat 32) = 0)) False
  (R
  (Ending.returned
  (Value.int IntKind.u32
  ((w'.fdiv (2 ^ min (IntKind.u64.wrap at').toNat 32)).tmod
  (IntKind.u32.wrap (1 * 2 ^ min (IntKind.u64.wrap n').toNat 32)))))
  w)))
theorem ref03_field.vc_eq (w' : Int) (at' : Int) (n' : Int) (w : World) (R : Ending → World → Prop) : fnV Try.prog ref03_field.H 33 [Value.int IntKind.u32 w', Value.int IntKind.i64 at', Value.int IntKind.i64 n'] w R = ref03_field.vc w' at' n' w R := by kernel_rfl
theorem ref03_field.calls {w' : Int} {at' : Int} {n' : Int} {w : World} {R : Ending → World → Prop} (h : ref03_field.vc w' at' n' w R) : Calls Try.prog 33 ([Value.int IntKind.u32 w', Value.int IntKind.i64 at', Value.int IntKind.i64 n'] : List Value).toArray w R := calls_of_eq (ref03_field.vc_eq w' at' n' w R) h

/- function 34: sacristy/sacristyref03.signed -/
abbrev ref03_signed.N : FuncId := 34
def ref03_signed.H : Hints := {  }
def ref03_signed.vc (v' : Int) (bits' : Int) (w : World) (R : Ending → World → Prop) : Prop :=
  Calls Proofs.Try.prog 41 #[Value.int IntKind.u64 (IntKind.u64.wrap v'), Value.int IntKind.i64 bits'] w
  fun (e : Ending) (w' : World) =>
  ∃ (n : Int),
  ∃ (n_1 : Int),
  e = Ending.returned (Value.tuple #[Value.int IntKind.u64 n, Value.int IntKind.i64 n_1]) ∧
  R (Ending.returned (Value.int IntKind.i64 (IntKind.i64.wrap n))) w'
theorem ref03_signed.vc_eq (v' : Int) (bits' : Int) (w : World) (R : Ending → World → Prop) : fnV Try.prog ref03_signed.H 34 [Value.int IntKind.u32 v', Value.int IntKind.i64 bits'] w R = ref03_signed.vc v' bits' w R := by kernel_rfl
theorem ref03_signed.calls {v' : Int} {bits' : Int} {w : World} {R : Ending → World → Prop} (h : ref03_signed.vc v' bits' w R) : Calls Try.prog 34 ([Value.int IntKind.u32 v', Value.int IntKind.i64 bits'] : List Value).toArray w R := calls_of_eq (ref03_signed.vc_eq v' bits' w R) h

/- function 25: sacristy/sacristyref03.guess -/
abbrev ref03_guess.N : FuncId := 25
def ref03_guess.H : Hints := {  }
def ref03_guess.vc (op' : Int) (form' : Int) (w' : Int) (w : World) (R : Ending → World → Prop) : Prop :=
  ∀ (w'_1 : World),
  w'_1 =
  w.alloc
  (Obj.cells
  #[Value.int IntKind.u8 0, Value.int IntKind.u8 0, Value.int IntKind.u8 0, Value.int IntKind.u8 0,
  Value.int IntKind.i64 0]
  39) →
  ∀ (w'_2 : World),
  w'_2 =
  w'_1.alloc
  (Obj.cells
  #[Value.int IntKind.u8 0, Value.int IntKind.u8 0, Value.int IntKind.u8 0, Value.int IntKind.u8 0,
  Value.int IntKind.i64 0]
  39) →
  SetsAt w'_2 (Addr.mk w'_1.heap.size 0 none) 0
  [Value.int IntKind.u8 op', Value.int IntKind.u8 0, Value.int IntKind.u8 0, Value.int IntKind.u8 0,
  Value.int IntKind.i64 0] ∧
  ∀ (w'_3 : World),
  w'_3 =
  setCellsAt w'_2 (Addr.mk w'_1.heap.size 0 none) 0
  [Value.int IntKind.u8 op', Value.int IntKind.u8 0, Value.int IntKind.u8 0, Value.int IntKind.u8 0,
  Value.int IntKind.i64 0] →
  Calls Proofs.Try.prog 33 #[Value.int IntKind.u32 w', Value.int IntKind.i64 7, Value.int IntKind.i64 5]
  w'_3 fun (e : Ending) (w'_4 : World) =>
  ∃ (n : Int),
  e = Ending.returned (Value.int IntKind.u32 n) ∧
  Calls Proofs.Try.prog 33
  #[Value.int IntKind.u32 w', Value.int IntKind.i64 15, Value.int IntKind.i64 5] w'_4
  fun (e : Ending) (w'_5 : World) =>
  ∃ (n_1 : Int),
  e = Ending.returned (Value.int IntKind.u32 n_1) ∧
  Calls Proofs.Try.prog 33
  #[Value.int IntKind.u32 w', Value.int IntKind.i64 20, Value.int IntKind.i64 5] w'_5
  fun (e : Ending) (w'_6 : World) =>
  ∃ (n_2 : Int),
  e = Ending.returned (Value.int IntKind.u32 n_2) ∧
  cnd (form' == 1)
  (((w'_6.cell? (Addr.mk w'_1.heap.size 1 none)).isSome = true ∧
  w'_6.frozen? (Addr.mk w'_1.heap.size 1 none) = false) ∧
  ∀ (w' : World),
  w' =
  w'_6.setCell (Addr.mk w'_1.heap.size 1 none)
  (Value.int IntKind.u8 (IntKind.u8.wrap n)) →
  ((w'.cell? (Addr.mk w'_1.heap.size 2 none)).isSome = true ∧
  w'.frozen? (Addr.mk w'_1.heap.size 2 none) = false) ∧
  ∀ (w'_7 : World),
  w'_7 =
  w'.setCell (Addr.mk w'_1.heap.size 2 none)
  (Value.int IntKind.u8 (IntKind.u8.wrap n_1)) →
  ((w'_7.cell? (Addr.mk w'_1.heap.size 3 none)).isSome = true ∧
  w'_7.frozen? (Addr.mk w'_1.heap.size 3 none) = false) ∧
  ∀ (w' : World),
  w' =
  w'_7.setCell (Addr.mk w'_1.heap.size 3 none)
  (Value.int IntKind.u8 (IntKind.u8.wrap n_2)) →
  ∃ (n : Int),
  ∃ (n_3 : Int),
  ∃ (n_4 : Int),
  ∃ (n_5 : Int),
  ∃ (n_6 : Int),
  (w'.cell? (Addr.mk w'_1.heap.size 0 none) =
  some (Value.int IntKind.u8 n) ∧
  w'.cell? (Addr.mk w'_1.heap.size 1 none) =
  some (Value.int IntKind.u8 n_3) ∧
  w'.cell? (Addr.mk w'_1.heap.size 2 none) =
  some (Value.int IntKind.u8 n_4) ∧
  w'.cell? (Addr.mk w'_1.heap.size 3 none) =
  some (Value.int IntKind.u8 n_5) ∧
  w'.cell? (Addr.mk w'_1.heap.size 4 none) =
  some (Value.int IntKind.i64 n_6) ∧
  True) ∧
  SetsAt w' (Addr.mk w.heap.size 0 none) 0
  [Value.int IntKind.u8 n, Value.int IntKind.u8 n_3,
  Value.int IntKind.u8 n_4,
  Value.int IntKind.u8 n_5,
  Value.int IntKind.i64 n_6] ∧
  ∀ (w'_8 : World),
  w'_8 =
  setCellsAt w' (Addr.mk w.heap.size 0 none) 0
  [Value.int IntKind.u8 n,
  Value.int IntKind.u8 n_3,
  Value.int IntKind.u8 n_4,
  Value.int IntKind.u8 n_5,
  Value.int IntKind.i64 n_6] →
  ∃ (n : Int),
  ∃ (n_7 : Int),
  ∃ (n_8 : Int),
  ∃ (n_9 : Int),
  ∃ (n_10 : Int),
  (w'_8.cell?
  (Addr.mk w.heap.size 0 none) =
  some (Value.int IntKind.u8 n) ∧
  w'_8.cell?
  (Addr.mk w.heap.size 1 none) =
  some
  (Value.int IntKind.u8 n_7) ∧
  w'_8.cell?
  (Addr.mk w.heap.size 2
  none) =
  some
  (Value.int IntKind.u8 n_8) ∧
  w'_8.cell?
  (Addr.mk w.heap.size 3
  none) =
  some
  (Value.int IntKind.u8
  n_9) ∧
  w'_8.cell?
  (Addr.mk w.heap.size 4
  none) =
  some
  (Value.int IntKind.i64
  n_10) ∧
  True) ∧
  R
  (Ending.returned
  (Value.agg
  #[Value.int IntKind.u8 n,
  Value.int IntKind.u8 n_7,
  Value.int IntKind.u8 n_8,
  Value.int IntKind.u8 n_9,
  Value.int IntKind.i64 n_10]))
  w'_8)
  (cnd (form' == 2)
  (Calls Proofs.Try.prog 33
  #[Value.int IntKind.u32 w', Value.int IntKind.i64 20, Value.int IntKind.i64 12]
  w'_6 fun (e : Ending) (w' : World) =>
  ∃ (n_3 : Int),
  e = Ending.returned (Value.int IntKind.u32 n_3) ∧
  Calls Proofs.Try.prog 34
  #[Value.int IntKind.u32 n_3, Value.int IntKind.i64 12] w'
  fun (e : Ending) (w' : World) =>
  ∃ (n_4 : Int),
  e = Ending.returned (Value.int IntKind.i64 n_4) ∧
  ((w'.cell? (Addr.mk w'_1.heap.size 1 none)).isSome = true ∧
  w'.frozen? (Addr.mk w'_1.heap.size 1 none) = false) ∧
  ∀ (w'_7 : World),
  w'_7 =
  w'.setCell (Addr.mk w'_1.heap.size 1 none)
  (Value.int IntKind.u8 (IntKind.u8.wrap n)) →
  ((w'_7.cell? (Addr.mk w'_1.heap.size 2 none)).isSome = true ∧
  w'_7.frozen? (Addr.mk w'_1.heap.size 2 none) = false) ∧
  ∀ (w' : World),
  w' =
  w'_7.setCell (Addr.mk w'_1.heap.size 2 none)
  (Value.int IntKind.u8 (IntKind.u8.wrap n_1)) →
  ((w'.cell? (Addr.mk w'_1.heap.size 4 none)).isSome = true ∧
  w'.frozen? (Addr.mk w'_1.heap.size 4 none) = false) ∧
  ∀ (w'_8 : World),
  w'_8 =
  w'.setCell (Addr.mk w'_1.heap.size 4 none)
  (Value.int IntKind.i64 n_4) →
  ∃ (n : Int),
  ∃ (n_5 : Int),
  ∃ (n_6 : Int),
  ∃ (n_7 : Int),
  ∃ (n_8 : Int),
  (w'_8.cell?
  (Addr.mk w'_1.heap.size 0 none) =
  some (Value.int IntKind.u8 n) ∧
  w'_8.cell?
  (Addr.mk w'_1.heap.size 1 none) =
  some (Value.int IntKind.u8 n_5) ∧
  w'_8.cell?
  (Addr.mk w'_1.heap.size 2
  none) =
  some (Value.int IntKind.u8 n_6) ∧
  w'_8.cell?
  (Addr.mk w'_1.heap.size 3
  none) =
  some
  (Value.int IntKind.u8 n_7) ∧
  w'_8.cell?
  (Addr.mk w'_1.heap.size 4
  none) =
  some
  (Value.int IntKind.i64
  n_8) ∧
  True) ∧
  SetsAt w'_8 (Addr.mk w.heap.size 0 none) 0
  [Value.int IntKind.u8 n,
  Value.int IntKind.u8 n_5,
  Value.int IntKind.u8 n_6,
  Value.int IntKind.u8 n_7,
  Value.int IntKind.i64 n_8] ∧
  ∀ (w' : World),
  w' =
  setCellsAt w'_8
  (Addr.mk w.heap.size 0 none) 0
  [Value.int IntKind.u8 n,
  Value.int IntKind.u8 n_5,
  Value.int IntKind.u8 n_6,
  Value.int IntKind.u8 n_7,
  Value.int IntKind.i64 n_8] →
  ∃ (n : Int),
  ∃ (n_9 : Int),
  ∃ (n_10 : Int),
  ∃ (n_11 : Int),
  ∃ (n_12 : Int),
  (w'.cell?
  (Addr.mk
  w.heap.size 0
  none) =
  some
  (Value.int
  IntKind.u8 n) ∧
  w'.cell?
  (Addr.mk
  w.heap.size 1
  none) =
  some
  (Value.int
  IntKind.u8
  n_9) ∧
  w'.cell?
  (Addr.mk
  w.heap.size
  2 none) =
  some
  (Value.int
  IntKind.u8
  n_10) ∧
  w'.cell?
  (Addr.mk
  w.heap.size
  3 none) =
  some
  (Value.int
  IntKind.u8
  n_11) ∧
  w'.cell?
  (Addr.mk
  w.heap.size
  4
  none) =
  some
  (Value.int
  IntKind.i64
  n_12) ∧
  True) ∧
  R
  (Ending.returned
  (Value.agg
  #[Value.int
  IntKind.u8 n,
  Value.int
  IntKind.u8
  n_9,
  Value.int
  IntKind.u8
  n_10,
  Value.int
  IntKind.u8
  n_11,
  Value.int
  IntKind.i64
  n_12]))
  w')
  (cnd (form' == 3)
  (Calls Proofs.Try.prog 33
  #[Value.int IntKind.u32 w', Value.int IntKind.i64 20, Value.int IntKind.i64 6]
  w'_6 fun (e : Ending) (w' : World) =>
  ∃ (n_3 : Int),
  e = Ending.returned (Value.int IntKind.u32 n_3) ∧
  ((w'.cell? (Addr.mk w'_1.heap.size 1 none)).isSome = true ∧
  w'.frozen? (Addr.mk w'_1.heap.size 1 none) = false) ∧
  ∀ (w'_7 : World),
  w'_7 =
  w'.setCell (Addr.mk w'_1.heap.size 1 none)
  (Value.int IntKind.u8 (IntKind.u8.wrap n)) →
  ((w'_7.cell? (Addr.mk w'_1.heap.size 2 none)).isSome = true ∧
  w'_7.frozen? (Addr.mk w'_1.heap.size 2 none) = false) ∧
  ∀ (w' : World),
  w' =
  w'_7.setCell (Addr.mk w'_1.heap.size 2 none)
  (Value.int IntKind.u8 (IntKind.u8.wrap n_1)) →
  ((w'.cell? (Addr.mk w'_1.heap.size 4 none)).isSome = true ∧
  w'.frozen? (Addr.mk w'_1.heap.size 4 none) = false) ∧
  ∀ (w'_8 : World),
  w'_8 =
  w'.setCell (Addr.mk w'_1.heap.size 4 none)
  (Value.int IntKind.i64 (IntKind.i64.wrap n_3)) →
  ∃ (n : Int),
  ∃ (n_4 : Int),
  ∃ (n_5 : Int),
  ∃ (n_6 : Int),
  ∃ (n_7 : Int),
  (w'_8.cell? (Addr.mk w'_1.heap.size 0 none) =
  some (Value.int IntKind.u8 n) ∧
  w'_8.cell? (Addr.mk w'_1.heap.size 1 none) =
  some (Value.int IntKind.u8 n_4) ∧
  w'_8.cell?
  (Addr.mk w'_1.heap.size 2 none) =
  some (Value.int IntKind.u8 n_5) ∧
  w'_8.cell?
  (Addr.mk w'_1.heap.size 3 none) =
  some (Value.int IntKind.u8 n_6) ∧
  w'_8.cell?
  (Addr.mk w'_1.heap.size 4
  none) =
  some (Value.int IntKind.i64 n_7) ∧
  True) ∧
  SetsAt w'_8 (Addr.mk w.heap.size 0 none) 0
  [Value.int IntKind.u8 n,
  Value.int IntKind.u8 n_4,
  Value.int IntKind.u8 n_5,
  Value.int IntKind.u8 n_6,
  Value.int IntKind.i64 n_7] ∧
  ∀ (w' : World),
  w' =
  setCellsAt w'_8
  (Addr.mk w.heap.size 0 none) 0
  [Value.int IntKind.u8 n,
  Value.int IntKind.u8 n_4,
  Value.int IntKind.u8 n_5,
  Value.int IntKind.u8 n_6,
  Value.int IntKind.i64 n_7] →
  ∃ (n : Int),
  ∃ (n_8 : Int),
  ∃ (n_9 : Int),
  ∃ (n_10 : Int),
  ∃ (n_11 : Int),
  (w'.cell?
  (Addr.mk w.heap.size 0
  none) =
  some
  (Value.int IntKind.u8
  n) ∧
  w'.cell?
  (Addr.mk w.heap.size
  1 none) =
  some
  (Value.int
  IntKind.u8 n_8) ∧
  w'.cell?
  (Addr.mk
  w.heap.size 2
  none) =
  some
  (Value.int
  IntKind.u8
  n_9) ∧
  w'.cell?
  (Addr.mk
  w.heap.size 3
  none) =
  some
  (Value.int
  IntKind.u8
  n_10) ∧
  w'.cell?
  (Addr.mk
  w.heap.size
  4 none) =
  some
  (Value.int
  IntKind.i64
  n_11) ∧
  True) ∧
  R
  (Ending.returned
  (Value.agg
  #[Value.int IntKind.u8
  n,
  Value.int IntKind.u8
  n_8,
  Value.int IntKind.u8
  n_9,
  Value.int IntKind.u8
  n_10,
  Value.int
  IntKind.i64
  n_11]))
  w')
  (cnd (form' == 4)
  (Calls Proofs.Try.prog 33
  #[Value.int IntKind.u32 w', Value.int IntKind.i64 12,
  Value.int IntKind.i64 20]
  w'_6 fun (e : Ending) (w' : World) =>
  ∃ (n_3 : Int),
  e = Ending.returned (Value.int IntKind.u32 n_3) ∧
  Calls Proofs.Try.prog 34
  #[Value.int IntKind.u32 (IntKind.u32.wrap (n_3 * 4096)),
  Value.int IntKind.i64 32]
  w' fun (e : Ending) (w' : World) =>
  ∃ (n_4 : Int),
  e = Ending.returned (Value.int IntKind.i64 n_4) ∧
  ((w'.cell? (Addr.mk w'_1.heap.size 1 none)).isSome = true ∧
  w'.frozen? (Addr.mk w'_1.heap.size 1 none) = false) ∧
  ∀ (w'_7 : World),
  w'_7 =
  w'.setCell (Addr.mk w'_1.heap.size 1 none)
  (Value.int IntKind.u8 (IntKind.u8.wrap n)) →
  ((w'_7.cell? (Addr.mk w'_1.heap.size 4 none)).isSome = true ∧
  w'_7.frozen? (Addr.mk w'_1.heap.size 4 none) = false) ∧
  ∀ (w' : World),
  w' =
  w'_7.setCell (Addr.mk w'_1.heap.size 4 none)
  (Value.int IntKind.i64 n_4) →
  ∃ (n : Int),
  ∃ (n_5 : Int),
  ∃ (n_6 : Int),
  ∃ (n_7 : Int),
  ∃ (n_8 : Int),
  (w'.cell? (Addr.mk w'_1.heap.size 0 none) =
  some (Value.int IntKind.u8 n) ∧
  w'.cell? (Addr.mk w'_1.heap.size 1 none) =
  some (Value.int IntKind.u8 n_5) ∧
  w'.cell?
  (Addr.mk w'_1.heap.size 2 none) =
  some (Value.int IntKind.u8 n_6) ∧
  w'.cell?
  (Addr.mk w'_1.heap.size 3
  none) =
  some (Value.int IntKind.u8 n_7) ∧
  w'.cell?
  (Addr.mk w'_1.heap.size 4
  none) =
  some
  (Value.int IntKind.i64 n_8) ∧
  True) ∧
  SetsAt w' (Addr.mk w.heap.size 0 none) 0
  [Value.int IntKind.u8 n,
  Value.int IntKind.u8 n_5,
  Value.int IntKind.u8 n_6,
  Value.int IntKind.u8 n_7,
  Value.int IntKind.i64 n_8] ∧
  ∀ (w'_8 : World),
  w'_8 =
  setCellsAt w'
  (Addr.mk w.heap.size 0 none) 0
  [Value.int IntKind.u8 n,
  Value.int IntKind.u8 n_5,
  Value.int IntKind.u8 n_6,
  Value.int IntKind.u8 n_7,
  Value.int IntKind.i64 n_8] →
  ∃ (n : Int),
  ∃ (n_9 : Int),
  ∃ (n_10 : Int),
  ∃ (n_11 : Int),
  ∃ (n_12 : Int),
  (w'_8.cell?
  (Addr.mk w.heap.size
  0 none) =
  some
  (Value.int
  IntKind.u8 n) ∧
  w'_8.cell?
  (Addr.mk
  w.heap.size 1
  none) =
  some
  (Value.int
  IntKind.u8
  n_9) ∧
  w'_8.cell?
  (Addr.mk
  w.heap.size 2
  none) =
  some
  (Value.int
  IntKind.u8
  n_10) ∧
  w'_8.cell?
  (Addr.mk
  w.heap.size
  3 none) =
  some
  (Value.int
  IntKind.u8
  n_11) ∧
  w'_8.cell?
  (Addr.mk
  w.heap.size
  4 none) =
  some
  (Value.int
  IntKind.i64
  n_12) ∧
  True) ∧
  R
  (Ending.returned
  (Value.agg
  #[Value.int
  IntKind.u8 n,
  Value.int
  IntKind.u8 n_9,
  Value.int
  IntKind.u8 n_10,
  Value.int
  IntKind.u8 n_11,
  Value.int
  IntKind.i64
  n_12]))
  w'_8)
  (cnd (form' == 5)
  (Calls Proofs.Try.prog 33
  #[Value.int IntKind.u32 w', Value.int IntKind.i64 7,
  Value.int IntKind.i64 5]
  w'_6 fun (e : Ending) (w'_7 : World) =>
  ∃ (n : Int),
  e = Ending.returned (Value.int IntKind.u32 n) ∧
  Calls Proofs.Try.prog 33
  #[Value.int IntKind.u32 w', Value.int IntKind.i64 25,
  Value.int IntKind.i64 7]
  w'_7 fun (e : Ending) (w' : World) =>
  ∃ (n_3 : Int),
  e = Ending.returned (Value.int IntKind.u32 n_3) ∧
  Calls Proofs.Try.prog 34
  #[Value.int IntKind.u32
  (IntKind.u32.wrap (n + IntKind.u32.wrap (n_3 * 32))),
  Value.int IntKind.i64 12]
  w' fun (e : Ending) (w' : World) =>
  ∃ (n : Int),
  e = Ending.returned (Value.int IntKind.i64 n) ∧
  ((w'.cell? (Addr.mk w'_1.heap.size 2 none)).isSome = true ∧
  w'.frozen? (Addr.mk w'_1.heap.size 2 none) = false) ∧
  ∀ (w'_8 : World),
  w'_8 =
  w'.setCell (Addr.mk w'_1.heap.size 2 none)
  (Value.int IntKind.u8 (IntKind.u8.wrap n_1)) →
  ((w'_8.cell? (Addr.mk w'_1.heap.size 3 none)).isSome =
  true ∧
  w'_8.frozen? (Addr.mk w'_1.heap.size 3 none) =
  false) ∧
  ∀ (w' : World),
  w' =
  w'_8.setCell (Addr.mk w'_1.heap.size 3 none)
  (Value.int IntKind.u8
  (IntKind.u8.wrap n_2)) →
  ((w'.cell?
  (Addr.mk w'_1.heap.size 4
  none)).isSome =
  true ∧
  w'.frozen? (Addr.mk w'_1.heap.size 4 none) =
  false) ∧
  ∀ (w'_9 : World),
  w'_9 =
  w'.setCell
  (Addr.mk w'_1.heap.size 4 none)
  (Value.int IntKind.i64 n) →
  ∃ (n : Int),
  ∃ (n_4 : Int),
  ∃ (n_5 : Int),
  ∃ (n_6 : Int),
  ∃ (n_7 : Int),
  (w'_9.cell?
  (Addr.mk w'_1.heap.size
  0 none) =
  some
  (Value.int IntKind.u8
  n) ∧
  w'_9.cell?
  (Addr.mk
  w'_1.heap.size 1
  none) =
  some
  (Value.int IntKind.u8
  n_4) ∧
  w'_9.cell?
  (Addr.mk
  w'_1.heap.size 2
  none) =
  some
  (Value.int
  IntKind.u8 n_5) ∧
  w'_9.cell?
  (Addr.mk
  w'_1.heap.size 3
  none) =
  some
  (Value.int
  IntKind.u8
  n_6) ∧
  w'_9.cell?
  (Addr.mk
  w'_1.heap.size
  4 none) =
  some
  (Value.int
  IntKind.i64
  n_7) ∧
  True) ∧
  SetsAt w'_9
  (Addr.mk w.heap.size 0
  none)
  0
  [Value.int IntKind.u8 n,
  Value.int IntKind.u8
  n_4,
  Value.int IntKind.u8
  n_5,
  Value.int IntKind.u8
  n_6,
  Value.int IntKind.i64
  n_7] ∧
  ∀ (w' : World),
  w' =
  setCellsAt w'_9
  (Addr.mk w.heap.size
  0 none)
  0
  [Value.int
  IntKind.u8 n,
  Value.int
  IntKind.u8 n_4,
  Value.int
  IntKind.u8 n_5,
  Value.int
  IntKind.u8 n_6,
  Value.int
  IntKind.i64
  n_7] →
  ∃ (n : Int),
  ∃ (n_8 : Int),
  ∃ (n_9 : Int),
  ∃ (n_10 : Int),
  ∃ (n_11 : Int),
  (w'.cell?
  (Addr.mk
  w.heap.size
  0
  none) =
  some
  (Value.int
  IntKind.u8
  n) ∧
  w'.cell?
  (Addr.mk
  w.heap.size
  1
  none) =
  some
  (Value.int
  IntKind.u8
  n_8) ∧
  w'.cell?
  (Addr.mk
  w.heap.size
  2
  none) =
  some
  (Value.int
  IntKind.u8
  n_9) ∧
  w'.cell?
  (Addr.mk
  w.heap.size
  3
  none) =
  some
  (Value.int
  IntKind.u8
  n_10) ∧
  w'.cell?
  (Addr.mk
  w.heap.size
  4
  none) =
  some
  (Value.int
  IntKind.i64
  n_11) ∧
  True) ∧
  R
  (Ending.returned
  (Value.agg
  #[Value.int
  IntKind.u8
  n,
  Value.int
  IntKind.u8
  n_8,
  Value.int
  IntKind.u8
  n_9,
  Value.int
  IntKind.u8
  n_10,
  Value.int
  IntKind.i64
  n_11]))
  w')
  (cnd (form' == 6)
  (Calls Proofs.Try.prog 33
  #[Value.int IntKind.u32 w', Value.int IntKind.i64 8,
  Value.int IntKind.i64 4]
  w'_6 fun (e : Ending) (w'_7 : World) =>
  ∃ (n : Int),
  e = Ending.returned (Value.int IntKind.u32 n) ∧
  Calls Proofs.Try.prog 33
  #[Value.int IntKind.u32 w', Value.int IntKind.i64 25,
  Value.int IntKind.i64 6]
  w'_7 fun (e : Ending) (w'_8 : World) =>
  ∃ (n_3 : Int),
  e = Ending.returned (Value.int IntKind.u32 n_3) ∧
  Calls Proofs.Try.prog 33
  #[Value.int IntKind.u32 w', Value.int IntKind.i64 7,
  Value.int IntKind.i64 1]
  w'_8 fun (e : Ending) (w'_9 : World) =>
  ∃ (n_4 : Int),
  e = Ending.returned (Value.int IntKind.u32 n_4) ∧
  Calls Proofs.Try.prog 33
  #[Value.int IntKind.u32 w', Value.int IntKind.i64 31,
  Value.int IntKind.i64 1]
  w'_9 fun (e : Ending) (w' : World) =>
  ∃ (n_5 : Int),
  e = Ending.returned (Value.int IntKind.u32 n_5) ∧
  Calls Proofs.Try.prog 34
  #[Value.int IntKind.u32
  (IntKind.u32.wrap
  (IntKind.u32.wrap
  (IntKind.u32.wrap
  (IntKind.u32.wrap (n * 2) +
  IntKind.u32.wrap (n_3 * 32)) +
  IntKind.u32.wrap (n_4 * 2048)) +
  IntKind.u32.wrap (n_5 * 4096))),
  Value.int IntKind.i64 13]
  w' fun (e : Ending) (w' : World) =>
  ∃ (n : Int),
  e = Ending.returned (Value.int IntKind.i64 n) ∧
  ((w'.cell?
  (Addr.mk w'_1.heap.size 2
  none)).isSome =
  true ∧
  w'.frozen?
  (Addr.mk w'_1.heap.size 2 none) =
  false) ∧
  ∀ (w'_10 : World),
  w'_10 =
  w'.setCell
  (Addr.mk w'_1.heap.size 2 none)
  (Value.int IntKind.u8
  (IntKind.u8.wrap n_1)) →
  ((w'_10.cell?
  (Addr.mk w'_1.heap.size 3
  none)).isSome =
  true ∧
  w'_10.frozen?
  (Addr.mk w'_1.heap.size 3
  none) =
  false) ∧
  ∀ (w' : World),
  w' =
  w'_10.setCell
  (Addr.mk w'_1.heap.size 3
  none)
  (Value.int IntKind.u8
  (IntKind.u8.wrap n_2)) →
  ((w'.cell?
  (Addr.mk w'_1.heap.size
  4 none)).isSome =
  true ∧
  w'.frozen?
  (Addr.mk w'_1.heap.size 4
  none) =
  false) ∧
  ∀ (w'_11 : World),
  w'_11 =
  w'.setCell
  (Addr.mk w'_1.heap.size
  4 none)
  (Value.int IntKind.i64
  n) →
  ∃ (n : Int),
  ∃ (n_6 : Int),
  ∃ (n_7 : Int),
  ∃ (n_8 : Int),
  ∃ (n_9 : Int),
  (w'_11.cell?
  (Addr.mk
  w'_1.heap.size
  0
  none) =
  some
  (Value.int
  IntKind.u8
  n) ∧
  w'_11.cell?
  (Addr.mk
  w'_1.heap.size
  1
  none) =
  some
  (Value.int
  IntKind.u8
  n_6) ∧
  w'_11.cell?
  (Addr.mk
  w'_1.heap.size
  2
  none) =
  some
  (Value.int
  IntKind.u8
  n_7) ∧
  w'_11.cell?
  (Addr.mk
  w'_1.heap.size
  3
  none) =
  some
  (Value.int
  IntKind.u8
  n_8) ∧
  w'_11.cell?
  (Addr.mk
  w'_1.heap.size
  4
  none) =
  some
  (Value.int
  IntKind.i64
  n_9) ∧
  True) ∧
  SetsAt w'_11
  (Addr.mk
  w.heap.size
  0 none)
  0
  [Value.int
  IntKind.u8
  n,
  Value.int
  IntKind.u8
  n_6,
  Value.int
  IntKind.u8
  n_7,
  Value.int
  IntKind.u8
  n_8,
  Value.int
  IntKind.i64
  n_9] ∧
  ∀
  (w' :
  World),
  w' =
  setCellsAt
  w'_11
  (Addr.mk
  w.heap.size
  0
  none)
  0
  [Value.int
  IntKind.u8
  n,
  Value.int
  IntKind.u8
  n_6,
  Value.int
  IntKind.u8
  n_7,
  Value.int
  IntKind.u8
  n_8,
  Value.int
  IntKind.i64
  n_9] →
  ∃ (n :
  Int),
  ∃ (n_10
  :
  Int),
  ∃
  (n_11
  :
  Int),
  ∃
  (n_12
  :
  Int),
  ∃
  (n_13
  :
  Int),
  (w'.cell?
  (Addr.mk
  w.heap.size
  0
  none) =
  some
  (Value.int
  IntKind.u8
  n) ∧
  w'.cell?
  (Addr.mk
  w.heap.size
  1
  none) =
  some
  (Value.int
  IntKind.u8
  n_10) ∧
  w'.cell?
  (Addr.mk
  w.heap.size
  2
  none) =
  some
  (Value.int
  IntKind.u8
  n_11) ∧
  w'.cell?
  (Addr.mk
  w.heap.size
  3
  none) =
  some
  (Value.int
  IntKind.u8
  n_12) ∧
  w'.cell?
  (Addr.mk
  w.heap.size
  4
  none) =
  some
  (Value.int
  IntKind.i64
  n_13) ∧
  True) ∧
  R
  (Ending.returned
  (Value.agg
  #[Value.int
  IntKind.u8
  n,
  Value.int
  IntKind.u8
  n_10,
  Value.int
  IntKind.u8
  n_11,
  Value.int
  IntKind.u8
  n_12,
  Value.int
  IntKind.i64
  n_13]))
  w')
  (cnd (form' == 7)
  (Calls Proofs.Try.prog 33
  #[Value.int IntKind.u32 w', Value.int IntKind.i64 21,
  Value.int IntKind.i64 10]
  w'_6 fun (e : Ending) (w'_7 : World) =>
  ∃ (n_3 : Int),
  e = Ending.returned (Value.int IntKind.u32 n_3) ∧
  Calls Proofs.Try.prog 33
  #[Value.int IntKind.u32 w', Value.int IntKind.i64 20,
  Value.int IntKind.i64 1]
  w'_7 fun (e : Ending) (w'_8 : World) =>
  ∃ (n_4 : Int),
  e = Ending.returned (Value.int IntKind.u32 n_4) ∧
  Calls Proofs.Try.prog 33
  #[Value.int IntKind.u32 w', Value.int IntKind.i64 12,
  Value.int IntKind.i64 8]
  w'_8 fun (e : Ending) (w'_9 : World) =>
  ∃ (n_5 : Int),
  e = Ending.returned (Value.int IntKind.u32 n_5) ∧
  Calls Proofs.Try.prog 33
  #[Value.int IntKind.u32 w', Value.int IntKind.i64 31,
  Value.int IntKind.i64 1]
  w'_9 fun (e : Ending) (w' : World) =>
  ∃ (n_6 : Int),
  e = Ending.returned (Value.int IntKind.u32 n_6) ∧
  Calls Proofs.Try.prog 34
  #[Value.int IntKind.u32
  (IntKind.u32.wrap
  (IntKind.u32.wrap
  (IntKind.u32.wrap
  (IntKind.u32.wrap (n_3 * 2) +
  IntKind.u32.wrap (n_4 * 2048)) +
  IntKind.u32.wrap (n_5 * 4096)) +
  IntKind.u32.wrap (n_6 * 1048576))),
  Value.int IntKind.i64 21]
  w' fun (e : Ending) (w' : World) =>
  ∃ (n_7 : Int),
  e =
  Ending.returned
  (Value.int IntKind.i64 n_7) ∧
  ((w'.cell?
  (Addr.mk w'_1.heap.size 1
  none)).isSome =
  true ∧
  w'.frozen?
  (Addr.mk w'_1.heap.size 1 none) =
  false) ∧
  ∀ (w'_10 : World),
  w'_10 =
  w'.setCell
  (Addr.mk w'_1.heap.size 1 none)
  (Value.int IntKind.u8
  (IntKind.u8.wrap n)) →
  ((w'_10.cell?
  (Addr.mk w'_1.heap.size 4
  none)).isSome =
  true ∧
  w'_10.frozen?
  (Addr.mk w'_1.heap.size 4
  none) =
  false) ∧
  ∀ (w' : World),
  w' =
  w'_10.setCell
  (Addr.mk w'_1.heap.size 4
  none)
  (Value.int IntKind.i64
  n_7) →
  ∃ (n : Int),
  ∃ (n_8 : Int),
  ∃ (n_9 : Int),
  ∃ (n_10 : Int),
  ∃ (n_11 : Int),
  (w'.cell?
  (Addr.mk
  w'_1.heap.size
  0 none) =
  some
  (Value.int
  IntKind.u8
  n) ∧
  w'.cell?
  (Addr.mk
  w'_1.heap.size
  1 none) =
  some
  (Value.int
  IntKind.u8
  n_8) ∧
  w'.cell?
  (Addr.mk
  w'_1.heap.size
  2
  none) =
  some
  (Value.int
  IntKind.u8
  n_9) ∧
  w'.cell?
  (Addr.mk
  w'_1.heap.size
  3
  none) =
  some
  (Value.int
  IntKind.u8
  n_10) ∧
  w'.cell?
  (Addr.mk
  w'_1.heap.size
  4
  none) =
  some
  (Value.int
  IntKind.i64
  n_11) ∧
  True) ∧
  SetsAt w'
  (Addr.mk
  w.heap.size 0
  none)
  0
  [Value.int
  IntKind.u8
  n,
  Value.int
  IntKind.u8
  n_8,
  Value.int
  IntKind.u8
  n_9,
  Value.int
  IntKind.u8
  n_10,
  Value.int
  IntKind.i64
  n_11] ∧
  ∀ (w'_11 : World),
  w'_11 =
  setCellsAt
  w'
  (Addr.mk
  w.heap.size
  0 none)
  0
  [Value.int
  IntKind.u8
  n,
  Value.int
  IntKind.u8
  n_8,
  Value.int
  IntKind.u8
  n_9,
  Value.int
  IntKind.u8
  n_10,
  Value.int
  IntKind.i64
  n_11] →
  ∃ (n : Int),
  ∃ (n_12 :
  Int),
  ∃ (n_13 :
  Int),
  ∃ (n_14
  :
  Int),
  ∃
  (n_15
  :
  Int),
  (w'_11.cell?
  (Addr.mk
  w.heap.size
  0
  none) =
  some
  (Value.int
  IntKind.u8
  n) ∧
  w'_11.cell?
  (Addr.mk
  w.heap.size
  1
  none) =
  some
  (Value.int
  IntKind.u8
  n_12) ∧
  w'_11.cell?
  (Addr.mk
  w.heap.size
  2
  none) =
  some
  (Value.int
  IntKind.u8
  n_13) ∧
  w'_11.cell?
  (Addr.mk
  w.heap.size
  3
  none) =
  some
  (Value.int
  IntKind.u8
  n_14) ∧
  w'_11.cell?
  (Addr.mk
  w.heap.size
  4
  none) =
  some
  (Value.int
  IntKind.i64
  n_15) ∧
  True) ∧
  R
  (Ending.returned
  (Value.agg
  #[Value.int
  IntKind.u8
  n,
  Value.int
  IntKind.u8
  n_12,
  Value.int
  IntKind.u8
  n_13,
  Value.int
  IntKind.u8
  n_14,
  Value.int
  IntKind.i64
  n_15]))
  w'_11)
  (∃ (n : Int),
  ∃ (n_3 : Int),
  ∃ (n_4 : Int),
  ∃ (n_5 : Int),
  ∃ (n_6 : Int),
  (w'_6.cell? (Addr.mk w'_1.heap.size 0 none) =
  some (Value.int IntKind.u8 n) ∧
  w'_6.cell? (Addr.mk w'_1.heap.size 1 none) =
  some (Value.int IntKind.u8 n_3) ∧
  w'_6.cell? (Addr.mk w'_1.heap.size 2 none) =
  some (Value.int IntKind.u8 n_4) ∧
  w'_6.cell? (Addr.mk w'_1.heap.size 3 none) =
  some (Value.int IntKind.u8 n_5) ∧
  w'_6.cell? (Addr.mk w'_1.heap.size 4 none) =
  some (Value.int IntKind.i64 n_6) ∧
  True) ∧
  SetsAt w'_6 (Addr.mk w.heap.size 0 none) 0
  [Value.int IntKind.u8 n, Value.int IntKind.u8 n_3,
  Value.int IntKind.u8 n_4, Value.int IntKind.u8 n_5,
  Value.int IntKind.i64 n_6] ∧
  ∀ (w' : World),
  w' =
  setCellsAt w'_6 (Addr.mk w.heap.size 0 none) 0
  [Value.int IntKind.u8 n, Value.int IntKind.u8 n_3,
  Value.int IntKind.u8 n_4,
  Value.int IntKind.u8 n_5,
  Value.int IntKind.i64 n_6] →
  ∃ (n : Int),
  ∃ (n_7 : Int),
  ∃ (n_8 : Int),
  ∃ (n_9 : Int),
  ∃ (n_10 : Int),
  (w'.cell? (Addr.mk w.heap.size 0 none) =
  some (Value.int IntKind.u8 n) ∧
  w'.cell? (Addr.mk w.heap.size 1 none) =
  some (Value.int IntKind.u8 n_7) ∧
  w'.cell? (Addr.mk w.heap.size 2 none) =
  some (Value.int IntKind.u8 n_8) ∧
  w'.cell?
  (Addr.mk w.heap.size 3 none) =
  some (Value.int IntKind.u8 n_9) ∧
  w'.cell?
  (Addr.mk w.heap.size 4 none) =
  some
  (Value.int IntKind.i64 n_10) ∧
  True) ∧
  R
  (Ending.returned
  (Value.agg
  #[Value.int IntKind.u8 n,
  Value.int IntKind.u8 n_7,
  Value.int IntKind.u8 n_8,
  Value.int IntKind.u8 n_9,
  Value.int IntKind.i64 n_10]))
  w')))))))
theorem ref03_guess.vc_eq (op' : Int) (form' : Int) (w' : Int) (w : World) (R : Ending → World → Prop) : fnV Try.prog ref03_guess.H 25 [Value.int IntKind.u8 op', Value.int IntKind.i64 form', Value.int IntKind.u32 w'] w R = ref03_guess.vc op' form' w' w R := by kernel_rfl
theorem ref03_guess.calls {op' : Int} {form' : Int} {w' : Int} {w : World} {R : Ending → World → Prop} (h : ref03_guess.vc op' form' w' w R) : Calls Try.prog 25 ([Value.int IntKind.u8 op', Value.int IntKind.i64 form', Value.int IntKind.u32 w'] : List Value).toArray w R := calls_of_eq (ref03_guess.vc_eq op' form' w' w R) h

/- function 15: sacristy/sacristyref03.Decode -/
abbrev ref03_Decode.N : FuncId := 15
def ref03_Decode.H : Hints := { loops := [(3, [(4, .one (.int .u8))])] }
def ref03_Decode.vc (w' : Int) (w : World) (R : Ending → World → Prop) : Prop :=
  ∀ (w'_1 : World),
  w'_1 =
  w.alloc
  (Obj.cells
  #[Value.int IntKind.u8 0, Value.int IntKind.u8 0, Value.int IntKind.u8 0, Value.int IntKind.u8 0,
  Value.int IntKind.i64 0]
  39) →
  ∃ (I : List Value → World → Prop),
  ∃ (μ : List Value → World → Nat),
  I [Value.int IntKind.u8 1] w'_1 ∧
  ∀ (g : Nat → Value) (op : Int) (w'_2 : World),
  I [Value.int IntKind.u8 op] w'_2 →
  cnd (decide (op ≤ 34))
  (Calls Proofs.Try.prog 24 #[Value.int IntKind.u8 op] w'_2 fun (e : Ending) (w'_3 : World) =>
  ∃ (n : Int),
  ∃ (n_1 : Int),
  ∃ (n_2 : Int),
  ∃ (n_3 : Int),
  ∃ (b : Bool),
  e =
  Ending.returned
  (Value.tuple
  #[Value.agg
  #[Value.int IntKind.u32 n, Value.int IntKind.u32 n_1, Value.int IntKind.u32 n_2,
  Value.int IntKind.i64 n_3],
  Value.bool b]) ∧
  ∀ (w'_4 : World),
  w'_4 =
  w'_3.alloc
  (Obj.cells
  #[Value.int IntKind.u32 0, Value.int IntKind.u32 0, Value.int IntKind.u32 0,
  Value.int IntKind.i64 0]
  60) →
  SetsAt w'_4 (Addr.mk w'_3.heap.size 0 none) 0
  [Value.int IntKind.u32 n, Value.int IntKind.u32 n_1, Value.int IntKind.u32 n_2,
  Value.int IntKind.i64 n_3] ∧
  ∀ (w'_5 : World),
  w'_5 =
  setCellsAt w'_4 (Addr.mk w'_3.heap.size 0 none) 0
  [Value.int IntKind.u32 n, Value.int IntKind.u32 n_1,
  Value.int IntKind.u32 n_2, Value.int IntKind.i64 n_3] →
  ∃ (n : Int),
  w'_5.cell? (Addr.mk w'_3.heap.size 3 none) = some (Value.int IntKind.i64 n) ∧
  Calls Proofs.Try.prog 25
  #[Value.int IntKind.u8 op, Value.int IntKind.i64 n,
  Value.int IntKind.u32 w']
  w'_5 fun (e : Ending) (w'_6 : World) =>
  ∃ (n : Int),
  ∃ (n_4 : Int),
  ∃ (n_5 : Int),
  ∃ (n_6 : Int),
  ∃ (n_7 : Int),
  e =
  Ending.returned
  (Value.agg
  #[Value.int IntKind.u8 n, Value.int IntKind.u8 n_4,
  Value.int IntKind.u8 n_5, Value.int IntKind.u8 n_6,
  Value.int IntKind.i64 n_7]) ∧
  ∀ (w'_7 : World),
  w'_7 =
  w'_6.alloc
  (Obj.cells
  #[Value.int IntKind.u8 0, Value.int IntKind.u8 0,
  Value.int IntKind.u8 0, Value.int IntKind.u8 0,
  Value.int IntKind.i64 0]
  39) →
  SetsAt w'_7 (Addr.mk w'_6.heap.size 0 none) 0
  [Value.int IntKind.u8 n, Value.int IntKind.u8 n_4,
  Value.int IntKind.u8 n_5, Value.int IntKind.u8 n_6,
  Value.int IntKind.i64 n_7] ∧
  ∀ (w'_8 : World),
  w'_8 =
  setCellsAt w'_7 (Addr.mk w'_6.heap.size 0 none) 0
  [Value.int IntKind.u8 n,
  Value.int IntKind.u8 n_4,
  Value.int IntKind.u8 n_5,
  Value.int IntKind.u8 n_6,
  Value.int IntKind.i64 n_7] →
  ∃ (n : Int),
  ∃ (n_8 : Int),
  ∃ (n_9 : Int),
  ∃ (n_10 : Int),
  ∃ (n_11 : Int),
  (w'_8.cell?
  (Addr.mk w'_6.heap.size 0 none) =
  some (Value.int IntKind.u8 n) ∧
  w'_8.cell?
  (Addr.mk w'_6.heap.size 1
  none) =
  some (Value.int IntKind.u8 n_8) ∧
  w'_8.cell?
  (Addr.mk w'_6.heap.size 2
  none) =
  some
  (Value.int IntKind.u8 n_9) ∧
  w'_8.cell?
  (Addr.mk w'_6.heap.size 3
  none) =
  some
  (Value.int IntKind.u8
  n_10) ∧
  w'_8.cell?
  (Addr.mk w'_6.heap.size 4
  none) =
  some
  (Value.int IntKind.i64
  n_11) ∧
  True) ∧
  Calls Proofs.Try.prog 26
  #[Value.agg
  #[Value.int IntKind.u8 n,
  Value.int IntKind.u8 n_8,
  Value.int IntKind.u8 n_9,
  Value.int IntKind.u8 n_10,
  Value.int IntKind.i64 n_11]]
  w'_8
  fun (e : Ending) (w'_9 : World) =>
  ∃ (n : Int),
  ∃ (n_12 : Int),
  e =
  Ending.returned
  (Value.tuple
  #[Value.int IntKind.u32 n,
  Value.int IntKind.i64
  n_12]) ∧
  cnd (n_12 == 0)
  (cnd (n == w')
  (∃ (n : Int),
  ∃ (n_13 : Int),
  ∃ (n_14 : Int),
  ∃ (n_15 : Int),
  ∃ (n_16 : Int),
  (w'_9.cell?
  (Addr.mk
  w'_6.heap.size
  0
  none) =
  some
  (Value.int
  IntKind.u8
  n) ∧
  w'_9.cell?
  (Addr.mk
  w'_6.heap.size
  1
  none) =
  some
  (Value.int
  IntKind.u8
  n_13) ∧
  w'_9.cell?
  (Addr.mk
  w'_6.heap.size
  2
  none) =
  some
  (Value.int
  IntKind.u8
  n_14) ∧
  w'_9.cell?
  (Addr.mk
  w'_6.heap.size
  3
  none) =
  some
  (Value.int
  IntKind.u8
  n_15) ∧
  w'_9.cell?
  (Addr.mk
  w'_6.heap.size
  4
  none) =
  some
  (Value.int
  IntKind.i64
  n_16) ∧
  True) ∧
  SetsAt w'_9
  (Addr.mk
  w.heap.size
  0 none)
  0
  [Value.int
  IntKind.u8
  n,
  Value.int
  IntKind.u8
  n_13,
  Value.int
  IntKind.u8
  n_14,
  Value.int
  IntKind.u8
  n_15,
  Value.int
  IntKind.i64
  n_16] ∧
  ∀
  (w' :
  World),
  w' =
  setCellsAt
  w'_9
  (Addr.mk
  w.heap.size
  0
  none)
  0
  [Value.int
  IntKind.u8
  n,
  Value.int
  IntKind.u8
  n_13,
  Value.int
  IntKind.u8
  n_14,
  Value.int
  IntKind.u8
  n_15,
  Value.int
  IntKind.i64
  n_16] →
  ∃ (n :
  Int),
  ∃ (n_17
  :
  Int),
  ∃
  (n_18
  :
  Int),
  ∃
  (n_19
  :
  Int),
  ∃
  (n_20
  :
  Int),
  (w'.cell?
  (Addr.mk
  w.heap.size
  0
  none) =
  some
  (Value.int
  IntKind.u8
  n) ∧
  w'.cell?
  (Addr.mk
  w.heap.size
  1
  none) =
  some
  (Value.int
  IntKind.u8
  n_17) ∧
  w'.cell?
  (Addr.mk
  w.heap.size
  2
  none) =
  some
  (Value.int
  IntKind.u8
  n_18) ∧
  w'.cell?
  (Addr.mk
  w.heap.size
  3
  none) =
  some
  (Value.int
  IntKind.u8
  n_19) ∧
  w'.cell?
  (Addr.mk
  w.heap.size
  4
  none) =
  some
  (Value.int
  IntKind.i64
  n_20) ∧
  True) ∧
  R
  (Ending.returned
  (Value.tuple
  #[Value.agg
  #[Value.int
  IntKind.u8
  n,
  Value.int
  IntKind.u8
  n_17,
  Value.int
  IntKind.u8
  n_18,
  Value.int
  IntKind.u8
  n_19,
  Value.int
  IntKind.i64
  n_20],
  Value.int
  IntKind.i64
  0]))
  w')
  (Goes I μ
  [Value.int IntKind.u8 op]
  w'_2
  [Value.int IntKind.u8
  (IntKind.u8.wrap
  (op + 1))]
  w'_9))
  (Goes I μ
  [Value.int IntKind.u8 op]
  w'_2
  [Value.int IntKind.u8
  (IntKind.u8.wrap
  (op + 1))]
  w'_9))
  (SetsAt w'_2 (Addr.mk w.heap.size 0 none) 0
  [Value.int IntKind.u8 0, Value.int IntKind.u8 0, Value.int IntKind.u8 0, Value.int IntKind.u8 0,
  Value.int IntKind.i64 0] ∧
  ∀ (w' : World),
  w' =
  setCellsAt w'_2 (Addr.mk w.heap.size 0 none) 0
  [Value.int IntKind.u8 0, Value.int IntKind.u8 0, Value.int IntKind.u8 0,
  Value.int IntKind.u8 0, Value.int IntKind.i64 0] →
  ∃ (n : Int),
  ∃ (n_1 : Int),
  ∃ (n_2 : Int),
  ∃ (n_3 : Int),
  ∃ (n_4 : Int),
  (w'.cell? (Addr.mk w.heap.size 0 none) = some (Value.int IntKind.u8 n) ∧
  w'.cell? (Addr.mk w.heap.size 1 none) = some (Value.int IntKind.u8 n_1) ∧
  w'.cell? (Addr.mk w.heap.size 2 none) = some (Value.int IntKind.u8 n_2) ∧
  w'.cell? (Addr.mk w.heap.size 3 none) = some (Value.int IntKind.u8 n_3) ∧
  w'.cell? (Addr.mk w.heap.size 4 none) = some (Value.int IntKind.i64 n_4) ∧
  True) ∧
  R
  (Ending.returned
  (Value.tuple
  #[Value.agg
  #[Value.int IntKind.u8 n, Value.int IntKind.u8 n_1,
  Value.int IntKind.u8 n_2, Value.int IntKind.u8 n_3,
  Value.int IntKind.i64 n_4],
  Value.int IntKind.i64 7]))
  w')
theorem ref03_Decode.vc_eq (w' : Int) (w : World) (R : Ending → World → Prop) : fnV Try.prog ref03_Decode.H 15 [Value.int IntKind.u32 w'] w R = ref03_Decode.vc w' w R := by kernel_rfl
theorem ref03_Decode.calls {w' : Int} {w : World} {R : Ending → World → Prop} (h : ref03_Decode.vc w' w R) : Calls Try.prog 15 ([Value.int IntKind.u32 w'] : List Value).toArray w R := calls_of_eq (ref03_Decode.vc_eq w' w R) h

end Go.Proofs.Ytjoikaklincfoaa

/-
Slices that the call owns: grown by 'append', read and written, over the kit's own laws of such rows.
Conditions: each theorem's hypotheses; nothing is asked of a program but closed facts of its types.
-/
namespace Go.Vc
open Go.RowKit
set_option linter.unusedVariables false
set_option linter.unusedSimpArgs false
set_option linter.unnecessarySimpa false

/-- What is asked of a slice's type and of its elements' type: closed facts. -/
structure RowTy (P : Program) (t e : TypeId) (size bytes : Nat) : Prop where
  under : P.underlying t = some (.slice e)
  info : ∃ i z, P.info? e = some i ∧ i.zero = some z ∧ i.size = size ∧ i.bytes = bytes ∧ z.cells.size = size
  pos : 0 < size
theorem RowTy.of {P : Program} {t e : TypeId} {size bytes : Nat} (z : Value) (hu : P.underlying t = some (.slice e)) (hi : (P.info? e).map (fun i => (i.zero, i.size, i.bytes)) = some (some z, size, bytes)) (hz : z.cells.size = size) (hp : 0 < size) : RowTy P t e size bytes := by
  refine ⟨hu, ?_, hp⟩
  cases h : P.info? e with
  | none => rw [h] at hi; cases hi
  | some i =>
    rw [h] at hi
    simp only [Option.map_some, Option.some.injEq, Prod.mk.injEq] at hi
    exact ⟨i, z, rfl, hi.1, hi.2.1, hi.2.2, hz⟩
theorem CellsAt_get {w : World} {a : Addr} : ∀ {l : List Value} {i : Nat}, CellsAt w a i l → ∀ j u, l[j]? = some u → w.cell? (a.add (i + j)) = some u := by
  intro l
  induction l with
  | nil => intro i h j u hj; simp at hj
  | cons v l ih =>
    intro i h j u hj
    cases j with
    | zero => simp at hj; subst hj; exact h.1
    | succ j =>
      have := ih h.2 j u (by simpa using hj)
      rwa [show i + 1 + j = i + (j + 1) by omega] at this
theorem CellsAt_of_get {w : World} {a : Addr} : ∀ {l : List Value} {i : Nat}, (∀ j u, l[j]? = some u → w.cell? (a.add (i + j)) = some u) → CellsAt w a i l := by
  intro l
  induction l with
  | nil => intro i h; trivial
  | cons v l ih =>
    intro i h
    refine ⟨h 0 v rfl, ih fun j u hj => ?_⟩
    have := h (j + 1) u (by simpa using hj)
    rwa [show i + 1 + j = i + (j + 1) by omega]
/-- A slice that was made since w0: n elements, of these cells. -/
abbrev OwnS (w0 w : World) (e : TypeId) (size : Nat) (v : Value) (n : Nat) (xs : List Value) : Prop := w.ownsRow w0.heap.size e size v n xs
theorem OwnS_nil (w0 w : World) (e : TypeId) (size : Nat) : OwnS w0 w e size (.slice none 0 0) 0 [] := World.ownsRow_nil _ _ _ _
theorem OwnS.alloc {w0 w : World} {e : TypeId} {size : Nat} {v : Value} {n : Nat} {xs : List Value} (h : OwnS w0 w e size v n xs) (o : Obj) : OwnS w0 (w.alloc o) e size v n xs := World.ownsRow.alloc h o
theorem OwnS.len {w0 w : World} {e : TypeId} {size : Nat} {b : Option Addr} {bn bc n : Nat} {xs : List Value} (h : OwnS w0 w e size (.slice b bn bc) n xs) : bn = n := by
  obtain ⟨_, h | ⟨g, cap, cur, h, _⟩⟩ := h
  · cases h.1; exact h.2.symm
  · cases h; rfl
theorem OwnS.later {w0 w w' : World} {e : TypeId} {size : Nat} {v : Value} {n : Nat} {xs : List Value} (h : OwnS w0 w e size v n xs) (hl : Later w w') : OwnS w0 w' e size v n xs := by
  obtain ⟨h1, h | ⟨g, cap, cur, h2, h3, h4, h5⟩⟩ := h
  · exact ⟨h1, .inl h⟩
  · refine ⟨h1, .inr ⟨g, cap, cur, h2, h3, ?_, h5⟩⟩
    have hg : g < w.heap.size := (Array.getElem?_eq_some_iff.1 h4).1
    rw [hl.block hg]; exact h4
theorem OwnS.cells {w0 w : World} {e : TypeId} {size : Nat} {a : Addr} {bn bc n : Nat} {xs : List Value} (h : OwnS w0 w e size (.slice (some a) bn bc) n xs) : CellsAt w a 0 xs := by
  have := World.ownsRow.cells h (g := a.block) rfl
  obtain ⟨_, h | ⟨g, cap, cur, h2, _⟩⟩ := h
  · cases h.1
  · cases h2
    exact CellsAt_of_get fun j u hj => by rw [Nat.zero_add]; exact this j u hj
/-- One more block is grown: what is appended is a new row's, or the old one's. -/
theorem RunsV_append {P : Program} {w0 w : World} {t e : TypeId} {size bytes : Nat} (ty : TypeId) (hT : RowTy P t e size bytes) {b : Option Addr} {bn bc n : Nat} {xs : List Value} (hown : OwnS w0 w e size (.slice b bn bc) n xs) (hl : Later w0 w)
    {a : Addr} {m c : Nat} {news : List Value} (hlen : news.length = m * size) (hnews : CellsAt w a 0 news) (h1 : ∀ u ∈ news, u.oneCell' = true) (h63 : n + m ≤ maxLen) (hbytes : (n + m) * bytes ≤ 140737488355328)
    {K : Value → World → Prop}
    (hK : ∀ b' bn' bc' w', OwnS w0 w' e size (.slice b' bn' bc') (n + m) (xs ++ news) → Later w0 w' → w.grownBy w' (Value.slice b bn bc).ownBlock → K (.slice b' bn' bc') w') :
    RunsV P (Builtin.append_ #[t, t] ty #[.slice b bn bc, .slice (some a) m c]) w K := by
  obtain ⟨i, z, hi, hz, hs, hby, hzs⟩ := hT.info
  obtain ⟨v', w', hr, ho, hg, _⟩ := run_append_own (P := P) w w0.heap.size t ty e i z size bytes hT.under hi hz hs hby hzs hT.pos _ n xs hown a m c news hlen (fun j u hj => by have := CellsAt_get hnews j u hj; rwa [Nat.zero_add] at this) h1 h63 hbytes hl.size
  refine RunsV_of hr ?_
  have hlt := World.ownsRow.lt hown
  have hb : Later w0 w' := Below.grown hl hg hl.size (fun k hk => (hlt k hk).1)
  obtain ⟨hx, h | ⟨g, cap, cur, h2, h3⟩⟩ := ho
  · obtain ⟨rfl, hn⟩ := h
    exact hK _ _ _ _ ⟨hx, .inl ⟨rfl, hn⟩⟩ hb hg
  · subst h2
    exact hK _ _ _ _ ⟨hx, .inr ⟨g, cap, cur, rfl, h3⟩⟩ hb hg
theorem strOf_size (ns : List Int) : (strOf ns).size = ns.length := by simp [strOf, ByteArray.size]
/-- The text of an own slice of bytes. -/
theorem RunsV_own_string {P : Program} {w0 w : World} {src dst e : TypeId} {b : Option Addr} {bn bc n : Nat} {ns : List Int} {K : Value → World → Prop} (hs : P.underlying src = some (.slice e)) (he : P.underlying e = some (.int .u8)) (hd : P.underlying dst = some .string)
    (hown : OwnS w0 w e 1 (.slice b bn bc) n (ns.map (Value.int .u8))) (hn : 0 < n) (hK : K (.string (strOf ns)) w) : RunsV P (convert src dst (.slice b bn bc)) w K := by
  have hb := hown.len
  have hln : ns.length = n := by have := hown.1; simpa using this
  cases b with
  | none =>
    obtain ⟨_, h | ⟨g, cap, cur, h2, _⟩⟩ := hown
    · omega
    · cases h2
  | some a => exact runs_bytes_string hs he hd (by omega) hown.cells hK
end Go.Vc

/-
The call's own blocks, tracked through the worlds: what each holds, that nothing old is turned.
Conditions: each theorem's hypotheses; nothing is asked of a program.
-/
namespace Go.Vc
open Go.RowKit
set_option linter.unusedVariables false
set_option linter.unusedSimpArgs false
set_option linter.unnecessarySimpa false

/-- A block has these cells. -/
def Has (w : World) (b : Nat) (cs : List Value) : Prop := ∃ t, w.heap[b]? = some (.cells cs.toArray t)
theorem Has.cell {w : World} {b : Nat} {cs : List Value} (h : Has w b cs) {i : Nat} {v : Value} (hv : cs[i]? = some v) : w.cell? ⟨b, i, none⟩ = some v := by
  obtain ⟨t, h⟩ := h
  simp only [World.cell?, h]
  simpa using hv
theorem Has.frozen {w : World} {b : Nat} {cs : List Value} (h : Has w b cs) (i : Nat) : w.frozen? ⟨b, i, none⟩ = false := by
  obtain ⟨t, h⟩ := h
  simp [World.frozen?, h]
theorem Has.lt {w : World} {b : Nat} {cs : List Value} (h : Has w b cs) : b < w.heap.size := by
  obtain ⟨t, h⟩ := h
  exact (Array.getElem?_eq_some_iff.1 h).1
theorem Has.later {w w' : World} {b : Nat} {cs : List Value} (h : Has w b cs) (hl : Later w w') : Has w' b cs := by
  have hb := h.lt
  obtain ⟨t, h⟩ := h
  exact ⟨t, by rw [hl.block hb]; exact h⟩
theorem Has.new (w : World) (cs : List Value) (t : TypeId) : Has (w.alloc (.cells cs.toArray t)) w.heap.size cs := ⟨t, heap_alloc_new w _⟩
theorem Has.set {w : World} {b : Nat} {cs : List Value} (h : Has w b cs) (i : Nat) (v : Value) : Has (w.setCell ⟨b, i, none⟩ v) b (cs.set i v) := by
  obtain ⟨t, h⟩ := h
  refine ⟨t, ?_⟩
  simp [World.setCell, Array.getElem?_modify, h]
theorem Has.set_other {w : World} {b b' : Nat} {cs : List Value} (h : Has w b cs) (hb : b ≠ b') (i : Nat) (v : Value) : Has (w.setCell ⟨b', i, none⟩ v) b cs := by
  obtain ⟨t, h⟩ := h
  refine ⟨t, ?_⟩
  have : ¬ b' = b := fun h => hb h.symm
  simp [World.setCell, Array.getElem?_modify, h, this]
theorem Has.kept {w w' : World} {b : Nat} {cs : List Value} (h : Has w b cs) (e : w'.heap[b]? = w.heap[b]?) : Has w' b cs := by
  obtain ⟨t, h⟩ := h
  exact ⟨t, e.trans h⟩
abbrev Blk := Nat × List Value
/-- What is tracked: blocks made since w0, all unlike, and that nothing older is turned. -/
def Trk (w0 w : World) (L : List Blk) : Prop := Later w0 w ∧ (∀ x ∈ L, w0.heap.size ≤ x.1 ∧ Has w x.1 x.2) ∧ (L.map (·.1)).Nodup
theorem Trk.start (w : World) : Trk w w [] := ⟨Later.refl _, by simp, by simp⟩
theorem Trk.here {w0 w : World} (h : Later w0 w) : Trk w0 w [] := ⟨h, by simp, by simp⟩
theorem Trk.to {w0 w : World} {L : List Blk} (h : Trk w0 w L) : Later w0 w := h.1
theorem Trk.alloc {w0 w w' : World} {L : List Blk} (h : Trk w0 w L) {cs : List Value} {t : TypeId} (e : w' = w.alloc (.cells cs.toArray t)) : Trk w0 w' (L ++ [(w.heap.size, cs)]) := by
  subst e
  refine ⟨h.1.alloc _, ?_, ?_⟩
  · intro x hx
    rcases List.mem_append.1 hx with hx | hx
    · exact ⟨(h.2.1 x hx).1, (h.2.1 x hx).2.later (Later.alloc' _ _)⟩
    · obtain rfl : x = (w.heap.size, cs) := by simpa using hx
      exact ⟨h.1.size, Has.new _ _ _⟩
  · rw [List.map_append, List.nodup_append]
    refine ⟨h.2.2, by simp, ?_⟩
    intro a ha b hb
    obtain ⟨x, hx, rfl⟩ := List.mem_map.1 ha
    have := (h.2.1 x hx).2.lt
    simp at hb
    omega
theorem Trk.later {w0 w w' : World} {L : List Blk} (h : Trk w0 w L) (hl : Later w w') : Trk w0 w' L :=
  ⟨h.1.trans hl, fun x hx => ⟨(h.2.1 x hx).1, (h.2.1 x hx).2.later hl⟩, h.2.2⟩
theorem Trk.has {w0 w : World} {L : List Blk} (h : Trk w0 w L) (k : Nat) {b : Nat} {cs : List Value} (hk : L[k]? = some (b, cs)) : Has w b cs := (h.2.1 _ (List.mem_of_getElem? hk)).2
theorem Trk.cell {w0 w : World} {L : List Blk} (h : Trk w0 w L) (k : Nat) {b i : Nat} {cs : List Value} {v : Value} (hk : L[k]? = some (b, cs)) (hv : cs[i]? = some v) : w.cell? ⟨b, i, none⟩ = some v := (h.has k hk).cell hv
theorem Trk.setCell {w0 w : World} {L : List Blk} (h : Trk w0 w L) (k : Nat) {b i : Nat} {cs : List Value} (v : Value) (hk : L[k]? = some (b, cs)) : Trk w0 (w.setCell ⟨b, i, none⟩ v) (L.set k (b, cs.set i v)) := by
  have hm := h.2.1 _ (List.mem_of_getElem? hk)
  refine ⟨h.1.setCell hm.1 v, ?_, ?_⟩
  · intro x hx
    obtain ⟨j, hj⟩ := List.getElem?_of_mem hx
    rw [List.getElem?_set] at hj
    have hkl : k < L.length := (List.getElem?_eq_some_iff.1 hk).1
    by_cases hjk : k = j
    · subst hjk
      rw [if_pos rfl, if_pos hkl] at hj
      obtain rfl := Option.some.inj hj
      exact ⟨hm.1, hm.2.set i v⟩
    · rw [if_neg hjk] at hj
      have hx' := h.2.1 _ (List.mem_of_getElem? hj)
      refine ⟨hx'.1, hx'.2.set_other ?_ i v⟩
      intro e
      have h1 : (L.map (·.1))[j]? = some b := by rw [List.getElem?_map, hj]; simpa using e
      have h2 : (L.map (·.1))[k]? = some b := by rw [List.getElem?_map, hk]; rfl
      have hjl : j < (L.map (·.1)).length := (List.getElem?_eq_some_iff.1 h1).1
      exact hjk ((List.getElem?_inj hjl h.2.2).1 (h1.trans h2.symm)).symm
  · have e : (L.set k (b, cs.set i v)).map (·.1) = L.map (·.1) := by
      rw [List.map_set]
      apply List.ext_getElem?
      intro j
      rw [List.getElem?_set]
      by_cases hjk : k = j
      · subst hjk
        rw [if_pos rfl, List.getElem?_map, hk, if_pos (by simpa using (List.getElem?_eq_some_iff.1 hk).1)]
        rfl
      · simp [hjk]
    rw [e]; exact h.2.2
/-- One cell is written. -/
theorem Trk.set1 {w0 w : World} {L : List Blk} (h : Trk w0 w L) (k : Nat) {b i : Nat} {cs : List Value} {v : Value} (hk : L[k]? = some (b, cs)) (hi : i < cs.length) {K : World → Prop} (hK : ∀ w', Trk w0 w' (L.set k (b, cs.set i v)) → K w') :
    ((w.cell? ⟨b, i, none⟩).isSome = true ∧ w.frozen? ⟨b, i, none⟩ = false) ∧ ∀ w', w' = w.setCell ⟨b, i, none⟩ v → K w' := by
  refine ⟨⟨?_, (h.has k hk).frozen i⟩, fun w' e => hK _ (e ▸ h.setCell k v hk)⟩
  obtain ⟨u, hu⟩ : ∃ u, cs[i]? = some u := ⟨_, List.getElem?_eq_getElem hi⟩
  rw [h.cell k hk hu]; rfl
theorem Has.sets {w : World} {b : Nat} {cs : List Value} (h : Has w b cs) : ∀ (l : List Value) (i : Nat), i + l.length ≤ cs.length → (∀ v ∈ l, v.oneCell' = true) → SetsAt w ⟨b, 0, none⟩ i l := by
  intro l
  induction l with
  | nil => intro i hi ho; trivial
  | cons v l ih =>
    intro i hi ho
    simp only [List.length_cons] at hi
    obtain ⟨u, hu⟩ : ∃ u, cs[i]? = some u := ⟨_, List.getElem?_eq_getElem (by omega)⟩
    refine cnd_true (ho v (by simp)) ⟨⟨?_, ?_⟩, ih (i + 1) (by omega) (fun u hu => ho u (by simp [hu]))⟩
    · rw [add_block, Nat.zero_add, h.cell hu]; rfl
    · rw [add_block, Nat.zero_add]; exact h.frozen i
theorem Trk.setMany {w0 : World} {k b : Nat} : ∀ (l : List Value) (i : Nat) (w : World) (L : List Blk) (cs : List Value), Trk w0 w L → L[k]? = some (b, cs) → i + l.length ≤ cs.length →
    Trk w0 (setCellsAt w ⟨b, 0, none⟩ i l) (L.set k (b, cs.take i ++ l ++ cs.drop (i + l.length))) := by
  intro l
  induction l with
  | nil =>
    intro i w L cs h hk hi
    have e : L.set k (b, cs.take i ++ [] ++ cs.drop (i + ([] : List Value).length)) = L := by
      simp only [List.length_nil, Nat.add_zero, List.append_nil, List.take_append_drop]
      apply List.ext_getElem?
      intro j
      rw [List.getElem?_set]
      by_cases hj : k = j
      · subst hj; rw [if_pos rfl, hk, if_pos (List.getElem?_eq_some_iff.1 hk).1]
      · rw [if_neg hj]
    rw [e]; exact h
  | cons v l ih =>
    intro i w L cs h hk hi
    simp only [List.length_cons] at hi
    have hkl : k < L.length := (List.getElem?_eq_some_iff.1 hk).1
    have h1 := h.setCell k (i := i) v hk
    have hk1 : (L.set k (b, cs.set i v))[k]? = some (b, cs.set i v) := by rw [List.getElem?_set]; simp [hkl]
    have l2 := ih (i + 1) _ _ _ h1 hk1 (by simp; omega)
    rw [List.set_set] at l2
    have e1 : (cs.set i v).take (i + 1) = cs.take i ++ [v] := by
      rw [List.take_add_one, List.take_set_of_le (Nat.le_refl _)]
      simp [List.getElem?_set, show i < cs.length by omega]
    have e2 : (cs.set i v).drop (i + 1 + l.length) = cs.drop (i + (l.length + 1)) := by
      rw [List.drop_set_of_lt (by omega)]
      congr 1; omega
    rw [e1, e2] at l2
    simp only [setCellsAt, add_block, Nat.zero_add, List.length_cons]
    simpa using l2
/-- A whole block is written. -/
theorem Trk.setAll {w0 w : World} {L : List Blk} (h : Trk w0 w L) (k : Nat) {b : Nat} {cs l : List Value} (hk : L[k]? = some (b, cs)) (hl : l.length = cs.length) (ho : ∀ v ∈ l, v.oneCell' = true) {K : World → Prop} (hK : ∀ w', Trk w0 w' (L.set k (b, l)) → K w') :
    SetsAt w ⟨b, 0, none⟩ 0 l ∧ ∀ w', w' = setCellsAt w ⟨b, 0, none⟩ 0 l → K w' := by
  refine ⟨(h.has k hk).sets l 0 (by omega) ho, fun w' e => hK _ ?_⟩
  have := Trk.setMany (k := k) l 0 w L cs h hk (by omega)
  rw [List.drop_of_length_le (by omega)] at this
  simpa [e] using this
theorem Trk.front {w0 w : World} {L M : List Blk} (h : Trk w0 w (L ++ M)) : Trk w0 w L :=
  ⟨h.1, fun x hx => h.2.1 x (List.mem_append_left _ hx), by have := h.2.2; rw [List.map_append, List.nodup_append] at this; exact this.1⟩
/-- One block alone. -/
theorem Trk.one {w0 w : World} {L : List Blk} (h : Trk w0 w L) (k : Nat) {b : Nat} {cs : List Value} (hk : L[k]? = some (b, cs)) : Trk w0 w [(b, cs)] :=
  ⟨h.1, fun x hx => by obtain rfl : x = (b, cs) := by simpa using hx
                       exact h.2.1 _ (List.mem_of_getElem? hk), by simp⟩
theorem Has.same {w : World} {b : Nat} {cs ds : List Value} (h : Has w b cs) (k : Has w b ds) : cs = ds := by
  obtain ⟨t, h⟩ := h
  obtain ⟨u, k⟩ := k
  rw [h] at k
  simp only [Option.some.injEq, Obj.cells.injEq] at k
  simpa using k.1
theorem Has.setsOther {w : World} {b b' : Nat} {cs : List Value} (h : Has w b cs) (hb : b ≠ b') : ∀ (l : List Value) (i : Nat), Has (setCellsAt w ⟨b', 0, none⟩ i l) b cs := by
  intro l
  induction l generalizing w with
  | nil => intro i; exact h
  | cons v l ih =>
    intro i
    refine ih ?_ (i + 1)
    rw [add_block]
    exact h.set_other hb _ v
theorem Has.cellsAt {w : World} {b : Nat} {cs : List Value} (h : Has w b cs) : ∀ (l : List Value) (i : Nat), (∀ j v, l[j]? = some v → cs[i + j]? = some v) → CellsAt w ⟨b, 0, none⟩ i l := by
  intro l
  induction l with
  | nil => intro i _; trivial
  | cons v l ih =>
    intro i hl
    refine ⟨?_, ih (i + 1) fun j u hj => ?_⟩
    · rw [add_block, Nat.zero_add]
      exact h.cell (hl 0 v rfl)
    · have := hl (j + 1) u (by simpa using hj)
      rwa [show i + 1 + j = i + (j + 1) by omega]
/-- A row is grown, and a block beside it stays and stays beside it. -/
theorem RunsV_append_by {P : Program} {w0 w : World} {t e : TypeId} {size bytes : Nat} (ty : TypeId) (hT : RowTy P t e size bytes) {b : Option Addr} {bn bc n : Nat} {xs : List Value} (hown : OwnS w0 w e size (.slice b bn bc) n xs) (hl : Later w0 w)
    {a : Addr} {m c : Nat} {news : List Value} (hlen : news.length = m * size) (hnews : CellsAt w a 0 news) (h1 : ∀ u ∈ news, u.oneCell' = true) (h63 : n + m ≤ maxLen) (hbytes : (n + m) * bytes ≤ 140737488355328)
    {xb : Nat} {cs : List Value} (hx : Has w xb cs) (hne : b.map (·.block) ≠ some xb) (hcs : b = none ∨ cs.length < (n + m) * size)
    {K : Value → World → Prop}
    (hK : ∀ b' bn' bc' w', OwnS w0 w' e size (.slice b' bn' bc') (n + m) (xs ++ news) → Later w0 w' → Has w' xb cs → b'.map (·.block) ≠ some xb → K (.slice b' bn' bc') w') :
    RunsV P (Builtin.append_ #[t, t] ty #[.slice b bn bc, .slice (some a) m c]) w K := by
  obtain ⟨i, z, hi, hz, hs, hby, hzs⟩ := hT.info
  have hnews' : ∀ j u, news[j]? = some u → w.cell? (a.add j) = some u := fun j u hj => by have := CellsAt_get hnews j u hj; rwa [Nat.zero_add] at this
  obtain ⟨v', w', hr, ho, hg, _⟩ := run_append_own (P := P) w w0.heap.size t ty e i z size bytes hT.under hi hz hs hby hzs hT.pos _ n xs hown a m c news hlen hnews' h1 h63 hbytes hl.size
  have hob : (Value.slice b bn bc).ownBlock = b.map (·.block) := by cases b <;> rfl
  have hx' : Has w' xb cs := hx.kept (hg.block xb hx.lt (by rw [hob]; exact fun h => hne h.symm))
  have hap : v'.ownBlock ≠ some xb := by
    intro hv
    rcases hcs with rfl | hcs
    · obtain ⟨hx0, h | ⟨g, cap, cur, h, _⟩⟩ := hown
      · obtain ⟨hb, rfl⟩ := h
        have hnil : w.ownsRow w.heap.size e size (.slice none bn bc) 0 xs := ⟨hx0, .inl ⟨hb, rfl⟩⟩
        obtain ⟨v2, w2, hr2, ho2, _, _⟩ := run_append_own (P := P) w w.heap.size t ty e i z size bytes hT.under hi hz hs hby hzs hT.pos _ 0 xs hnil a m c news hlen hnews' h1 h63 hbytes (Nat.le_refl _)
        rw [hr] at hr2
        cases hr2
        have := (World.ownsRow.lt ho2 xb hv).1
        have := hx.lt
        omega
      · cases h
    · obtain ⟨_, h | ⟨g, cap, cur, rfl, _, hcur, hle, _, hsz, _⟩⟩ := ho
      · obtain ⟨rfl, _⟩ := h; cases hv
      · simp only [Value.ownBlock, Option.some.injEq] at hv
        subst hv
        obtain ⟨t, ht⟩ := hx'
        rw [hcur] at ht
        simp only [Option.some.injEq, Obj.cells.injEq] at ht
        have hcl : cs.length = cur.size := by rw [ht.1]; simp
        have : (n + m) * size ≤ cap * size := Nat.mul_le_mul_right _ hle
        omega
  refine RunsV_of hr ?_
  have hlt := World.ownsRow.lt hown
  have hb : Later w0 w' := Below.grown hl hg hl.size (fun k hk => (hlt k hk).1)
  obtain ⟨hxs, h | ⟨g, cap, cur, h2, h3⟩⟩ := ho
  · obtain ⟨rfl, hn⟩ := h
    exact hK _ _ _ _ ⟨hxs, .inl ⟨rfl, hn⟩⟩ hb hx' (by simp)
  · subst h2
    exact hK _ _ _ _ ⟨hxs, .inr ⟨g, cap, cur, rfl, h3⟩⟩ hb hx' hap
theorem OwnS.beside {w0 w : World} {e : TypeId} {size : Nat} {b : Option Addr} {bn bc n : Nat} {xs : List Value} (h : OwnS w0 w e size (.slice b bn bc) n xs) {k : Nat} (hk : w.heap.size ≤ k) : b.map (·.block) ≠ some k := by
  intro hb
  have hob : (Value.slice b bn bc).ownBlock = b.map (·.block) := by cases b <;> rfl
  have := (World.ownsRow.lt h k (by rw [hob]; exact hb)).2
  omega
theorem OwnS.set_other {w0 w : World} {e : TypeId} {size : Nat} {b : Option Addr} {bn bc n : Nat} {xs : List Value} (h : OwnS w0 w e size (.slice b bn bc) n xs) {k : Nat} (hk : b.map (·.block) ≠ some k) (i : Nat) (v : Value) : OwnS w0 (w.setCell ⟨k, i, none⟩ v) e size (.slice b bn bc) n xs := by
  obtain ⟨h1, h | ⟨g, cap, cur, h2, h3, h4, h5⟩⟩ := h
  · exact ⟨h1, .inl h⟩
  · refine ⟨h1, .inr ⟨g, cap, cur, h2, h3, ?_, h5⟩⟩
    cases h2
    have : ¬ k = g := fun h => hk (by rw [h]; rfl)
    simp only [World.setCell, Array.getElem?_modify]
    rw [if_neg this]; exact h4
theorem OwnS.sets_other {w0 : World} {e : TypeId} {size : Nat} {b : Option Addr} {bn bc n : Nat} {xs : List Value} {k : Nat} (hk : b.map (·.block) ≠ some k) : ∀ (l : List Value) (i : Nat) {w : World}, OwnS w0 w e size (.slice b bn bc) n xs → OwnS w0 (setCellsAt w ⟨k, 0, none⟩ i l) e size (.slice b bn bc) n xs := by
  intro l
  induction l with
  | nil => intro i w h; exact h
  | cons v l ih =>
    intro i w h
    refine ih (i + 1) ?_
    rw [add_block]
    exact h.set_other hk _ v
theorem OwnS.weak {w0 w1 w : World} {e : TypeId} {size : Nat} {v : Value} {n : Nat} {xs : List Value} (h : OwnS w1 w e size v n xs) (hl : w0.heap.size ≤ w1.heap.size) : OwnS w0 w e size v n xs := by
  obtain ⟨h1, h | ⟨g, cap, cur, h2, h3, h4⟩⟩ := h
  · exact ⟨h1, .inl h⟩
  · exact ⟨h1, .inr ⟨g, cap, cur, h2, Nat.le_trans hl h3, h4⟩⟩
/-- A new slice. -/
theorem RunsV_makeSlice {P : Program} {t e : TypeId} {size bytes : Nat} (z : Value) (hu : P.underlying t = some (.slice e)) (hi : (P.info? e).map (fun i => (i.zero, i.size, i.bytes)) = some (some z, size, bytes)) (hs : size = z.cells.size) (hb : bytes ≤ 1024) (hp : 0 < size)
    {k k' : IntKind} {n : Nat} (hn : n ≤ 16777216) {w : World} {K : Value → World → Prop} (hK : ∀ b w', b = w.heap.size → Later w w' → Has w' b (repL z.cells.toList n) → K (.slice (some ⟨b, 0, none⟩) n n) w') :
    RunsV P (Instr.makeSlice t (.int k (n : Nat)) (.int k' (n : Nat))) w K := by
  cases h : P.info? e with
  | none => rw [h] at hi; cases hi
  | some i =>
    rw [h] at hi
    simp only [Option.map_some, Option.some.injEq, Prod.mk.injEq] at hi
    obtain ⟨hz, h1, h2⟩ := hi
    obtain ⟨w', r1, r2, r3⟩ := run_makeSlice_eq (w := w) (k := k) (k' := k') (n := (n : Nat)) hu h hz (by omega) (by omega) (by omega) (by omega) (by omega)
    exact RunsV_of r1 (hK _ _ rfl r2 ⟨e, r3⟩)
/-- One block's cell is written, all else stays. -/
theorem Has.of_fcells {w : World} {b : Nat} {cs ds : List Value} (h : Has w b cs) (e : cs = ds) : Has w b ds := e ▸ h
end Go.Vc

/-
A function that ranges over a function: its condition, and that the condition gives the model's call. What an iterator gives, from its own call.
Conditions: none; all is proved over any program.
-/
namespace Go.Vc
open Go.RowKit
set_option linter.unusedSimpArgs false
set_option linter.unnecessarySimpa false
set_option linter.unusedVariables false

/-! ### what a loop's own books may do to a world -/
structure Turn (B : Nat) (w w' : World) : Prop where
  os : w'.os = w.os
  tape : w'.tape = w.tape
  output : w'.output = w.output
  size : w.heap.size ≤ w'.heap.size
  keep : ∀ (k : Nat) (o : Obj), w.heap[k]? = some o → (k < B ∨ o.isCells = true) → w'.heap[k]? = some o
def Steady {β : Type} (B : Nat) (I : β → World → Prop) : Prop := ∀ s w w', I s w → Turn B w w' → I s w'
theorem Steady.own {β : Type} {B : Nat} {I : β → World → Prop} (h : Steady B I) : OwnFrom B I := by
  intro s w w' row hs hg hr
  refine h s w w' hs ⟨hg.os, hg.tape, hg.output, hg.size, fun k o ho hk => ?_⟩
  rw [hg.block k (Array.getElem?_eq_some_iff.1 ho).1 (fun e => ?_)]
  · exact ho
  · obtain ⟨h1, o', ho', hc⟩ := hr k e.symm
    rw [ho] at ho'
    cases ho'
    rcases hk with hk | hk
    · omega
    · rw [hc] at hk; cases hk
theorem Turn.later {B : Nat} {w0 w w' : World} (h : Turn B w w') (hB : w0.heap.size ≤ B) (hw : Later w0 w) : Later w0 w' :=
  ⟨h.os.trans (show Below _ _ _ from hw).os, h.tape.trans (show Below _ _ _ from hw).tape, h.output.trans (show Below _ _ _ from hw).output, Nat.le_trans (show Below _ _ _ from hw).size h.size, fun k hk => by
    have h1 := (show Below _ _ _ from hw).block k hk
    have : k < w.heap.size := Nat.lt_of_lt_of_le hk (show Below _ _ _ from hw).size
    have h2 : w.heap[k]? = some w.heap[k] := by simp [this]
    rw [h.keep k _ h2 (.inl (by omega)), ← h1, h2]⟩
theorem Turn.has {B : Nat} {w w' : World} (h : Turn B w w') {b : Nat} {cs : List Value} (hb : Has w b cs) : Has w' b cs := by
  obtain ⟨t, hb⟩ := hb
  exact ⟨t, h.keep b _ hb (.inr rfl)⟩
theorem Turn.trk {B : Nat} {w0 w w' : World} {L : List Blk} (h : Turn B w w') (hB : w0.heap.size ≤ B) (hL : Trk w0 w L) : Trk w0 w' L :=
  ⟨h.later hB hL.1, fun x hx => ⟨(hL.2.1 x hx).1, h.has (hL.2.1 x hx).2⟩, hL.2.2⟩
theorem keepsFrom_later {B : Nat} {w w' : World} (h : Later w w') : KeepsFrom B w w' := ⟨(show Below _ _ _ from h).size, fun k o _ ho _ => by rw [(show Below _ _ _ from h).block k (Array.getElem?_eq_some_iff.1 ho).1]; exact ho⟩
theorem keepsFrom_setCell (B : Nat) (w : World) (a : Addr) (v : Value) : KeepsFrom B w (w.setCell a v) := (KeepsOthers.setCell w a v).from B
theorem keepsFrom_setCellsAt (B : Nat) (a : Addr) : ∀ (l : List Value) (i : Nat) (w : World), KeepsFrom B w (setCellsAt w a i l) := by
  intro l
  induction l with
  | nil => intro i w; exact KeepsFrom.refl _ _
  | cons v l ih => intro i w; exact (keepsFrom_setCell B w _ _).trans (ih (i + 1) _)
theorem turn_putObj {B D : Nat} {w : World} {o o' : Obj} (h : w.heap[D]? = some o) (ho : o.isCells = false) (hD : B ≤ D) : Turn B w (w.putObj D o') :=
  ⟨rfl, rfl, rfl, by simp, fun k u hu hk => by
    rw [World.putObj_heap_other (fun e => ?_)]
    · exact hu
    · subst e
      rw [h] at hu
      cases hu
      rcases hk with hk | hk
      · omega
      · rw [ho] at hk; cases hk⟩
theorem Trk.setAllE {w0 w : World} {L : List Blk} (h : Trk w0 w L) (k : Nat) {b : Nat} {cs l : List Value} (hk : L[k]? = some (b, cs)) (hl : l.length = cs.length) (ho : ∀ v ∈ l, v.oneCell' = true) {K : World → Prop} (hK : ∀ w', w' = setCellsAt w ⟨b, 0, none⟩ 0 l → Trk w0 w' (L.set k (b, l)) → K w') :
    SetsAt w ⟨b, 0, none⟩ 0 l ∧ ∀ w', w' = setCellsAt w ⟨b, 0, none⟩ 0 l → K w' := by
  refine ⟨(h.has k hk).sets l 0 (by omega) ho, fun w' e => hK _ e ?_⟩
  have := Trk.setMany (k := k) l 0 w L cs h hk (by omega)
  rw [e]
  simpa [hl] using this
theorem Trk.set1E {w0 w : World} {L : List Blk} (h : Trk w0 w L) (k : Nat) {b i : Nat} {cs : List Value} {v : Value} (hk : L[k]? = some (b, cs)) (hi : i < cs.length) {K : World → Prop} (hK : ∀ w', w' = w.setCell ⟨b, i, none⟩ v → Trk w0 w' (L.set k (b, cs.set i v)) → K w') :
    ((w.cell? ⟨b, i, none⟩).isSome = true ∧ w.frozen? ⟨b, i, none⟩ = false) ∧ ∀ w', w' = w.setCell ⟨b, i, none⟩ v → K w' := by
  refine ⟨⟨?_, (h.has k hk).frozen i⟩, fun w' e => hK _ e (e ▸ h.setCell k v hk)⟩
  obtain ⟨u, hu⟩ : ∃ u, cs[i]? = some u := ⟨_, List.getElem?_eq_getElem hi⟩
  rw [h.cell k hk hu]
  rfl

/-! ### iterators -/
/-- What a round that goes on keeps: the iterator's own blocks. -/
def KpS (Ks : Nat → Prop) (w w' : World) : Prop := ∀ k, Ks k → w'.heap[k]? = w.heap[k]?
/-- What is ranged over: N rounds, with what each is handed. -/
def IterV (P : Program) (gf : Nat) (lb : Array Value) (Ks : Nat → Prop) (N : Nat) (enc : Fin N → List Value) (w : World) : Prop :=
  ∀ n, SeqStopsK Fence.wide n P gf lb (fun k => (enc k).toArray) (KpS Ks) (fun xs => xs = List.finRange N) (fun pre => pre <+: List.finRange N) N w
theorem grown_of_later {w w' : World} (h : Below w.heap.size w w') : w.grownBy w' none := ⟨h.os, h.tape, h.output, h.size, fun k hk _ => h.block k hk⟩
theorem yieldAt_wide {n m : Nat} {P : Program} {l : Nat} {args : Array Value} {w : World} {R : Ending → World → Prop} (h : YieldAt Fence.wide n P l args w R) : YieldAt Fence.wide m P l args w R := by
  obtain ⟨fn, tmps, assign, body, h1, h2⟩ := h
  exact ⟨fn, tmps, assign, body, h1, roundIn_wide h2⟩
/-- An iterator's word, from its call: the rounds are numbered. -/
theorem iterV_of {P : Program} {gf : Nat} {lb : Array Value} {Ks : Nat → Prop} {N : Nat} {enc : Fin N → List Value} {w : World}
    (h : ∀ (l : Nat) (J : Nat → World → Prop) (Jx : World → Prop) (W : World), Below w.heap.size w W → (∀ k w1 w2, J k w1 → Later w1 w2 → J k w2) → (∀ w1 w2, Jx w1 → Later w1 w2 → Jx w2) →
      (∀ (k : Fin N) (w1 : World), J k.1 w1 → YieldC P l (enc k).toArray w1 fun b w' => (b = true ∧ J (k.1 + 1) w' ∧ KpS Ks w1 w') ∨ (b = false ∧ Jx w')) → J 0 W →
      Calls P gf (#[.func (.yield l) #[] #[]] ++ lb) W fun e w' => (∃ v, e = .returned v) ∧ (J N w' ∨ Jx w')) : IterV P gf lb Ks N enc w := by
  intro n l J Jx W hW hJ hJx hY h0
  have hlen : ∀ k, k ≤ N → ((List.finRange N).take k).length = k := fun k hk => by rw [List.length_take, List.length_finRange]; omega
  refine callsIn_wide.2 ((h l (fun k w' => J ((List.finRange N).take k) w') (fun w' => ∃ pre, pre <+: List.finRange N ∧ Jx pre w') W hW
    (fun k w1 w2 h1 h2 => hJ _ _ _ none h1 (grown_of_later h2) (fun r e => by cases e)) (fun w1 w2 ⟨pre, hp, h1⟩ h2 => ⟨pre, hp, hJx _ _ _ none h1 (grown_of_later h2) (fun r e => by cases e)⟩) ?_ ?_).mono ?_)
  · intro k w1 h1
    have hs : (List.finRange N).take k.1 ++ [k] = (List.finRange N).take (k.1 + 1) := by
      rw [List.take_add_one, List.getElem?_eq_getElem (by rw [List.length_finRange]; exact k.2)]
      simp
    refine YieldAt.mono (yieldAt_wide (hY _ k w1 h1 (by rw [hlen _ (Nat.le_of_lt k.2)]; exact k.2))) ?_
    rintro e w' (⟨rfl, h2, h3⟩ | ⟨rfl, h2⟩)
    · exact ⟨true, rfl, .inl ⟨rfl, hs ▸ h2, h3⟩⟩
    · exact ⟨false, rfl, .inr ⟨rfl, _, List.take_prefix _ _, hs ▸ h2⟩⟩
  · simpa using h0
  · rintro e w' ⟨hv, h1 | ⟨pre, hp, h1⟩⟩
    · exact ⟨hv, .inl ⟨_, rfl, by simpa [List.take_of_length_le] using h1⟩⟩
    · exact ⟨hv, .inr ⟨pre, hp, h1⟩⟩

/-! ### the condition -/
def lookR (l : List (Nat × Slots × Slots)) (ps : List Tmp) : Option (Slots × Slots) :=
  match ps, l with
  | p :: _, x :: r => (match Nat.beq x.1 p with | true => some x.2 | false => lookR r ps)
  | _, _ => none
def okV : Slots → List Value → Bool
  | [], [] => true
  | x :: l, v :: vs => x.2.ok v && okV l vs
  | _, _ => false
theorem allSel_vals {l : Slots} : ∀ {L : List Value → Prop}, allSel l L → ∀ {vs : List Value}, okV l vs = true → L vs := by
  induction l with
  | nil => intro L h vs hv; cases vs with | nil => exact h | cons _ _ => cases hv
  | cons x l ih =>
    intro L h vs hv
    cases vs with
    | nil => cases hv
    | cons v vs =>
      simp only [okV, Bool.and_eq_true] at hv
      exact ih (Shape.all_elim h hv.1) hv.2
theorem okV_length : ∀ {l : Slots} {vs : List Value}, okV l vs = true → vs.length = l.length := by
  intro l
  induction l with
  | nil => intro vs hv; cases vs with | nil => rfl | cons _ _ => cases hv
  | cons x l ih =>
    intro vs hv
    cases vs with
    | nil => cases hv
    | cons v vs => simp only [okV, Bool.and_eq_true] at hv; simp [ih hv.2]
def samePs : Slots → List Tmp → Bool
  | [], [] => true
  | x :: l, p :: ps => Nat.beq x.1 p && samePs l ps
  | _, _ => false
theorem samePs_fold : ∀ {l : Slots} {ps : List Tmp}, samePs l ps = true → ∀ {vs : List Value} {tm : List Value}, vs.length = l.length →
    (ps.zip vs).foldl (fun (t : Array Value) (p, v) => t.setIfInBounds p v) tm.toArray = (setSel l vs tm).toArray ∧ ps.length = l.length := by
  intro l
  induction l with
  | nil => intro ps h vs tm hl; cases ps with | nil => simp [setSel] | cons _ _ => cases h
  | cons x l ih =>
    intro ps h vs tm hl
    cases ps with
    | nil => cases h
    | cons p ps =>
      cases vs with
      | nil => simp at hl
      | cons v vs =>
        simp only [samePs, Bool.and_eq_true] at h
        have he : x.1 = p := Nat.eq_of_beq_eq_true h.1
        simp only [List.length_cons] at hl
        obtain ⟨h1, h2⟩ := ih h.2 (vs := vs) (tm := tm.set p v) (by omega)
        refine ⟨?_, by simp [h2]⟩
        simp only [List.zip_cons_cons, List.foldl_cons, setSel, he]
        rw [← h1]
        simp
def roundQ {N : Nat} (B : Nat) (Ks : Nat → Prop) (I Ix : List (Fin N) → World → Prop) (xs : List (Fin N)) (w : World) : Exit → List Value → World → Prop
  | .normal, _, w' => KeepsFrom B w w' ∧ KpS Ks w w' ∧ I xs w'
  | .ret, _, w' => KeepsFrom B w w' ∧ Ix xs w'
  | _, _, _ => False
def takenQ {N : Nat} (B : Nat) (Ks : Nat → Prop) (I : List (Fin N) → World → Prop) (Mid : Fin N → List Value → World → Prop) (S : Slots) (pre : List (Fin N)) (x : Fin N) (w : World) : Exit → List Value → World → Prop
  | .normal, tm, w' => KeepsFrom B w w' ∧ KpS Ks w w' ∧ I pre w' ∧ meetQ S (Mid x) tm w'
  | _, _, _ => False
/-- What the caller says of its rounds. -/
structure Rounds (P : Program) (gf : Nat) (lb : Array Value) (w : World) where
  N : Nat
  enc : Fin N → List Value
  Ks : Nat → Prop
  I : List (Fin N) → World → Prop
  Ix : List (Fin N) → World → Prop
  Mid : Fin N → List Value → World → Prop
  iter : IterV P gf lb Ks N enc w
  own : ∀ k, Ks k → k < w.heap.size
  steady : Steady w.heap.size I
  steadyX : Steady w.heap.size Ix
  steadyM : ∀ vs, Steady w.heap.size (fun x => Mid x vs)
  start : I [] w
def rangeV (P : Program) (H : Hints) (S1 S2 : Slots) (g : Operand) (ps : Array Tmp) (assign body : Code) (QD : Nat → Exit → List Value → World → Prop) (tm : List Value) (w : World) : Prop :=
  cnd (samePs S1 ps.toList && (subS S2 (assigned assign) && (roundB H assign && roundB H body))) (AsFn (ev tm g) fun gf fi lb => cnd (entersB P gf)
    (fi = #[] ∧ ∃ r : Rounds P gf lb w, (∀ x, okV S1 (r.enc x) = true) ∧
      (allSel S1 fun vs => ∀ (pre : List (Fin r.N)) (x : Fin r.N) (w1 : World), r.enc x = vs → r.I pre w1 → codeV P H assign (takenQ w.heap.size r.Ks r.I r.Mid S2 pre x w1) (setSel S1 vs tm) w1) ∧
      (allSel S1 fun vs => ∀ (pre : List (Fin r.N)) (x : Fin r.N), r.enc x = vs → pre.length < r.N → joinV S2 (assigned assign) (setSel S1 vs tm) (fun us w1 => r.I pre w1 ∧ r.Mid x us w1) fun tm1 w1 => codeV P H body (roundQ w.heap.size r.Ks r.I r.Ix (pre ++ [x]) w1) tm1 w1) ∧
      (∀ (D : Nat) (w1 : World), w.heap.size ≤ D → r.I (List.finRange r.N) w1 → w1.heap[D]? = some (.deferred (some [])) → QD D .normal tm w1) ∧
      (∀ (D : Nat) (pre : List (Fin r.N)) (w1 : World), w.heap.size ≤ D → pre <+: List.finRange r.N → r.Ix pre w1 → w1.heap[D]? = some (.deferred (some [])) → QD D .ret tm w1)) False) False
def hasRange : Code → Bool
  | .rangeFunc .. => true
  | .seq a b => hasRange a || hasRange b
  | .block _ c => hasRange c
  | _ => false
def thenD (P : Program) (H : Hints) (b : Code) (QD : Nat → Exit → List Value → World → Prop) (D : Nat) : Exit → List Value → World → Prop
  | .normal, tm, w => codeV P H b (QD D) tm w
  | e, tm, w => QD D e tm w
def rngV (P : Program) (H : Hints) : Code → (Nat → Exit → List Value → World → Prop) → (Exit → List Value → World → Prop) → List Value → World → Prop
  | .seq a b, QD, Q, tm, w => (match hasRange a with
    | true => rngV P H a (thenD P H b QD) (seqQ (fun tm w => codeV P H b Q tm w) Q) tm w
    | false => codeV P H a (seqQ (fun tm w => rngV P H b QD Q tm w) Q) tm w)
  | .block id c, QD, Q, tm, w => rngV P H c (fun D => blockQ id (QD D)) (blockQ id Q) tm w
  | .rangeFunc g ps a b, QD, Q, tm, w => IsSome (lookR H.rngs ps.toList) fun S => rangeV P H S.1 S.2 g ps a b QD tm w
  | _, _, _, _, _ => False

def coll (D : Nat) : List Deferred := [{ target := .collected D, args := #[] }]
def upM (QD : Nat → Exit → List Value → World → Prop) (Q : Exit → List Value → World → Prop) (e : Exit) (a : Act) (w : World) : Prop := upD [] Q e a w ∨ ∃ D, upD (coll D) (QD D) e a w

theorem rangeV_wp {P : Program} {H : Hints} {n : Nat} {S1 S2 : Slots} {g : Operand} {ps : Array Tmp} {assign body : Code} {QD : Nat → Exit → List Value → World → Prop} {Q : Exit → List Value → World → Prop} {tm : List Value} {w : World}
    (h : rangeV P H S1 S2 g ps assign body QD tm w) : (Code.rangeFunc g ps assign body).wpIn Fence.wide (n + 1) P (upM QD Q) (actD [] tm) w := by
  obtain ⟨hB, h⟩ := (cnd_cases h).resolve_right fun h => h.2
  simp only [Bool.and_eq_true] at hB
  obtain ⟨hps, hS2, hRa, hRb⟩ := hB
  obtain ⟨gf, fi, lb, hv, h⟩ := AsFn_elim h
  obtain ⟨hent, h⟩ := (cnd_cases h).resolve_right fun h => h.2
  obtain ⟨rfl, r, hok, hassign, hbody, hdone, hstop⟩ := h
  have hlen : ∀ x, (r.enc x).length = S1.length := fun x => okV_length (hok x)
  have hfold : ∀ x, (ps.zip (r.enc x).toArray).foldl (fun (t : Array Value) (p, v) => t.setIfInBounds p v) (actD [] tm).tmps = (setSel S1 (r.enc x) tm).toArray := by
    intro x
    have := (samePs_fold hps (tm := tm) (hlen x)).1
    rw [← Array.foldl_toList]
    simpa [actD, Array.toList_zip] using this
  refine wpIn_rangeFunc_ownH (w0 := w) rfl (by omega) (by rw [eval_act]; exact hv) trivial (fun args w => run_callFunc hent w) (r.iter _)
    (fun h1 h2 k hk => (h2 k hk).trans (h1 k hk)) ?_ (Below.refl _ _) ?_ r.I (fun c xs w1 => c = .ret ∧ r.Ix xs w1) r.steady.own (fun c => ?_) r.start
    (fun x a' w1 => a'.defers = [] ∧ Agree (assigned assign) (setSel S1 (r.enc x) tm) a'.tmps.toList ∧ okSel S2 a'.tmps.toList = true ∧ r.Mid x (selL S2 a'.tmps.toList) w1) ?_ ?_ ?_ ?_ ?_
  · intro W l o o' hl ho _ _ k hk
    exact World.putObj_heap_other (by have := r.own k hk; omega)
  · intro x
    have := (samePs_fold hps (vs := r.enc x) (tm := tm) (hlen x)).2
    simpa [hlen x] using this.symm
  · intro s W W' row ⟨h1, h2⟩ hg hr
    exact ⟨h1, r.steadyX.own s W W' row h2 hg hr⟩
  · intro x a' s W W' row ⟨h1, h2, h3, h4⟩ hg hr
    exact ⟨h1, h2, h3, (r.steadyM _).own x W W' row h4 hg hr⟩
  · intro l pre x W K hI hK
    have h1 := allSel_vals hassign (hok x) pre x W rfl hI
    have h2 := codeV_round (ds := []) (l := l) (n := n + 1 - 1 - 1) assign (Q := fun e tm' w' => Agree (assigned assign) (setSel S1 (r.enc x) tm) tm' ∧ takenQ w.heap.size r.Ks r.I r.Mid S2 pre x W e tm' w') hRa (fun _ _ h => h.2) (codeV_agree h1)
    have he : (actD [] (setSel S1 (r.enc x) tm)) = { tmps := (ps.zip (r.enc x).toArray).foldl (fun t (p, v) => t.setIfInBounds p v) (actD [] tm).tmps, defers := [] } := by
      rw [hfold x]; rfl
    rw [he] at h2
    refine wpIn_mono h2 ?_
    rintro e a' w' ⟨hd, ha, hq⟩
    cases e with
    | normal =>
      obtain ⟨q1, q2, q3, q4⟩ := hq
      rcases cnd_cases q4 with ⟨q5, q6⟩ | ⟨_, q6⟩
      · exact hK a' w' q1 q2 q3 ⟨hd, ha, q5, q6⟩
      · exact q6.elim
    | _ => exact hq.elim
  · intro l pre x a' W _ _ hI ⟨hd, ha, hk, hm⟩ hpl
    have h1 := joinV_elim (allSel_vals hbody (hok x) pre x rfl hpl) ha (show meetQ S2 (fun us w1 => r.I pre w1 ∧ r.Mid x us w1) a'.tmps.toList W from cnd_true hk ⟨hI, hm⟩)
    have h2 := codeV_round (ds := []) (l := l) (n := n + 1 - 1 - 1) body hRb (fun _ _ h => h) h1
    rw [← act_of hd] at h2
    refine wpIn_mono h2 ?_
    rintro e a2 w' ⟨hd2, hq⟩
    cases e with
    | normal => exact hq
    | ret => exact ⟨hq.1, rfl, hq.2⟩
    | _ => exact hq.elim
  · rintro D xs W hD rfl hI hW
    exact .inr ⟨D, rfl, by simpa [actD] using hdone D W hD hI hW⟩
  · rintro D c pre W hD hp ⟨rfl, hx⟩ hW
    exact wpIn_ret (.inr ⟨D, rfl, by simpa [actD] using hstop D pre W hD hp hx hW⟩)
theorem rngV_wp {P : Program} {H : Hints} {n : Nat} (c : Code) : ∀ {QD : Nat → Exit → List Value → World → Prop} {Q : Exit → List Value → World → Prop} {tm : List Value} {w : World}, rngV P H c QD Q tm w → c.wpIn Fence.wide (n + 1) P (upM QD Q) (actD [] tm) w := by
  induction c with
  | seq a b iha ihb =>
    intro QD Q tm w h
    unfold rngV at h
    split at h
    · refine wpIn_seq (wpIn_mono (iha h) ?_)
      rintro e a' w' (⟨hd, h'⟩ | ⟨D, hd, h'⟩)
      · cases e with
        | normal => rw [act_of hd]; exact wpIn_mono (wpIn_wide.2 (codeV_wp (ds := []) b h')) fun e a w h => .inl h
        | _ => exact .inl ⟨hd, h'⟩
      · cases e with
        | normal => rw [act_of hd]; exact wpIn_mono (wpIn_wide.2 (codeV_wp (ds := coll D) b h')) fun e a w h => .inr ⟨D, h⟩
        | _ => exact .inr ⟨D, hd, h'⟩
    · refine wpIn_seq (wpIn_mono (wpIn_wide.2 (codeV_wp (ds := []) a h)) ?_)
      rintro e a' w' ⟨hd, h'⟩
      cases e with
      | normal => rw [act_of hd]; exact ihb h'
      | _ => exact .inl ⟨hd, h'⟩
  | block id c ih =>
    intro QD Q tm w h
    unfold rngV at h
    refine wpIn_block (wpIn_mono (ih h) ?_)
    have hb : ∀ {ds : List Deferred} {Q : Exit → List Value → World → Prop} {e : Exit} {a' : Act} {w' : World}, upD ds (blockQ id Q) e a' w' → ∀ {K : Exit → Act → World → Prop}, (∀ e a w, upD ds Q e a w → K e a w) → Exit.inBlock id K e a' w' := by
      intro ds Q e a' w' ⟨hd, h'⟩ K hK
      cases e with
      | exit id' =>
        unfold blockQ at h'
        unfold Exit.inBlock
        by_cases hi : id' = id
        · subst hi
          simp only [show Nat.beq id' id' = true from Nat.beq_refl id'] at h'
          simp only [if_true]
          exact hK _ _ _ ⟨hd, h'⟩
        · have : Nat.beq id' id = false := by
            cases hn : Nat.beq id' id with
            | false => rfl
            | true => exact absurd (Nat.eq_of_beq_eq_true hn) hi
          simp only [this] at h'
          simp only [hi, if_false]
          exact hK _ _ _ ⟨hd, h'⟩
      | _ => exact hK _ _ _ ⟨hd, h'⟩
    rintro e a' w' (h' | ⟨D, h'⟩)
    · exact hb h' fun e a w h => .inl h
    · exact hb h' fun e a w h => .inr ⟨D, h⟩
  | rangeFunc g ps a b _ _ =>
    intro QD Q tm w h
    unfold rngV at h
    obtain ⟨S, _, h⟩ := IsSome_elim h
    exact rangeV_wp h
  | _ => intro QD Q tm w h; exact h.elim

/-! ### a function -/
def endD (P : Program) (fn : Func) (R : Ending → World → Prop) (D : Nat) : Exit → List Value → World → Prop
  | .normal, tm, w | .ret, tm, w => w.heap[D]? = some (.deferred (some [])) ∧ ∀ w', w' = w.putObj D (.deferred none) → resV P w' tm fn.results.toList fun vs => R (.returned (oneOr vs)) w'
  | _, _, _ => False
def fnM (P : Program) (H : Hints) (f : FuncId) (args : List Value) (w : World) (R : Ending → World → Prop) : Prop :=
  IsSome P.funcs[f]? fun fn => IsSome fn.body fun c => rngV P H c (endD P fn R) (endQ P fn R) (args ++ List.replicate (fn.ntmps - args.length) undef) w
theorem calls_of_fnM (H : Hints) {P : Program} {f : FuncId} {args : List Value} {w : World} {R : Ending → World → Prop} (h : fnM P H f args w R) : Calls P f args.toArray w R := by
  obtain ⟨fn, hf, h⟩ := IsSome_elim h
  obtain ⟨c, hb, h⟩ := IsSome_elim h
  refine (callsIn_wide (n := 2)).1 (callsIn_of_wp_marks hf hb trivial ?_)
  have he : actD [] (args ++ List.replicate (fn.ntmps - args.length) undef) = { tmps := args.toArray ++ Array.replicate (fn.ntmps - args.toArray.size) undef, defers := [] } := by
    simp [actD]
  have h1 := rngV_wp (n := 1) c h
  rw [he] at h1
  refine wpIn_mono h1 ?_
  rintro e a w' (h' | ⟨D, hd, h'⟩)
  · have h2 := endQ_post h'
    obtain ⟨hd, hq⟩ := h'
    cases e with
    | normal => simp only [bodyPostM, hd, LeavesInM, LeavesIn]; exact h2.2
    | ret => simp only [bodyPostM, hd, LeavesInM, LeavesIn]; exact h2.2
    | panic ch => simp only [bodyPostM, hd, LeavesInM, LeavesIn]; exact h2.2
    | exit id => exact h2.elim
    | goto l => exact h2.elim
    | outgrown => exact hq.elim
  · have fin : w'.heap[D]? = some (.deferred (some [])) ∧ (∀ w1, w1 = w'.putObj D (.deferred none) → resV P w1 a.tmps.toList fn.results.toList fun vs => R (.returned (oneOr vs)) w1) → LeavesInM Fence.wide 2 P fn a.tmps R a.defers .returning w' := by
      rintro ⟨hD, hr⟩
      rw [hd]
      refine ⟨by simp, .inl ⟨D, _, rfl, run_takeDeferred hD, ?_⟩⟩
      have h2 : upD [] (endQ P fn R) .ret { a with defers := [] } (w'.putObj D (.deferred none)) := ⟨rfl, hr _ rfl⟩
      exact (endQ_post h2).2
    cases e with
    | normal => exact fin h'
    | ret => exact fin h'
    | _ => exact h'.elim
theorem calls_of_eqM {P : Program} {H : Hints} {f : FuncId} {args : List Value} {w : World} {R : Ending → World → Prop} {X : Prop} (he : fnM P H f args w R = X) (h : X) : Calls P f args.toArray w R := calls_of_fnM H (by rw [he]; exact h)
end Go.Vc

/-
The explicit conditions of some functions of the program, printed by this repo's own program over VcTop: what is proved is that each is the condition.
Conditions: none.
-/
namespace Go.Proofs.Ytjoikaklincfoaa
open Go Go.Vc Go.RowKit
set_option linter.unusedVariables false
set_option maxRecDepth 100000

/- function 44: sacristy/disas.guesses$1 -/
abbrev disas_guesses_1.N : FuncId := 44
def disas_guesses_1.H : Hints := { loops := [(2, [(3, .one (.int .u8))])], conds := [(6015, []), (8021, []), (10027, [])], raw := [10], yields := [(10, 2)] }
def disas_guesses_1.vc (yield' : Value) (c0 : Option Addr) (w : World) (R : Ending → World → Prop) : Prop :=
  ∃ (I : List Value → World → Prop),
  ∃ (μ : List Value → World → Nat),
  I [Value.int IntKind.u8 1] w ∧
  ∀ (g : Nat → Value) (op : Int) (w' : World),
  I [Value.int IntKind.u8 op] w' →
  cnd (decide (op ≤ 34))
  (Deref c0 fun (ad : Addr) =>
  ∃ (n : Int),
  w'.cell? ad = some (Value.int IntKind.u32 n) ∧
  Calls Proofs.Try.prog 45 #[Value.int IntKind.u8 op, Value.int IntKind.u32 n] w'
  fun (e : Ending) (w'_1 : World) =>
  ∃ (n : Int),
  e = Ending.returned (Value.int IntKind.i64 n) ∧
  ∀ (w'_2 : World),
  w'_2 =
  w'_1.alloc
  (Obj.cells
  #[Value.int IntKind.u8 0, Value.int IntKind.u8 0, Value.int IntKind.u8 0,
  Value.int IntKind.u8 0, Value.int IntKind.i64 0]
  39) →
  SetsAt w'_2 (Addr.mk w'_1.heap.size 0 none) 0
  [Value.int IntKind.u8 op, Value.int IntKind.u8 0, Value.int IntKind.u8 0,
  Value.int IntKind.u8 0, Value.int IntKind.i64 n] ∧
  ∀ (w'_3 : World),
  w'_3 =
  setCellsAt w'_2 (Addr.mk w'_1.heap.size 0 none) 0
  [Value.int IntKind.u8 op, Value.int IntKind.u8 0, Value.int IntKind.u8 0,
  Value.int IntKind.u8 0, Value.int IntKind.i64 n] →
  Calls Proofs.Try.prog 46 #[Value.int IntKind.u8 op] w'_3
  fun (e : Ending) (w'_4 : World) =>
  ∃ (b : Bool),
  e = Ending.returned (Value.bool b) ∧
  ∃ (J : List Value → World → Prop),
  cnd b
  (Deref c0 fun (ad : Addr) =>
  ∃ (n : Int),
  w'_4.cell? ad = some (Value.int IntKind.u32 n) ∧
  Calls Proofs.Try.prog 47
  #[Value.int IntKind.u32 n, Value.int IntKind.i64 7,
  Value.int IntKind.i64 5]
  w'_4 fun (e : Ending) (w' : World) =>
  ∃ (n : Int),
  e = Ending.returned (Value.int IntKind.u32 n) ∧
  ((w'.cell? (Addr.mk w'_1.heap.size 1 none)).isSome = true ∧
  w'.frozen? (Addr.mk w'_1.heap.size 1 none) = false) ∧
  ∀ (w'_5 : World),
  w'_5 =
  w'.setCell (Addr.mk w'_1.heap.size 1 none)
  (Value.int IntKind.u8 (IntKind.u8.wrap n)) →
  J [] w'_5)
  (J [] w'_4) ∧
  ∀ (g : Nat → Value) (w'_5 : World),
  J [] w'_5 →
  Calls Proofs.Try.prog 48 #[Value.int IntKind.u8 op] w'_5
  fun (e : Ending) (w'_6 : World) =>
  ∃ (b : Bool),
  e = Ending.returned (Value.bool b) ∧
  ∃ (J : List Value → World → Prop),
  cnd b
  (Deref c0 fun (ad : Addr) =>
  ∃ (n : Int),
  w'_6.cell? ad = some (Value.int IntKind.u32 n) ∧
  Calls Proofs.Try.prog 47
  #[Value.int IntKind.u32 n, Value.int IntKind.i64 15,
  Value.int IntKind.i64 5]
  w'_6 fun (e : Ending) (w' : World) =>
  ∃ (n : Int),
  e = Ending.returned (Value.int IntKind.u32 n) ∧
  ((w'.cell?
  (Addr.mk w'_1.heap.size 2
  none)).isSome =
  true ∧
  w'.frozen? (Addr.mk w'_1.heap.size 2 none) =
  false) ∧
  ∀ (w'_7 : World),
  w'_7 =
  w'.setCell
  (Addr.mk w'_1.heap.size 2 none)
  (Value.int IntKind.u8
  (IntKind.u8.wrap n)) →
  J [] w'_7)
  (J [] w'_6) ∧
  ∀ (g : Nat → Value) (w'_7 : World),
  J [] w'_7 →
  Calls Proofs.Try.prog 49 #[Value.int IntKind.u8 op] w'_7
  fun (e : Ending) (w'_8 : World) =>
  ∃ (b : Bool),
  e = Ending.returned (Value.bool b) ∧
  ∃ (J : List Value → World → Prop),
  cnd b
  (Deref c0 fun (ad : Addr) =>
  ∃ (n : Int),
  w'_8.cell? ad =
  some (Value.int IntKind.u32 n) ∧
  Calls Proofs.Try.prog 47
  #[Value.int IntKind.u32 n,
  Value.int IntKind.i64 20,
  Value.int IntKind.i64 5]
  w'_8 fun (e : Ending) (w' : World) =>
  ∃ (n : Int),
  e =
  Ending.returned
  (Value.int IntKind.u32 n) ∧
  ((w'.cell?
  (Addr.mk w'_1.heap.size
  3 none)).isSome =
  true ∧
  w'.frozen?
  (Addr.mk w'_1.heap.size 3
  none) =
  false) ∧
  ∀ (w'_9 : World),
  w'_9 =
  w'.setCell
  (Addr.mk w'_1.heap.size
  3 none)
  (Value.int IntKind.u8
  (IntKind.u8.wrap n)) →
  J [] w'_9)
  (J [] w'_8) ∧
  ∀ (g : Nat → Value) (w'_9 : World),
  J [] w'_9 →
  ∃ (n : Int),
  ∃ (n_1 : Int),
  ∃ (n_2 : Int),
  ∃ (n_3 : Int),
  ∃ (n_4 : Int),
  (w'_9.cell?
  (Addr.mk w'_1.heap.size 0
  none) =
  some
  (Value.int IntKind.u8 n) ∧
  w'_9.cell?
  (Addr.mk w'_1.heap.size
  1 none) =
  some
  (Value.int IntKind.u8
  n_1) ∧
  w'_9.cell?
  (Addr.mk
  w'_1.heap.size 2
  none) =
  some
  (Value.int IntKind.u8
  n_2) ∧
  w'_9.cell?
  (Addr.mk
  w'_1.heap.size 3
  none) =
  some
  (Value.int
  IntKind.u8 n_3) ∧
  w'_9.cell?
  (Addr.mk
  w'_1.heap.size 4
  none) =
  some
  (Value.int
  IntKind.i64
  n_4) ∧
  True) ∧
  AsYield yield' fun (l : Nat) =>
  YieldC Proofs.Try.prog l
  #[Value.agg
  #[Value.int IntKind.u8
  n,
  Value.int IntKind.u8
  n_1,
  Value.int IntKind.u8
  n_2,
  Value.int IntKind.u8
  n_3,
  Value.int IntKind.i64
  n_4]]
  w'_9
  fun (b : Bool)
  (w'_10 : World) =>
  cnd (!b)
  (R
  (Ending.returned
  (Value.tuple #[]))
  w'_10)
  (Goes I μ
  [Value.int IntKind.u8
  op]
  w'
  [Value.int IntKind.u8
  (IntKind.u8.wrap
  (op + 1))]
  w'_10))
  (R (Ending.returned (Value.tuple #[])) w')
theorem disas_guesses_1.vc_eq (yield' : Value) (c0 : Option Addr) (w : World) (R : Ending → World → Prop) : fnV Try.prog disas_guesses_1.H 44 [yield', Value.pointer c0] w R = disas_guesses_1.vc yield' c0 w R := by kernel_rfl
theorem disas_guesses_1.calls {yield' : Value} {c0 : Option Addr} {w : World} {R : Ending → World → Prop} (h : disas_guesses_1.vc yield' c0 w R) : Calls Try.prog 44 ([yield', Value.pointer c0] : List Value).toArray w R := calls_of_eq (disas_guesses_1.vc_eq yield' c0 w R) h

/- function 31: sacristy/disas.Decode -/
abbrev disas_Decode.N : FuncId := 31
def disas_Decode.H : Hints := { rngs := [(9, [(9, .agg [(.int .u8), (.int .u8), (.int .u8), (.int .u8), (.int .i64)])], [(4, .one .ptr)])] }
def disas_Decode.vc (w' : Int) (w : World) (R : Ending → World → Prop) : Prop :=
  ∀ (w'_1 : World),
  w'_1 = w.alloc (Obj.cells #[Value.int IntKind.u32 w'] 42) →
  ∀ (w' : World),
  w' =
  w'_1.alloc
  (Obj.cells
  #[Value.int IntKind.u8 0, Value.int IntKind.u8 0, Value.int IntKind.u8 0, Value.int IntKind.u8 0,
  Value.int IntKind.i64 0]
  39) →
  ∀ (w'_2 : World),
  w'_2 = w'.alloc (Obj.cells #[Value.int IntKind.i64 0] 29) →
  ∃ (n : Int),
  w'_2.cell? (Addr.mk w.heap.size 0 none) = some (Value.int IntKind.u32 n) ∧
  Calls Proofs.Try.prog 39 #[Value.int IntKind.u32 n] w'_2 fun (e : Ending) (w'_3 : World) =>
  ∃ (v : Value),
  e = Ending.returned v ∧
  AsFn v fun (gf : FuncId) (fi lb : Array Value) =>
  cnd (entersB Proofs.Try.prog gf)
  (fi = #[] ∧
  ∃ (r : Rounds Proofs.Try.prog gf lb w'_3),
  (∀ (x : Fin r.N),
  okV
  [(9,
  Shape.agg
  [Sh.int IntKind.u8, Sh.int IntKind.u8, Sh.int IntKind.u8, Sh.int IntKind.u8,
  Sh.int IntKind.i64])]
  (r.enc x) =
  true) ∧
  (∀ (s9_0 s9_1 s9_2 s9_3 s9_4 : Int) (pre : List (Fin r.N)) (x : Fin r.N) (w1 : World),
  r.enc x =
  [Value.agg
  #[Value.int IntKind.u8 s9_0, Value.int IntKind.u8 s9_1,
  Value.int IntKind.u8 s9_2, Value.int IntKind.u8 s9_3,
  Value.int IntKind.i64 s9_4]] →
  r.I pre w1 →
  ∀ (w' : World),
  w' =
  w1.alloc
  (Obj.cells
  #[Value.int IntKind.u8 0, Value.int IntKind.u8 0,
  Value.int IntKind.u8 0, Value.int IntKind.u8 0,
  Value.int IntKind.i64 0]
  39) →
  SetsAt w' (Addr.mk w1.heap.size 0 none) 0
  [Value.int IntKind.u8 s9_0, Value.int IntKind.u8 s9_1,
  Value.int IntKind.u8 s9_2, Value.int IntKind.u8 s9_3,
  Value.int IntKind.i64 s9_4] ∧
  ∀ (w'_4 : World),
  w'_4 =
  setCellsAt w' (Addr.mk w1.heap.size 0 none) 0
  [Value.int IntKind.u8 s9_0, Value.int IntKind.u8 s9_1,
  Value.int IntKind.u8 s9_2, Value.int IntKind.u8 s9_3,
  Value.int IntKind.i64 s9_4] →
  KeepsFrom w'_3.heap.size w1 w'_4 ∧
  KpS r.Ks w1 w'_4 ∧
  r.I pre w'_4 ∧
  r.Mid x [Value.pointer (some (Addr.mk w1.heap.size 0 none))]
  w'_4) ∧
  (∀ (s9_0 s9_1 s9_2 s9_3 s9_4 : Int) (pre : List (Fin r.N)) (x : Fin r.N),
  r.enc x =
  [Value.agg
  #[Value.int IntKind.u8 s9_0, Value.int IntKind.u8 s9_1,
  Value.int IntKind.u8 s9_2, Value.int IntKind.u8 s9_3,
  Value.int IntKind.i64 s9_4]] →
  pre.length < r.N →
  ∀ (g : Nat → Value) (x_1 : Option Addr) (w'_4 : World),
  r.I pre w'_4 ∧ r.Mid x [Value.pointer x_1] w'_4 →
  Deref x_1 fun (ad : Addr) =>
  ∃ (n : Int),
  ∃ (n_1 : Int),
  ∃ (n_2 : Int),
  ∃ (n_3 : Int),
  ∃ (n_4 : Int),
  (w'_4.cell? ad = some (Value.int IntKind.u8 n) ∧
  w'_4.cell? (ad.add 1) = some (Value.int IntKind.u8 n_1) ∧
  w'_4.cell? (ad.add 2) =
  some (Value.int IntKind.u8 n_2) ∧
  w'_4.cell? (ad.add 3) =
  some (Value.int IntKind.u8 n_3) ∧
  w'_4.cell? (ad.add 4) =
  some (Value.int IntKind.i64 n_4) ∧
  True) ∧
  Calls Proofs.Try.prog 40
  #[Value.agg
  #[Value.int IntKind.u8 n, Value.int IntKind.u8 n_1,
  Value.int IntKind.u8 n_2, Value.int IntKind.u8 n_3,
  Value.int IntKind.i64 n_4]]
  w'_4 fun (e : Ending) (w'_5 : World) =>
  ∃ (n : Int),
  ∃ (n_5 : Int),
  e =
  Ending.returned
  (Value.tuple
  #[Value.int IntKind.u32 n,
  Value.int IntKind.i64 n_5]) ∧
  cnd (n_5 == 0)
  (∃ (n_6 : Int),
  w'_5.cell? (Addr.mk w.heap.size 0 none) =
  some (Value.int IntKind.u32 n_6) ∧
  cnd (n == n_6)
  (Deref x_1 fun (ad : Addr) =>
  ∃ (n : Int),
  ∃ (n_7 : Int),
  ∃ (n_8 : Int),
  ∃ (n_9 : Int),
  ∃ (n_10 : Int),
  (w'_5.cell? ad =
  some
  (Value.int IntKind.u8
  n) ∧
  w'_5.cell? (ad.add 1) =
  some
  (Value.int IntKind.u8
  n_7) ∧
  w'_5.cell? (ad.add 2) =
  some
  (Value.int
  IntKind.u8 n_8) ∧
  w'_5.cell? (ad.add 3) =
  some
  (Value.int
  IntKind.u8
  n_9) ∧
  w'_5.cell?
  (ad.add 4) =
  some
  (Value.int
  IntKind.i64
  n_10) ∧
  True) ∧
  SetsAt w'_5
  (Addr.mk w'_1.heap.size 0
  none)
  0
  [Value.int IntKind.u8 n,
  Value.int IntKind.u8
  n_7,
  Value.int IntKind.u8
  n_8,
  Value.int IntKind.u8
  n_9,
  Value.int IntKind.i64
  n_10] ∧
  ∀ (w'_6 : World),
  w'_6 =
  setCellsAt w'_5
  (Addr.mk
  w'_1.heap.size 0
  none)
  0
  [Value.int
  IntKind.u8 n,
  Value.int
  IntKind.u8 n_7,
  Value.int
  IntKind.u8 n_8,
  Value.int
  IntKind.u8 n_9,
  Value.int
  IntKind.i64
  n_10] →
  ((w'_6.cell?
  (Addr.mk
  w'.heap.size
  0
  none)).isSome =
  true ∧
  w'_6.frozen?
  (Addr.mk
  w'.heap.size 0
  none) =
  false) ∧
  ∀ (w'_7 : World),
  w'_7 =
  w'_6.setCell
  (Addr.mk
  w'.heap.size
  0 none)
  (Value.int
  IntKind.i64
  0) →
  KeepsFrom
  w'_3.heap.size
  w'_4 w'_7 ∧
  r.Ix
  (pre ++ [x])
  w'_7)
  (KeepsFrom w'_3.heap.size w'_4 w'_5 ∧
  KpS r.Ks w'_4 w'_5 ∧
  r.I (pre ++ [x]) w'_5))
  (KeepsFrom w'_3.heap.size w'_4 w'_5 ∧
  KpS r.Ks w'_4 w'_5 ∧ r.I (pre ++ [x]) w'_5)) ∧
  (∀ (D : Nat) (w1 : World),
  w'_3.heap.size ≤ D →
  r.I (List.finRange r.N) w1 →
  w1.heap[D]? = some (Obj.deferred (some [])) →
  SetsAt w1 (Addr.mk w'_1.heap.size 0 none) 0
  [Value.int IntKind.u8 0, Value.int IntKind.u8 0,
  Value.int IntKind.u8 0, Value.int IntKind.u8 0,
  Value.int IntKind.i64 0] ∧
  ∀ (w'_4 : World),
  w'_4 =
  setCellsAt w1 (Addr.mk w'_1.heap.size 0 none) 0
  [Value.int IntKind.u8 0, Value.int IntKind.u8 0,
  Value.int IntKind.u8 0, Value.int IntKind.u8 0,
  Value.int IntKind.i64 0] →
  ((w'_4.cell? (Addr.mk w'.heap.size 0 none)).isSome = true ∧
  w'_4.frozen? (Addr.mk w'.heap.size 0 none) = false) ∧
  ∀ (w'_5 : World),
  w'_5 =
  w'_4.setCell (Addr.mk w'.heap.size 0 none)
  (Value.int IntKind.i64 7) →
  w'_5.heap[D]? = some (Obj.deferred (some [])) ∧
  ∀ (w'_6 : World),
  w'_6 = w'_5.putObj D (Obj.deferred none) →
  ∃ (n : Int),
  ∃ (n_1 : Int),
  ∃ (n_2 : Int),
  ∃ (n_3 : Int),
  ∃ (n_4 : Int),
  (w'_6.cell? (Addr.mk w'_1.heap.size 0 none) =
  some (Value.int IntKind.u8 n) ∧
  w'_6.cell?
  (Addr.mk w'_1.heap.size 1 none) =
  some (Value.int IntKind.u8 n_1) ∧
  w'_6.cell?
  (Addr.mk w'_1.heap.size 2 none) =
  some (Value.int IntKind.u8 n_2) ∧
  w'_6.cell?
  (Addr.mk w'_1.heap.size 3
  none) =
  some (Value.int IntKind.u8 n_3) ∧
  w'_6.cell?
  (Addr.mk w'_1.heap.size 4
  none) =
  some
  (Value.int IntKind.i64 n_4) ∧
  True) ∧
  ∃ (n_5 : Int),
  w'_6.cell? (Addr.mk w'.heap.size 0 none) =
  some (Value.int IntKind.i64 n_5) ∧
  R
  (Ending.returned
  (Value.tuple
  #[Value.agg
  #[Value.int IntKind.u8 n,
  Value.int IntKind.u8 n_1,
  Value.int IntKind.u8 n_2,
  Value.int IntKind.u8 n_3,
  Value.int IntKind.i64 n_4],
  Value.int IntKind.i64 n_5]))
  w'_6) ∧
  ∀ (D : Nat) (pre : List (Fin r.N)) (w1 : World),
  w'_3.heap.size ≤ D →
  (∃ (t : List (Fin r.N)), pre ++ t = List.finRange r.N) →
  r.Ix pre w1 →
  w1.heap[D]? = some (Obj.deferred (some [])) →
  w1.heap[D]? = some (Obj.deferred (some [])) ∧
  ∀ (w'_4 : World),
  w'_4 = w1.putObj D (Obj.deferred none) →
  ∃ (n : Int),
  ∃ (n_1 : Int),
  ∃ (n_2 : Int),
  ∃ (n_3 : Int),
  ∃ (n_4 : Int),
  (w'_4.cell? (Addr.mk w'_1.heap.size 0 none) =
  some (Value.int IntKind.u8 n) ∧
  w'_4.cell? (Addr.mk w'_1.heap.size 1 none) =
  some (Value.int IntKind.u8 n_1) ∧
  w'_4.cell? (Addr.mk w'_1.heap.size 2 none) =
  some (Value.int IntKind.u8 n_2) ∧
  w'_4.cell? (Addr.mk w'_1.heap.size 3 none) =
  some (Value.int IntKind.u8 n_3) ∧
  w'_4.cell? (Addr.mk w'_1.heap.size 4 none) =
  some (Value.int IntKind.i64 n_4) ∧
  True) ∧
  ∃ (n_5 : Int),
  w'_4.cell? (Addr.mk w'.heap.size 0 none) =
  some (Value.int IntKind.i64 n_5) ∧
  R
  (Ending.returned
  (Value.tuple
  #[Value.agg
  #[Value.int IntKind.u8 n,
  Value.int IntKind.u8 n_1,
  Value.int IntKind.u8 n_2,
  Value.int IntKind.u8 n_3,
  Value.int IntKind.i64 n_4],
  Value.int IntKind.i64 n_5]))
  w'_4)
  False
theorem disas_Decode.vc_eq (w' : Int) (w : World) (R : Ending → World → Prop) : fnM Try.prog disas_Decode.H 31 [Value.int IntKind.u32 w'] w R = disas_Decode.vc w' w R := by kernel_rfl
theorem disas_Decode.calls {w' : Int} {w : World} {R : Ending → World → Prop} (h : disas_Decode.vc w' w R) : Calls Try.prog 31 ([Value.int IntKind.u32 w'] : List Value).toArray w R := calls_of_eqM (disas_Decode.vc_eq w' w R) h

end Go.Proofs.Ytjoikaklincfoaa

/-
The explicit conditions of some functions of the program, printed by this repo's own program over VcTop: what is proved is that each is the condition.
Conditions: none.
-/
namespace Go.Proofs.Ytjoikaklincfoaa
open Go Go.Vc Go.RowKit
set_option linter.unusedVariables false
set_option maxRecDepth 100000

/- function 47: sacristy/disas.field -/
abbrev disas_field.N : FuncId := 47
def disas_field.H : Hints := {  }
def disas_field.vc (w' : Int) (at' : Int) (n' : Int) (w : World) (R : Ending → World → Prop) : Prop :=
  cnd (decide (at' < 0)) False
  (cnd (decide (n' < 0)) False
  (∀ (w'_1 : World),
  Later w w'_1 →
  R
  (Ending.returned
  (Value.int IntKind.u32
  (bits BinOp.and IntKind.u32 (w'.fdiv (2 ^ min at'.toNat 32))
  (IntKind.u32.wrap (IntKind.u32.wrap (1 * 2 ^ min n'.toNat 32) - 1)))))
  w'_1))
theorem disas_field.vc_eq (w' : Int) (at' : Int) (n' : Int) (w : World) (R : Ending → World → Prop) : fnV Try.prog disas_field.H 47 [Value.int IntKind.u32 w', Value.int IntKind.i64 at', Value.int IntKind.i64 n'] w R = disas_field.vc w' at' n' w R := by kernel_rfl
theorem disas_field.calls {w' : Int} {at' : Int} {n' : Int} {w : World} {R : Ending → World → Prop} (h : disas_field.vc w' at' n' w R) : Calls Try.prog 47 ([Value.int IntKind.u32 w', Value.int IntKind.i64 at', Value.int IntKind.i64 n'] : List Value).toArray w R := calls_of_eq (disas_field.vc_eq w' at' n' w R) h

/- function 53: sacristy/disas.signed -/
abbrev disas_signed.N : FuncId := 53
def disas_signed.H : Hints := {  }
def disas_signed.vc (v' : Int) (bits' : Int) (w : World) (R : Ending → World → Prop) : Prop :=
  Calls Proofs.Try.prog 62 #[Value.int IntKind.u64 (IntKind.u64.wrap v'), Value.int IntKind.i64 bits'] w
  fun (e : Ending) (w' : World) =>
  ∃ (n : Int),
  ∃ (n_1 : Int),
  e = Ending.returned (Value.tuple #[Value.int IntKind.u64 n, Value.int IntKind.i64 n_1]) ∧
  R (Ending.returned (Value.int IntKind.i64 (IntKind.i64.wrap n))) w'
theorem disas_signed.vc_eq (v' : Int) (bits' : Int) (w : World) (R : Ending → World → Prop) : fnV Try.prog disas_signed.H 53 [Value.int IntKind.u32 v', Value.int IntKind.i64 bits'] w R = disas_signed.vc v' bits' w R := by kernel_rfl
theorem disas_signed.calls {v' : Int} {bits' : Int} {w : World} {R : Ending → World → Prop} (h : disas_signed.vc v' bits' w R) : Calls Try.prog 53 ([Value.int IntKind.u32 v', Value.int IntKind.i64 bits'] : List Value).toArray w R := calls_of_eq (disas_signed.vc_eq v' bits' w R) h

/- function 46: sacristy/disas.hasRd -/
abbrev disas_hasRd.N : FuncId := 46
def disas_hasRd.H : Hints := {  }
def disas_hasRd.vc (op' : Int) (w : World) (R : Ending → World → Prop) : Prop :=
  cnd (op' == 26) (cnd (op' == 26) (R (Ending.returned (Value.bool false)) w) (R (Ending.returned (Value.bool true)) w))
  (cnd (op' == 27)
  (cnd (op' == 27) (R (Ending.returned (Value.bool false)) w) (R (Ending.returned (Value.bool true)) w))
  (cnd (op' == 28)
  (cnd (op' == 28) (R (Ending.returned (Value.bool false)) w) (R (Ending.returned (Value.bool true)) w))
  (cnd (op' == 29)
  (cnd (op' == 29) (R (Ending.returned (Value.bool false)) w) (R (Ending.returned (Value.bool true)) w))
  (cnd (op' == 30)
  (cnd (op' == 30) (R (Ending.returned (Value.bool false)) w) (R (Ending.returned (Value.bool true)) w))
  (cnd (op' == 31)
  (cnd (op' == 31) (R (Ending.returned (Value.bool false)) w) (R (Ending.returned (Value.bool true)) w))
  (cnd (op' == 34) (R (Ending.returned (Value.bool false)) w) (R (Ending.returned (Value.bool true)) w)))))))
theorem disas_hasRd.vc_eq (op' : Int) (w : World) (R : Ending → World → Prop) : fnV Try.prog disas_hasRd.H 46 [Value.int IntKind.u8 op'] w R = disas_hasRd.vc op' w R := by kernel_rfl
theorem disas_hasRd.calls {op' : Int} {w : World} {R : Ending → World → Prop} (h : disas_hasRd.vc op' w R) : Calls Try.prog 46 ([Value.int IntKind.u8 op'] : List Value).toArray w R := calls_of_eq (disas_hasRd.vc_eq op' w R) h

/- function 48: sacristy/disas.hasRs1 -/
abbrev disas_hasRs1.N : FuncId := 48
def disas_hasRs1.H : Hints := {  }
def disas_hasRs1.vc (op' : Int) (w : World) (R : Ending → World → Prop) : Prop :=
  cnd (op' != 23)
  (cnd (op' != 32) (R (Ending.returned (Value.bool (op' != 34))) w) (R (Ending.returned (Value.bool false)) w))
  (R (Ending.returned (Value.bool false)) w)
theorem disas_hasRs1.vc_eq (op' : Int) (w : World) (R : Ending → World → Prop) : fnV Try.prog disas_hasRs1.H 48 [Value.int IntKind.u8 op'] w R = disas_hasRs1.vc op' w R := by kernel_rfl
theorem disas_hasRs1.calls {op' : Int} {w : World} {R : Ending → World → Prop} (h : disas_hasRs1.vc op' w R) : Calls Try.prog 48 ([Value.int IntKind.u8 op'] : List Value).toArray w R := calls_of_eq (disas_hasRs1.vc_eq op' w R) h

/- function 49: sacristy/disas.hasRs2 -/
abbrev disas_hasRs2.N : FuncId := 49
def disas_hasRs2.H : Hints := {  }
def disas_hasRs2.vc (op' : Int) (w : World) (R : Ending → World → Prop) : Prop :=
  cnd (decide (op' ≤ 14)) (R (Ending.returned (Value.bool true)) w)
  (cnd (op' == 26) (R (Ending.returned (Value.bool true)) w)
  (cnd (op' == 27) (R (Ending.returned (Value.bool true)) w)
  (cnd (decide (op' ≥ 28)) (R (Ending.returned (Value.bool (decide (op' ≤ 31)))) w)
  (R (Ending.returned (Value.bool false)) w))))
theorem disas_hasRs2.vc_eq (op' : Int) (w : World) (R : Ending → World → Prop) : fnV Try.prog disas_hasRs2.H 49 [Value.int IntKind.u8 op'] w R = disas_hasRs2.vc op' w R := by kernel_rfl
theorem disas_hasRs2.calls {op' : Int} {w : World} {R : Ending → World → Prop} (h : disas_hasRs2.vc op' w R) : Calls Try.prog 49 ([Value.int IntKind.u8 op'] : List Value).toArray w R := calls_of_eq (disas_hasRs2.vc_eq op' w R) h

/- function 39: sacristy/disas.guesses -/
abbrev disas_guesses.N : FuncId := 39
def disas_guesses.H : Hints := {  }
def disas_guesses.vc (w' : Int) (w : World) (R : Ending → World → Prop) : Prop :=
  ∀ (w'_1 : World),
  w'_1 = w.alloc (Obj.cells #[Value.int IntKind.u32 w'] 42) →
  R (Ending.returned (Value.func (Fn.func 44) #[] #[Value.pointer (some (Addr.mk w.heap.size 0 none))])) w'_1
theorem disas_guesses.vc_eq (w' : Int) (w : World) (R : Ending → World → Prop) : fnV Try.prog disas_guesses.H 39 [Value.int IntKind.u32 w'] w R = disas_guesses.vc w' w R := by kernel_rfl
theorem disas_guesses.calls {w' : Int} {w : World} {R : Ending → World → Prop} (h : disas_guesses.vc w' w R) : Calls Try.prog 39 ([Value.int IntKind.u32 w'] : List Value).toArray w R := calls_of_eq (disas_guesses.vc_eq w' w R) h

end Go.Proofs.Ytjoikaklincfoaa

/-
The explicit conditions of some functions of the program, printed by this repo's own program over VcTop: what is proved is that each is the condition.
Conditions: none.
-/
namespace Go.Proofs.Ytjoikaklincfoaa
open Go Go.Vc Go.RowKit
set_option linter.unusedVariables false
set_option maxRecDepth 100000

/- function 45: sacristy/disas.number -/
abbrev disas_number.N : FuncId := 45
def disas_number.H : Hints := { conds := [(4006, [(6, .one .bool)]), (9012, [(12, .one .bool)]), (12016, [(16, .one .bool)]), (16022, [(22, .one .bool)]), (18025, [(25, .one .bool)])] }
def disas_number.vc (op' : Int) (w' : Int) (w : World) (R : Ending → World → Prop) : Prop :=
  ∃ (J : List Value → World → Prop),
  cnd (op' == 15) (J [Value.bool (op' == 15)] w)
  (cnd (op' == 16) (J [Value.bool (op' == 16)] w)
  (cnd (op' == 17) (J [Value.bool (op' == 17)] w)
  (cnd (op' == 18) (J [Value.bool (op' == 18)] w) (J [Value.bool (op' == 19)] w)))) ∧
  ∀ (g : Nat → Value) (s6 : Bool) (w'_1 : World),
  J [Value.bool s6] w'_1 →
  cnd s6
  (Calls Proofs.Try.prog 47 #[Value.int IntKind.u32 w', Value.int IntKind.i64 20, Value.int IntKind.i64 12] w'_1
  fun (e : Ending) (w' : World) =>
  ∃ (n : Int),
  e = Ending.returned (Value.int IntKind.u32 n) ∧
  Calls Proofs.Try.prog 53 #[Value.int IntKind.u32 n, Value.int IntKind.i64 12] w'
  fun (e : Ending) (w' : World) =>
  ∃ (n : Int),
  e = Ending.returned (Value.int IntKind.i64 n) ∧ R (Ending.returned (Value.int IntKind.i64 n)) w')
  (∃ (J : List Value → World → Prop),
  cnd (op' == 24) (J [Value.bool (op' == 24)] w'_1)
  (cnd (op' == 25) (J [Value.bool (op' == 25)] w'_1) (J [Value.bool (op' == 33)] w'_1)) ∧
  ∀ (g : Nat → Value) (s12 : Bool) (w'_2 : World),
  J [Value.bool s12] w'_2 →
  cnd s12
  (Calls Proofs.Try.prog 47
  #[Value.int IntKind.u32 w', Value.int IntKind.i64 20, Value.int IntKind.i64 12] w'_2
  fun (e : Ending) (w' : World) =>
  ∃ (n : Int),
  e = Ending.returned (Value.int IntKind.u32 n) ∧
  Calls Proofs.Try.prog 53 #[Value.int IntKind.u32 n, Value.int IntKind.i64 12] w'
  fun (e : Ending) (w' : World) =>
  ∃ (n : Int),
  e = Ending.returned (Value.int IntKind.i64 n) ∧
  R (Ending.returned (Value.int IntKind.i64 n)) w')
  (∃ (J : List Value → World → Prop),
  cnd (op' == 20) (J [Value.bool (op' == 20)] w'_2)
  (cnd (op' == 21) (J [Value.bool (op' == 21)] w'_2) (J [Value.bool (op' == 22)] w'_2)) ∧
  ∀ (g : Nat → Value) (s16 : Bool) (w'_3 : World),
  J [Value.bool s16] w'_3 →
  cnd s16
  (Calls Proofs.Try.prog 47
  #[Value.int IntKind.u32 w', Value.int IntKind.i64 20, Value.int IntKind.i64 6] w'_3
  fun (e : Ending) (w' : World) =>
  ∃ (n : Int),
  e = Ending.returned (Value.int IntKind.u32 n) ∧
  R (Ending.returned (Value.int IntKind.i64 (IntKind.i64.wrap n))) w')
  (cnd (op' == 23)
  (Calls Proofs.Try.prog 53
  #[Value.int IntKind.u32 (bits BinOp.andNot IntKind.u32 w' 4095),
  Value.int IntKind.i64 32]
  w'_3 fun (e : Ending) (w' : World) =>
  ∃ (n : Int),
  e = Ending.returned (Value.int IntKind.i64 n) ∧
  R (Ending.returned (Value.int IntKind.i64 n)) w')
  (∃ (J : List Value → World → Prop),
  cnd (op' == 26) (J [Value.bool (op' == 26)] w'_3) (J [Value.bool (op' == 27)] w'_3) ∧
  ∀ (g : Nat → Value) (s22 : Bool) (w'_4 : World),
  J [Value.bool s22] w'_4 →
  cnd s22
  (Calls Proofs.Try.prog 47
  #[Value.int IntKind.u32 w', Value.int IntKind.i64 25,
  Value.int IntKind.i64 7]
  w'_4 fun (e : Ending) (w'_5 : World) =>
  ∃ (n : Int),
  e = Ending.returned (Value.int IntKind.u32 n) ∧
  Calls Proofs.Try.prog 47
  #[Value.int IntKind.u32 w', Value.int IntKind.i64 7,
  Value.int IntKind.i64 5]
  w'_5 fun (e : Ending) (w' : World) =>
  ∃ (n_1 : Int),
  e = Ending.returned (Value.int IntKind.u32 n_1) ∧
  Calls Proofs.Try.prog 53
  #[Value.int IntKind.u32
  (bits BinOp.or IntKind.u32 (IntKind.u32.wrap (n * 32)) n_1),
  Value.int IntKind.i64 12]
  w' fun (e : Ending) (w' : World) =>
  ∃ (n : Int),
  e = Ending.returned (Value.int IntKind.i64 n) ∧
  R (Ending.returned (Value.int IntKind.i64 n)) w')
  (∃ (J : List Value → World → Prop),
  cnd (op' == 28) (J [Value.bool (op' == 28)] w'_4)
  (cnd (op' == 29) (J [Value.bool (op' == 29)] w'_4)
  (cnd (op' == 30) (J [Value.bool (op' == 30)] w'_4)
  (J [Value.bool (op' == 31)] w'_4))) ∧
  ∀ (g : Nat → Value) (s25 : Bool) (w'_5 : World),
  J [Value.bool s25] w'_5 →
  cnd s25
  (Calls Proofs.Try.prog 47
  #[Value.int IntKind.u32 w', Value.int IntKind.i64 8,
  Value.int IntKind.i64 4]
  w'_5 fun (e : Ending) (w'_6 : World) =>
  ∃ (n : Int),
  e = Ending.returned (Value.int IntKind.u32 n) ∧
  Calls Proofs.Try.prog 47
  #[Value.int IntKind.u32 w', Value.int IntKind.i64 25,
  Value.int IntKind.i64 6]
  w'_6 fun (e : Ending) (w'_7 : World) =>
  ∃ (n_1 : Int),
  e = Ending.returned (Value.int IntKind.u32 n_1) ∧
  Calls Proofs.Try.prog 47
  #[Value.int IntKind.u32 w', Value.int IntKind.i64 7,
  Value.int IntKind.i64 1]
  w'_7 fun (e : Ending) (w'_8 : World) =>
  ∃ (n_2 : Int),
  e = Ending.returned (Value.int IntKind.u32 n_2) ∧
  Calls Proofs.Try.prog 47
  #[Value.int IntKind.u32 w',
  Value.int IntKind.i64 31,
  Value.int IntKind.i64 1]
  w'_8 fun (e : Ending) (w' : World) =>
  ∃ (n_3 : Int),
  e =
  Ending.returned
  (Value.int IntKind.u32 n_3) ∧
  Calls Proofs.Try.prog 53
  #[Value.int IntKind.u32
  (bits BinOp.or IntKind.u32
  (bits BinOp.or IntKind.u32
  (bits BinOp.or IntKind.u32
  (IntKind.u32.wrap (n * 2))
  (IntKind.u32.wrap (n_1 * 32)))
  (IntKind.u32.wrap (n_2 * 2048)))
  (IntKind.u32.wrap (n_3 * 4096))),
  Value.int IntKind.i64 13]
  w' fun (e : Ending) (w' : World) =>
  ∃ (n : Int),
  e =
  Ending.returned
  (Value.int IntKind.i64 n) ∧
  R
  (Ending.returned
  (Value.int IntKind.i64 n))
  w')
  (cnd (op' == 32)
  (Calls Proofs.Try.prog 47
  #[Value.int IntKind.u32 w', Value.int IntKind.i64 21,
  Value.int IntKind.i64 10]
  w'_5 fun (e : Ending) (w'_6 : World) =>
  ∃ (n : Int),
  e = Ending.returned (Value.int IntKind.u32 n) ∧
  Calls Proofs.Try.prog 47
  #[Value.int IntKind.u32 w', Value.int IntKind.i64 20,
  Value.int IntKind.i64 1]
  w'_6 fun (e : Ending) (w'_7 : World) =>
  ∃ (n_1 : Int),
  e = Ending.returned (Value.int IntKind.u32 n_1) ∧
  Calls Proofs.Try.prog 47
  #[Value.int IntKind.u32 w',
  Value.int IntKind.i64 12, Value.int IntKind.i64 8]
  w'_7 fun (e : Ending) (w'_8 : World) =>
  ∃ (n_2 : Int),
  e = Ending.returned (Value.int IntKind.u32 n_2) ∧
  Calls Proofs.Try.prog 47
  #[Value.int IntKind.u32 w',
  Value.int IntKind.i64 31,
  Value.int IntKind.i64 1]
  w'_8 fun (e : Ending) (w' : World) =>
  ∃ (n_3 : Int),
  e =
  Ending.returned
  (Value.int IntKind.u32 n_3) ∧
  Calls Proofs.Try.prog 53
  #[Value.int IntKind.u32
  (bits BinOp.or IntKind.u32
  (bits BinOp.or IntKind.u32
  (bits BinOp.or IntKind.u32
  (IntKind.u32.wrap (n * 2))
  (IntKind.u32.wrap
  (n_1 * 2048)))
  (IntKind.u32.wrap (n_2 * 4096)))
  (IntKind.u32.wrap
  (n_3 * 1048576))),
  Value.int IntKind.i64 21]
  w' fun (e : Ending) (w' : World) =>
  ∃ (n : Int),
  e =
  Ending.returned
  (Value.int IntKind.i64 n) ∧
  R
  (Ending.returned
  (Value.int IntKind.i64 n))
  w')
  (R (Ending.returned (Value.int IntKind.i64 0)) w'_5)))))))
theorem disas_number.vc_eq (op' : Int) (w' : Int) (w : World) (R : Ending → World → Prop) : fnV Try.prog disas_number.H 45 [Value.int IntKind.u8 op', Value.int IntKind.u32 w'] w R = disas_number.vc op' w' w R := by kernel_rfl
theorem disas_number.calls {op' : Int} {w' : Int} {w : World} {R : Ending → World → Prop} (h : disas_number.vc op' w' w R) : Calls Try.prog 45 ([Value.int IntKind.u8 op', Value.int IntKind.u32 w'] : List Value).toArray w R := calls_of_eq (disas_number.vc_eq op' w' w R) h

end Go.Proofs.Ytjoikaklincfoaa
