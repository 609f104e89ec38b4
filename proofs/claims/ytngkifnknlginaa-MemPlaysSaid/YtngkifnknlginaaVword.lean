/-
The explicit conditions of some functions of the program, printed by this repo's own program over VcTop: what is proved is that each is the condition.
Conditions: none.
-/
import Derived.Test.YtngkifnknlginaaVcTop
import Derived.Test.YtngkifnknlginaaProg
namespace Go.Proofs.Ytngkifnknlginaa
open Go Go.Vc Go.RowKit
set_option linter.unusedVariables false
set_option maxRecDepth 100000

/- function 28: sacristy/word.Bytes -/
abbrev word_Bytes.N : FuncId := 28
def word_Bytes.H : Hints := { loops := [(4, [(8, .one (.int .i64))])] }
def word_Bytes.vc (v' : Int) (n' : Int) (w : World) (R : Ending → World → Prop) : Prop :=
  ∀ (w' : World),
  w' =
  w.alloc
  (Obj.cells
  #[Value.int IntKind.u8 0, Value.int IntKind.u8 0, Value.int IntKind.u8 0, Value.int IntKind.u8 0,
  Value.int IntKind.u8 0, Value.int IntKind.u8 0, Value.int IntKind.u8 0, Value.int IntKind.u8 0,
  Value.int IntKind.u8 0]
  85) →
  ∃ (I : List Value → World → Prop),
  ∃ (μ : List Value → World → Nat),
  I [Value.int IntKind.i64 0] w' ∧
  ∀ (g : Nat → Value) (s8 : Int) (w' : World),
  I [Value.int IntKind.i64 s8] w' →
  cnd (decide (s8 < 9))
  (cnd (decide (IntKind.i64.wrap (8 * s8) < 0)) False
  ((0 ≤ s8 ∧ s8 < 9) ∧
  ((w'.cell? ((Addr.mk w.heap.size 0 none).add (s8.toNat * 1))).isSome = true ∧
  w'.frozen? ((Addr.mk w.heap.size 0 none).add (s8.toNat * 1)) = false) ∧
  ∀ (w'_1 : World),
  w'_1 =
  w'.setCell ((Addr.mk w.heap.size 0 none).add (s8.toNat * 1))
  (Value.int IntKind.u8
  (IntKind.u8.wrap (v'.fdiv (2 ^ min (IntKind.i64.wrap (8 * s8)).toNat 64)))) →
  Goes I μ [Value.int IntKind.i64 s8] w' [Value.int IntKind.i64 (IntKind.i64.wrap (s8 + 1))]
  w'_1))
  (cnd (decide (n' < 1))
  (R (Ending.returned (Value.tuple #[Value.string (ByteArray.mk #[]), Value.int IntKind.i64 2])) w')
  (cnd (decide (n' > 8))
  (R (Ending.returned (Value.tuple #[Value.string (ByteArray.mk #[]), Value.int IntKind.i64 2])) w')
  ((0 ≤ n' ∧ n' ≤ 9) ∧
  RunsV Proofs.Try.prog
  (convert 60 9
  (Value.slice (reslice (some (Addr.mk w.heap.size 0 none)) 0 9 1) (n'.toNat - 0) 9))
  w' fun (v : Value) (w' : World) =>
  ∃ (s : ByteArray),
  v = Value.string s ∧
  R (Ending.returned (Value.tuple #[Value.string s, Value.int IntKind.i64 0])) w')))
theorem word_Bytes.vc_eq (v' : Int) (n' : Int) (w : World) (R : Ending → World → Prop) : fnV Try.prog word_Bytes.H 28 [Value.int IntKind.u64 v', Value.int IntKind.i64 n'] w R = word_Bytes.vc v' n' w R := by kernel_rfl
theorem word_Bytes.calls {v' : Int} {n' : Int} {w : World} {R : Ending → World → Prop} (h : word_Bytes.vc v' n' w R) : Calls Try.prog 28 ([Value.int IntKind.u64 v', Value.int IntKind.i64 n'] : List Value).toArray w R := calls_of_eq (word_Bytes.vc_eq v' n' w R) h

/- function 29: sacristy/word.Word -/
abbrev word_Word.N : FuncId := 29
def word_Word.H : Hints := { loops := [(5, [(2, .one (.int .u64)), (15, .one (.int .i64))])] }
def word_Word.vc (s' : ByteArray) (w : World) (R : Ending → World → Prop) : Prop :=
  cnd (decide ((↑s'.size : Int) < 1))
  (R (Ending.returned (Value.tuple #[Value.int IntKind.u64 0, Value.int IntKind.i64 2])) w)
  (cnd (decide ((↑s'.size : Int) > 8))
  (R (Ending.returned (Value.tuple #[Value.int IntKind.u64 0, Value.int IntKind.i64 2])) w)
  (∃ (I : List Value → World → Prop),
  ∃ (μ : List Value → World → Nat),
  I [Value.int IntKind.u64 0, Value.int IntKind.i64 0] w ∧
  ∀ (g : Nat → Value) (v s15 : Int) (w' : World),
  I [Value.int IntKind.u64 v, Value.int IntKind.i64 s15] w' →
  cnd (decide (s15 < (↑s'.size : Int)))
  (0 ≤ s15 ∧
  ∃ (b : UInt8),
  s'[s15.toNat]? = some b ∧
  cnd (decide (IntKind.i64.wrap (8 * s15) < 0)) False
  (Goes I μ [Value.int IntKind.u64 v, Value.int IntKind.i64 s15] w'
  [Value.int IntKind.u64
  (bits BinOp.or IntKind.u64 v
  (IntKind.u64.wrap
  (IntKind.u64.wrap (↑b.toNat : Int) * 2 ^ min (IntKind.i64.wrap (8 * s15)).toNat 64))),
  Value.int IntKind.i64 (IntKind.i64.wrap (s15 + 1))]
  w'))
  (R (Ending.returned (Value.tuple #[Value.int IntKind.u64 v, Value.int IntKind.i64 0])) w')))
theorem word_Word.vc_eq (s' : ByteArray) (w : World) (R : Ending → World → Prop) : fnV Try.prog word_Word.H 29 [Value.string s'] w R = word_Word.vc s' w R := by kernel_rfl
theorem word_Word.calls {s' : ByteArray} {w : World} {R : Ending → World → Prop} (h : word_Word.vc s' w R) : Calls Try.prog 29 ([Value.string s'] : List Value).toArray w R := calls_of_eq (word_Word.vc_eq s' w R) h

end Go.Proofs.Ytngkifnknlginaa
