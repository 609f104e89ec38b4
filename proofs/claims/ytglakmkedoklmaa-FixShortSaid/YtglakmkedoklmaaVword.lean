/-
The explicit conditions of some functions of the program, printed by this repo's own program over VcTop: what is proved is that each is the condition.
Conditions: none.
-/
import Derived.Test.YtglakmkedoklmaaVcTop
import Derived.Test.YtglakmkedoklmaaProg
namespace Go.Proofs.Ytglakmkedoklmaa
open Go Go.Vc Go.RowKit
set_option linter.unusedVariables false
set_option maxRecDepth 100000

/- function 56: sacristy/word.Sign -/
abbrev word_Sign.N : FuncId := 56
def word_Sign.H : Hints := {  }
def word_Sign.vc (v' : Int) (bits' : Int) (w : World) (R : Ending → World → Prop) : Prop :=
  cnd (decide (bits' < 1)) (R (Ending.returned (Value.tuple #[Value.int IntKind.u64 0, Value.int IntKind.i64 2])) w)
  (cnd (decide (bits' > 64)) (R (Ending.returned (Value.tuple #[Value.int IntKind.u64 0, Value.int IntKind.i64 2])) w)
  (cnd (decide (IntKind.i64.wrap (64 - bits') < 0)) False
  (cnd (decide (IntKind.i64.wrap (64 - bits') < 0)) False
  (R
  (Ending.returned
  (Value.tuple
  #[Value.int IntKind.u64
  (IntKind.u64.wrap
  ((IntKind.i64.wrap (IntKind.u64.wrap (v' * 2 ^ min (IntKind.i64.wrap (64 - bits')).toNat 64))).fdiv
  (2 ^ min (IntKind.i64.wrap (64 - bits')).toNat 64))),
  Value.int IntKind.i64 0]))
  w))))
theorem word_Sign.vc_eq (v' : Int) (bits' : Int) (w : World) (R : Ending → World → Prop) : fnV Try.prog word_Sign.H 56 [Value.int IntKind.u64 v', Value.int IntKind.i64 bits'] w R = word_Sign.vc v' bits' w R := by kernel_rfl
theorem word_Sign.calls {v' : Int} {bits' : Int} {w : World} {R : Ending → World → Prop} (h : word_Sign.vc v' bits' w R) : Calls Try.prog 56 ([Value.int IntKind.u64 v', Value.int IntKind.i64 bits'] : List Value).toArray w R := calls_of_eq (word_Sign.vc_eq v' bits' w R) h

/- function 55: sacristy/word.Fits -/
abbrev word_Fits.N : FuncId := 55
def word_Fits.H : Hints := {  }
def word_Fits.vc (v' : Int) (bits' : Int) (w : World) (R : Ending → World → Prop) : Prop :=
  Calls Proofs.Try.prog 56 #[Value.int IntKind.u64 (IntKind.u64.wrap v'), Value.int IntKind.i64 bits'] w
  fun (e : Ending) (w' : World) =>
  ∃ (n : Int),
  ∃ (n_1 : Int),
  e = Ending.returned (Value.tuple #[Value.int IntKind.u64 n, Value.int IntKind.i64 n_1]) ∧
  cnd (n_1 == 0) (R (Ending.returned (Value.bool (IntKind.i64.wrap n == v'))) w')
  (R (Ending.returned (Value.bool false)) w')
theorem word_Fits.vc_eq (v' : Int) (bits' : Int) (w : World) (R : Ending → World → Prop) : fnV Try.prog word_Fits.H 55 [Value.int IntKind.i64 v', Value.int IntKind.i64 bits'] w R = word_Fits.vc v' bits' w R := by kernel_rfl
theorem word_Fits.calls {v' : Int} {bits' : Int} {w : World} {R : Ending → World → Prop} (h : word_Fits.vc v' bits' w R) : Calls Try.prog 55 ([Value.int IntKind.i64 v', Value.int IntKind.i64 bits'] : List Value).toArray w R := calls_of_eq (word_Fits.vc_eq v' bits' w R) h

/- function 25: sacristy/word.Bytes -/
abbrev word_Bytes.N : FuncId := 25
def word_Bytes.H : Hints := { loops := [(4, [(8, .one (.int .i64))])] }
def word_Bytes.vc (v' : Int) (n' : Int) (w : World) (R : Ending → World → Prop) : Prop :=
  ∀ (w' : World),
  w' =
  w.alloc
  (Obj.cells
  #[Value.int IntKind.u8 0, Value.int IntKind.u8 0, Value.int IntKind.u8 0, Value.int IntKind.u8 0,
  Value.int IntKind.u8 0, Value.int IntKind.u8 0, Value.int IntKind.u8 0, Value.int IntKind.u8 0,
  Value.int IntKind.u8 0]
  92) →
  ∃ (I : List Value → World → Prop),
  ∃ (μ : List Value → World → Nat),
  I [Value.int IntKind.i64 0] w' ∧
  ∀ (g : Nat → Value) (s8 : Int) (w' : World),
  I [Value.int IntKind.i64 s8] w' →
  cnd (decide (s8 < 9))
  (cnd (decide (IntKind.i64.wrap (8 * s8) < 0)) False
  ((0 ≤ s8 ∧ s8 < 9) ∧
  ((w'.cell? ((Addr.mk w.heap.size 0 none).add (s8.toNat * 1))).isSome = true ∧
  w'.frozen? ((Addr.mk w.heap.size 0 none).add (s8.toNat * 1)) = false) ∧
  ∀ (w'_1 : World),
  w'_1 =
  w'.setCell ((Addr.mk w.heap.size 0 none).add (s8.toNat * 1))
  (Value.int IntKind.u8
  (IntKind.u8.wrap (v'.fdiv (2 ^ min (IntKind.i64.wrap (8 * s8)).toNat 64)))) →
  Goes I μ [Value.int IntKind.i64 s8] w' [Value.int IntKind.i64 (IntKind.i64.wrap (s8 + 1))]
  w'_1))
  (cnd (decide (n' < 1))
  (R (Ending.returned (Value.tuple #[Value.string (ByteArray.mk #[]), Value.int IntKind.i64 2])) w')
  (cnd (decide (n' > 8))
  (R (Ending.returned (Value.tuple #[Value.string (ByteArray.mk #[]), Value.int IntKind.i64 2])) w')
  ((0 ≤ n' ∧ n' ≤ 9) ∧
  RunsV Proofs.Try.prog
  (convert 61 9
  (Value.slice (reslice (some (Addr.mk w.heap.size 0 none)) 0 9 1) (n'.toNat - 0) 9))
  w' fun (v : Value) (w' : World) =>
  ∃ (s : ByteArray),
  v = Value.string s ∧
  R (Ending.returned (Value.tuple #[Value.string s, Value.int IntKind.i64 0])) w')))
theorem word_Bytes.vc_eq (v' : Int) (n' : Int) (w : World) (R : Ending → World → Prop) : fnV Try.prog word_Bytes.H 25 [Value.int IntKind.u64 v', Value.int IntKind.i64 n'] w R = word_Bytes.vc v' n' w R := by kernel_rfl
theorem word_Bytes.calls {v' : Int} {n' : Int} {w : World} {R : Ending → World → Prop} (h : word_Bytes.vc v' n' w R) : Calls Try.prog 25 ([Value.int IntKind.u64 v', Value.int IntKind.i64 n'] : List Value).toArray w R := calls_of_eq (word_Bytes.vc_eq v' n' w R) h

end Go.Proofs.Ytglakmkedoklmaa
