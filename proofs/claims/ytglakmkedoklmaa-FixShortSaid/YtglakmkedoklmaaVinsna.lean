/-
The explicit conditions of some functions of the program, printed by this repo's own program over VcTop: what is proved is that each is the condition.
Conditions: none.
-/
import Derived.Test.YtglakmkedoklmaaVcTop
import Derived.Test.YtglakmkedoklmaaProg
namespace Go.Proofs.Ytglakmkedoklmaa
open Go Go.Vc Go.RowKit
set_option linter.unusedVariables false
set_option maxRecDepth 100000

/- function 14: sacristy/insn.All -/
abbrev insn_All.N : FuncId := 14
def insn_All.H : Hints := { loops := [(4, [(13, .one (.int .i64))])] }
def insn_All.vc (l' : Option Addr) (l'n : Nat) (l'c : Nat) (w : World) (R : Ending → World → Prop) : Prop :=
  ∀ (w' : World),
  w' = w.alloc (Obj.cells #[Value.pointer none, Value.slice none 0 0] 63) →
  ∃ (I : List Value → World → Prop),
  ∃ (μ : List Value → World → Nat),
  I [Value.int IntKind.i64 0] w' ∧
  ∀ (g : Nat → Value) (s13 : Int) (w' : World),
  I [Value.int IntKind.i64 s13] w' →
  cnd (decide (s13 < (↑l'n : Int)))
  ((0 ≤ s13 ∧ s13 < (↑l'n : Int)) ∧
  Deref l' fun (a : Addr) =>
  ∃ (n : Int),
  ∃ (n_1 : Int),
  ∃ (n_2 : Int),
  ∃ (n_3 : Int),
  ∃ (n_4 : Int),
  (w'.cell? (a.add (s13.toNat * 5)) = some (Value.int IntKind.u8 n) ∧
  w'.cell? ((a.add (s13.toNat * 5)).add 1) = some (Value.int IntKind.u8 n_1) ∧
  w'.cell? ((a.add (s13.toNat * 5)).add 2) = some (Value.int IntKind.u8 n_2) ∧
  w'.cell? ((a.add (s13.toNat * 5)).add 3) = some (Value.int IntKind.u8 n_3) ∧
  w'.cell? ((a.add (s13.toNat * 5)).add 4) = some (Value.int IntKind.i64 n_4) ∧
  True) ∧
  ∀ (w'_1 : World),
  w'_1 =
  w'.alloc
  (Obj.cells
  #[Value.int IntKind.u8 0, Value.int IntKind.u8 0, Value.int IntKind.u8 0,
  Value.int IntKind.u8 0, Value.int IntKind.i64 0]
  35) →
  SetsAt w'_1 (Addr.mk w'.heap.size 0 none) 0
  [Value.int IntKind.u8 n, Value.int IntKind.u8 n_1, Value.int IntKind.u8 n_2,
  Value.int IntKind.u8 n_3, Value.int IntKind.i64 n_4] ∧
  ∀ (w'_2 : World),
  w'_2 =
  setCellsAt w'_1 (Addr.mk w'.heap.size 0 none) 0
  [Value.int IntKind.u8 n, Value.int IntKind.u8 n_1,
  Value.int IntKind.u8 n_2, Value.int IntKind.u8 n_3,
  Value.int IntKind.i64 n_4] →
  ∃ (n : Int),
  ∃ (n_5 : Int),
  ∃ (n_6 : Int),
  ∃ (n_7 : Int),
  ∃ (n_8 : Int),
  (w'_2.cell? (Addr.mk w'.heap.size 0 none) =
  some (Value.int IntKind.u8 n) ∧
  w'_2.cell? (Addr.mk w'.heap.size 1 none) =
  some (Value.int IntKind.u8 n_5) ∧
  w'_2.cell? (Addr.mk w'.heap.size 2 none) =
  some (Value.int IntKind.u8 n_6) ∧
  w'_2.cell? (Addr.mk w'.heap.size 3 none) =
  some (Value.int IntKind.u8 n_7) ∧
  w'_2.cell? (Addr.mk w'.heap.size 4 none) =
  some (Value.int IntKind.i64 n_8) ∧
  True) ∧
  Calls Proofs.Try.prog 24
  #[Value.agg
  #[Value.int IntKind.u8 n, Value.int IntKind.u8 n_5,
  Value.int IntKind.u8 n_6, Value.int IntKind.u8 n_7,
  Value.int IntKind.i64 n_8]]
  w'_2 fun (e : Ending) (w'_3 : World) =>
  ∃ (n : Int),
  ∃ (n_9 : Int),
  e =
  Ending.returned
  (Value.tuple
  #[Value.int IntKind.u32 n,
  Value.int IntKind.i64 n_9]) ∧
  cnd (n_9 != 0)
  (R
  (Ending.returned
  (Value.tuple
  #[Value.string (ByteArray.mk #[]),
  Value.int IntKind.i64 n_9]))
  w'_3)
  (Calls Proofs.Try.prog 25
  #[Value.int IntKind.u64 (IntKind.u64.wrap n),
  Value.int IntKind.i64 4]
  w'_3 fun (e : Ending) (w'_4 : World) =>
  ∃ (s : ByteArray),
  ∃ (n : Int),
  e =
  Ending.returned
  (Value.tuple
  #[Value.string s,
  Value.int IntKind.i64 n]) ∧
  Calls Proofs.Try.prog 26
  #[Value.pointer
  (some (Addr.mk w.heap.size 0 none)),
  Value.string s]
  w'_4 fun (e : Ending) (w'_5 : World) =>
  ∃ (n : Int),
  ∃ (v : Value),
  e =
  Ending.returned
  (Value.tuple
  #[Value.int IntKind.i64 n, v]) ∧
  Goes I μ [Value.int IntKind.i64 s13] w'
  [Value.int IntKind.i64
  (IntKind.i64.wrap (s13 + 1))]
  w'_5))
  (Calls Proofs.Try.prog 27 #[Value.pointer (some (Addr.mk w.heap.size 0 none))] w'
  fun (e : Ending) (w' : World) =>
  ∃ (s : ByteArray),
  e = Ending.returned (Value.string s) ∧
  R (Ending.returned (Value.tuple #[Value.string s, Value.int IntKind.i64 0])) w')
theorem insn_All.vc_eq (l' : Option Addr) (l'n : Nat) (l'c : Nat) (w : World) (R : Ending → World → Prop) : fnV Try.prog insn_All.H 14 [Value.slice l' l'n l'c] w R = insn_All.vc l' l'n l'c w R := by kernel_rfl
theorem insn_All.calls {l' : Option Addr} {l'n : Nat} {l'c : Nat} {w : World} {R : Ending → World → Prop} (h : insn_All.vc l' l'n l'c w R) : Calls Try.prog 14 ([Value.slice l' l'n l'c] : List Value).toArray w R := calls_of_eq (insn_All.vc_eq l' l'n l'c w R) h

end Go.Proofs.Ytglakmkedoklmaa
