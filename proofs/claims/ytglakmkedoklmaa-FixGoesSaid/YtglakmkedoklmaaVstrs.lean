/-
The explicit conditions of some functions of the program, printed by this repo's own program over VcTop: what is proved is that each is the condition.
Conditions: none.
-/
import Derived.Test.YtglakmkedoklmaaVcTop
import Derived.Test.YtglakmkedoklmaaProg
namespace Go.Proofs.Ytglakmkedoklmaa
open Go Go.Vc Go.RowKit
set_option linter.unusedVariables false
set_option maxRecDepth 100000

/- function 26: (*strings.Builder).WriteString -/
abbrev strings_Builder_WriteString.N : FuncId := 26
def strings_Builder_WriteString.H : Hints := {  }
def strings_Builder_WriteString.vc (b' : Option Addr) (s' : ByteArray) (w : World) (R : Ending → World → Prop) : Prop :=
  Calls Proofs.Try.prog 39 #[Value.pointer b'] w fun (e : Ending) (w' : World) =>
  e = Ending.returned (Value.tuple #[]) ∧
  Deref b' fun (a : Addr) =>
  ∃ (p : Option Addr),
  ∃ (n : Nat),
  ∃ (c : Nat),
  w'.cell? (a.add 1) = some (Value.slice p n c) ∧
  RunsV Proofs.Try.prog (Builtin.append_ #[61, 9] 61 #[Value.slice p n c, Value.string s']) w'
  fun (v : Value) (w' : World) =>
  ∃ (p : Option Addr),
  ∃ (n : Nat),
  ∃ (c : Nat),
  v = Value.slice p n c ∧
  Deref b' fun (a : Addr) =>
  ((w'.cell? (a.add 1)).isSome = true ∧ w'.frozen? (a.add 1) = false) ∧
  ∀ (w'_1 : World),
  w'_1 = w'.setCell (a.add 1) (Value.slice p n c) →
  R
  (Ending.returned
  (Value.tuple #[Value.int IntKind.i64 (↑s'.size : Int), Value.nilIface]))
  w'_1
theorem strings_Builder_WriteString.vc_eq (b' : Option Addr) (s' : ByteArray) (w : World) (R : Ending → World → Prop) : fnV Try.prog strings_Builder_WriteString.H 26 [Value.pointer b', Value.string s'] w R = strings_Builder_WriteString.vc b' s' w R := by kernel_rfl
theorem strings_Builder_WriteString.calls {b' : Option Addr} {s' : ByteArray} {w : World} {R : Ending → World → Prop} (h : strings_Builder_WriteString.vc b' s' w R) : Calls Try.prog 26 ([Value.pointer b', Value.string s'] : List Value).toArray w R := calls_of_eq (strings_Builder_WriteString.vc_eq b' s' w R) h

/- function 27: (*strings.Builder).String -/
abbrev strings_Builder_String.N : FuncId := 27
def strings_Builder_String.H : Hints := { tails := [(1, 10)] }
def strings_Builder_String.vc (b' : Option Addr) (w : World) (R : Ending → World → Prop) : Prop :=
  Deref b' fun (a : Addr) =>
  ∃ (p : Option Addr),
  ∃ (n : Nat),
  ∃ (c : Nat),
  (∀ (w' : World), Later w w' → w'.cell? (a.add 1) = some (Value.slice p n c)) ∧
  ∃ (p_1 : Option Addr),
  (∀ (w' : World),
  Later w w' →
  Sem.run Proofs.Try.prog (Builtin.unsafeSliceData_ #[61] 93 #[Value.slice p n c]) w' =
  Result.ok (Value.pointer p_1) w') ∧
  Deref b' fun (a : Addr) =>
  ∃ (p : Option Addr),
  ∃ (n : Nat),
  ∃ (c : Nat),
  (∀ (w' : World), Later w w' → w'.cell? (a.add 1) = some (Value.slice p n c)) ∧
  ∀ (w' : World),
  Later w w' →
  RunsV Proofs.Try.prog
  (Builtin.unsafeString_ #[93, 3] 9 #[Value.pointer p_1, Value.int IntKind.i64 (↑n : Int)])
  w' fun (v : Value) (w' : World) =>
  ∃ (s : ByteArray), v = Value.string s ∧ R (Ending.returned (Value.string s)) w'
theorem strings_Builder_String.vc_eq (b' : Option Addr) (w : World) (R : Ending → World → Prop) : fnV Try.prog strings_Builder_String.H 27 [Value.pointer b'] w R = strings_Builder_String.vc b' w R := by kernel_rfl
theorem strings_Builder_String.calls {b' : Option Addr} {w : World} {R : Ending → World → Prop} (h : strings_Builder_String.vc b' w R) : Calls Try.prog 27 ([Value.pointer b'] : List Value).toArray w R := calls_of_eq (strings_Builder_String.vc_eq b' w R) h

/- function 39: (*strings.Builder).copyCheck -/
abbrev strings_Builder_copyCheck.N : FuncId := 39
def strings_Builder_copyCheck.H : Hints := {  }
def strings_Builder_copyCheck.vc (b' : Option Addr) (w : World) (R : Ending → World → Prop) : Prop :=
  Deref b' fun (a : Addr) =>
  ∃ (p : Option Addr),
  w.cell? a = some (Value.pointer p) ∧
  ∃ (b : Bool),
  EqRuns Proofs.Try.prog BinOp.eql 60 (Operand.tmp 5) (Operand.const (Value.pointer none)) (Value.pointer p)
  (Value.pointer none) b ∧
  cnd b
  (RunsV Proofs.Try.prog (convert 60 101 (Value.pointer b')) w fun (v : Value) (w' : World) =>
  ∃ (p : Option Addr),
  v = Value.pointer p ∧
  RunsC Proofs.Try.prog 53 #[Value.pointer p] w' fun (v : Value) (w' : World) =>
  ∃ (p : Option Addr),
  v = Value.pointer p ∧
  RunsV Proofs.Try.prog (convert 101 60 (Value.pointer p)) w' fun (v : Value) (w' : World) =>
  ∃ (p : Option Addr),
  v = Value.pointer p ∧
  Deref b' fun (a : Addr) =>
  ((w'.cell? a).isSome = true ∧ w'.frozen? a = false) ∧
  ∀ (w'_1 : World),
  w'_1 = w'.setCell a (Value.pointer p) → R (Ending.returned (Value.tuple #[])) w'_1)
  (Deref b' fun (a_1 : Addr) =>
  ∃ (p_1 : Option Addr),
  w.cell? a_1 = some (Value.pointer p_1) ∧
  ∃ (b_1 : Bool),
  EqRuns Proofs.Try.prog BinOp.neq 60 (Operand.tmp 17) (Operand.tmp 18) (Value.pointer p_1)
  (Value.pointer b') b_1 ∧
  cnd b_1
  (RawWp Proofs.Try.prog
  (Code.refuse
  "(*strings.Builder).copyCheck builder.go:41: unsupported: a written strings.Builder's value in another place: whether the library's copy check passes hangs on where the compiler lays the two")
  (endQ Proofs.Try.prog Proofs.Try.prog.funcs[39] R)
  [Value.pointer b', Value.tuple #[], Value.pointer b', Value.pointer (some a),
  Value.pointer (some a), Value.pointer p, Value.bool b, Value.tuple #[], Value.tuple #[],
  Value.tuple #[], Value.tuple #[], Value.tuple #[], Value.tuple #[], Value.tuple #[],
  Value.pointer b', Value.pointer (some a_1), Value.pointer (some a_1), Value.pointer p_1,
  Value.pointer b', Value.bool b_1]
  w)
  (R (Ending.returned (Value.tuple #[])) w))
theorem strings_Builder_copyCheck.vc_eq (b' : Option Addr) (w : World) (R : Ending → World → Prop) : fnV Try.prog strings_Builder_copyCheck.H 39 [Value.pointer b'] w R = strings_Builder_copyCheck.vc b' w R := by kernel_rfl
theorem strings_Builder_copyCheck.calls {b' : Option Addr} {w : World} {R : Ending → World → Prop} (h : strings_Builder_copyCheck.vc b' w R) : Calls Try.prog 39 ([Value.pointer b'] : List Value).toArray w R := calls_of_eq (strings_Builder_copyCheck.vc_eq b' w R) h

end Go.Proofs.Ytglakmkedoklmaa
