/-
The explicit conditions of some functions of the program, printed by this repo's own program over VcTop: what is proved is that each is the condition.
Conditions: none.
-/
import Derived.Test.YtgdbgbphbkefcaaVcTop
import Derived.Test.YtgdbgbphbkefcaaProg
namespace Go.Proofs.Ytgdbgbphbkefcaa
open Go Go.Vc Go.RowKit
set_option linter.unusedVariables false
set_option maxRecDepth 100000

/- function 37: sacristy/sacristyref01.Sign -/
abbrev ref01_Sign.N : FuncId := 37
def ref01_Sign.H : Hints := { loops := [(6, [(6, .one (.int .u64)), (7, .one (.int .i64))])] }
def ref01_Sign.vc (v' : Int) (bits' : Int) (w : World) (R : Ending → World → Prop) : Prop :=
  cnd (decide (bits' < 1)) (R (Ending.returned (Value.tuple #[Value.int IntKind.u64 0, Value.int IntKind.i64 2])) w)
    (cnd (decide (bits' > 64)) (R (Ending.returned (Value.tuple #[Value.int IntKind.u64 0, Value.int IntKind.i64 2])) w)
      (∃ (I : List Value → World → Prop),
        ∃ (μ : List Value → World → Nat),
          I [Value.int IntKind.u64 0, Value.int IntKind.i64 63] w ∧
            ∀ (g : Nat → Value) (out i : Int) (w' : World),
              I [Value.int IntKind.u64 out, Value.int IntKind.i64 i] w' →
                cnd (decide (i ≥ 0))
                  (match decide (IntKind.u64.wrap (gomin i (IntKind.i64.wrap (bits' - 1))) < 0) with
                  | true => False
                  | false =>
                    Goes I μ [Value.int IntKind.u64 out, Value.int IntKind.i64 i] w'
                      [Value.int IntKind.u64
                          (IntKind.u64.wrap
                            (IntKind.u64.wrap (out * 2) +
                              (v'.fdiv
                                    (2 ^ min (IntKind.u64.wrap (gomin i (IntKind.i64.wrap (bits' - 1)))).toNat 64)).tmod
                                2)),
                        Value.int IntKind.i64 (IntKind.i64.wrap (i - 1))]
                      w')
                  (R (Ending.returned (Value.tuple #[Value.int IntKind.u64 out, Value.int IntKind.i64 0])) w')))
theorem ref01_Sign.vc_eq (v' : Int) (bits' : Int) (w : World) (R : Ending → World → Prop) : fnV Try.prog ref01_Sign.H 37 [Value.int IntKind.u64 v', Value.int IntKind.i64 bits'] w R = ref01_Sign.vc v' bits' w R := by kernel_rfl
theorem ref01_Sign.calls {v' : Int} {bits' : Int} {w : World} {R : Ending → World → Prop} (h : ref01_Sign.vc v' bits' w R) : Calls Try.prog 37 ([Value.int IntKind.u64 v', Value.int IntKind.i64 bits'] : List Value).toArray w R := calls_of_eq (ref01_Sign.vc_eq v' bits' w R) h

/- function 34: sacristy/sacristyref01.Fits -/
abbrev ref01_Fits.N : FuncId := 34
def ref01_Fits.H : Hints := {  }
def ref01_Fits.vc (v' : Int) (bits' : Int) (w : World) (R : Ending → World → Prop) : Prop :=
  Calls Proofs.Try.prog 37 #[Value.int IntKind.u64 (IntKind.u64.wrap v'), Value.int IntKind.i64 bits'] w
  fun (e : Ending) (w' : World) =>
  ∃ (n : Int),
  ∃ (n_1 : Int),
  e = Ending.returned (Value.tuple #[Value.int IntKind.u64 n, Value.int IntKind.i64 n_1]) ∧
  cnd (n_1 == 0) (R (Ending.returned (Value.bool (n == IntKind.u64.wrap v'))) w')
  (R (Ending.returned (Value.bool false)) w')
theorem ref01_Fits.vc_eq (v' : Int) (bits' : Int) (w : World) (R : Ending → World → Prop) : fnV Try.prog ref01_Fits.H 34 [Value.int IntKind.i64 v', Value.int IntKind.i64 bits'] w R = ref01_Fits.vc v' bits' w R := by kernel_rfl
theorem ref01_Fits.calls {v' : Int} {bits' : Int} {w : World} {R : Ending → World → Prop} (h : ref01_Fits.vc v' bits' w R) : Calls Try.prog 34 ([Value.int IntKind.i64 v', Value.int IntKind.i64 bits'] : List Value).toArray w R := calls_of_eq (ref01_Fits.vc_eq v' bits' w R) h

/- function 23: sacristy/sacristyref01.Bytes -/
abbrev ref01_Bytes.N : FuncId := 23
def ref01_Bytes.H : Hints := { loops := [(6, [(0, .one (.int .u64)), (6, .one .slice), (7, .one (.int .i64))])] }
def ref01_Bytes.vc (v' : Int) (n' : Int) (w : World) (R : Ending → World → Prop) : Prop :=
  cnd (decide (n' < 1)) (R (Ending.returned (Value.tuple #[Value.string (ByteArray.mk #[]), Value.int IntKind.i64 2])) w)
  (cnd (decide (n' > 8))
  (R (Ending.returned (Value.tuple #[Value.string (ByteArray.mk #[]), Value.int IntKind.i64 2])) w)
  (∃ (I : List Value → World → Prop),
  ∃ (μ : List Value → World → Nat),
  I [Value.int IntKind.u64 v', Value.slice none 0 0, Value.int IntKind.i64 0] w ∧
  ∀ (g : Nat → Value) (v : Int) (b : Option Addr) (bn bc : Nat) (i : Int) (w' : World),
  I [Value.int IntKind.u64 v, Value.slice b bn bc, Value.int IntKind.i64 i] w' →
  cnd (decide (i < n'))
  (∀ (w'_1 : World),
  w'_1 = w'.alloc (Obj.cells #[Value.int IntKind.u8 (IntKind.u8.wrap (v.tmod 256))] 5) →
  RunsV Proofs.Try.prog
  (Builtin.append_ #[55, 55] 55
  #[Value.slice b bn bc, Value.slice (some (Addr.mk w'.heap.size 0 none)) 1 1])
  w'_1 fun (v_1 : Value) (w'_2 : World) =>
  ∃ (p : Option Addr),
  ∃ (n : Nat),
  ∃ (c : Nat),
  v_1 = Value.slice p n c ∧
  Goes I μ [Value.int IntKind.u64 v, Value.slice b bn bc, Value.int IntKind.i64 i] w'
  [Value.int IntKind.u64 (IntKind.u64.wrap (v.tdiv 256)), Value.slice p n c,
  Value.int IntKind.i64 (IntKind.i64.wrap (i + 1))]
  w'_2)
  (RunsV Proofs.Try.prog (convert 55 9 (Value.slice b bn bc)) w' fun (v : Value) (w' : World) =>
  ∃ (s : ByteArray),
  v = Value.string s ∧
  R (Ending.returned (Value.tuple #[Value.string s, Value.int IntKind.i64 0])) w')))
theorem ref01_Bytes.vc_eq (v' : Int) (n' : Int) (w : World) (R : Ending → World → Prop) : fnV Try.prog ref01_Bytes.H 23 [Value.int IntKind.u64 v', Value.int IntKind.i64 n'] w R = ref01_Bytes.vc v' n' w R := by kernel_rfl
theorem ref01_Bytes.calls {v' : Int} {n' : Int} {w : World} {R : Ending → World → Prop} (h : ref01_Bytes.vc v' n' w R) : Calls Try.prog 23 ([Value.int IntKind.u64 v', Value.int IntKind.i64 n'] : List Value).toArray w R := calls_of_eq (ref01_Bytes.vc_eq v' n' w R) h

end Go.Proofs.Ytgdbgbphbkefcaa
