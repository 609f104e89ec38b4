/-
The explicit conditions of some functions of the program, printed by this repo's own program over VcTop: what is proved is that each is the condition.
Conditions: none.
-/
import Derived.Test.YtpfnjooddobohaaVcTop
import Derived.Test.YtpfnjooddobohaaProg
namespace Go.Proofs.Ytpfnjooddobohaa
open Go Go.Vc Go.RowKit
set_option linter.unusedVariables false
set_option maxRecDepth 100000

/- function 32: sacristy/word.table -/
abbrev word_table.N : FuncId := 32
def word_table.H : Hints := {  }
def word_table.vc (w : World) (R : Ending → World → Prop) : Prop :=
  ∀ (w' : World),
    w' =
        w.alloc
          (Obj.cells
            #[Value.nilFunc, Value.nilFunc, Value.nilFunc, Value.nilFunc, Value.nilFunc, Value.nilFunc, Value.nilFunc,
              Value.nilFunc, Value.nilFunc, Value.nilFunc, Value.nilFunc, Value.nilFunc, Value.nilFunc, Value.nilFunc,
              Value.nilFunc]
            54) →
      SetsAt w' (Addr.mk w.heap.size 0 none) 0
          [Value.nilFunc, Value.func (Fn.func 48) #[] #[], Value.func (Fn.func 49) #[] #[],
            Value.func (Fn.func 50) #[] #[], Value.func (Fn.func 51) #[] #[], Value.func (Fn.func 52) #[] #[],
            Value.func (Fn.func 54) #[] #[], Value.func (Fn.func 55) #[] #[], Value.func (Fn.func 56) #[] #[],
            Value.func (Fn.func 57) #[] #[], Value.func (Fn.func 58) #[] #[], Value.func (Fn.func 59) #[] #[],
            Value.func (Fn.func 60) #[] #[], Value.func (Fn.func 61) #[] #[], Value.func (Fn.func 62) #[] #[]] ∧
        ∀ (w'_1 : World),
          w'_1 =
              setCellsAt w' (Addr.mk w.heap.size 0 none) 0
                [Value.nilFunc, Value.func (Fn.func 48) #[] #[], Value.func (Fn.func 49) #[] #[],
                  Value.func (Fn.func 50) #[] #[], Value.func (Fn.func 51) #[] #[], Value.func (Fn.func 52) #[] #[],
                  Value.func (Fn.func 54) #[] #[], Value.func (Fn.func 55) #[] #[], Value.func (Fn.func 56) #[] #[],
                  Value.func (Fn.func 57) #[] #[], Value.func (Fn.func 58) #[] #[], Value.func (Fn.func 59) #[] #[],
                  Value.func (Fn.func 60) #[] #[], Value.func (Fn.func 61) #[] #[], Value.func (Fn.func 62) #[] #[]] →
            ∃ (cs : Array Value),
              cs.size = 15 ∧
                CellsAt w'_1 (Addr.mk w.heap.size 0 none) 0 cs.toList ∧ R (Ending.returned (Value.agg cs)) w'_1
theorem word_table.vc_eq (w : World) (R : Ending → World → Prop) : fnV Try.prog word_table.H 32 [] w R = word_table.vc w R := by kernel_rfl
theorem word_table.calls {w : World} {R : Ending → World → Prop} (h : word_table.vc w R) : Calls Try.prog 32 ([] : List Value).toArray w R := calls_of_eq (word_table.vc_eq w R) h

/- function 48: sacristy/word.table$1 -/
abbrev word_table_1.N : FuncId := 48
def word_table_1.H : Hints := {  }
def word_table_1.vc (a' : Int) (b' : Int) (w : World) (R : Ending → World → Prop) : Prop :=
  R (Ending.returned (Value.int IntKind.u64 (IntKind.u64.wrap (a' + b')))) w
theorem word_table_1.vc_eq (a' : Int) (b' : Int) (w : World) (R : Ending → World → Prop) : fnV Try.prog word_table_1.H 48 [Value.int IntKind.u64 a', Value.int IntKind.u64 b'] w R = word_table_1.vc a' b' w R := by kernel_rfl
theorem word_table_1.calls {a' : Int} {b' : Int} {w : World} {R : Ending → World → Prop} (h : word_table_1.vc a' b' w R) : Calls Try.prog 48 ([Value.int IntKind.u64 a', Value.int IntKind.u64 b'] : List Value).toArray w R := calls_of_eq (word_table_1.vc_eq a' b' w R) h

/- function 49: sacristy/word.table$2 -/
abbrev word_table_2.N : FuncId := 49
def word_table_2.H : Hints := {  }
def word_table_2.vc (a' : Int) (b' : Int) (w : World) (R : Ending → World → Prop) : Prop :=
  R (Ending.returned (Value.int IntKind.u64 (IntKind.u64.wrap (a' - b')))) w
theorem word_table_2.vc_eq (a' : Int) (b' : Int) (w : World) (R : Ending → World → Prop) : fnV Try.prog word_table_2.H 49 [Value.int IntKind.u64 a', Value.int IntKind.u64 b'] w R = word_table_2.vc a' b' w R := by kernel_rfl
theorem word_table_2.calls {a' : Int} {b' : Int} {w : World} {R : Ending → World → Prop} (h : word_table_2.vc a' b' w R) : Calls Try.prog 49 ([Value.int IntKind.u64 a', Value.int IntKind.u64 b'] : List Value).toArray w R := calls_of_eq (word_table_2.vc_eq a' b' w R) h

/- function 50: sacristy/word.sll -/
abbrev word_sll.N : FuncId := 50
def word_sll.H : Hints := {  }
def word_sll.vc (a' : Int) (b' : Int) (w : World) (R : Ending → World → Prop) : Prop :=
  cnd (decide (b'.tmod 64 < 0)) False
    (R (Ending.returned (Value.int IntKind.u64 (IntKind.u64.wrap (a' * 2 ^ min (b'.tmod 64).toNat 64)))) w)
theorem word_sll.vc_eq (a' : Int) (b' : Int) (w : World) (R : Ending → World → Prop) : fnV Try.prog word_sll.H 50 [Value.int IntKind.u64 a', Value.int IntKind.u64 b'] w R = word_sll.vc a' b' w R := by kernel_rfl
theorem word_sll.calls {a' : Int} {b' : Int} {w : World} {R : Ending → World → Prop} (h : word_sll.vc a' b' w R) : Calls Try.prog 50 ([Value.int IntKind.u64 a', Value.int IntKind.u64 b'] : List Value).toArray w R := calls_of_eq (word_sll.vc_eq a' b' w R) h

/- function 51: sacristy/word.slt -/
abbrev word_slt.N : FuncId := 51
def word_slt.H : Hints := {  }
def word_slt.vc (a' : Int) (b' : Int) (w : World) (R : Ending → World → Prop) : Prop :=
  Calls Proofs.Try.prog 53 #[Value.bool (decide (IntKind.i64.wrap a' < IntKind.i64.wrap b'))] w
    fun (e : Ending) (w' : World) =>
    ∃ (n : Int), e = Ending.returned (Value.int IntKind.u64 n) ∧ R (Ending.returned (Value.int IntKind.u64 n)) w'
theorem word_slt.vc_eq (a' : Int) (b' : Int) (w : World) (R : Ending → World → Prop) : fnV Try.prog word_slt.H 51 [Value.int IntKind.u64 a', Value.int IntKind.u64 b'] w R = word_slt.vc a' b' w R := by kernel_rfl
theorem word_slt.calls {a' : Int} {b' : Int} {w : World} {R : Ending → World → Prop} (h : word_slt.vc a' b' w R) : Calls Try.prog 51 ([Value.int IntKind.u64 a', Value.int IntKind.u64 b'] : List Value).toArray w R := calls_of_eq (word_slt.vc_eq a' b' w R) h

/- function 52: sacristy/word.table$3 -/
abbrev word_table_3.N : FuncId := 52
def word_table_3.H : Hints := {  }
def word_table_3.vc (a' : Int) (b' : Int) (w : World) (R : Ending → World → Prop) : Prop :=
  Calls Proofs.Try.prog 53 #[Value.bool (decide (a' < b'))] w fun (e : Ending) (w' : World) =>
    ∃ (n : Int), e = Ending.returned (Value.int IntKind.u64 n) ∧ R (Ending.returned (Value.int IntKind.u64 n)) w'
theorem word_table_3.vc_eq (a' : Int) (b' : Int) (w : World) (R : Ending → World → Prop) : fnV Try.prog word_table_3.H 52 [Value.int IntKind.u64 a', Value.int IntKind.u64 b'] w R = word_table_3.vc a' b' w R := by kernel_rfl
theorem word_table_3.calls {a' : Int} {b' : Int} {w : World} {R : Ending → World → Prop} (h : word_table_3.vc a' b' w R) : Calls Try.prog 52 ([Value.int IntKind.u64 a', Value.int IntKind.u64 b'] : List Value).toArray w R := calls_of_eq (word_table_3.vc_eq a' b' w R) h

/- function 53: sacristy/word.bit -/
abbrev word_bit.N : FuncId := 53
def word_bit.H : Hints := {  }
def word_bit.vc (is' : Bool) (w : World) (R : Ending → World → Prop) : Prop :=
  cnd is' (R (Ending.returned (Value.int IntKind.u64 1)) w) (R (Ending.returned (Value.int IntKind.u64 0)) w)
theorem word_bit.vc_eq (is' : Bool) (w : World) (R : Ending → World → Prop) : fnV Try.prog word_bit.H 53 [Value.bool is'] w R = word_bit.vc is' w R := by kernel_rfl
theorem word_bit.calls {is' : Bool} {w : World} {R : Ending → World → Prop} (h : word_bit.vc is' w R) : Calls Try.prog 53 ([Value.bool is'] : List Value).toArray w R := calls_of_eq (word_bit.vc_eq is' w R) h

/- function 54: sacristy/word.table$4 -/
abbrev word_table_4.N : FuncId := 54
def word_table_4.H : Hints := {  }
def word_table_4.vc (a' : Int) (b' : Int) (w : World) (R : Ending → World → Prop) : Prop :=
  R (Ending.returned (Value.int IntKind.u64 (bits BinOp.xor IntKind.u64 a' b'))) w
theorem word_table_4.vc_eq (a' : Int) (b' : Int) (w : World) (R : Ending → World → Prop) : fnV Try.prog word_table_4.H 54 [Value.int IntKind.u64 a', Value.int IntKind.u64 b'] w R = word_table_4.vc a' b' w R := by kernel_rfl
theorem word_table_4.calls {a' : Int} {b' : Int} {w : World} {R : Ending → World → Prop} (h : word_table_4.vc a' b' w R) : Calls Try.prog 54 ([Value.int IntKind.u64 a', Value.int IntKind.u64 b'] : List Value).toArray w R := calls_of_eq (word_table_4.vc_eq a' b' w R) h

/- function 55: sacristy/word.srl -/
abbrev word_srl.N : FuncId := 55
def word_srl.H : Hints := {  }
def word_srl.vc (a' : Int) (b' : Int) (w : World) (R : Ending → World → Prop) : Prop :=
  cnd (decide (b'.tmod 64 < 0)) False
    (R (Ending.returned (Value.int IntKind.u64 (a'.fdiv (2 ^ min (b'.tmod 64).toNat 64)))) w)
theorem word_srl.vc_eq (a' : Int) (b' : Int) (w : World) (R : Ending → World → Prop) : fnV Try.prog word_srl.H 55 [Value.int IntKind.u64 a', Value.int IntKind.u64 b'] w R = word_srl.vc a' b' w R := by kernel_rfl
theorem word_srl.calls {a' : Int} {b' : Int} {w : World} {R : Ending → World → Prop} (h : word_srl.vc a' b' w R) : Calls Try.prog 55 ([Value.int IntKind.u64 a', Value.int IntKind.u64 b'] : List Value).toArray w R := calls_of_eq (word_srl.vc_eq a' b' w R) h

/- function 56: sacristy/word.sra -/
abbrev word_sra.N : FuncId := 56
def word_sra.H : Hints := {  }
def word_sra.vc (a' : Int) (b' : Int) (w : World) (R : Ending → World → Prop) : Prop :=
  cnd (decide (b'.tmod 64 < 0)) False
    (R
      (Ending.returned
        (Value.int IntKind.u64 (IntKind.u64.wrap ((IntKind.i64.wrap a').fdiv (2 ^ min (b'.tmod 64).toNat 64)))))
      w)
theorem word_sra.vc_eq (a' : Int) (b' : Int) (w : World) (R : Ending → World → Prop) : fnV Try.prog word_sra.H 56 [Value.int IntKind.u64 a', Value.int IntKind.u64 b'] w R = word_sra.vc a' b' w R := by kernel_rfl
theorem word_sra.calls {a' : Int} {b' : Int} {w : World} {R : Ending → World → Prop} (h : word_sra.vc a' b' w R) : Calls Try.prog 56 ([Value.int IntKind.u64 a', Value.int IntKind.u64 b'] : List Value).toArray w R := calls_of_eq (word_sra.vc_eq a' b' w R) h

/- function 57: sacristy/word.table$5 -/
abbrev word_table_5.N : FuncId := 57
def word_table_5.H : Hints := {  }
def word_table_5.vc (a' : Int) (b' : Int) (w : World) (R : Ending → World → Prop) : Prop :=
  R (Ending.returned (Value.int IntKind.u64 (bits BinOp.or IntKind.u64 a' b'))) w
theorem word_table_5.vc_eq (a' : Int) (b' : Int) (w : World) (R : Ending → World → Prop) : fnV Try.prog word_table_5.H 57 [Value.int IntKind.u64 a', Value.int IntKind.u64 b'] w R = word_table_5.vc a' b' w R := by kernel_rfl
theorem word_table_5.calls {a' : Int} {b' : Int} {w : World} {R : Ending → World → Prop} (h : word_table_5.vc a' b' w R) : Calls Try.prog 57 ([Value.int IntKind.u64 a', Value.int IntKind.u64 b'] : List Value).toArray w R := calls_of_eq (word_table_5.vc_eq a' b' w R) h

/- function 58: sacristy/word.table$6 -/
abbrev word_table_6.N : FuncId := 58
def word_table_6.H : Hints := {  }
def word_table_6.vc (a' : Int) (b' : Int) (w : World) (R : Ending → World → Prop) : Prop :=
  R (Ending.returned (Value.int IntKind.u64 (bits BinOp.and IntKind.u64 a' b'))) w
theorem word_table_6.vc_eq (a' : Int) (b' : Int) (w : World) (R : Ending → World → Prop) : fnV Try.prog word_table_6.H 58 [Value.int IntKind.u64 a', Value.int IntKind.u64 b'] w R = word_table_6.vc a' b' w R := by kernel_rfl
theorem word_table_6.calls {a' : Int} {b' : Int} {w : World} {R : Ending → World → Prop} (h : word_table_6.vc a' b' w R) : Calls Try.prog 58 ([Value.int IntKind.u64 a', Value.int IntKind.u64 b'] : List Value).toArray w R := calls_of_eq (word_table_6.vc_eq a' b' w R) h

/- function 59: sacristy/word.table$7 -/
abbrev word_table_7.N : FuncId := 59
def word_table_7.H : Hints := {  }
def word_table_7.vc (a' : Int) (b' : Int) (w : World) (R : Ending → World → Prop) : Prop :=
  R (Ending.returned (Value.int IntKind.u64 (IntKind.u64.wrap (a' * b')))) w
theorem word_table_7.vc_eq (a' : Int) (b' : Int) (w : World) (R : Ending → World → Prop) : fnV Try.prog word_table_7.H 59 [Value.int IntKind.u64 a', Value.int IntKind.u64 b'] w R = word_table_7.vc a' b' w R := by kernel_rfl
theorem word_table_7.calls {a' : Int} {b' : Int} {w : World} {R : Ending → World → Prop} (h : word_table_7.vc a' b' w R) : Calls Try.prog 59 ([Value.int IntKind.u64 a', Value.int IntKind.u64 b'] : List Value).toArray w R := calls_of_eq (word_table_7.vc_eq a' b' w R) h

/- function 65: math/bits.Mul64 -/
abbrev math_bits_Mul64.N : FuncId := 65
def math_bits_Mul64.H : Hints := {  }
def math_bits_Mul64.vc (x' : Int) (y' : Int) (w : World) (R : Ending → World → Prop) : Prop :=
  R
    (Ending.returned
      (Value.tuple
        #[Value.int IntKind.u64
            (IntKind.u64.wrap
              (IntKind.u64.wrap
                  (IntKind.u64.wrap (x'.fdiv 4294967296 * y'.fdiv 4294967296) +
                    (IntKind.u64.wrap
                          (IntKind.u64.wrap (x'.fdiv 4294967296 * bits BinOp.and IntKind.u64 y' 4294967295) +
                            (IntKind.u64.wrap
                                  (bits BinOp.and IntKind.u64 x' 4294967295 *
                                    bits BinOp.and IntKind.u64 y' 4294967295)).fdiv
                              4294967296)).fdiv
                      4294967296) +
                (IntKind.u64.wrap
                      (bits BinOp.and IntKind.u64
                          (IntKind.u64.wrap
                            (IntKind.u64.wrap (x'.fdiv 4294967296 * bits BinOp.and IntKind.u64 y' 4294967295) +
                              (IntKind.u64.wrap
                                    (bits BinOp.and IntKind.u64 x' 4294967295 *
                                      bits BinOp.and IntKind.u64 y' 4294967295)).fdiv
                                4294967296))
                          4294967295 +
                        IntKind.u64.wrap (bits BinOp.and IntKind.u64 x' 4294967295 * y'.fdiv 4294967296))).fdiv
                  4294967296)),
          Value.int IntKind.u64 (IntKind.u64.wrap (x' * y'))]))
    w
theorem math_bits_Mul64.vc_eq (x' : Int) (y' : Int) (w : World) (R : Ending → World → Prop) : fnV Try.prog math_bits_Mul64.H 65 [Value.int IntKind.u64 x', Value.int IntKind.u64 y'] w R = math_bits_Mul64.vc x' y' w R := by kernel_rfl
theorem math_bits_Mul64.calls {x' : Int} {y' : Int} {w : World} {R : Ending → World → Prop} (h : math_bits_Mul64.vc x' y' w R) : Calls Try.prog 65 ([Value.int IntKind.u64 x', Value.int IntKind.u64 y'] : List Value).toArray w R := calls_of_eq (math_bits_Mul64.vc_eq x' y' w R) h

/- function 60: sacristy/word.mulhu -/
abbrev word_mulhu.N : FuncId := 60
def word_mulhu.H : Hints := {  }
def word_mulhu.vc (a' : Int) (b' : Int) (w : World) (R : Ending → World → Prop) : Prop :=
  Calls Proofs.Try.prog 65 #[Value.int IntKind.u64 a', Value.int IntKind.u64 b'] w fun (e : Ending) (w' : World) =>
    ∃ (n : Int),
      ∃ (n_1 : Int),
        e = Ending.returned (Value.tuple #[Value.int IntKind.u64 n, Value.int IntKind.u64 n_1]) ∧
          R (Ending.returned (Value.int IntKind.u64 n)) w'
theorem word_mulhu.vc_eq (a' : Int) (b' : Int) (w : World) (R : Ending → World → Prop) : fnV Try.prog word_mulhu.H 60 [Value.int IntKind.u64 a', Value.int IntKind.u64 b'] w R = word_mulhu.vc a' b' w R := by kernel_rfl
theorem word_mulhu.calls {a' : Int} {b' : Int} {w : World} {R : Ending → World → Prop} (h : word_mulhu.vc a' b' w R) : Calls Try.prog 60 ([Value.int IntKind.u64 a', Value.int IntKind.u64 b'] : List Value).toArray w R := calls_of_eq (word_mulhu.vc_eq a' b' w R) h

/- function 61: sacristy/word.divu -/
abbrev word_divu.N : FuncId := 61
def word_divu.H : Hints := {  }
def word_divu.vc (a' : Int) (b' : Int) (w : World) (R : Ending → World → Prop) : Prop :=
  cnd (b' == 0) (R (Ending.returned (Value.int IntKind.u64 18446744073709551615)) w)
    (cnd (decide (b' = 0)) False (R (Ending.returned (Value.int IntKind.u64 (IntKind.u64.wrap (a'.tdiv b')))) w))
theorem word_divu.vc_eq (a' : Int) (b' : Int) (w : World) (R : Ending → World → Prop) : fnV Try.prog word_divu.H 61 [Value.int IntKind.u64 a', Value.int IntKind.u64 b'] w R = word_divu.vc a' b' w R := by kernel_rfl
theorem word_divu.calls {a' : Int} {b' : Int} {w : World} {R : Ending → World → Prop} (h : word_divu.vc a' b' w R) : Calls Try.prog 61 ([Value.int IntKind.u64 a', Value.int IntKind.u64 b'] : List Value).toArray w R := calls_of_eq (word_divu.vc_eq a' b' w R) h

/- function 62: sacristy/word.remu -/
abbrev word_remu.N : FuncId := 62
def word_remu.H : Hints := {  }
def word_remu.vc (a' : Int) (b' : Int) (w : World) (R : Ending → World → Prop) : Prop :=
  cnd (b' == 0) (R (Ending.returned (Value.int IntKind.u64 a')) w)
    (cnd (decide (b' = 0)) False (R (Ending.returned (Value.int IntKind.u64 (a'.tmod b'))) w))
theorem word_remu.vc_eq (a' : Int) (b' : Int) (w : World) (R : Ending → World → Prop) : fnV Try.prog word_remu.H 62 [Value.int IntKind.u64 a', Value.int IntKind.u64 b'] w R = word_remu.vc a' b' w R := by kernel_rfl
theorem word_remu.calls {a' : Int} {b' : Int} {w : World} {R : Ending → World → Prop} (h : word_remu.vc a' b' w R) : Calls Try.prog 62 ([Value.int IntKind.u64 a', Value.int IntKind.u64 b'] : List Value).toArray w R := calls_of_eq (word_remu.vc_eq a' b' w R) h

/- function 19: sacristy/word.Op -/
abbrev word_Op.N : FuncId := 19
def word_Op.H : Hints := {  }
def word_Op.vc (fn' : Int) (a' : Int) (b' : Int) (w : World) (R : Ending → World → Prop) : Prop :=
  Calls Proofs.Try.prog 32 #[] w fun (e : Ending) (w' : World) =>
    ∃ (cs : Array Value),
      cs.size = 15 ∧
        e = Ending.returned (Value.agg cs) ∧
          ∀ (w'_1 : World),
            w'_1 =
                w'.alloc
                  (Obj.cells
                    #[Value.nilFunc, Value.nilFunc, Value.nilFunc, Value.nilFunc, Value.nilFunc, Value.nilFunc,
                      Value.nilFunc, Value.nilFunc, Value.nilFunc, Value.nilFunc, Value.nilFunc, Value.nilFunc,
                      Value.nilFunc, Value.nilFunc, Value.nilFunc]
                    54) →
              cnd (decide (cs.size = 15))
                (SetsAt w'_1 (Addr.mk w'.heap.size 0 none) 0 cs.toList ∧
                  ∀ (w'_2 : World),
                    w'_2 = setCellsAt w'_1 (Addr.mk w'.heap.size 0 none) 0 cs.toList →
                      cnd (decide (IntKind.i64.wrap fn' ≥ 15))
                        (R (Ending.returned (Value.tuple #[Value.int IntKind.u64 0, Value.int IntKind.i64 2])) w'_2)
                        ((0 ≤ fn' ∧ fn' < 15) ∧
                          ∃ (v : Value),
                            w'_2.cell? ((Addr.mk w'.heap.size 0 none).add (fn'.toNat * 1)) = some v ∧
                              ∃ (b : Bool),
                                EqRuns Proofs.Try.prog BinOp.eql 51 (Operand.tmp 17) (Operand.const Value.nilFunc) v
                                    Value.nilFunc b ∧
                                  cnd b
                                    (R (Ending.returned (Value.tuple #[Value.int IntKind.u64 0, Value.int IntKind.i64 2]))
                                      w'_2)
                                    ((0 ≤ fn' ∧ fn' < 15) ∧
                                      ∃ (v : Value),
                                        w'_2.cell? ((Addr.mk w'.heap.size 0 none).add (fn'.toNat * 1)) = some v ∧
                                          AsFn v fun (f : FuncId) (fi ca : Array Value) =>
                                            cnd (entersB Proofs.Try.prog f)
                                              (Calls Proofs.Try.prog f
                                                (fi ++ #[Value.int IntKind.u64 a', Value.int IntKind.u64 b'] ++ ca) w'_2
                                                fun (e : Ending) (w' : World) =>
                                                ∃ (n : Int),
                                                  e = Ending.returned (Value.int IntKind.u64 n) ∧
                                                    R
                                                      (Ending.returned
                                                        (Value.tuple #[Value.int IntKind.u64 n, Value.int IntKind.i64 0]))
                                                      w')
                                              (RunsC Proofs.Try.prog f
                                                (fi ++ #[Value.int IntKind.u64 a', Value.int IntKind.u64 b'] ++ ca) w'_2
                                                fun (v : Value) (w' : World) =>
                                                ∃ (n : Int),
                                                  v = Value.int IntKind.u64 n ∧
                                                    R
                                                      (Ending.returned
                                                        (Value.tuple #[Value.int IntKind.u64 n, Value.int IntKind.i64 0]))
                                                      w'))))
                False
theorem word_Op.vc_eq (fn' : Int) (a' : Int) (b' : Int) (w : World) (R : Ending → World → Prop) : fnV Try.prog word_Op.H 19 [Value.int IntKind.u8 fn', Value.int IntKind.u64 a', Value.int IntKind.u64 b'] w R = word_Op.vc fn' a' b' w R := by kernel_rfl
theorem word_Op.calls {fn' : Int} {a' : Int} {b' : Int} {w : World} {R : Ending → World → Prop} (h : word_Op.vc fn' a' b' w R) : Calls Try.prog 19 ([Value.int IntKind.u8 fn', Value.int IntKind.u64 a', Value.int IntKind.u64 b'] : List Value).toArray w R := calls_of_eq (word_Op.vc_eq fn' a' b' w R) h

end Go.Proofs.Ytpfnjooddobohaa
