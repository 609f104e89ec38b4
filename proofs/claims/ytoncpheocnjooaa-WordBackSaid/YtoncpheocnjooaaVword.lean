/-
The explicit conditions of some functions of the program, printed by this repo's own program over VcTop: what is proved is that each is the condition.
Conditions: none.
-/
import Derived.Test.YtoncpheocnjooaaVcTop
import Derived.Test.YtoncpheocnjooaaProg
namespace Go.Proofs.Ytoncpheocnjooaa
open Go Go.Vc Go.RowKit
set_option linter.unusedVariables false
set_option maxRecDepth 100000

/- function 19: sacristy/word.table -/
abbrev word_table.N : FuncId := 19
def word_table.H : Hints := {  }
def word_table.vc (w : World) (R : Ending → World → Prop) : Prop :=
  ∀ (w' : World),
    w' =
        w.alloc
          (Obj.cells
            #[Value.nilFunc, Value.nilFunc, Value.nilFunc, Value.nilFunc, Value.nilFunc, Value.nilFunc, Value.nilFunc,
              Value.nilFunc, Value.nilFunc, Value.nilFunc, Value.nilFunc, Value.nilFunc, Value.nilFunc, Value.nilFunc,
              Value.nilFunc]
            41) →
      SetsAt w' (Addr.mk w.heap.size 0 none) 0
          [Value.nilFunc, Value.func (Fn.func 23) #[] #[], Value.func (Fn.func 24) #[] #[],
            Value.func (Fn.func 25) #[] #[], Value.func (Fn.func 26) #[] #[], Value.func (Fn.func 27) #[] #[],
            Value.func (Fn.func 29) #[] #[], Value.func (Fn.func 30) #[] #[], Value.func (Fn.func 31) #[] #[],
            Value.func (Fn.func 32) #[] #[], Value.func (Fn.func 33) #[] #[], Value.func (Fn.func 34) #[] #[],
            Value.func (Fn.func 35) #[] #[], Value.func (Fn.func 36) #[] #[], Value.func (Fn.func 37) #[] #[]] ∧
        ∀ (w'_1 : World),
          w'_1 =
              setCellsAt w' (Addr.mk w.heap.size 0 none) 0
                [Value.nilFunc, Value.func (Fn.func 23) #[] #[], Value.func (Fn.func 24) #[] #[],
                  Value.func (Fn.func 25) #[] #[], Value.func (Fn.func 26) #[] #[], Value.func (Fn.func 27) #[] #[],
                  Value.func (Fn.func 29) #[] #[], Value.func (Fn.func 30) #[] #[], Value.func (Fn.func 31) #[] #[],
                  Value.func (Fn.func 32) #[] #[], Value.func (Fn.func 33) #[] #[], Value.func (Fn.func 34) #[] #[],
                  Value.func (Fn.func 35) #[] #[], Value.func (Fn.func 36) #[] #[], Value.func (Fn.func 37) #[] #[]] →
            ∃ (cs : Array Value),
              cs.size = 15 ∧
                CellsAt w'_1 (Addr.mk w.heap.size 0 none) 0 cs.toList ∧ R (Ending.returned (Value.agg cs)) w'_1
theorem word_table.vc_eq (w : World) (R : Ending → World → Prop) : fnV Try.prog word_table.H 19 [] w R = word_table.vc w R := by kernel_rfl
theorem word_table.calls {w : World} {R : Ending → World → Prop} (h : word_table.vc w R) : Calls Try.prog 19 ([] : List Value).toArray w R := calls_of_eq (word_table.vc_eq w R) h

/- function 23: sacristy/word.table$1 -/
abbrev word_table_1.N : FuncId := 23
def word_table_1.H : Hints := {  }
def word_table_1.vc (a' : Int) (b' : Int) (w : World) (R : Ending → World → Prop) : Prop :=
  R (Ending.returned (Value.int IntKind.u64 (IntKind.u64.wrap (a' + b')))) w
theorem word_table_1.vc_eq (a' : Int) (b' : Int) (w : World) (R : Ending → World → Prop) : fnV Try.prog word_table_1.H 23 [Value.int IntKind.u64 a', Value.int IntKind.u64 b'] w R = word_table_1.vc a' b' w R := by kernel_rfl
theorem word_table_1.calls {a' : Int} {b' : Int} {w : World} {R : Ending → World → Prop} (h : word_table_1.vc a' b' w R) : Calls Try.prog 23 ([Value.int IntKind.u64 a', Value.int IntKind.u64 b'] : List Value).toArray w R := calls_of_eq (word_table_1.vc_eq a' b' w R) h

/- function 24: sacristy/word.table$2 -/
abbrev word_table_2.N : FuncId := 24
def word_table_2.H : Hints := {  }
def word_table_2.vc (a' : Int) (b' : Int) (w : World) (R : Ending → World → Prop) : Prop :=
  R (Ending.returned (Value.int IntKind.u64 (IntKind.u64.wrap (a' - b')))) w
theorem word_table_2.vc_eq (a' : Int) (b' : Int) (w : World) (R : Ending → World → Prop) : fnV Try.prog word_table_2.H 24 [Value.int IntKind.u64 a', Value.int IntKind.u64 b'] w R = word_table_2.vc a' b' w R := by kernel_rfl
theorem word_table_2.calls {a' : Int} {b' : Int} {w : World} {R : Ending → World → Prop} (h : word_table_2.vc a' b' w R) : Calls Try.prog 24 ([Value.int IntKind.u64 a', Value.int IntKind.u64 b'] : List Value).toArray w R := calls_of_eq (word_table_2.vc_eq a' b' w R) h

/- function 25: sacristy/word.sll -/
abbrev word_sll.N : FuncId := 25
def word_sll.H : Hints := {  }
def word_sll.vc (a' : Int) (b' : Int) (w : World) (R : Ending → World → Prop) : Prop :=
  cnd (decide (b'.tmod 64 < 0)) False
    (R (Ending.returned (Value.int IntKind.u64 (IntKind.u64.wrap (a' * 2 ^ min (b'.tmod 64).toNat 64)))) w)
theorem word_sll.vc_eq (a' : Int) (b' : Int) (w : World) (R : Ending → World → Prop) : fnV Try.prog word_sll.H 25 [Value.int IntKind.u64 a', Value.int IntKind.u64 b'] w R = word_sll.vc a' b' w R := by kernel_rfl
theorem word_sll.calls {a' : Int} {b' : Int} {w : World} {R : Ending → World → Prop} (h : word_sll.vc a' b' w R) : Calls Try.prog 25 ([Value.int IntKind.u64 a', Value.int IntKind.u64 b'] : List Value).toArray w R := calls_of_eq (word_sll.vc_eq a' b' w R) h

/- function 26: sacristy/word.slt -/
abbrev word_slt.N : FuncId := 26
def word_slt.H : Hints := {  }
def word_slt.vc (a' : Int) (b' : Int) (w : World) (R : Ending → World → Prop) : Prop :=
  Calls Proofs.Try.prog 28 #[Value.bool (decide (IntKind.i64.wrap a' < IntKind.i64.wrap b'))] w
    fun (e : Ending) (w' : World) =>
    ∃ (n : Int), e = Ending.returned (Value.int IntKind.u64 n) ∧ R (Ending.returned (Value.int IntKind.u64 n)) w'
theorem word_slt.vc_eq (a' : Int) (b' : Int) (w : World) (R : Ending → World → Prop) : fnV Try.prog word_slt.H 26 [Value.int IntKind.u64 a', Value.int IntKind.u64 b'] w R = word_slt.vc a' b' w R := by kernel_rfl
theorem word_slt.calls {a' : Int} {b' : Int} {w : World} {R : Ending → World → Prop} (h : word_slt.vc a' b' w R) : Calls Try.prog 26 ([Value.int IntKind.u64 a', Value.int IntKind.u64 b'] : List Value).toArray w R := calls_of_eq (word_slt.vc_eq a' b' w R) h

/- function 27: sacristy/word.table$3 -/
abbrev word_table_3.N : FuncId := 27
def word_table_3.H : Hints := {  }
def word_table_3.vc (a' : Int) (b' : Int) (w : World) (R : Ending → World → Prop) : Prop :=
  Calls Proofs.Try.prog 28 #[Value.bool (decide (a' < b'))] w fun (e : Ending) (w' : World) =>
    ∃ (n : Int), e = Ending.returned (Value.int IntKind.u64 n) ∧ R (Ending.returned (Value.int IntKind.u64 n)) w'
theorem word_table_3.vc_eq (a' : Int) (b' : Int) (w : World) (R : Ending → World → Prop) : fnV Try.prog word_table_3.H 27 [Value.int IntKind.u64 a', Value.int IntKind.u64 b'] w R = word_table_3.vc a' b' w R := by kernel_rfl
theorem word_table_3.calls {a' : Int} {b' : Int} {w : World} {R : Ending → World → Prop} (h : word_table_3.vc a' b' w R) : Calls Try.prog 27 ([Value.int IntKind.u64 a', Value.int IntKind.u64 b'] : List Value).toArray w R := calls_of_eq (word_table_3.vc_eq a' b' w R) h

/- function 28: sacristy/word.bit -/
abbrev word_bit.N : FuncId := 28
def word_bit.H : Hints := {  }
def word_bit.vc (is' : Bool) (w : World) (R : Ending → World → Prop) : Prop :=
  cnd is' (R (Ending.returned (Value.int IntKind.u64 1)) w) (R (Ending.returned (Value.int IntKind.u64 0)) w)
theorem word_bit.vc_eq (is' : Bool) (w : World) (R : Ending → World → Prop) : fnV Try.prog word_bit.H 28 [Value.bool is'] w R = word_bit.vc is' w R := by kernel_rfl
theorem word_bit.calls {is' : Bool} {w : World} {R : Ending → World → Prop} (h : word_bit.vc is' w R) : Calls Try.prog 28 ([Value.bool is'] : List Value).toArray w R := calls_of_eq (word_bit.vc_eq is' w R) h

/- function 29: sacristy/word.table$4 -/
abbrev word_table_4.N : FuncId := 29
def word_table_4.H : Hints := {  }
def word_table_4.vc (a' : Int) (b' : Int) (w : World) (R : Ending → World → Prop) : Prop :=
  R (Ending.returned (Value.int IntKind.u64 (bits BinOp.xor IntKind.u64 a' b'))) w
theorem word_table_4.vc_eq (a' : Int) (b' : Int) (w : World) (R : Ending → World → Prop) : fnV Try.prog word_table_4.H 29 [Value.int IntKind.u64 a', Value.int IntKind.u64 b'] w R = word_table_4.vc a' b' w R := by kernel_rfl
theorem word_table_4.calls {a' : Int} {b' : Int} {w : World} {R : Ending → World → Prop} (h : word_table_4.vc a' b' w R) : Calls Try.prog 29 ([Value.int IntKind.u64 a', Value.int IntKind.u64 b'] : List Value).toArray w R := calls_of_eq (word_table_4.vc_eq a' b' w R) h

/- function 30: sacristy/word.srl -/
abbrev word_srl.N : FuncId := 30
def word_srl.H : Hints := {  }
def word_srl.vc (a' : Int) (b' : Int) (w : World) (R : Ending → World → Prop) : Prop :=
  cnd (decide (b'.tmod 64 < 0)) False
    (R (Ending.returned (Value.int IntKind.u64 (a'.fdiv (2 ^ min (b'.tmod 64).toNat 64)))) w)
theorem word_srl.vc_eq (a' : Int) (b' : Int) (w : World) (R : Ending → World → Prop) : fnV Try.prog word_srl.H 30 [Value.int IntKind.u64 a', Value.int IntKind.u64 b'] w R = word_srl.vc a' b' w R := by kernel_rfl
theorem word_srl.calls {a' : Int} {b' : Int} {w : World} {R : Ending → World → Prop} (h : word_srl.vc a' b' w R) : Calls Try.prog 30 ([Value.int IntKind.u64 a', Value.int IntKind.u64 b'] : List Value).toArray w R := calls_of_eq (word_srl.vc_eq a' b' w R) h

/- function 31: sacristy/word.sra -/
abbrev word_sra.N : FuncId := 31
def word_sra.H : Hints := {  }
def word_sra.vc (a' : Int) (b' : Int) (w : World) (R : Ending → World → Prop) : Prop :=
  cnd (decide (b'.tmod 64 < 0)) False
    (R
      (Ending.returned
        (Value.int IntKind.u64 (IntKind.u64.wrap ((IntKind.i64.wrap a').fdiv (2 ^ min (b'.tmod 64).toNat 64)))))
      w)
theorem word_sra.vc_eq (a' : Int) (b' : Int) (w : World) (R : Ending → World → Prop) : fnV Try.prog word_sra.H 31 [Value.int IntKind.u64 a', Value.int IntKind.u64 b'] w R = word_sra.vc a' b' w R := by kernel_rfl
theorem word_sra.calls {a' : Int} {b' : Int} {w : World} {R : Ending → World → Prop} (h : word_sra.vc a' b' w R) : Calls Try.prog 31 ([Value.int IntKind.u64 a', Value.int IntKind.u64 b'] : List Value).toArray w R := calls_of_eq (word_sra.vc_eq a' b' w R) h

/- function 32: sacristy/word.table$5 -/
abbrev word_table_5.N : FuncId := 32
def word_table_5.H : Hints := {  }
def word_table_5.vc (a' : Int) (b' : Int) (w : World) (R : Ending → World → Prop) : Prop :=
  R (Ending.returned (Value.int IntKind.u64 (bits BinOp.or IntKind.u64 a' b'))) w
theorem word_table_5.vc_eq (a' : Int) (b' : Int) (w : World) (R : Ending → World → Prop) : fnV Try.prog word_table_5.H 32 [Value.int IntKind.u64 a', Value.int IntKind.u64 b'] w R = word_table_5.vc a' b' w R := by kernel_rfl
theorem word_table_5.calls {a' : Int} {b' : Int} {w : World} {R : Ending → World → Prop} (h : word_table_5.vc a' b' w R) : Calls Try.prog 32 ([Value.int IntKind.u64 a', Value.int IntKind.u64 b'] : List Value).toArray w R := calls_of_eq (word_table_5.vc_eq a' b' w R) h

/- function 33: sacristy/word.table$6 -/
abbrev word_table_6.N : FuncId := 33
def word_table_6.H : Hints := {  }
def word_table_6.vc (a' : Int) (b' : Int) (w : World) (R : Ending → World → Prop) : Prop :=
  R (Ending.returned (Value.int IntKind.u64 (bits BinOp.and IntKind.u64 a' b'))) w
theorem word_table_6.vc_eq (a' : Int) (b' : Int) (w : World) (R : Ending → World → Prop) : fnV Try.prog word_table_6.H 33 [Value.int IntKind.u64 a', Value.int IntKind.u64 b'] w R = word_table_6.vc a' b' w R := by kernel_rfl
theorem word_table_6.calls {a' : Int} {b' : Int} {w : World} {R : Ending → World → Prop} (h : word_table_6.vc a' b' w R) : Calls Try.prog 33 ([Value.int IntKind.u64 a', Value.int IntKind.u64 b'] : List Value).toArray w R := calls_of_eq (word_table_6.vc_eq a' b' w R) h

/- function 34: sacristy/word.table$7 -/
abbrev word_table_7.N : FuncId := 34
def word_table_7.H : Hints := {  }
def word_table_7.vc (a' : Int) (b' : Int) (w : World) (R : Ending → World → Prop) : Prop :=
  R (Ending.returned (Value.int IntKind.u64 (IntKind.u64.wrap (a' * b')))) w
theorem word_table_7.vc_eq (a' : Int) (b' : Int) (w : World) (R : Ending → World → Prop) : fnV Try.prog word_table_7.H 34 [Value.int IntKind.u64 a', Value.int IntKind.u64 b'] w R = word_table_7.vc a' b' w R := by kernel_rfl
theorem word_table_7.calls {a' : Int} {b' : Int} {w : World} {R : Ending → World → Prop} (h : word_table_7.vc a' b' w R) : Calls Try.prog 34 ([Value.int IntKind.u64 a', Value.int IntKind.u64 b'] : List Value).toArray w R := calls_of_eq (word_table_7.vc_eq a' b' w R) h

/- function 38: math/bits.Mul64 -/
abbrev math_bits_Mul64.N : FuncId := 38
def math_bits_Mul64.H : Hints := {  }
def math_bits_Mul64.vc (x' : Int) (y' : Int) (w : World) (R : Ending → World → Prop) : Prop :=
  R
    (Ending.returned
      (Value.tuple
        #[Value.int IntKind.u64
            (IntKind.u64.wrap
              (IntKind.u64.wrap
                  (IntKind.u64.wrap (x'.fdiv 4294967296 * y'.fdiv 4294967296) +
                    (IntKind.u64.wrap
                          (IntKind.u64.wrap (x'.fdiv 4294967296 * bits BinOp.and IntKind.u64 y' 4294967295) +
                            (IntKind.u64.wrap
                                  (bits BinOp.and IntKind.u64 x' 4294967295 *
                                    bits BinOp.and IntKind.u64 y' 4294967295)).fdiv
                              4294967296)).fdiv
                      4294967296) +
                (IntKind.u64.wrap
                      (bits BinOp.and IntKind.u64
                          (IntKind.u64.wrap
                            (IntKind.u64.wrap (x'.fdiv 4294967296 * bits BinOp.and IntKind.u64 y' 4294967295) +
                              (IntKind.u64.wrap
                                    (bits BinOp.and IntKind.u64 x' 4294967295 *
                                      bits BinOp.and IntKind.u64 y' 4294967295)).fdiv
                                4294967296))
                          4294967295 +
                        IntKind.u64.wrap (bits BinOp.and IntKind.u64 x' 4294967295 * y'.fdiv 4294967296))).fdiv
                  4294967296)),
          Value.int IntKind.u64 (IntKind.u64.wrap (x' * y'))]))
    w
theorem math_bits_Mul64.vc_eq (x' : Int) (y' : Int) (w : World) (R : Ending → World → Prop) : fnV Try.prog math_bits_Mul64.H 38 [Value.int IntKind.u64 x', Value.int IntKind.u64 y'] w R = math_bits_Mul64.vc x' y' w R := by kernel_rfl
theorem math_bits_Mul64.calls {x' : Int} {y' : Int} {w : World} {R : Ending → World → Prop} (h : math_bits_Mul64.vc x' y' w R) : Calls Try.prog 38 ([Value.int IntKind.u64 x', Value.int IntKind.u64 y'] : List Value).toArray w R := calls_of_eq (math_bits_Mul64.vc_eq x' y' w R) h

/- function 35: sacristy/word.mulhu -/
abbrev word_mulhu.N : FuncId := 35
def word_mulhu.H : Hints := {  }
def word_mulhu.vc (a' : Int) (b' : Int) (w : World) (R : Ending → World → Prop) : Prop :=
  Calls Proofs.Try.prog 38 #[Value.int IntKind.u64 a', Value.int IntKind.u64 b'] w fun (e : Ending) (w' : World) =>
    ∃ (n : Int),
      ∃ (n_1 : Int),
        e = Ending.returned (Value.tuple #[Value.int IntKind.u64 n, Value.int IntKind.u64 n_1]) ∧
          R (Ending.returned (Value.int IntKind.u64 n)) w'
theorem word_mulhu.vc_eq (a' : Int) (b' : Int) (w : World) (R : Ending → World → Prop) : fnV Try.prog word_mulhu.H 35 [Value.int IntKind.u64 a', Value.int IntKind.u64 b'] w R = word_mulhu.vc a' b' w R := by kernel_rfl
theorem word_mulhu.calls {a' : Int} {b' : Int} {w : World} {R : Ending → World → Prop} (h : word_mulhu.vc a' b' w R) : Calls Try.prog 35 ([Value.int IntKind.u64 a', Value.int IntKind.u64 b'] : List Value).toArray w R := calls_of_eq (word_mulhu.vc_eq a' b' w R) h

/- function 36: sacristy/word.divu -/
abbrev word_divu.N : FuncId := 36
def word_divu.H : Hints := {  }
def word_divu.vc (a' : Int) (b' : Int) (w : World) (R : Ending → World → Prop) : Prop :=
  cnd (b' == 0) (R (Ending.returned (Value.int IntKind.u64 18446744073709551615)) w)
    (cnd (decide (b' = 0)) False (R (Ending.returned (Value.int IntKind.u64 (IntKind.u64.wrap (a'.tdiv b')))) w))
theorem word_divu.vc_eq (a' : Int) (b' : Int) (w : World) (R : Ending → World → Prop) : fnV Try.prog word_divu.H 36 [Value.int IntKind.u64 a', Value.int IntKind.u64 b'] w R = word_divu.vc a' b' w R := by kernel_rfl
theorem word_divu.calls {a' : Int} {b' : Int} {w : World} {R : Ending → World → Prop} (h : word_divu.vc a' b' w R) : Calls Try.prog 36 ([Value.int IntKind.u64 a', Value.int IntKind.u64 b'] : List Value).toArray w R := calls_of_eq (word_divu.vc_eq a' b' w R) h

/- function 37: sacristy/word.remu -/
abbrev word_remu.N : FuncId := 37
def word_remu.H : Hints := {  }
def word_remu.vc (a' : Int) (b' : Int) (w : World) (R : Ending → World → Prop) : Prop :=
  cnd (b' == 0) (R (Ending.returned (Value.int IntKind.u64 a')) w)
    (cnd (decide (b' = 0)) False (R (Ending.returned (Value.int IntKind.u64 (a'.tmod b'))) w))
theorem word_remu.vc_eq (a' : Int) (b' : Int) (w : World) (R : Ending → World → Prop) : fnV Try.prog word_remu.H 37 [Value.int IntKind.u64 a', Value.int IntKind.u64 b'] w R = word_remu.vc a' b' w R := by kernel_rfl
theorem word_remu.calls {a' : Int} {b' : Int} {w : World} {R : Ending → World → Prop} (h : word_remu.vc a' b' w R) : Calls Try.prog 37 ([Value.int IntKind.u64 a', Value.int IntKind.u64 b'] : List Value).toArray w R := calls_of_eq (word_remu.vc_eq a' b' w R) h

/- function 7: sacristy/word.Op -/
abbrev word_Op.N : FuncId := 7
def word_Op.H : Hints := {  }
def word_Op.vc (fn' : Int) (a' : Int) (b' : Int) (w : World) (R : Ending → World → Prop) : Prop :=
  Calls Proofs.Try.prog 19 #[] w fun (e : Ending) (w' : World) =>
    ∃ (cs : Array Value),
      cs.size = 15 ∧
        e = Ending.returned (Value.agg cs) ∧
          ∀ (w'_1 : World),
            w'_1 =
                w'.alloc
                  (Obj.cells
                    #[Value.nilFunc, Value.nilFunc, Value.nilFunc, Value.nilFunc, Value.nilFunc, Value.nilFunc,
                      Value.nilFunc, Value.nilFunc, Value.nilFunc, Value.nilFunc, Value.nilFunc, Value.nilFunc,
                      Value.nilFunc, Value.nilFunc, Value.nilFunc]
                    41) →
              cnd (decide (cs.size = 15))
                (SetsAt w'_1 (Addr.mk w'.heap.size 0 none) 0 cs.toList ∧
                  ∀ (w'_2 : World),
                    w'_2 = setCellsAt w'_1 (Addr.mk w'.heap.size 0 none) 0 cs.toList →
                      cnd (decide (IntKind.i64.wrap fn' ≥ 15))
                        (R (Ending.returned (Value.tuple #[Value.int IntKind.u64 0, Value.int IntKind.i64 2])) w'_2)
                        ((0 ≤ fn' ∧ fn' < 15) ∧
                          ∃ (v : Value),
                            w'_2.cell? ((Addr.mk w'.heap.size 0 none).add (fn'.toNat * 1)) = some v ∧
                              ∃ (b : Bool),
                                EqRuns Proofs.Try.prog BinOp.eql 38 (Operand.tmp 17) (Operand.const Value.nilFunc) v
                                    Value.nilFunc b ∧
                                  cnd b
                                    (R (Ending.returned (Value.tuple #[Value.int IntKind.u64 0, Value.int IntKind.i64 2]))
                                      w'_2)
                                    ((0 ≤ fn' ∧ fn' < 15) ∧
                                      ∃ (v : Value),
                                        w'_2.cell? ((Addr.mk w'.heap.size 0 none).add (fn'.toNat * 1)) = some v ∧
                                          AsFn v fun (f : FuncId) (fi ca : Array Value) =>
                                            cnd (entersB Proofs.Try.prog f)
                                              (Calls Proofs.Try.prog f
                                                (fi ++ #[Value.int IntKind.u64 a', Value.int IntKind.u64 b'] ++ ca) w'_2
                                                fun (e : Ending) (w' : World) =>
                                                ∃ (n : Int),
                                                  e = Ending.returned (Value.int IntKind.u64 n) ∧
                                                    R
                                                      (Ending.returned
                                                        (Value.tuple #[Value.int IntKind.u64 n, Value.int IntKind.i64 0]))
                                                      w')
                                              False)))
                False
theorem word_Op.vc_eq (fn' : Int) (a' : Int) (b' : Int) (w : World) (R : Ending → World → Prop) : fnV Try.prog word_Op.H 7 [Value.int IntKind.u8 fn', Value.int IntKind.u64 a', Value.int IntKind.u64 b'] w R = word_Op.vc fn' a' b' w R := by kernel_rfl
theorem word_Op.calls {fn' : Int} {a' : Int} {b' : Int} {w : World} {R : Ending → World → Prop} (h : word_Op.vc fn' a' b' w R) : Calls Try.prog 7 ([Value.int IntKind.u8 fn', Value.int IntKind.u64 a', Value.int IntKind.u64 b'] : List Value).toArray w R := calls_of_eq (word_Op.vc_eq fn' a' b' w R) h

/- function 10: sacristy/word.Sign -/
abbrev word_Sign.N : FuncId := 10
def word_Sign.H : Hints := {  }
def word_Sign.vc (v' : Int) (bits' : Int) (w : World) (R : Ending → World → Prop) : Prop :=
  cnd (decide (bits' < 1)) (R (Ending.returned (Value.tuple #[Value.int IntKind.u64 0, Value.int IntKind.i64 2])) w)
    (cnd (decide (bits' > 64)) (R (Ending.returned (Value.tuple #[Value.int IntKind.u64 0, Value.int IntKind.i64 2])) w)
      (cnd (decide (IntKind.i64.wrap (64 - bits') < 0)) False
        (cnd (decide (IntKind.i64.wrap (64 - bits') < 0)) False
          (R
            (Ending.returned
              (Value.tuple
                #[Value.int IntKind.u64
                    (IntKind.u64.wrap
                      ((IntKind.i64.wrap (IntKind.u64.wrap (v' * 2 ^ min (IntKind.i64.wrap (64 - bits')).toNat 64))).fdiv
                        (2 ^ min (IntKind.i64.wrap (64 - bits')).toNat 64))),
                  Value.int IntKind.i64 0]))
            w))))
theorem word_Sign.vc_eq (v' : Int) (bits' : Int) (w : World) (R : Ending → World → Prop) : fnV Try.prog word_Sign.H 10 [Value.int IntKind.u64 v', Value.int IntKind.i64 bits'] w R = word_Sign.vc v' bits' w R := by kernel_rfl
theorem word_Sign.calls {v' : Int} {bits' : Int} {w : World} {R : Ending → World → Prop} (h : word_Sign.vc v' bits' w R) : Calls Try.prog 10 ([Value.int IntKind.u64 v', Value.int IntKind.i64 bits'] : List Value).toArray w R := calls_of_eq (word_Sign.vc_eq v' bits' w R) h

/- function 16: sacristy/word.Fits -/
abbrev word_Fits.N : FuncId := 16
def word_Fits.H : Hints := {  }
def word_Fits.vc (v' : Int) (bits' : Int) (w : World) (R : Ending → World → Prop) : Prop :=
  Calls Proofs.Try.prog 10 #[Value.int IntKind.u64 (IntKind.u64.wrap v'), Value.int IntKind.i64 bits'] w
    fun (e : Ending) (w' : World) =>
    ∃ (n : Int),
      ∃ (n_1 : Int),
        e = Ending.returned (Value.tuple #[Value.int IntKind.u64 n, Value.int IntKind.i64 n_1]) ∧
          cnd (n_1 == 0) (R (Ending.returned (Value.bool (IntKind.i64.wrap n == v'))) w')
            (R (Ending.returned (Value.bool false)) w')
theorem word_Fits.vc_eq (v' : Int) (bits' : Int) (w : World) (R : Ending → World → Prop) : fnV Try.prog word_Fits.H 16 [Value.int IntKind.i64 v', Value.int IntKind.i64 bits'] w R = word_Fits.vc v' bits' w R := by kernel_rfl
theorem word_Fits.calls {v' : Int} {bits' : Int} {w : World} {R : Ending → World → Prop} (h : word_Fits.vc v' bits' w R) : Calls Try.prog 16 ([Value.int IntKind.i64 v', Value.int IntKind.i64 bits'] : List Value).toArray w R := calls_of_eq (word_Fits.vc_eq v' bits' w R) h

/- function 12: sacristy/word.Bytes -/
abbrev word_Bytes.N : FuncId := 12
def word_Bytes.H : Hints := { loops := [(4, [(8, .one (.int .i64))])] }
def word_Bytes.vc (v' : Int) (n' : Int) (w : World) (R : Ending → World → Prop) : Prop :=
  ∀ (w' : World),
    w' =
        w.alloc
          (Obj.cells
            #[Value.int IntKind.u8 0, Value.int IntKind.u8 0, Value.int IntKind.u8 0, Value.int IntKind.u8 0,
              Value.int IntKind.u8 0, Value.int IntKind.u8 0, Value.int IntKind.u8 0, Value.int IntKind.u8 0,
              Value.int IntKind.u8 0]
            46) →
      ∃ (I : List Value → World → Prop),
        ∃ (μ : List Value → World → Nat),
          I [Value.int IntKind.i64 0] w' ∧
            ∀ (g : Nat → Value) (s8 : Int) (w' : World),
              I [Value.int IntKind.i64 s8] w' →
                cnd (decide (s8 < 9))
                  (cnd (decide (IntKind.i64.wrap (8 * s8) < 0)) False
                    ((0 ≤ s8 ∧ s8 < 9) ∧
                      ((w'.cell? ((Addr.mk w.heap.size 0 none).add (s8.toNat * 1))).isSome = true ∧
                          w'.frozen? ((Addr.mk w.heap.size 0 none).add (s8.toNat * 1)) = false) ∧
                        ∀ (w'_1 : World),
                          w'_1 =
                              w'.setCell ((Addr.mk w.heap.size 0 none).add (s8.toNat * 1))
                                (Value.int IntKind.u8
                                  (IntKind.u8.wrap (v'.fdiv (2 ^ min (IntKind.i64.wrap (8 * s8)).toNat 64)))) →
                            Goes I μ [Value.int IntKind.i64 s8] w' [Value.int IntKind.i64 (IntKind.i64.wrap (s8 + 1))]
                              w'_1))
                  (cnd (decide (n' < 1))
                    (R (Ending.returned (Value.tuple #[Value.string (ByteArray.mk #[]), Value.int IntKind.i64 2])) w')
                    (cnd (decide (n' > 8))
                      (R (Ending.returned (Value.tuple #[Value.string (ByteArray.mk #[]), Value.int IntKind.i64 2])) w')
                      ((0 ≤ n' ∧ n' ≤ 9) ∧
                        RunsV Proofs.Try.prog
                          (convert 47 9
                            (Value.slice (reslice (some (Addr.mk w.heap.size 0 none)) 0 9 1) (n'.toNat - 0) 9))
                          w' fun (v : Value) (w' : World) =>
                          ∃ (s : ByteArray),
                            v = Value.string s ∧
                              R (Ending.returned (Value.tuple #[Value.string s, Value.int IntKind.i64 0])) w')))
theorem word_Bytes.vc_eq (v' : Int) (n' : Int) (w : World) (R : Ending → World → Prop) : fnV Try.prog word_Bytes.H 12 [Value.int IntKind.u64 v', Value.int IntKind.i64 n'] w R = word_Bytes.vc v' n' w R := by kernel_rfl
theorem word_Bytes.calls {v' : Int} {n' : Int} {w : World} {R : Ending → World → Prop} (h : word_Bytes.vc v' n' w R) : Calls Try.prog 12 ([Value.int IntKind.u64 v', Value.int IntKind.i64 n'] : List Value).toArray w R := calls_of_eq (word_Bytes.vc_eq v' n' w R) h

/- function 14: sacristy/word.Word -/
abbrev word_Word.N : FuncId := 14
def word_Word.H : Hints := { loops := [(5, [(2, .one (.int .u64)), (15, .one (.int .i64))])] }
def word_Word.vc (s' : ByteArray) (w : World) (R : Ending → World → Prop) : Prop :=
  cnd (decide ((↑s'.size : Int) < 1))
    (R (Ending.returned (Value.tuple #[Value.int IntKind.u64 0, Value.int IntKind.i64 2])) w)
    (cnd (decide ((↑s'.size : Int) > 8))
      (R (Ending.returned (Value.tuple #[Value.int IntKind.u64 0, Value.int IntKind.i64 2])) w)
      (∃ (I : List Value → World → Prop),
        ∃ (μ : List Value → World → Nat),
          I [Value.int IntKind.u64 0, Value.int IntKind.i64 0] w ∧
            ∀ (g : Nat → Value) (v s15 : Int) (w' : World),
              I [Value.int IntKind.u64 v, Value.int IntKind.i64 s15] w' →
                cnd (decide (s15 < (↑s'.size : Int)))
                  (0 ≤ s15 ∧
                    ∃ (b : UInt8),
                      s'[s15.toNat]? = some b ∧
                        cnd (decide (IntKind.i64.wrap (8 * s15) < 0)) False
                          (Goes I μ [Value.int IntKind.u64 v, Value.int IntKind.i64 s15] w'
                            [Value.int IntKind.u64
                                (bits BinOp.or IntKind.u64 v
                                  (IntKind.u64.wrap
                                    (IntKind.u64.wrap (↑b.toNat : Int) * 2 ^ min (IntKind.i64.wrap (8 * s15)).toNat 64))),
                              Value.int IntKind.i64 (IntKind.i64.wrap (s15 + 1))]
                            w'))
                  (R (Ending.returned (Value.tuple #[Value.int IntKind.u64 v, Value.int IntKind.i64 0])) w')))
theorem word_Word.vc_eq (s' : ByteArray) (w : World) (R : Ending → World → Prop) : fnV Try.prog word_Word.H 14 [Value.string s'] w R = word_Word.vc s' w R := by kernel_rfl
theorem word_Word.calls {s' : ByteArray} {w : World} {R : Ending → World → Prop} (h : word_Word.vc s' w R) : Calls Try.prog 14 ([Value.string s'] : List Value).toArray w R := calls_of_eq (word_Word.vc_eq s' w R) h

end Go.Proofs.Ytoncpheocnjooaa
