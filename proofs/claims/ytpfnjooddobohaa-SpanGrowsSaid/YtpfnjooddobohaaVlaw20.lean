/-
The explicit conditions of some functions of the program, printed by this repo's own program over VcTop: what is proved is that each is the condition.
Conditions: none.
-/
import Derived.Test.YtpfnjooddobohaaVcTop
import Derived.Test.YtpfnjooddobohaaProg
namespace Go.Proofs.Ytpfnjooddobohaa
open Go Go.Vc Go.RowKit
set_option linter.unusedVariables false
set_option maxRecDepth 100000

/- function 9: sacristy/sacristylaw20.alive -/
abbrev law20_alive.N : FuncId := 9
def law20_alive.H : Hints := {  }
def law20_alive.vc (w : World) (R : Ending → World → Prop) : Prop :=
  Calls Proofs.Try.prog 22 #[] w fun (e : Ending) (w' : World) =>
    ∃ (n : Int),
      ∃ (n_1 : Int),
        e = Ending.returned (Value.agg #[Value.int IntKind.u64 n, Value.int IntKind.u64 n_1]) ∧
          ∀ (w'_1 : World),
            w'_1 = w'.alloc (Obj.cells #[Value.int IntKind.u64 0, Value.int IntKind.u64 0] 24) →
              SetsAt w'_1 (Addr.mk w'.heap.size 0 none) 0 [Value.int IntKind.u64 n, Value.int IntKind.u64 n_1] ∧
                ∀ (w'_2 : World),
                  w'_2 =
                      setCellsAt w'_1 (Addr.mk w'.heap.size 0 none) 0
                        [Value.int IntKind.u64 n, Value.int IntKind.u64 n_1] →
                    ∃ (n : Int),
                      ∃ (n_2 : Int),
                        (w'_2.cell? (Addr.mk w'.heap.size 0 none) = some (Value.int IntKind.u64 n) ∧
                            w'_2.cell? (Addr.mk w'.heap.size 1 none) = some (Value.int IntKind.u64 n_2) ∧ True) ∧
                          Calls Proofs.Try.prog 7
                            #[Value.int IntKind.u8 10, Value.agg #[Value.int IntKind.u64 n, Value.int IntKind.u64 n_2],
                              Value.agg #[Value.int IntKind.u64 7, Value.int IntKind.u64 7]]
                            w'_2 fun (e : Ending) (w'_3 : World) =>
                            ∃ (n : Int),
                              ∃ (n_3 : Int),
                                ∃ (n_4 : Int),
                                  e =
                                      Ending.returned
                                        (Value.tuple
                                          #[Value.agg #[Value.int IntKind.u64 n, Value.int IntKind.u64 n_3],
                                            Value.int IntKind.i64 n_4]) ∧
                                    ∀ (w'_4 : World),
                                      w'_4 =
                                          w'_3.alloc (Obj.cells #[Value.int IntKind.u64 0, Value.int IntKind.u64 0] 24) →
                                        SetsAt w'_4 (Addr.mk w'_3.heap.size 0 none) 0
                                            [Value.int IntKind.u64 n, Value.int IntKind.u64 n_3] ∧
                                          ∀ (w'_5 : World),
                                            w'_5 =
                                                setCellsAt w'_4 (Addr.mk w'_3.heap.size 0 none) 0
                                                  [Value.int IntKind.u64 n, Value.int IntKind.u64 n_3] →
                                              ∃ (n : Int),
                                                ∃ (n_5 : Int),
                                                  (w'_5.cell? (Addr.mk w'.heap.size 0 none) =
                                                        some (Value.int IntKind.u64 n) ∧
                                                      w'_5.cell? (Addr.mk w'.heap.size 1 none) =
                                                          some (Value.int IntKind.u64 n_5) ∧
                                                        True) ∧
                                                    Calls Proofs.Try.prog 7
                                                      #[Value.int IntKind.u8 14,
                                                        Value.agg #[Value.int IntKind.u64 n, Value.int IntKind.u64 n_5],
                                                        Value.agg #[Value.int IntKind.u64 1, Value.int IntKind.u64 9]]
                                                      w'_5 fun (e : Ending) (w'_6 : World) =>
                                                      ∃ (n : Int),
                                                        ∃ (n_6 : Int),
                                                          ∃ (n_7 : Int),
                                                            e =
                                                                Ending.returned
                                                                  (Value.tuple
                                                                    #[Value.agg
                                                                        #[Value.int IntKind.u64 n,
                                                                          Value.int IntKind.u64 n_6],
                                                                      Value.int IntKind.i64 n_7]) ∧
                                                              ∀ (w'_7 : World),
                                                                w'_7 =
                                                                    w'_6.alloc
                                                                      (Obj.cells
                                                                        #[Value.int IntKind.u64 0,
                                                                          Value.int IntKind.u64 0]
                                                                        24) →
                                                                  SetsAt w'_7 (Addr.mk w'_6.heap.size 0 none) 0
                                                                      [Value.int IntKind.u64 n,
                                                                        Value.int IntKind.u64 n_6] ∧
                                                                    ∀ (w'_8 : World),
                                                                      w'_8 =
                                                                          setCellsAt w'_7 (Addr.mk w'_6.heap.size 0 none)
                                                                            0
                                                                            [Value.int IntKind.u64 n,
                                                                              Value.int IntKind.u64 n_6] →
                                                                        ∃ (n : Int),
                                                                          ∃ (n_8 : Int),
                                                                            (w'_8.cell? (Addr.mk w'.heap.size 0 none) =
                                                                                  some (Value.int IntKind.u64 n) ∧
                                                                                w'_8.cell? (Addr.mk w'.heap.size 1 none) =
                                                                                    some (Value.int IntKind.u64 n_8) ∧
                                                                                  True) ∧
                                                                              Calls Proofs.Try.prog 7
                                                                                #[Value.int IntKind.u8 1,
                                                                                  Value.agg
                                                                                    #[Value.int IntKind.u64 n,
                                                                                      Value.int IntKind.u64 n_8],
                                                                                  Value.agg
                                                                                    #[Value.int IntKind.u64 1,
                                                                                      Value.int IntKind.u64 1]]
                                                                                w'_8 fun (e : Ending) (w'_9 : World) =>
                                                                                ∃ (n : Int),
                                                                                  ∃ (n_9 : Int),
                                                                                    ∃ (n_10 : Int),
                                                                                      e =
                                                                                          Ending.returned
                                                                                            (Value.tuple
                                                                                              #[Value.agg
                                                                                                  #[Value.int IntKind.u64
                                                                                                      n,
                                                                                                    Value.int IntKind.u64
                                                                                                      n_9],
                                                                                                Value.int IntKind.i64
                                                                                                  n_10]) ∧
                                                                                        ∀ (w'_10 : World),
                                                                                          w'_10 =
                                                                                              w'_9.alloc
                                                                                                (Obj.cells
                                                                                                  #[Value.int IntKind.u64
                                                                                                      0,
                                                                                                    Value.int IntKind.u64
                                                                                                      0]
                                                                                                  24) →
                                                                                            SetsAt w'_10
                                                                                                (Addr.mk w'_9.heap.size 0
                                                                                                  none)
                                                                                                0
                                                                                                [Value.int IntKind.u64 n,
                                                                                                  Value.int IntKind.u64
                                                                                                    n_9] ∧
                                                                                              ∀ (w'_11 : World),
                                                                                                w'_11 =
                                                                                                    setCellsAt w'_10
                                                                                                      (Addr.mk
                                                                                                        w'_9.heap.size 0
                                                                                                        none)
                                                                                                      0
                                                                                                      [Value.int
                                                                                                          IntKind.u64 n,
                                                                                                        Value.int
                                                                                                          IntKind.u64
                                                                                                          n_9] →
                                                                                                  Calls Proofs.Try.prog 12
                                                                                                    #[Value.agg
                                                                                                        #[Value.int
                                                                                                            IntKind.u64 1,
                                                                                                          Value.int
                                                                                                            IntKind.u64
                                                                                                            2],
                                                                                                      Value.agg
                                                                                                        #[Value.int
                                                                                                            IntKind.u64 3,
                                                                                                          Value.int
                                                                                                            IntKind.u64
                                                                                                            4]]
                                                                                                    w'_11
                                                                                                    fun (e : Ending)
                                                                                                      (w'_12 : World) =>
                                                                                                    ∃ (n : Int),
                                                                                                      ∃ (n_11 : Int),
                                                                                                        ∃ (n_12 : Int),
                                                                                                          e =
                                                                                                              Ending.returned
                                                                                                                (Value.tuple
                                                                                                                  #[Value.agg
                                                                                                                      #[Value.int
                                                                                                                          IntKind.u64
                                                                                                                          n,
                                                                                                                        Value.int
                                                                                                                          IntKind.u64
                                                                                                                          n_11],
                                                                                                                    Value.int
                                                                                                                      IntKind.i64
                                                                                                                      n_12]) ∧
                                                                                                            ∀
                                                                                                              (w'_13 :
                                                                                                                World),
                                                                                                              w'_13 =
                                                                                                                  w'_12.alloc
                                                                                                                    (Obj.cells
                                                                                                                      #[Value.int
                                                                                                                          IntKind.u64
                                                                                                                          0,
                                                                                                                        Value.int
                                                                                                                          IntKind.u64
                                                                                                                          0]
                                                                                                                      24) →
                                                                                                                SetsAt
                                                                                                                    w'_13
                                                                                                                    (Addr.mk
                                                                                                                      w'_12.heap.size
                                                                                                                      0
                                                                                                                      none)
                                                                                                                    0
                                                                                                                    [Value.int
                                                                                                                        IntKind.u64
                                                                                                                        n,
                                                                                                                      Value.int
                                                                                                                        IntKind.u64
                                                                                                                        n_11] ∧
                                                                                                                  ∀
                                                                                                                    (w'_14 :
                                                                                                                      World),
                                                                                                                    w'_14 =
                                                                                                                        setCellsAt
                                                                                                                          w'_13
                                                                                                                          (Addr.mk
                                                                                                                            w'_12.heap.size
                                                                                                                            0
                                                                                                                            none)
                                                                                                                          0
                                                                                                                          [Value.int
                                                                                                                              IntKind.u64
                                                                                                                              n,
                                                                                                                            Value.int
                                                                                                                              IntKind.u64
                                                                                                                              n_11] →
                                                                                                                      cnd
                                                                                                                        (n_4 ==
                                                                                                                          0)
                                                                                                                        (∃
                                                                                                                          (n
                                                                                                                          :
                                                                                                                          Int),
                                                                                                                          ∃
                                                                                                                            (n_13
                                                                                                                            :
                                                                                                                            Int),
                                                                                                                            (w'_14.cell?
                                                                                                                                    (Addr.mk
                                                                                                                                      w'_3.heap.size
                                                                                                                                      0
                                                                                                                                      none) =
                                                                                                                                  some
                                                                                                                                    (Value.int
                                                                                                                                      IntKind.u64
                                                                                                                                      n) ∧
                                                                                                                                w'_14.cell?
                                                                                                                                      (Addr.mk
                                                                                                                                        w'_3.heap.size
                                                                                                                                        1
                                                                                                                                        none) =
                                                                                                                                    some
                                                                                                                                      (Value.int
                                                                                                                                        IntKind.u64
                                                                                                                                        n_13) ∧
                                                                                                                                  True) ∧
                                                                                                                              ∃
                                                                                                                                (b
                                                                                                                                :
                                                                                                                                Bool),
                                                                                                                                EqRuns
                                                                                                                                    Proofs.Try.prog
                                                                                                                                    BinOp.eql
                                                                                                                                    24
                                                                                                                                    (Operand.tmp
                                                                                                                                      38)
                                                                                                                                    (Operand.tmp
                                                                                                                                      39)
                                                                                                                                    (Value.agg
                                                                                                                                      #[Value.int
                                                                                                                                          IntKind.u64
                                                                                                                                          n,
                                                                                                                                        Value.int
                                                                                                                                          IntKind.u64
                                                                                                                                          n_13])
                                                                                                                                    (Value.agg
                                                                                                                                      #[Value.int
                                                                                                                                          IntKind.u64
                                                                                                                                          0,
                                                                                                                                        Value.int
                                                                                                                                          IntKind.u64
                                                                                                                                          7])
                                                                                                                                    b ∧
                                                                                                                                  cnd
                                                                                                                                    b
                                                                                                                                    (cnd
                                                                                                                                      (n_7 ==
                                                                                                                                        0)
                                                                                                                                      (∃
                                                                                                                                        (n
                                                                                                                                        :
                                                                                                                                        Int),
                                                                                                                                        ∃
                                                                                                                                          (n_14
                                                                                                                                          :
                                                                                                                                          Int),
                                                                                                                                          (w'_14.cell?
                                                                                                                                                  (Addr.mk
                                                                                                                                                    w'_6.heap.size
                                                                                                                                                    0
                                                                                                                                                    none) =
                                                                                                                                                some
                                                                                                                                                  (Value.int
                                                                                                                                                    IntKind.u64
                                                                                                                                                    n) ∧
                                                                                                                                              w'_14.cell?
                                                                                                                                                    (Addr.mk
                                                                                                                                                      w'_6.heap.size
                                                                                                                                                      1
                                                                                                                                                      none) =
                                                                                                                                                  some
                                                                                                                                                    (Value.int
                                                                                                                                                      IntKind.u64
                                                                                                                                                      n_14) ∧
                                                                                                                                                True) ∧
                                                                                                                                            ∃
                                                                                                                                              (b
                                                                                                                                              :
                                                                                                                                              Bool),
                                                                                                                                              EqRuns
                                                                                                                                                  Proofs.Try.prog
                                                                                                                                                  BinOp.eql
                                                                                                                                                  24
                                                                                                                                                  (Operand.tmp
                                                                                                                                                    47)
                                                                                                                                                  (Operand.tmp
                                                                                                                                                    48)
                                                                                                                                                  (Value.agg
                                                                                                                                                    #[Value.int
                                                                                                                                                        IntKind.u64
                                                                                                                                                        n,
                                                                                                                                                      Value.int
                                                                                                                                                        IntKind.u64
                                                                                                                                                        n_14])
                                                                                                                                                  (Value.agg
                                                                                                                                                    #[Value.int
                                                                                                                                                        IntKind.u64
                                                                                                                                                        0,
                                                                                                                                                      Value.int
                                                                                                                                                        IntKind.u64
                                                                                                                                                        8])
                                                                                                                                                  b ∧
                                                                                                                                                cnd
                                                                                                                                                  b
                                                                                                                                                  (cnd
                                                                                                                                                    (n_10 ==
                                                                                                                                                      0)
                                                                                                                                                    (∃
                                                                                                                                                      (n
                                                                                                                                                      :
                                                                                                                                                      Int),
                                                                                                                                                      ∃
                                                                                                                                                        (n_15
                                                                                                                                                        :
                                                                                                                                                        Int),
                                                                                                                                                        (w'_14.cell?
                                                                                                                                                                (Addr.mk
                                                                                                                                                                  w'_9.heap.size
                                                                                                                                                                  0
                                                                                                                                                                  none) =
                                                                                                                                                              some
                                                                                                                                                                (Value.int
                                                                                                                                                                  IntKind.u64
                                                                                                                                                                  n) ∧
                                                                                                                                                            w'_14.cell?
                                                                                                                                                                  (Addr.mk
                                                                                                                                                                    w'_9.heap.size
                                                                                                                                                                    1
                                                                                                                                                                    none) =
                                                                                                                                                                some
                                                                                                                                                                  (Value.int
                                                                                                                                                                    IntKind.u64
                                                                                                                                                                    n_15) ∧
                                                                                                                                                              True) ∧
                                                                                                                                                          ∃
                                                                                                                                                            (n_16
                                                                                                                                                            :
                                                                                                                                                            Int),
                                                                                                                                                            ∃
                                                                                                                                                              (n_17
                                                                                                                                                              :
                                                                                                                                                              Int),
                                                                                                                                                              (w'_14.cell?
                                                                                                                                                                      (Addr.mk
                                                                                                                                                                        w'.heap.size
                                                                                                                                                                        0
                                                                                                                                                                        none) =
                                                                                                                                                                    some
                                                                                                                                                                      (Value.int
                                                                                                                                                                        IntKind.u64
                                                                                                                                                                        n_16) ∧
                                                                                                                                                                  w'_14.cell?
                                                                                                                                                                        (Addr.mk
                                                                                                                                                                          w'.heap.size
                                                                                                                                                                          1
                                                                                                                                                                          none) =
                                                                                                                                                                      some
                                                                                                                                                                        (Value.int
                                                                                                                                                                          IntKind.u64
                                                                                                                                                                          n_17) ∧
                                                                                                                                                                    True) ∧
                                                                                                                                                                ∃
                                                                                                                                                                  (b
                                                                                                                                                                  :
                                                                                                                                                                  Bool),
                                                                                                                                                                  EqRuns
                                                                                                                                                                      Proofs.Try.prog
                                                                                                                                                                      BinOp.eql
                                                                                                                                                                      24
                                                                                                                                                                      (Operand.tmp
                                                                                                                                                                        56)
                                                                                                                                                                      (Operand.tmp
                                                                                                                                                                        57)
                                                                                                                                                                      (Value.agg
                                                                                                                                                                        #[Value.int
                                                                                                                                                                            IntKind.u64
                                                                                                                                                                            n,
                                                                                                                                                                          Value.int
                                                                                                                                                                            IntKind.u64
                                                                                                                                                                            n_15])
                                                                                                                                                                      (Value.agg
                                                                                                                                                                        #[Value.int
                                                                                                                                                                            IntKind.u64
                                                                                                                                                                            n_16,
                                                                                                                                                                          Value.int
                                                                                                                                                                            IntKind.u64
                                                                                                                                                                            n_17])
                                                                                                                                                                      b ∧
                                                                                                                                                                    cnd
                                                                                                                                                                      b
                                                                                                                                                                      (cnd
                                                                                                                                                                        (n_12 ==
                                                                                                                                                                          3)
                                                                                                                                                                        (Calls
                                                                                                                                                                          Proofs.Try.prog
                                                                                                                                                                          14
                                                                                                                                                                          #[Value.agg
                                                                                                                                                                              #[Value.int
                                                                                                                                                                                  IntKind.u64
                                                                                                                                                                                  1,
                                                                                                                                                                                Value.int
                                                                                                                                                                                  IntKind.u64
                                                                                                                                                                                  0]]
                                                                                                                                                                          w'_14
                                                                                                                                                                          fun
                                                                                                                                                                            (e :
                                                                                                                                                                              Ending)
                                                                                                                                                                            (w' :
                                                                                                                                                                              World) =>
                                                                                                                                                                          ∃
                                                                                                                                                                            (n
                                                                                                                                                                            :
                                                                                                                                                                            Int),
                                                                                                                                                                            e =
                                                                                                                                                                                Ending.returned
                                                                                                                                                                                  (Value.int
                                                                                                                                                                                    IntKind.i64
                                                                                                                                                                                    n) ∧
                                                                                                                                                                              cnd
                                                                                                                                                                                (n ==
                                                                                                                                                                                  2)
                                                                                                                                                                                (∃
                                                                                                                                                                                  (n
                                                                                                                                                                                  :
                                                                                                                                                                                  Int),
                                                                                                                                                                                  ∃
                                                                                                                                                                                    (n_18
                                                                                                                                                                                    :
                                                                                                                                                                                    Int),
                                                                                                                                                                                    (w'.cell?
                                                                                                                                                                                            (Addr.mk
                                                                                                                                                                                              w'_3.heap.size
                                                                                                                                                                                              0
                                                                                                                                                                                              none) =
                                                                                                                                                                                          some
                                                                                                                                                                                            (Value.int
                                                                                                                                                                                              IntKind.u64
                                                                                                                                                                                              n) ∧
                                                                                                                                                                                        w'.cell?
                                                                                                                                                                                              (Addr.mk
                                                                                                                                                                                                w'_3.heap.size
                                                                                                                                                                                                1
                                                                                                                                                                                                none) =
                                                                                                                                                                                            some
                                                                                                                                                                                              (Value.int
                                                                                                                                                                                                IntKind.u64
                                                                                                                                                                                                n_18) ∧
                                                                                                                                                                                          True) ∧
                                                                                                                                                                                      Calls
                                                                                                                                                                                        Proofs.Try.prog
                                                                                                                                                                                        15
                                                                                                                                                                                        #[Value.agg
                                                                                                                                                                                            #[Value.int
                                                                                                                                                                                                IntKind.u64
                                                                                                                                                                                                n,
                                                                                                                                                                                              Value.int
                                                                                                                                                                                                IntKind.u64
                                                                                                                                                                                                n_18],
                                                                                                                                                                                          Value.int
                                                                                                                                                                                            IntKind.u64
                                                                                                                                                                                            7]
                                                                                                                                                                                        w'
                                                                                                                                                                                        fun
                                                                                                                                                                                          (e :
                                                                                                                                                                                            Ending)
                                                                                                                                                                                          (w' :
                                                                                                                                                                                            World) =>
                                                                                                                                                                                        ∃
                                                                                                                                                                                          (b
                                                                                                                                                                                          :
                                                                                                                                                                                          Bool),
                                                                                                                                                                                          e =
                                                                                                                                                                                              Ending.returned
                                                                                                                                                                                                (Value.bool
                                                                                                                                                                                                  b) ∧
                                                                                                                                                                                            cnd
                                                                                                                                                                                              b
                                                                                                                                                                                              (∃
                                                                                                                                                                                                (n
                                                                                                                                                                                                :
                                                                                                                                                                                                Int),
                                                                                                                                                                                                ∃
                                                                                                                                                                                                  (n_19
                                                                                                                                                                                                  :
                                                                                                                                                                                                  Int),
                                                                                                                                                                                                  (w'.cell?
                                                                                                                                                                                                          (Addr.mk
                                                                                                                                                                                                            w'_3.heap.size
                                                                                                                                                                                                            0
                                                                                                                                                                                                            none) =
                                                                                                                                                                                                        some
                                                                                                                                                                                                          (Value.int
                                                                                                                                                                                                            IntKind.u64
                                                                                                                                                                                                            n) ∧
                                                                                                                                                                                                      w'.cell?
                                                                                                                                                                                                            (Addr.mk
                                                                                                                                                                                                              w'_3.heap.size
                                                                                                                                                                                                              1
                                                                                                                                                                                                              none) =
                                                                                                                                                                                                          some
                                                                                                                                                                                                            (Value.int
                                                                                                                                                                                                              IntKind.u64
                                                                                                                                                                                                              n_19) ∧
                                                                                                                                                                                                        True) ∧
                                                                                                                                                                                                    Calls
                                                                                                                                                                                                      Proofs.Try.prog
                                                                                                                                                                                                      15
                                                                                                                                                                                                      #[Value.agg
                                                                                                                                                                                                          #[Value.int
                                                                                                                                                                                                              IntKind.u64
                                                                                                                                                                                                              n,
                                                                                                                                                                                                            Value.int
                                                                                                                                                                                                              IntKind.u64
                                                                                                                                                                                                              n_19],
                                                                                                                                                                                                        Value.int
                                                                                                                                                                                                          IntKind.u64
                                                                                                                                                                                                          8]
                                                                                                                                                                                                      w'
                                                                                                                                                                                                      fun
                                                                                                                                                                                                        (e :
                                                                                                                                                                                                          Ending)
                                                                                                                                                                                                        (w' :
                                                                                                                                                                                                          World) =>
                                                                                                                                                                                                      ∃
                                                                                                                                                                                                        (b
                                                                                                                                                                                                        :
                                                                                                                                                                                                        Bool),
                                                                                                                                                                                                        e =
                                                                                                                                                                                                            Ending.returned
                                                                                                                                                                                                              (Value.bool
                                                                                                                                                                                                                b) ∧
                                                                                                                                                                                                          R
                                                                                                                                                                                                            (Ending.returned
                                                                                                                                                                                                              (Value.bool
                                                                                                                                                                                                                !b))
                                                                                                                                                                                                            w')
                                                                                                                                                                                              (R
                                                                                                                                                                                                (Ending.returned
                                                                                                                                                                                                  (Value.bool
                                                                                                                                                                                                    false))
                                                                                                                                                                                                w'))
                                                                                                                                                                                (R
                                                                                                                                                                                  (Ending.returned
                                                                                                                                                                                    (Value.bool
                                                                                                                                                                                      false))
                                                                                                                                                                                  w'))
                                                                                                                                                                        (R
                                                                                                                                                                          (Ending.returned
                                                                                                                                                                            (Value.bool
                                                                                                                                                                              false))
                                                                                                                                                                          w'_14))
                                                                                                                                                                      (R
                                                                                                                                                                        (Ending.returned
                                                                                                                                                                          (Value.bool
                                                                                                                                                                            false))
                                                                                                                                                                        w'_14))
                                                                                                                                                    (R
                                                                                                                                                      (Ending.returned
                                                                                                                                                        (Value.bool
                                                                                                                                                          false))
                                                                                                                                                      w'_14))
                                                                                                                                                  (R
                                                                                                                                                    (Ending.returned
                                                                                                                                                      (Value.bool
                                                                                                                                                        false))
                                                                                                                                                    w'_14))
                                                                                                                                      (R
                                                                                                                                        (Ending.returned
                                                                                                                                          (Value.bool
                                                                                                                                            false))
                                                                                                                                        w'_14))
                                                                                                                                    (R
                                                                                                                                      (Ending.returned
                                                                                                                                        (Value.bool
                                                                                                                                          false))
                                                                                                                                      w'_14))
                                                                                                                        (R
                                                                                                                          (Ending.returned
                                                                                                                            (Value.bool
                                                                                                                              false))
                                                                                                                          w'_14)
theorem law20_alive.vc_eq (w : World) (R : Ending → World → Prop) : fnV Try.prog law20_alive.H 9 [] w R = law20_alive.vc w R := by kernel_rfl
theorem law20_alive.calls {w : World} {R : Ending → World → Prop} (h : law20_alive.vc w R) : Calls Try.prog 9 ([] : List Value).toArray w R := calls_of_eq (law20_alive.vc_eq w R) h

/- function 3: sacristy/sacristylaw20.SpanAlus -/
abbrev law20_SpanAlus.N : FuncId := 3
def law20_SpanAlus.H : Hints := { regs := [(2, [(31, .one .bool)])] }
def law20_SpanAlus.vc (fn' : Int) (a'_0 : Int) (a'_1 : Int) (b'_0 : Int) (b'_1 : Int) (w : World) (R : Ending → World → Prop) : Prop :=
  ∀ (w' : World),
    w' = w.alloc (Obj.cells #[Value.int IntKind.u64 a'_0, Value.int IntKind.u64 a'_1] 24) →
      ∀ (w'_1 : World),
        w'_1 = w'.alloc (Obj.cells #[Value.int IntKind.u64 b'_0, Value.int IntKind.u64 b'_1] 24) →
          ∃ (n : Int),
            ∃ (n_1 : Int),
              (w'_1.cell? (Addr.mk w.heap.size 0 none) = some (Value.int IntKind.u64 n) ∧
                  w'_1.cell? (Addr.mk w.heap.size 1 none) = some (Value.int IntKind.u64 n_1) ∧ True) ∧
                ∃ (n_2 : Int),
                  ∃ (n_3 : Int),
                    (w'_1.cell? (Addr.mk w'.heap.size 0 none) = some (Value.int IntKind.u64 n_2) ∧
                        w'_1.cell? (Addr.mk w'.heap.size 1 none) = some (Value.int IntKind.u64 n_3) ∧ True) ∧
                      Calls Proofs.Try.prog 7
                        #[Value.int IntKind.u8 fn', Value.agg #[Value.int IntKind.u64 n, Value.int IntKind.u64 n_1],
                          Value.agg #[Value.int IntKind.u64 n_2, Value.int IntKind.u64 n_3]]
                        w'_1 fun (e : Ending) (w'_2 : World) =>
                        ∃ (n : Int),
                          ∃ (n_4 : Int),
                            ∃ (n_5 : Int),
                              e =
                                  Ending.returned
                                    (Value.tuple
                                      #[Value.agg #[Value.int IntKind.u64 n, Value.int IntKind.u64 n_4],
                                        Value.int IntKind.i64 n_5]) ∧
                                ∀ (w'_3 : World),
                                  w'_3 = w'_2.alloc (Obj.cells #[Value.int IntKind.u64 0, Value.int IntKind.u64 0] 24) →
                                    SetsAt w'_3 (Addr.mk w'_2.heap.size 0 none) 0
                                        [Value.int IntKind.u64 n, Value.int IntKind.u64 n_4] ∧
                                      ∀ (w'_4 : World),
                                        w'_4 =
                                            setCellsAt w'_3 (Addr.mk w'_2.heap.size 0 none) 0
                                              [Value.int IntKind.u64 n, Value.int IntKind.u64 n_4] →
                                          ∃ (J : List Value → World → Prop),
                                            cnd (decide (fn' < 1)) (J [Value.bool true] w'_4)
                                                (cnd (decide (fn' > 14)) (J [Value.bool true] w'_4)
                                                  (∃ (n : Int),
                                                    ∃ (n_6 : Int),
                                                      (w'_4.cell? (Addr.mk w.heap.size 0 none) =
                                                            some (Value.int IntKind.u64 n) ∧
                                                          w'_4.cell? (Addr.mk w.heap.size 1 none) =
                                                              some (Value.int IntKind.u64 n_6) ∧
                                                            True) ∧
                                                        Calls Proofs.Try.prog 8
                                                          #[Value.agg
                                                              #[Value.int IntKind.u64 n, Value.int IntKind.u64 n_6]]
                                                          w'_4 fun (e : Ending) (w'_5 : World) =>
                                                          ∃ (b : Bool),
                                                            e = Ending.returned (Value.bool b) ∧
                                                              cnd (!b) (J [Value.bool true] w'_5)
                                                                (∃ (n : Int),
                                                                  ∃ (n_7 : Int),
                                                                    (w'_5.cell? (Addr.mk w'.heap.size 0 none) =
                                                                          some (Value.int IntKind.u64 n) ∧
                                                                        w'_5.cell? (Addr.mk w'.heap.size 1 none) =
                                                                            some (Value.int IntKind.u64 n_7) ∧
                                                                          True) ∧
                                                                      Calls Proofs.Try.prog 8
                                                                        #[Value.agg
                                                                            #[Value.int IntKind.u64 n,
                                                                              Value.int IntKind.u64 n_7]]
                                                                        w'_5 fun (e : Ending) (w' : World) =>
                                                                        ∃ (b : Bool),
                                                                          e = Ending.returned (Value.bool b) ∧
                                                                            J [Value.bool !b] w'))) ∧
                                              ∀ (g : Nat → Value) (s31 : Bool) (w'_5 : World),
                                                J [Value.bool s31] w'_5 →
                                                  cnd s31
                                                    (∃ (n : Int),
                                                      ∃ (n_6 : Int),
                                                        (w'_5.cell? (Addr.mk w'_2.heap.size 0 none) =
                                                              some (Value.int IntKind.u64 n) ∧
                                                            w'_5.cell? (Addr.mk w'_2.heap.size 1 none) =
                                                                some (Value.int IntKind.u64 n_6) ∧
                                                              True) ∧
                                                          ∃ (b : Bool),
                                                            EqRuns Proofs.Try.prog BinOp.eql 24 (Operand.tmp 32)
                                                                (Operand.tmp 33)
                                                                (Value.agg
                                                                  #[Value.int IntKind.u64 n, Value.int IntKind.u64 n_6])
                                                                (Value.agg
                                                                  #[Value.int IntKind.u64 0, Value.int IntKind.u64 0])
                                                                b ∧
                                                              cnd b
                                                                (cnd (n_5 == 2)
                                                                  (Calls Proofs.Try.prog 9 #[] w'_5
                                                                    fun (e : Ending) (w' : World) =>
                                                                    ∃ (b : Bool),
                                                                      e = Ending.returned (Value.bool b) ∧
                                                                        R (Ending.returned (Value.bool b)) w')
                                                                  (R (Ending.returned (Value.bool false)) w'_5))
                                                                (R (Ending.returned (Value.bool false)) w'_5))
                                                    (∃ (n : Int),
                                                      ∃ (n_6 : Int),
                                                        (∀ (w' : World),
                                                            Later w'_5 w' →
                                                              w'.cell? (Addr.mk w'_2.heap.size 0 none) =
                                                                  some (Value.int IntKind.u64 n) ∧
                                                                w'.cell? (Addr.mk w'_2.heap.size 1 none) =
                                                                    some (Value.int IntKind.u64 n_6) ∧
                                                                  True) ∧
                                                          ∃ (n_7 : Int),
                                                            ∃ (n_8 : Int),
                                                              (∀ (w' : World),
                                                                  Later w'_5 w' →
                                                                    w'.cell? (Addr.mk w.heap.size 0 none) =
                                                                        some (Value.int IntKind.u64 n_7) ∧
                                                                      w'.cell? (Addr.mk w.heap.size 1 none) =
                                                                          some (Value.int IntKind.u64 n_8) ∧
                                                                        True) ∧
                                                                ∃ (n_9 : Int),
                                                                  ∃ (n_10 : Int),
                                                                    (∀ (w'_6 : World),
                                                                        Later w'_5 w'_6 →
                                                                          w'_6.cell? (Addr.mk w'.heap.size 0 none) =
                                                                              some (Value.int IntKind.u64 n_9) ∧
                                                                            w'_6.cell? (Addr.mk w'.heap.size 1 none) =
                                                                                some (Value.int IntKind.u64 n_10) ∧
                                                                              True) ∧
                                                                      ∃ (n_11 : Int),
                                                                        ∃ (n_12 : Int),
                                                                          (∀ (w' : World),
                                                                              Later w'_5 w' →
                                                                                Calls Proofs.Try.prog 10
                                                                                  #[Value.int IntKind.u8 fn',
                                                                                    Value.agg
                                                                                      #[Value.int IntKind.u64 n_7,
                                                                                        Value.int IntKind.u64 n_8],
                                                                                    Value.agg
                                                                                      #[Value.int IntKind.u64 n_9,
                                                                                        Value.int IntKind.u64 n_10]]
                                                                                  w' fun (e : Ending) (w'' : World) =>
                                                                                  e =
                                                                                      Ending.returned
                                                                                        (Value.agg
                                                                                          #[Value.int IntKind.u64 n_11,
                                                                                            Value.int IntKind.u64 n_12]) ∧
                                                                                    Later w' w'') ∧
                                                                            ∃ (b : Bool),
                                                                              EqRuns Proofs.Try.prog BinOp.eql 24
                                                                                  (Operand.tmp 42) (Operand.tmp 46)
                                                                                  (Value.agg
                                                                                    #[Value.int IntKind.u64 n,
                                                                                      Value.int IntKind.u64 n_6])
                                                                                  (Value.agg
                                                                                    #[Value.int IntKind.u64 n_11,
                                                                                      Value.int IntKind.u64 n_12])
                                                                                  b ∧
                                                                                cnd b
                                                                                  (cnd (n_5 == 0)
                                                                                    (∃ (b : Bool),
                                                                                      (∀ (w' : World),
                                                                                          Later w'_5 w' →
                                                                                            Calls Proofs.Try.prog 9 #[] w'
                                                                                              fun (e : Ending)
                                                                                                (w'' : World) =>
                                                                                              e =
                                                                                                  Ending.returned
                                                                                                    (Value.bool b) ∧
                                                                                                Later w' w'') ∧
                                                                                        ∀ (w' : World),
                                                                                          Later w'_5 w' →
                                                                                            R
                                                                                              (Ending.returned
                                                                                                (Value.bool b))
                                                                                              w')
                                                                                    (∀ (w' : World),
                                                                                      Later w'_5 w' →
                                                                                        R
                                                                                          (Ending.returned
                                                                                            (Value.bool false))
                                                                                          w'))
                                                                                  (∀ (w' : World),
                                                                                    Later w'_5 w' →
                                                                                      R
                                                                                        (Ending.returned
                                                                                          (Value.bool false))
                                                                                        w'))
theorem law20_SpanAlus.vc_eq (fn' : Int) (a'_0 : Int) (a'_1 : Int) (b'_0 : Int) (b'_1 : Int) (w : World) (R : Ending → World → Prop) : fnV Try.prog law20_SpanAlus.H 3 [Value.int IntKind.u8 fn', Value.agg #[Value.int IntKind.u64 a'_0, Value.int IntKind.u64 a'_1],
    Value.agg #[Value.int IntKind.u64 b'_0, Value.int IntKind.u64 b'_1]] w R = law20_SpanAlus.vc fn' a'_0 a'_1 b'_0 b'_1 w R := by kernel_rfl
theorem law20_SpanAlus.calls {fn' : Int} {a'_0 : Int} {a'_1 : Int} {b'_0 : Int} {b'_1 : Int} {w : World} {R : Ending → World → Prop} (h : law20_SpanAlus.vc fn' a'_0 a'_1 b'_0 b'_1 w R) : Calls Try.prog 3 ([Value.int IntKind.u8 fn', Value.agg #[Value.int IntKind.u64 a'_0, Value.int IntKind.u64 a'_1],
    Value.agg #[Value.int IntKind.u64 b'_0, Value.int IntKind.u64 b'_1]] : List Value).toArray w R := calls_of_eq (law20_SpanAlus.vc_eq fn' a'_0 a'_1 b'_0 b'_1 w R) h

/- function 6: sacristy/sacristylaw20.SpanSound -/
abbrev law20_SpanSound.N : FuncId := 6
def law20_SpanSound.H : Hints := {  }
def law20_SpanSound.vc (fn' : Int) (a'_0 : Int) (a'_1 : Int) (b'_0 : Int) (b'_1 : Int) (v' : Int) (w' : Int) (w : World) (R : Ending → World → Prop) : Prop :=
  ∀ (w'_1 : World),
    w'_1 = w.alloc (Obj.cells #[Value.int IntKind.u64 a'_0, Value.int IntKind.u64 a'_1] 24) →
      ∀ (w'_2 : World),
        w'_2 = w'_1.alloc (Obj.cells #[Value.int IntKind.u64 b'_0, Value.int IntKind.u64 b'_1] 24) →
          ∃ (n : Int),
            ∃ (n_1 : Int),
              (w'_2.cell? (Addr.mk w.heap.size 0 none) = some (Value.int IntKind.u64 n) ∧
                  w'_2.cell? (Addr.mk w.heap.size 1 none) = some (Value.int IntKind.u64 n_1) ∧ True) ∧
                ∃ (n_2 : Int),
                  ∃ (n_3 : Int),
                    (w'_2.cell? (Addr.mk w'_1.heap.size 0 none) = some (Value.int IntKind.u64 n_2) ∧
                        w'_2.cell? (Addr.mk w'_1.heap.size 1 none) = some (Value.int IntKind.u64 n_3) ∧ True) ∧
                      Calls Proofs.Try.prog 7
                        #[Value.int IntKind.u8 fn', Value.agg #[Value.int IntKind.u64 n, Value.int IntKind.u64 n_1],
                          Value.agg #[Value.int IntKind.u64 n_2, Value.int IntKind.u64 n_3]]
                        w'_2 fun (e : Ending) (w'_3 : World) =>
                        ∃ (n : Int),
                          ∃ (n_4 : Int),
                            ∃ (n_5 : Int),
                              e =
                                  Ending.returned
                                    (Value.tuple
                                      #[Value.agg #[Value.int IntKind.u64 n, Value.int IntKind.u64 n_4],
                                        Value.int IntKind.i64 n_5]) ∧
                                ∀ (w'_4 : World),
                                  w'_4 = w'_3.alloc (Obj.cells #[Value.int IntKind.u64 0, Value.int IntKind.u64 0] 24) →
                                    SetsAt w'_4 (Addr.mk w'_3.heap.size 0 none) 0
                                        [Value.int IntKind.u64 n, Value.int IntKind.u64 n_4] ∧
                                      ∀ (w'_5 : World),
                                        w'_5 =
                                            setCellsAt w'_4 (Addr.mk w'_3.heap.size 0 none) 0
                                              [Value.int IntKind.u64 n, Value.int IntKind.u64 n_4] →
                                          cnd (n_5 != 0)
                                            (Calls Proofs.Try.prog 9 #[] w'_5 fun (e : Ending) (w' : World) =>
                                              ∃ (b : Bool),
                                                e = Ending.returned (Value.bool b) ∧
                                                  R (Ending.returned (Value.bool b)) w')
                                            (∃ (n : Int),
                                              ∃ (n_6 : Int),
                                                (w'_5.cell? (Addr.mk w.heap.size 0 none) =
                                                      some (Value.int IntKind.u64 n) ∧
                                                    w'_5.cell? (Addr.mk w.heap.size 1 none) =
                                                        some (Value.int IntKind.u64 n_6) ∧
                                                      True) ∧
                                                  Calls Proofs.Try.prog 15
                                                    #[Value.agg #[Value.int IntKind.u64 n, Value.int IntKind.u64 n_6],
                                                      Value.int IntKind.u64 v']
                                                    w'_5 fun (e : Ending) (w'_6 : World) =>
                                                    ∃ (b : Bool),
                                                      e = Ending.returned (Value.bool b) ∧
                                                        cnd (!b)
                                                          (Calls Proofs.Try.prog 9 #[] w'_6
                                                            fun (e : Ending) (w' : World) =>
                                                            ∃ (b : Bool),
                                                              e = Ending.returned (Value.bool b) ∧
                                                                R (Ending.returned (Value.bool b)) w')
                                                          (∃ (n : Int),
                                                            ∃ (n_7 : Int),
                                                              (w'_6.cell? (Addr.mk w'_1.heap.size 0 none) =
                                                                    some (Value.int IntKind.u64 n) ∧
                                                                  w'_6.cell? (Addr.mk w'_1.heap.size 1 none) =
                                                                      some (Value.int IntKind.u64 n_7) ∧
                                                                    True) ∧
                                                                Calls Proofs.Try.prog 15
                                                                  #[Value.agg
                                                                      #[Value.int IntKind.u64 n,
                                                                        Value.int IntKind.u64 n_7],
                                                                    Value.int IntKind.u64 w']
                                                                  w'_6 fun (e : Ending) (w'_7 : World) =>
                                                                  ∃ (b : Bool),
                                                                    e = Ending.returned (Value.bool b) ∧
                                                                      cnd (!b)
                                                                        (Calls Proofs.Try.prog 9 #[] w'_7
                                                                          fun (e : Ending) (w' : World) =>
                                                                          ∃ (b : Bool),
                                                                            e = Ending.returned (Value.bool b) ∧
                                                                              R (Ending.returned (Value.bool b)) w')
                                                                        (Calls Proofs.Try.prog 19
                                                                          #[Value.int IntKind.u8 fn',
                                                                            Value.int IntKind.u64 v',
                                                                            Value.int IntKind.u64 w']
                                                                          w'_7 fun (e : Ending) (w' : World) =>
                                                                          ∃ (n : Int),
                                                                            ∃ (n_8 : Int),
                                                                              e =
                                                                                  Ending.returned
                                                                                    (Value.tuple
                                                                                      #[Value.int IntKind.u64 n,
                                                                                        Value.int IntKind.i64 n_8]) ∧
                                                                                cnd (n_8 == 0)
                                                                                  (∃ (n_9 : Int),
                                                                                    ∃ (n_10 : Int),
                                                                                      (w'.cell?
                                                                                              (Addr.mk w'_3.heap.size 0
                                                                                                none) =
                                                                                            some
                                                                                              (Value.int IntKind.u64
                                                                                                n_9) ∧
                                                                                          w'.cell?
                                                                                                (Addr.mk w'_3.heap.size 1
                                                                                                  none) =
                                                                                              some
                                                                                                (Value.int IntKind.u64
                                                                                                  n_10) ∧
                                                                                            True) ∧
                                                                                        Calls Proofs.Try.prog 14
                                                                                          #[Value.agg
                                                                                              #[Value.int IntKind.u64 n_9,
                                                                                                Value.int IntKind.u64
                                                                                                  n_10]]
                                                                                          w'
                                                                                          fun (e : Ending) (w' : World) =>
                                                                                          ∃ (n_11 : Int),
                                                                                            e =
                                                                                                Ending.returned
                                                                                                  (Value.int IntKind.i64
                                                                                                    n_11) ∧
                                                                                              cnd (n_11 == 0)
                                                                                                (∃ (n_12 : Int),
                                                                                                  ∃ (n_13 : Int),
                                                                                                    (w'.cell?
                                                                                                            (Addr.mk
                                                                                                              w'_3.heap.size
                                                                                                              0 none) =
                                                                                                          some
                                                                                                            (Value.int
                                                                                                              IntKind.u64
                                                                                                              n_12) ∧
                                                                                                        w'.cell?
                                                                                                              (Addr.mk
                                                                                                                w'_3.heap.size
                                                                                                                1 none) =
                                                                                                            some
                                                                                                              (Value.int
                                                                                                                IntKind.u64
                                                                                                                n_13) ∧
                                                                                                          True) ∧
                                                                                                      Calls
                                                                                                        Proofs.Try.prog 15
                                                                                                        #[Value.agg
                                                                                                            #[Value.int
                                                                                                                IntKind.u64
                                                                                                                n_12,
                                                                                                              Value.int
                                                                                                                IntKind.u64
                                                                                                                n_13],
                                                                                                          Value.int
                                                                                                            IntKind.u64 n]
                                                                                                        w'
                                                                                                        fun (e : Ending)
                                                                                                          (w' : World) =>
                                                                                                        ∃ (b : Bool),
                                                                                                          e =
                                                                                                              Ending.returned
                                                                                                                (Value.bool
                                                                                                                  b) ∧
                                                                                                            cnd b
                                                                                                              (Calls
                                                                                                                Proofs.Try.prog
                                                                                                                9 #[] w'
                                                                                                                fun
                                                                                                                  (e :
                                                                                                                    Ending)
                                                                                                                  (w' :
                                                                                                                    World) =>
                                                                                                                ∃ (b :
                                                                                                                  Bool),
                                                                                                                  e =
                                                                                                                      Ending.returned
                                                                                                                        (Value.bool
                                                                                                                          b) ∧
                                                                                                                    R
                                                                                                                      (Ending.returned
                                                                                                                        (Value.bool
                                                                                                                          b))
                                                                                                                      w')
                                                                                                              (R
                                                                                                                (Ending.returned
                                                                                                                  (Value.bool
                                                                                                                    false))
                                                                                                                w'))
                                                                                                (R
                                                                                                  (Ending.returned
                                                                                                    (Value.bool false))
                                                                                                  w'))
                                                                                  (R (Ending.returned (Value.bool false))
                                                                                    w'))))
theorem law20_SpanSound.vc_eq (fn' : Int) (a'_0 : Int) (a'_1 : Int) (b'_0 : Int) (b'_1 : Int) (v' : Int) (w' : Int) (w : World) (R : Ending → World → Prop) : fnV Try.prog law20_SpanSound.H 6 [Value.int IntKind.u8 fn', Value.agg #[Value.int IntKind.u64 a'_0, Value.int IntKind.u64 a'_1],
    Value.agg #[Value.int IntKind.u64 b'_0, Value.int IntKind.u64 b'_1], Value.int IntKind.u64 v',
    Value.int IntKind.u64 w'] w R = law20_SpanSound.vc fn' a'_0 a'_1 b'_0 b'_1 v' w' w R := by kernel_rfl
theorem law20_SpanSound.calls {fn' : Int} {a'_0 : Int} {a'_1 : Int} {b'_0 : Int} {b'_1 : Int} {v' : Int} {w' : Int} {w : World} {R : Ending → World → Prop} (h : law20_SpanSound.vc fn' a'_0 a'_1 b'_0 b'_1 v' w' w R) : Calls Try.prog 6 ([Value.int IntKind.u8 fn', Value.agg #[Value.int IntKind.u64 a'_0, Value.int IntKind.u64 a'_1],
    Value.agg #[Value.int IntKind.u64 b'_0, Value.int IntKind.u64 b'_1], Value.int IntKind.u64 v',
    Value.int IntKind.u64 w'] : List Value).toArray w R := calls_of_eq (law20_SpanSound.vc_eq fn' a'_0 a'_1 b'_0 b'_1 v' w' w R) h

end Go.Proofs.Ytpfnjooddobohaa
