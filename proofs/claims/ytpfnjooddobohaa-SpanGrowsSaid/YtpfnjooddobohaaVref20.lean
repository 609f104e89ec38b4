/-
The explicit conditions of some functions of the program, printed by this repo's own program over VcTop: what is proved is that each is the condition.
Conditions: none.
-/
import Derived.Test.YtpfnjooddobohaaVcTop
import Derived.Test.YtpfnjooddobohaaProg
namespace Go.Proofs.Ytpfnjooddobohaa
open Go Go.Vc Go.RowKit
set_option linter.unusedVariables false
set_option maxRecDepth 100000

/- function 8: sacristy/sacristyref20.May -/
abbrev ref20_May.N : FuncId := 8
def ref20_May.H : Hints := {  }
def ref20_May.vc (r'_0 : Int) (r'_1 : Int) (w : World) (R : Ending → World → Prop) : Prop :=
  ∀ (w' : World),
    w' = w.alloc (Obj.cells #[Value.int IntKind.u64 r'_0, Value.int IntKind.u64 r'_1] 24) →
      ∃ (n : Int),
        w'.cell? (Addr.mk w.heap.size 0 none) = some (Value.int IntKind.u64 n) ∧
          ∃ (n_1 : Int),
            w'.cell? (Addr.mk w.heap.size 1 none) = some (Value.int IntKind.u64 n_1) ∧
              R (Ending.returned (Value.bool (decide (n ≤ n_1)))) w'
theorem ref20_May.vc_eq (r'_0 : Int) (r'_1 : Int) (w : World) (R : Ending → World → Prop) : fnV Try.prog ref20_May.H 8 [Value.agg #[Value.int IntKind.u64 r'_0, Value.int IntKind.u64 r'_1]] w R = ref20_May.vc r'_0 r'_1 w R := by kernel_rfl
theorem ref20_May.calls {r'_0 : Int} {r'_1 : Int} {w : World} {R : Ending → World → Prop} (h : ref20_May.vc r'_0 r'_1 w R) : Calls Try.prog 8 ([Value.agg #[Value.int IntKind.u64 r'_0, Value.int IntKind.u64 r'_1]] : List Value).toArray w R := calls_of_eq (ref20_May.vc_eq r'_0 r'_1 w R) h

/- function 22: sacristy/sacristyref20.All -/
abbrev ref20_All.N : FuncId := 22
def ref20_All.H : Hints := {  }
def ref20_All.vc (w : World) (R : Ending → World → Prop) : Prop :=
  ∀ (w' : World),
    w' = w.alloc (Obj.cells #[Value.int IntKind.u64 0, Value.int IntKind.u64 0] 24) →
      SetsAt w' (Addr.mk w.heap.size 0 none) 0 [Value.int IntKind.u64 0, Value.int IntKind.u64 18446744073709551615] ∧
        ∀ (w'_1 : World),
          w'_1 =
              setCellsAt w' (Addr.mk w.heap.size 0 none) 0
                [Value.int IntKind.u64 0, Value.int IntKind.u64 18446744073709551615] →
            ∃ (n : Int),
              ∃ (n_1 : Int),
                (w'_1.cell? (Addr.mk w.heap.size 0 none) = some (Value.int IntKind.u64 n) ∧
                    w'_1.cell? (Addr.mk w.heap.size 1 none) = some (Value.int IntKind.u64 n_1) ∧ True) ∧
                  R (Ending.returned (Value.agg #[Value.int IntKind.u64 n, Value.int IntKind.u64 n_1])) w'_1
theorem ref20_All.vc_eq (w : World) (R : Ending → World → Prop) : fnV Try.prog ref20_All.H 22 [] w R = ref20_All.vc w R := by kernel_rfl
theorem ref20_All.calls {w : World} {R : Ending → World → Prop} (h : ref20_All.vc w R) : Calls Try.prog 22 ([] : List Value).toArray w R := calls_of_eq (ref20_All.vc_eq w R) h

/- function 23: sacristy/sacristyref20.both -/
abbrev ref20_both.N : FuncId := 23
def ref20_both.H : Hints := { tails := [(1, 13)] }
def ref20_both.vc (fn' : Int) (a'_0 : Int) (a'_1 : Int) (b'_0 : Int) (b'_1 : Int) (w : World) (R : Ending → World → Prop) : Prop :=
  ∀ (w' : World),
    w' = w.alloc (Obj.cells #[Value.int IntKind.u64 a'_0, Value.int IntKind.u64 a'_1] 24) →
      ∀ (w'_1 : World),
        w'_1 = w'.alloc (Obj.cells #[Value.int IntKind.u64 b'_0, Value.int IntKind.u64 b'_1] 24) →
          ∀ (w'_2 : World),
            w'_2 = w'_1.alloc (Obj.cells #[Value.int IntKind.u64 0, Value.int IntKind.u64 0] 24) →
              ∃ (n : Int),
                (∀ (w' : World), Later w'_2 w' → w'.cell? (Addr.mk w.heap.size 0 none) = some (Value.int IntKind.u64 n)) ∧
                  ∃ (n_1 : Int),
                    (∀ (w'_3 : World),
                        Later w'_2 w'_3 → w'_3.cell? (Addr.mk w'.heap.size 0 none) = some (Value.int IntKind.u64 n_1)) ∧
                      ∃ (n_2 : Int),
                        (∀ (w' : World),
                            Later w'_2 w' →
                              Calls Proofs.Try.prog 24
                                #[Value.int IntKind.u8 fn', Value.int IntKind.u64 n, Value.int IntKind.u64 n_1] w'
                                fun (e : Ending) (w'' : World) =>
                                e = Ending.returned (Value.int IntKind.u64 n_2) ∧ Later w' w'') ∧
                          ∃ (n : Int),
                            (∀ (w' : World),
                                Later w'_2 w' → w'.cell? (Addr.mk w.heap.size 1 none) = some (Value.int IntKind.u64 n)) ∧
                              ∃ (n_3 : Int),
                                (∀ (w'_3 : World),
                                    Later w'_2 w'_3 →
                                      w'_3.cell? (Addr.mk w'.heap.size 1 none) = some (Value.int IntKind.u64 n_3)) ∧
                                  ∃ (n_4 : Int),
                                    (∀ (w' : World),
                                        Later w'_2 w' →
                                          Calls Proofs.Try.prog 24
                                            #[Value.int IntKind.u8 fn', Value.int IntKind.u64 n,
                                              Value.int IntKind.u64 n_3]
                                            w' fun (e : Ending) (w'' : World) =>
                                            e = Ending.returned (Value.int IntKind.u64 n_4) ∧ Later w' w'') ∧
                                      ∀ (w' : World),
                                        Later w'_2 w' →
                                          SetsAt w' (Addr.mk w'_1.heap.size 0 none) 0
                                              [Value.int IntKind.u64 n_2, Value.int IntKind.u64 n_4] ∧
                                            ∀ (w'_3 : World),
                                              w'_3 =
                                                  setCellsAt w' (Addr.mk w'_1.heap.size 0 none) 0
                                                    [Value.int IntKind.u64 n_2, Value.int IntKind.u64 n_4] →
                                                ∃ (n : Int),
                                                  ∃ (n_5 : Int),
                                                    (w'_3.cell? (Addr.mk w'_1.heap.size 0 none) =
                                                          some (Value.int IntKind.u64 n) ∧
                                                        w'_3.cell? (Addr.mk w'_1.heap.size 1 none) =
                                                            some (Value.int IntKind.u64 n_5) ∧
                                                          True) ∧
                                                      R
                                                        (Ending.returned
                                                          (Value.agg
                                                            #[Value.int IntKind.u64 n, Value.int IntKind.u64 n_5]))
                                                        w'_3
theorem ref20_both.vc_eq (fn' : Int) (a'_0 : Int) (a'_1 : Int) (b'_0 : Int) (b'_1 : Int) (w : World) (R : Ending → World → Prop) : fnV Try.prog ref20_both.H 23 [Value.int IntKind.u8 fn', Value.agg #[Value.int IntKind.u64 a'_0, Value.int IntKind.u64 a'_1],
    Value.agg #[Value.int IntKind.u64 b'_0, Value.int IntKind.u64 b'_1]] w R = ref20_both.vc fn' a'_0 a'_1 b'_0 b'_1 w R := by kernel_rfl
theorem ref20_both.calls {fn' : Int} {a'_0 : Int} {a'_1 : Int} {b'_0 : Int} {b'_1 : Int} {w : World} {R : Ending → World → Prop} (h : ref20_both.vc fn' a'_0 a'_1 b'_0 b'_1 w R) : Calls Try.prog 23 ([Value.int IntKind.u8 fn', Value.agg #[Value.int IntKind.u64 a'_0, Value.int IntKind.u64 a'_1],
    Value.agg #[Value.int IntKind.u64 b'_0, Value.int IntKind.u64 b'_1]] : List Value).toArray w R := calls_of_eq (ref20_both.vc_eq fn' a'_0 a'_1 b'_0 b'_1 w R) h

/- function 24: sacristy/sacristyref20.op -/
abbrev ref20_op.N : FuncId := 24
def ref20_op.H : Hints := {  }
def ref20_op.vc (fn' : Int) (a' : Int) (b' : Int) (w : World) (R : Ending → World → Prop) : Prop :=
  Calls Proofs.Try.prog 47 #[Value.int IntKind.u8 fn', Value.int IntKind.u64 a', Value.int IntKind.u64 b'] w
    fun (e : Ending) (w' : World) =>
    ∃ (n : Int),
      ∃ (n_1 : Int),
        e = Ending.returned (Value.tuple #[Value.int IntKind.u64 n, Value.int IntKind.i64 n_1]) ∧
          R (Ending.returned (Value.int IntKind.u64 n)) w'
theorem ref20_op.vc_eq (fn' : Int) (a' : Int) (b' : Int) (w : World) (R : Ending → World → Prop) : fnV Try.prog ref20_op.H 24 [Value.int IntKind.u8 fn', Value.int IntKind.u64 a', Value.int IntKind.u64 b'] w R = ref20_op.vc fn' a' b' w R := by kernel_rfl
theorem ref20_op.calls {fn' : Int} {a' : Int} {b' : Int} {w : World} {R : Ending → World → Prop} (h : ref20_op.vc fn' a' b' w R) : Calls Try.prog 24 ([Value.int IntKind.u8 fn', Value.int IntKind.u64 a', Value.int IntKind.u64 b'] : List Value).toArray w R := calls_of_eq (ref20_op.vc_eq fn' a' b' w R) h

/- function 25: sacristy/sacristyref20.divided -/
abbrev ref20_divided.N : FuncId := 25
def ref20_divided.H : Hints := { tails := [(4, 11)] }
def ref20_divided.vc (fn' : Int) (a'_0 : Int) (a'_1 : Int) (b'_0 : Int) (b'_1 : Int) (w : World) (R : Ending → World → Prop) : Prop :=
  ∀ (w' : World),
    w' = w.alloc (Obj.cells #[Value.int IntKind.u64 a'_0, Value.int IntKind.u64 a'_1] 24) →
      ∀ (w'_1 : World),
        w'_1 = w'.alloc (Obj.cells #[Value.int IntKind.u64 b'_0, Value.int IntKind.u64 b'_1] 24) →
          ∀ (w'_2 : World),
            w'_2 = w'_1.alloc (Obj.cells #[Value.int IntKind.u64 0, Value.int IntKind.u64 0] 24) →
              cnd (fn' == 13)
                (∃ (n : Int),
                  w'_2.cell? (Addr.mk w'.heap.size 0 none) = some (Value.int IntKind.u64 n) ∧
                    cnd (n == 0)
                      (Calls Proofs.Try.prog 22 #[] w'_2 fun (e : Ending) (w' : World) =>
                        ∃ (n : Int),
                          ∃ (n_1 : Int),
                            e = Ending.returned (Value.agg #[Value.int IntKind.u64 n, Value.int IntKind.u64 n_1]) ∧
                              SetsAt w' (Addr.mk w'_1.heap.size 0 none) 0
                                  [Value.int IntKind.u64 n, Value.int IntKind.u64 n_1] ∧
                                ∀ (w'_3 : World),
                                  w'_3 =
                                      setCellsAt w' (Addr.mk w'_1.heap.size 0 none) 0
                                        [Value.int IntKind.u64 n, Value.int IntKind.u64 n_1] →
                                    ∃ (n : Int),
                                      ∃ (n_2 : Int),
                                        (w'_3.cell? (Addr.mk w'_1.heap.size 0 none) = some (Value.int IntKind.u64 n) ∧
                                            w'_3.cell? (Addr.mk w'_1.heap.size 1 none) =
                                                some (Value.int IntKind.u64 n_2) ∧
                                              True) ∧
                                          R
                                            (Ending.returned
                                              (Value.agg #[Value.int IntKind.u64 n, Value.int IntKind.u64 n_2]))
                                            w'_3)
                      (∃ (n : Int),
                        (∀ (w' : World),
                            Later w'_2 w' → w'.cell? (Addr.mk w.heap.size 0 none) = some (Value.int IntKind.u64 n)) ∧
                          ∃ (n_1 : Int),
                            (∀ (w'_3 : World),
                                Later w'_2 w'_3 →
                                  w'_3.cell? (Addr.mk w'.heap.size 1 none) = some (Value.int IntKind.u64 n_1)) ∧
                              cnd (decide (n_1 = 0)) False
                                (∃ (n_2 : Int),
                                  (∀ (w' : World),
                                      Later w'_2 w' →
                                        w'.cell? (Addr.mk w.heap.size 1 none) = some (Value.int IntKind.u64 n_2)) ∧
                                    ∃ (n_3 : Int),
                                      (∀ (w'_3 : World),
                                          Later w'_2 w'_3 →
                                            w'_3.cell? (Addr.mk w'.heap.size 0 none) = some (Value.int IntKind.u64 n_3)) ∧
                                        cnd (decide (n_3 = 0)) False
                                          (∀ (w' : World),
                                            Later w'_2 w' →
                                              SetsAt w' (Addr.mk w'_1.heap.size 0 none) 0
                                                  [Value.int IntKind.u64 (IntKind.u64.wrap (n.tdiv n_1)),
                                                    Value.int IntKind.u64 (IntKind.u64.wrap (n_2.tdiv n_3))] ∧
                                                ∀ (w'_3 : World),
                                                  w'_3 =
                                                      setCellsAt w' (Addr.mk w'_1.heap.size 0 none) 0
                                                        [Value.int IntKind.u64 (IntKind.u64.wrap (n.tdiv n_1)),
                                                          Value.int IntKind.u64 (IntKind.u64.wrap (n_2.tdiv n_3))] →
                                                    ∃ (n : Int),
                                                      ∃ (n_4 : Int),
                                                        (w'_3.cell? (Addr.mk w'_1.heap.size 0 none) =
                                                              some (Value.int IntKind.u64 n) ∧
                                                            w'_3.cell? (Addr.mk w'_1.heap.size 1 none) =
                                                                some (Value.int IntKind.u64 n_4) ∧
                                                              True) ∧
                                                          R
                                                            (Ending.returned
                                                              (Value.agg
                                                                #[Value.int IntKind.u64 n, Value.int IntKind.u64 n_4]))
                                                            w'_3))))
                (∃ (n : Int),
                  w'_2.cell? (Addr.mk w.heap.size 1 none) = some (Value.int IntKind.u64 n) ∧
                    ∃ (n_1 : Int),
                      w'_2.cell? (Addr.mk w'.heap.size 0 none) = some (Value.int IntKind.u64 n_1) ∧
                        cnd (decide (n < n_1))
                          (∃ (n : Int),
                            ∃ (n_2 : Int),
                              (w'_2.cell? (Addr.mk w.heap.size 0 none) = some (Value.int IntKind.u64 n) ∧
                                  w'_2.cell? (Addr.mk w.heap.size 1 none) = some (Value.int IntKind.u64 n_2) ∧ True) ∧
                                SetsAt w'_2 (Addr.mk w'_1.heap.size 0 none) 0
                                    [Value.int IntKind.u64 n, Value.int IntKind.u64 n_2] ∧
                                  ∀ (w' : World),
                                    w' =
                                        setCellsAt w'_2 (Addr.mk w'_1.heap.size 0 none) 0
                                          [Value.int IntKind.u64 n, Value.int IntKind.u64 n_2] →
                                      ∃ (n : Int),
                                        ∃ (n_3 : Int),
                                          (w'.cell? (Addr.mk w'_1.heap.size 0 none) = some (Value.int IntKind.u64 n) ∧
                                              w'.cell? (Addr.mk w'_1.heap.size 1 none) =
                                                  some (Value.int IntKind.u64 n_3) ∧
                                                True) ∧
                                            R
                                              (Ending.returned
                                                (Value.agg #[Value.int IntKind.u64 n, Value.int IntKind.u64 n_3]))
                                              w')
                          (∃ (n : Int),
                            w'_2.cell? (Addr.mk w'.heap.size 0 none) = some (Value.int IntKind.u64 n) ∧
                              cnd (n == 0)
                                (∃ (n : Int),
                                  w'_2.cell? (Addr.mk w.heap.size 1 none) = some (Value.int IntKind.u64 n) ∧
                                    SetsAt w'_2 (Addr.mk w'_1.heap.size 0 none) 0
                                        [Value.int IntKind.u64 0, Value.int IntKind.u64 n] ∧
                                      ∀ (w' : World),
                                        w' =
                                            setCellsAt w'_2 (Addr.mk w'_1.heap.size 0 none) 0
                                              [Value.int IntKind.u64 0, Value.int IntKind.u64 n] →
                                          ∃ (n : Int),
                                            ∃ (n_2 : Int),
                                              (w'.cell? (Addr.mk w'_1.heap.size 0 none) = some (Value.int IntKind.u64 n) ∧
                                                  w'.cell? (Addr.mk w'_1.heap.size 1 none) =
                                                      some (Value.int IntKind.u64 n_2) ∧
                                                    True) ∧
                                                R
                                                  (Ending.returned
                                                    (Value.agg #[Value.int IntKind.u64 n, Value.int IntKind.u64 n_2]))
                                                  w')
                                (∃ (n : Int),
                                  w'_2.cell? (Addr.mk w.heap.size 1 none) = some (Value.int IntKind.u64 n) ∧
                                    ∃ (n_2 : Int),
                                      w'_2.cell? (Addr.mk w'.heap.size 1 none) = some (Value.int IntKind.u64 n_2) ∧
                                        SetsAt w'_2 (Addr.mk w'_1.heap.size 0 none) 0
                                            [Value.int IntKind.u64 0,
                                              Value.int IntKind.u64 (gomin n (IntKind.u64.wrap (n_2 - 1)))] ∧
                                          ∀ (w' : World),
                                            w' =
                                                setCellsAt w'_2 (Addr.mk w'_1.heap.size 0 none) 0
                                                  [Value.int IntKind.u64 0,
                                                    Value.int IntKind.u64 (gomin n (IntKind.u64.wrap (n_2 - 1)))] →
                                              ∃ (n : Int),
                                                ∃ (n_3 : Int),
                                                  (w'.cell? (Addr.mk w'_1.heap.size 0 none) =
                                                        some (Value.int IntKind.u64 n) ∧
                                                      w'.cell? (Addr.mk w'_1.heap.size 1 none) =
                                                          some (Value.int IntKind.u64 n_3) ∧
                                                        True) ∧
                                                    R
                                                      (Ending.returned
                                                        (Value.agg #[Value.int IntKind.u64 n, Value.int IntKind.u64 n_3]))
                                                      w')))
theorem ref20_divided.vc_eq (fn' : Int) (a'_0 : Int) (a'_1 : Int) (b'_0 : Int) (b'_1 : Int) (w : World) (R : Ending → World → Prop) : fnV Try.prog ref20_divided.H 25 [Value.int IntKind.u8 fn', Value.agg #[Value.int IntKind.u64 a'_0, Value.int IntKind.u64 a'_1],
    Value.agg #[Value.int IntKind.u64 b'_0, Value.int IntKind.u64 b'_1]] w R = ref20_divided.vc fn' a'_0 a'_1 b'_0 b'_1 w R := by kernel_rfl
theorem ref20_divided.calls {fn' : Int} {a'_0 : Int} {a'_1 : Int} {b'_0 : Int} {b'_1 : Int} {w : World} {R : Ending → World → Prop} (h : ref20_divided.vc fn' a'_0 a'_1 b'_0 b'_1 w R) : Calls Try.prog 25 ([Value.int IntKind.u8 fn', Value.agg #[Value.int IntKind.u64 a'_0, Value.int IntKind.u64 a'_1],
    Value.agg #[Value.int IntKind.u64 b'_0, Value.int IntKind.u64 b'_1]] : List Value).toArray w R := calls_of_eq (ref20_divided.vc_eq fn' a'_0 a'_1 b'_0 b'_1 w R) h

/- function 26: sacristy/sacristyref20.Mask -/
abbrev ref20_Mask.N : FuncId := 26
def ref20_Mask.H : Hints := { loops := [(3, [(3, .one (.int .u64))])] }
def ref20_Mask.vc (v' : Int) (w : World) (R : Ending → World → Prop) : Prop :=
  ∃ (I : List Value → World → Prop),
    ∃ (μ : List Value → World → Nat),
      I [Value.int IntKind.u64 0] w ∧
        ∀ (g : Nat → Value) (m : Int) (w' : World),
          I [Value.int IntKind.u64 m] w' →
            cnd (decide (m < v'))
              (Goes I μ [Value.int IntKind.u64 m] w'
                [Value.int IntKind.u64 (IntKind.u64.wrap (IntKind.u64.wrap (2 * m) + 1))] w')
              (R (Ending.returned (Value.int IntKind.u64 m)) w')
theorem ref20_Mask.vc_eq (v' : Int) (w : World) (R : Ending → World → Prop) : fnV Try.prog ref20_Mask.H 26 [Value.int IntKind.u64 v'] w R = ref20_Mask.vc v' w R := by kernel_rfl
theorem ref20_Mask.calls {v' : Int} {w : World} {R : Ending → World → Prop} (h : ref20_Mask.vc v' w R) : Calls Try.prog 26 ([Value.int IntKind.u64 v'] : List Value).toArray w R := calls_of_eq (ref20_Mask.vc_eq v' w R) h

/- function 27: sacristy/sacristyref20.less -/
abbrev ref20_less.N : FuncId := 27
def ref20_less.H : Hints := {  }
def ref20_less.vc (a'_0 : Int) (a'_1 : Int) (b'_0 : Int) (b'_1 : Int) (w : World) (R : Ending → World → Prop) : Prop :=
  ∀ (w' : World),
    w' = w.alloc (Obj.cells #[Value.int IntKind.u64 a'_0, Value.int IntKind.u64 a'_1] 24) →
      ∀ (w'_1 : World),
        w'_1 = w'.alloc (Obj.cells #[Value.int IntKind.u64 b'_0, Value.int IntKind.u64 b'_1] 24) →
          ∀ (w'_2 : World),
            w'_2 = w'_1.alloc (Obj.cells #[Value.int IntKind.u64 0, Value.int IntKind.u64 0] 24) →
              ∃ (n : Int),
                w'_2.cell? (Addr.mk w.heap.size 1 none) = some (Value.int IntKind.u64 n) ∧
                  ∃ (n_1 : Int),
                    w'_2.cell? (Addr.mk w'.heap.size 0 none) = some (Value.int IntKind.u64 n_1) ∧
                      cnd (decide (n < n_1))
                        (SetsAt w'_2 (Addr.mk w'_1.heap.size 0 none) 0
                            [Value.int IntKind.u64 1, Value.int IntKind.u64 1] ∧
                          ∀ (w' : World),
                            w' =
                                setCellsAt w'_2 (Addr.mk w'_1.heap.size 0 none) 0
                                  [Value.int IntKind.u64 1, Value.int IntKind.u64 1] →
                              ∃ (n : Int),
                                ∃ (n_2 : Int),
                                  (w'.cell? (Addr.mk w'_1.heap.size 0 none) = some (Value.int IntKind.u64 n) ∧
                                      w'.cell? (Addr.mk w'_1.heap.size 1 none) = some (Value.int IntKind.u64 n_2) ∧
                                        True) ∧
                                    R (Ending.returned (Value.agg #[Value.int IntKind.u64 n, Value.int IntKind.u64 n_2]))
                                      w')
                        (∃ (n : Int),
                          w'_2.cell? (Addr.mk w.heap.size 0 none) = some (Value.int IntKind.u64 n) ∧
                            ∃ (n_2 : Int),
                              w'_2.cell? (Addr.mk w'.heap.size 1 none) = some (Value.int IntKind.u64 n_2) ∧
                                cnd (decide (n ≥ n_2))
                                  (SetsAt w'_2 (Addr.mk w'_1.heap.size 0 none) 0
                                      [Value.int IntKind.u64 0, Value.int IntKind.u64 0] ∧
                                    ∀ (w' : World),
                                      w' =
                                          setCellsAt w'_2 (Addr.mk w'_1.heap.size 0 none) 0
                                            [Value.int IntKind.u64 0, Value.int IntKind.u64 0] →
                                        ∃ (n : Int),
                                          ∃ (n_3 : Int),
                                            (w'.cell? (Addr.mk w'_1.heap.size 0 none) = some (Value.int IntKind.u64 n) ∧
                                                w'.cell? (Addr.mk w'_1.heap.size 1 none) =
                                                    some (Value.int IntKind.u64 n_3) ∧
                                                  True) ∧
                                              R
                                                (Ending.returned
                                                  (Value.agg #[Value.int IntKind.u64 n, Value.int IntKind.u64 n_3]))
                                                w')
                                  (SetsAt w'_2 (Addr.mk w'_1.heap.size 0 none) 0
                                      [Value.int IntKind.u64 0, Value.int IntKind.u64 1] ∧
                                    ∀ (w' : World),
                                      w' =
                                          setCellsAt w'_2 (Addr.mk w'_1.heap.size 0 none) 0
                                            [Value.int IntKind.u64 0, Value.int IntKind.u64 1] →
                                        ∃ (n : Int),
                                          ∃ (n_3 : Int),
                                            (w'.cell? (Addr.mk w'_1.heap.size 0 none) = some (Value.int IntKind.u64 n) ∧
                                                w'.cell? (Addr.mk w'_1.heap.size 1 none) =
                                                    some (Value.int IntKind.u64 n_3) ∧
                                                  True) ∧
                                              R
                                                (Ending.returned
                                                  (Value.agg #[Value.int IntKind.u64 n, Value.int IntKind.u64 n_3]))
                                                w'))
theorem ref20_less.vc_eq (a'_0 : Int) (a'_1 : Int) (b'_0 : Int) (b'_1 : Int) (w : World) (R : Ending → World → Prop) : fnV Try.prog ref20_less.H 27 [Value.agg #[Value.int IntKind.u64 a'_0, Value.int IntKind.u64 a'_1],
    Value.agg #[Value.int IntKind.u64 b'_0, Value.int IntKind.u64 b'_1]] w R = ref20_less.vc a'_0 a'_1 b'_0 b'_1 w R := by kernel_rfl
theorem ref20_less.calls {a'_0 : Int} {a'_1 : Int} {b'_0 : Int} {b'_1 : Int} {w : World} {R : Ending → World → Prop} (h : ref20_less.vc a'_0 a'_1 b'_0 b'_1 w R) : Calls Try.prog 27 ([Value.agg #[Value.int IntKind.u64 a'_0, Value.int IntKind.u64 a'_1],
    Value.agg #[Value.int IntKind.u64 b'_0, Value.int IntKind.u64 b'_1]] : List Value).toArray w R := calls_of_eq (ref20_less.vc_eq a'_0 a'_1 b'_0 b'_1 w R) h

/- function 28: sacristy/sacristyref20.shifted -/
abbrev ref20_shifted.N : FuncId := 28
def ref20_shifted.H : Hints := { regs := [(1, [(7, .one .bool)]), (3, [(34, .one .bool)]), (6, [(46, .one .bool)])] }
def ref20_shifted.vc (fn' : Int) (a'_0 : Int) (a'_1 : Int) (b'_0 : Int) (b'_1 : Int) (w : World) (R : Ending → World → Prop) : Prop :=
  ∀ (w' : World),
    w' = w.alloc (Obj.cells #[Value.int IntKind.u64 a'_0, Value.int IntKind.u64 a'_1] 24) →
      ∀ (w'_1 : World),
        w'_1 = w'.alloc (Obj.cells #[Value.int IntKind.u64 b'_0, Value.int IntKind.u64 b'_1] 24) →
          ∀ (w'_2 : World),
            w'_2 = w'_1.alloc (Obj.cells #[Value.int IntKind.u64 0, Value.int IntKind.u64 0] 24) →
              ∃ (J : List Value → World → Prop),
                (∃ (n : Int),
                    w'_2.cell? (Addr.mk w'.heap.size 0 none) = some (Value.int IntKind.u64 n) ∧
                      ∃ (n_1 : Int),
                        w'_2.cell? (Addr.mk w'.heap.size 1 none) = some (Value.int IntKind.u64 n_1) ∧
                          cnd (n == n_1)
                            (∃ (n : Int),
                              w'_2.cell? (Addr.mk w'.heap.size 0 none) = some (Value.int IntKind.u64 n) ∧
                                J [Value.bool (decide (n < 64))] w'_2)
                            (J [Value.bool false] w'_2)) ∧
                  ∀ (g : Nat → Value) (one : Bool) (w'_3 : World),
                    J [Value.bool one] w'_3 →
                      cnd (fn' == 3)
                        (∃ (J : List Value → World → Prop),
                          cnd (!one) (J [Value.bool true] w'_3)
                              (∃ (n : Int),
                                w'_3.cell? (Addr.mk w.heap.size 1 none) = some (Value.int IntKind.u64 n) ∧
                                  ∃ (n_1 : Int),
                                    w'_3.cell? (Addr.mk w'.heap.size 0 none) = some (Value.int IntKind.u64 n_1) ∧
                                      cnd (decide (n_1 < 0)) False
                                        (∃ (n_2 : Int),
                                          w'_3.cell? (Addr.mk w'.heap.size 0 none) = some (Value.int IntKind.u64 n_2) ∧
                                            cnd (decide (n_2 < 0)) False
                                              (∃ (n_3 : Int),
                                                w'_3.cell? (Addr.mk w.heap.size 1 none) =
                                                    some (Value.int IntKind.u64 n_3) ∧
                                                  J
                                                    [Value.bool
                                                        ((IntKind.u64.wrap (n * 2 ^ min n_1.toNat 64)).fdiv
                                                            (2 ^ min n_2.toNat 64) !=
                                                          n_3)]
                                                    w'_3))) ∧
                            ∀ (g : Nat → Value) (s34 : Bool) (w'_4 : World),
                              J [Value.bool s34] w'_4 →
                                cnd s34
                                  (Calls Proofs.Try.prog 22 #[] w'_4 fun (e : Ending) (w' : World) =>
                                    ∃ (n : Int),
                                      ∃ (n_1 : Int),
                                        e =
                                            Ending.returned
                                              (Value.agg #[Value.int IntKind.u64 n, Value.int IntKind.u64 n_1]) ∧
                                          SetsAt w' (Addr.mk w'_1.heap.size 0 none) 0
                                              [Value.int IntKind.u64 n, Value.int IntKind.u64 n_1] ∧
                                            ∀ (w'_5 : World),
                                              w'_5 =
                                                  setCellsAt w' (Addr.mk w'_1.heap.size 0 none) 0
                                                    [Value.int IntKind.u64 n, Value.int IntKind.u64 n_1] →
                                                ∃ (n : Int),
                                                  ∃ (n_2 : Int),
                                                    (w'_5.cell? (Addr.mk w'_1.heap.size 0 none) =
                                                          some (Value.int IntKind.u64 n) ∧
                                                        w'_5.cell? (Addr.mk w'_1.heap.size 1 none) =
                                                            some (Value.int IntKind.u64 n_2) ∧
                                                          True) ∧
                                                      R
                                                        (Ending.returned
                                                          (Value.agg
                                                            #[Value.int IntKind.u64 n, Value.int IntKind.u64 n_2]))
                                                        w'_5)
                                  (∃ (n : Int),
                                    ∃ (n_1 : Int),
                                      (w'_4.cell? (Addr.mk w.heap.size 0 none) = some (Value.int IntKind.u64 n) ∧
                                          w'_4.cell? (Addr.mk w.heap.size 1 none) = some (Value.int IntKind.u64 n_1) ∧
                                            True) ∧
                                        ∃ (n_2 : Int),
                                          ∃ (n_3 : Int),
                                            (w'_4.cell? (Addr.mk w'.heap.size 0 none) = some (Value.int IntKind.u64 n_2) ∧
                                                w'_4.cell? (Addr.mk w'.heap.size 1 none) =
                                                    some (Value.int IntKind.u64 n_3) ∧
                                                  True) ∧
                                              Calls Proofs.Try.prog 23
                                                #[Value.int IntKind.u8 fn',
                                                  Value.agg #[Value.int IntKind.u64 n, Value.int IntKind.u64 n_1],
                                                  Value.agg #[Value.int IntKind.u64 n_2, Value.int IntKind.u64 n_3]]
                                                w'_4 fun (e : Ending) (w' : World) =>
                                                ∃ (n : Int),
                                                  ∃ (n_4 : Int),
                                                    e =
                                                        Ending.returned
                                                          (Value.agg
                                                            #[Value.int IntKind.u64 n, Value.int IntKind.u64 n_4]) ∧
                                                      SetsAt w' (Addr.mk w'_1.heap.size 0 none) 0
                                                          [Value.int IntKind.u64 n, Value.int IntKind.u64 n_4] ∧
                                                        ∀ (w'_5 : World),
                                                          w'_5 =
                                                              setCellsAt w' (Addr.mk w'_1.heap.size 0 none) 0
                                                                [Value.int IntKind.u64 n, Value.int IntKind.u64 n_4] →
                                                            ∃ (n : Int),
                                                              ∃ (n_5 : Int),
                                                                (w'_5.cell? (Addr.mk w'_1.heap.size 0 none) =
                                                                      some (Value.int IntKind.u64 n) ∧
                                                                    w'_5.cell? (Addr.mk w'_1.heap.size 1 none) =
                                                                        some (Value.int IntKind.u64 n_5) ∧
                                                                      True) ∧
                                                                  R
                                                                    (Ending.returned
                                                                      (Value.agg
                                                                        #[Value.int IntKind.u64 n,
                                                                          Value.int IntKind.u64 n_5]))
                                                                    w'_5))
                        (∃ (J : List Value → World → Prop),
                          cnd (fn' == 8)
                              (∃ (n : Int),
                                w'_3.cell? (Addr.mk w.heap.size 1 none) = some (Value.int IntKind.u64 n) ∧
                                  J [Value.bool (decide (n ≥ 9223372036854775808))] w'_3)
                              (J [Value.bool false] w'_3) ∧
                            ∀ (g : Nat → Value) (s46 : Bool) (w'_4 : World),
                              J [Value.bool s46] w'_4 →
                                cnd s46
                                  (Calls Proofs.Try.prog 22 #[] w'_4 fun (e : Ending) (w' : World) =>
                                    ∃ (n : Int),
                                      ∃ (n_1 : Int),
                                        e =
                                            Ending.returned
                                              (Value.agg #[Value.int IntKind.u64 n, Value.int IntKind.u64 n_1]) ∧
                                          SetsAt w' (Addr.mk w'_1.heap.size 0 none) 0
                                              [Value.int IntKind.u64 n, Value.int IntKind.u64 n_1] ∧
                                            ∀ (w'_5 : World),
                                              w'_5 =
                                                  setCellsAt w' (Addr.mk w'_1.heap.size 0 none) 0
                                                    [Value.int IntKind.u64 n, Value.int IntKind.u64 n_1] →
                                                ∃ (n : Int),
                                                  ∃ (n_2 : Int),
                                                    (w'_5.cell? (Addr.mk w'_1.heap.size 0 none) =
                                                          some (Value.int IntKind.u64 n) ∧
                                                        w'_5.cell? (Addr.mk w'_1.heap.size 1 none) =
                                                            some (Value.int IntKind.u64 n_2) ∧
                                                          True) ∧
                                                      R
                                                        (Ending.returned
                                                          (Value.agg
                                                            #[Value.int IntKind.u64 n, Value.int IntKind.u64 n_2]))
                                                        w'_5)
                                  (cnd (!one)
                                    (∃ (n : Int),
                                      w'_4.cell? (Addr.mk w.heap.size 1 none) = some (Value.int IntKind.u64 n) ∧
                                        SetsAt w'_4 (Addr.mk w'_1.heap.size 0 none) 0
                                            [Value.int IntKind.u64 0, Value.int IntKind.u64 n] ∧
                                          ∀ (w' : World),
                                            w' =
                                                setCellsAt w'_4 (Addr.mk w'_1.heap.size 0 none) 0
                                                  [Value.int IntKind.u64 0, Value.int IntKind.u64 n] →
                                              ∃ (n : Int),
                                                ∃ (n_1 : Int),
                                                  (w'.cell? (Addr.mk w'_1.heap.size 0 none) =
                                                        some (Value.int IntKind.u64 n) ∧
                                                      w'.cell? (Addr.mk w'_1.heap.size 1 none) =
                                                          some (Value.int IntKind.u64 n_1) ∧
                                                        True) ∧
                                                    R
                                                      (Ending.returned
                                                        (Value.agg #[Value.int IntKind.u64 n, Value.int IntKind.u64 n_1]))
                                                      w')
                                    (∃ (n : Int),
                                      ∃ (n_1 : Int),
                                        (w'_4.cell? (Addr.mk w.heap.size 0 none) = some (Value.int IntKind.u64 n) ∧
                                            w'_4.cell? (Addr.mk w.heap.size 1 none) = some (Value.int IntKind.u64 n_1) ∧
                                              True) ∧
                                          ∃ (n_2 : Int),
                                            ∃ (n_3 : Int),
                                              (w'_4.cell? (Addr.mk w'.heap.size 0 none) =
                                                    some (Value.int IntKind.u64 n_2) ∧
                                                  w'_4.cell? (Addr.mk w'.heap.size 1 none) =
                                                      some (Value.int IntKind.u64 n_3) ∧
                                                    True) ∧
                                                Calls Proofs.Try.prog 23
                                                  #[Value.int IntKind.u8 7,
                                                    Value.agg #[Value.int IntKind.u64 n, Value.int IntKind.u64 n_1],
                                                    Value.agg #[Value.int IntKind.u64 n_2, Value.int IntKind.u64 n_3]]
                                                  w'_4 fun (e : Ending) (w' : World) =>
                                                  ∃ (n : Int),
                                                    ∃ (n_4 : Int),
                                                      e =
                                                          Ending.returned
                                                            (Value.agg
                                                              #[Value.int IntKind.u64 n, Value.int IntKind.u64 n_4]) ∧
                                                        SetsAt w' (Addr.mk w'_1.heap.size 0 none) 0
                                                            [Value.int IntKind.u64 n, Value.int IntKind.u64 n_4] ∧
                                                          ∀ (w'_5 : World),
                                                            w'_5 =
                                                                setCellsAt w' (Addr.mk w'_1.heap.size 0 none) 0
                                                                  [Value.int IntKind.u64 n, Value.int IntKind.u64 n_4] →
                                                              ∃ (n : Int),
                                                                ∃ (n_5 : Int),
                                                                  (w'_5.cell? (Addr.mk w'_1.heap.size 0 none) =
                                                                        some (Value.int IntKind.u64 n) ∧
                                                                      w'_5.cell? (Addr.mk w'_1.heap.size 1 none) =
                                                                          some (Value.int IntKind.u64 n_5) ∧
                                                                        True) ∧
                                                                    R
                                                                      (Ending.returned
                                                                        (Value.agg
                                                                          #[Value.int IntKind.u64 n,
                                                                            Value.int IntKind.u64 n_5]))
                                                                      w'_5)))
theorem ref20_shifted.vc_eq (fn' : Int) (a'_0 : Int) (a'_1 : Int) (b'_0 : Int) (b'_1 : Int) (w : World) (R : Ending → World → Prop) : fnV Try.prog ref20_shifted.H 28 [Value.int IntKind.u8 fn', Value.agg #[Value.int IntKind.u64 a'_0, Value.int IntKind.u64 a'_1],
    Value.agg #[Value.int IntKind.u64 b'_0, Value.int IntKind.u64 b'_1]] w R = ref20_shifted.vc fn' a'_0 a'_1 b'_0 b'_1 w R := by kernel_rfl
theorem ref20_shifted.calls {fn' : Int} {a'_0 : Int} {a'_1 : Int} {b'_0 : Int} {b'_1 : Int} {w : World} {R : Ending → World → Prop} (h : ref20_shifted.vc fn' a'_0 a'_1 b'_0 b'_1 w R) : Calls Try.prog 28 ([Value.int IntKind.u8 fn', Value.agg #[Value.int IntKind.u64 a'_0, Value.int IntKind.u64 a'_1],
    Value.agg #[Value.int IntKind.u64 b'_0, Value.int IntKind.u64 b'_1]] : List Value).toArray w R := calls_of_eq (ref20_shifted.vc_eq fn' a'_0 a'_1 b'_0 b'_1 w R) h

/- function 10: sacristy/sacristyref20.Alu -/
abbrev ref20_Alu.N : FuncId := 10
def ref20_Alu.H : Hints := { tails := [(22, 12)] }
def ref20_Alu.vc (fn' : Int) (a'_0 : Int) (a'_1 : Int) (b'_0 : Int) (b'_1 : Int) (w : World) (R : Ending → World → Prop) : Prop :=
  ∀ (w' : World),
    w' = w.alloc (Obj.cells #[Value.int IntKind.u64 a'_0, Value.int IntKind.u64 a'_1] 24) →
      ∀ (w'_1 : World),
        w'_1 = w'.alloc (Obj.cells #[Value.int IntKind.u64 b'_0, Value.int IntKind.u64 b'_1] 24) →
          ∀ (w'_2 : World),
            w'_2 = w'_1.alloc (Obj.cells #[Value.int IntKind.u64 0, Value.int IntKind.u64 0] 24) →
              cnd (fn' == 1)
                (∃ (n : Int),
                  w'_2.cell? (Addr.mk w.heap.size 1 none) = some (Value.int IntKind.u64 n) ∧
                    ∃ (n_1 : Int),
                      w'_2.cell? (Addr.mk w'.heap.size 1 none) = some (Value.int IntKind.u64 n_1) ∧
                        cnd (decide (n > IntKind.u64.wrap (18446744073709551615 - n_1)))
                          (Calls Proofs.Try.prog 22 #[] w'_2 fun (e : Ending) (w' : World) =>
                            ∃ (n : Int),
                              ∃ (n_2 : Int),
                                e = Ending.returned (Value.agg #[Value.int IntKind.u64 n, Value.int IntKind.u64 n_2]) ∧
                                  SetsAt w' (Addr.mk w'_1.heap.size 0 none) 0
                                      [Value.int IntKind.u64 n, Value.int IntKind.u64 n_2] ∧
                                    ∀ (w'_3 : World),
                                      w'_3 =
                                          setCellsAt w' (Addr.mk w'_1.heap.size 0 none) 0
                                            [Value.int IntKind.u64 n, Value.int IntKind.u64 n_2] →
                                        ∃ (n : Int),
                                          ∃ (n_3 : Int),
                                            (w'_3.cell? (Addr.mk w'_1.heap.size 0 none) = some (Value.int IntKind.u64 n) ∧
                                                w'_3.cell? (Addr.mk w'_1.heap.size 1 none) =
                                                    some (Value.int IntKind.u64 n_3) ∧
                                                  True) ∧
                                              R
                                                (Ending.returned
                                                  (Value.agg #[Value.int IntKind.u64 n, Value.int IntKind.u64 n_3]))
                                                w'_3)
                          (∃ (n : Int),
                            ∃ (n_2 : Int),
                              (w'_2.cell? (Addr.mk w.heap.size 0 none) = some (Value.int IntKind.u64 n) ∧
                                  w'_2.cell? (Addr.mk w.heap.size 1 none) = some (Value.int IntKind.u64 n_2) ∧ True) ∧
                                ∃ (n_3 : Int),
                                  ∃ (n_4 : Int),
                                    (w'_2.cell? (Addr.mk w'.heap.size 0 none) = some (Value.int IntKind.u64 n_3) ∧
                                        w'_2.cell? (Addr.mk w'.heap.size 1 none) = some (Value.int IntKind.u64 n_4) ∧
                                          True) ∧
                                      Calls Proofs.Try.prog 23
                                        #[Value.int IntKind.u8 fn',
                                          Value.agg #[Value.int IntKind.u64 n, Value.int IntKind.u64 n_2],
                                          Value.agg #[Value.int IntKind.u64 n_3, Value.int IntKind.u64 n_4]]
                                        w'_2 fun (e : Ending) (w' : World) =>
                                        ∃ (n : Int),
                                          ∃ (n_5 : Int),
                                            e =
                                                Ending.returned
                                                  (Value.agg #[Value.int IntKind.u64 n, Value.int IntKind.u64 n_5]) ∧
                                              SetsAt w' (Addr.mk w'_1.heap.size 0 none) 0
                                                  [Value.int IntKind.u64 n, Value.int IntKind.u64 n_5] ∧
                                                ∀ (w'_3 : World),
                                                  w'_3 =
                                                      setCellsAt w' (Addr.mk w'_1.heap.size 0 none) 0
                                                        [Value.int IntKind.u64 n, Value.int IntKind.u64 n_5] →
                                                    ∃ (n : Int),
                                                      ∃ (n_6 : Int),
                                                        (w'_3.cell? (Addr.mk w'_1.heap.size 0 none) =
                                                              some (Value.int IntKind.u64 n) ∧
                                                            w'_3.cell? (Addr.mk w'_1.heap.size 1 none) =
                                                                some (Value.int IntKind.u64 n_6) ∧
                                                              True) ∧
                                                          R
                                                            (Ending.returned
                                                              (Value.agg
                                                                #[Value.int IntKind.u64 n, Value.int IntKind.u64 n_6]))
                                                            w'_3))
                (cnd (fn' == 2)
                  (∃ (n : Int),
                    w'_2.cell? (Addr.mk w.heap.size 0 none) = some (Value.int IntKind.u64 n) ∧
                      ∃ (n_1 : Int),
                        w'_2.cell? (Addr.mk w'.heap.size 1 none) = some (Value.int IntKind.u64 n_1) ∧
                          cnd (decide (n < n_1))
                            (Calls Proofs.Try.prog 22 #[] w'_2 fun (e : Ending) (w' : World) =>
                              ∃ (n : Int),
                                ∃ (n_2 : Int),
                                  e = Ending.returned (Value.agg #[Value.int IntKind.u64 n, Value.int IntKind.u64 n_2]) ∧
                                    SetsAt w' (Addr.mk w'_1.heap.size 0 none) 0
                                        [Value.int IntKind.u64 n, Value.int IntKind.u64 n_2] ∧
                                      ∀ (w'_3 : World),
                                        w'_3 =
                                            setCellsAt w' (Addr.mk w'_1.heap.size 0 none) 0
                                              [Value.int IntKind.u64 n, Value.int IntKind.u64 n_2] →
                                          ∃ (n : Int),
                                            ∃ (n_3 : Int),
                                              (w'_3.cell? (Addr.mk w'_1.heap.size 0 none) =
                                                    some (Value.int IntKind.u64 n) ∧
                                                  w'_3.cell? (Addr.mk w'_1.heap.size 1 none) =
                                                      some (Value.int IntKind.u64 n_3) ∧
                                                    True) ∧
                                                R
                                                  (Ending.returned
                                                    (Value.agg #[Value.int IntKind.u64 n, Value.int IntKind.u64 n_3]))
                                                  w'_3)
                            (∃ (n : Int),
                              w'_2.cell? (Addr.mk w.heap.size 0 none) = some (Value.int IntKind.u64 n) ∧
                                ∃ (n_2 : Int),
                                  w'_2.cell? (Addr.mk w'.heap.size 1 none) = some (Value.int IntKind.u64 n_2) ∧
                                    ∃ (n_3 : Int),
                                      w'_2.cell? (Addr.mk w.heap.size 1 none) = some (Value.int IntKind.u64 n_3) ∧
                                        ∃ (n_4 : Int),
                                          w'_2.cell? (Addr.mk w'.heap.size 0 none) = some (Value.int IntKind.u64 n_4) ∧
                                            SetsAt w'_2 (Addr.mk w'_1.heap.size 0 none) 0
                                                [Value.int IntKind.u64 (IntKind.u64.wrap (n - n_2)),
                                                  Value.int IntKind.u64 (IntKind.u64.wrap (n_3 - n_4))] ∧
                                              ∀ (w' : World),
                                                w' =
                                                    setCellsAt w'_2 (Addr.mk w'_1.heap.size 0 none) 0
                                                      [Value.int IntKind.u64 (IntKind.u64.wrap (n - n_2)),
                                                        Value.int IntKind.u64 (IntKind.u64.wrap (n_3 - n_4))] →
                                                  ∃ (n : Int),
                                                    ∃ (n_5 : Int),
                                                      (w'.cell? (Addr.mk w'_1.heap.size 0 none) =
                                                            some (Value.int IntKind.u64 n) ∧
                                                          w'.cell? (Addr.mk w'_1.heap.size 1 none) =
                                                              some (Value.int IntKind.u64 n_5) ∧
                                                            True) ∧
                                                        R
                                                          (Ending.returned
                                                            (Value.agg
                                                              #[Value.int IntKind.u64 n, Value.int IntKind.u64 n_5]))
                                                          w'))
                  (cnd (fn' == 11)
                    (∃ (n : Int),
                      w'_2.cell? (Addr.mk w.heap.size 1 none) = some (Value.int IntKind.u64 n) ∧
                        ∃ (n_1 : Int),
                          w'_2.cell? (Addr.mk w'.heap.size 1 none) = some (Value.int IntKind.u64 n_1) ∧
                            Calls Proofs.Try.prog 24
                              #[Value.int IntKind.u8 12, Value.int IntKind.u64 n, Value.int IntKind.u64 n_1] w'_2
                              fun (e : Ending) (w'_3 : World) =>
                              ∃ (n : Int),
                                e = Ending.returned (Value.int IntKind.u64 n) ∧
                                  cnd (n != 0)
                                    (Calls Proofs.Try.prog 22 #[] w'_3 fun (e : Ending) (w' : World) =>
                                      ∃ (n : Int),
                                        ∃ (n_2 : Int),
                                          e =
                                              Ending.returned
                                                (Value.agg #[Value.int IntKind.u64 n, Value.int IntKind.u64 n_2]) ∧
                                            SetsAt w' (Addr.mk w'_1.heap.size 0 none) 0
                                                [Value.int IntKind.u64 n, Value.int IntKind.u64 n_2] ∧
                                              ∀ (w'_4 : World),
                                                w'_4 =
                                                    setCellsAt w' (Addr.mk w'_1.heap.size 0 none) 0
                                                      [Value.int IntKind.u64 n, Value.int IntKind.u64 n_2] →
                                                  ∃ (n : Int),
                                                    ∃ (n_3 : Int),
                                                      (w'_4.cell? (Addr.mk w'_1.heap.size 0 none) =
                                                            some (Value.int IntKind.u64 n) ∧
                                                          w'_4.cell? (Addr.mk w'_1.heap.size 1 none) =
                                                              some (Value.int IntKind.u64 n_3) ∧
                                                            True) ∧
                                                        R
                                                          (Ending.returned
                                                            (Value.agg
                                                              #[Value.int IntKind.u64 n, Value.int IntKind.u64 n_3]))
                                                          w'_4)
                                    (∃ (n : Int),
                                      ∃ (n_2 : Int),
                                        (w'_3.cell? (Addr.mk w.heap.size 0 none) = some (Value.int IntKind.u64 n) ∧
                                            w'_3.cell? (Addr.mk w.heap.size 1 none) = some (Value.int IntKind.u64 n_2) ∧
                                              True) ∧
                                          ∃ (n_3 : Int),
                                            ∃ (n_4 : Int),
                                              (w'_3.cell? (Addr.mk w'.heap.size 0 none) =
                                                    some (Value.int IntKind.u64 n_3) ∧
                                                  w'_3.cell? (Addr.mk w'.heap.size 1 none) =
                                                      some (Value.int IntKind.u64 n_4) ∧
                                                    True) ∧
                                                Calls Proofs.Try.prog 23
                                                  #[Value.int IntKind.u8 fn',
                                                    Value.agg #[Value.int IntKind.u64 n, Value.int IntKind.u64 n_2],
                                                    Value.agg #[Value.int IntKind.u64 n_3, Value.int IntKind.u64 n_4]]
                                                  w'_3 fun (e : Ending) (w' : World) =>
                                                  ∃ (n : Int),
                                                    ∃ (n_5 : Int),
                                                      e =
                                                          Ending.returned
                                                            (Value.agg
                                                              #[Value.int IntKind.u64 n, Value.int IntKind.u64 n_5]) ∧
                                                        SetsAt w' (Addr.mk w'_1.heap.size 0 none) 0
                                                            [Value.int IntKind.u64 n, Value.int IntKind.u64 n_5] ∧
                                                          ∀ (w'_4 : World),
                                                            w'_4 =
                                                                setCellsAt w' (Addr.mk w'_1.heap.size 0 none) 0
                                                                  [Value.int IntKind.u64 n, Value.int IntKind.u64 n_5] →
                                                              ∃ (n : Int),
                                                                ∃ (n_6 : Int),
                                                                  (w'_4.cell? (Addr.mk w'_1.heap.size 0 none) =
                                                                        some (Value.int IntKind.u64 n) ∧
                                                                      w'_4.cell? (Addr.mk w'_1.heap.size 1 none) =
                                                                          some (Value.int IntKind.u64 n_6) ∧
                                                                        True) ∧
                                                                    R
                                                                      (Ending.returned
                                                                        (Value.agg
                                                                          #[Value.int IntKind.u64 n,
                                                                            Value.int IntKind.u64 n_6]))
                                                                      w'_4))
                    (cnd (fn' == 12)
                      (∃ (n : Int),
                        ∃ (n_1 : Int),
                          (w'_2.cell? (Addr.mk w.heap.size 0 none) = some (Value.int IntKind.u64 n) ∧
                              w'_2.cell? (Addr.mk w.heap.size 1 none) = some (Value.int IntKind.u64 n_1) ∧ True) ∧
                            ∃ (n_2 : Int),
                              ∃ (n_3 : Int),
                                (w'_2.cell? (Addr.mk w'.heap.size 0 none) = some (Value.int IntKind.u64 n_2) ∧
                                    w'_2.cell? (Addr.mk w'.heap.size 1 none) = some (Value.int IntKind.u64 n_3) ∧ True) ∧
                                  Calls Proofs.Try.prog 23
                                    #[Value.int IntKind.u8 fn',
                                      Value.agg #[Value.int IntKind.u64 n, Value.int IntKind.u64 n_1],
                                      Value.agg #[Value.int IntKind.u64 n_2, Value.int IntKind.u64 n_3]]
                                    w'_2 fun (e : Ending) (w' : World) =>
                                    ∃ (n : Int),
                                      ∃ (n_4 : Int),
                                        e =
                                            Ending.returned
                                              (Value.agg #[Value.int IntKind.u64 n, Value.int IntKind.u64 n_4]) ∧
                                          SetsAt w' (Addr.mk w'_1.heap.size 0 none) 0
                                              [Value.int IntKind.u64 n, Value.int IntKind.u64 n_4] ∧
                                            ∀ (w'_3 : World),
                                              w'_3 =
                                                  setCellsAt w' (Addr.mk w'_1.heap.size 0 none) 0
                                                    [Value.int IntKind.u64 n, Value.int IntKind.u64 n_4] →
                                                ∃ (n : Int),
                                                  ∃ (n_5 : Int),
                                                    (w'_3.cell? (Addr.mk w'_1.heap.size 0 none) =
                                                          some (Value.int IntKind.u64 n) ∧
                                                        w'_3.cell? (Addr.mk w'_1.heap.size 1 none) =
                                                            some (Value.int IntKind.u64 n_5) ∧
                                                          True) ∧
                                                      R
                                                        (Ending.returned
                                                          (Value.agg
                                                            #[Value.int IntKind.u64 n, Value.int IntKind.u64 n_5]))
                                                        w'_3)
                      (cnd (fn' == 13)
                        (cnd (fn' == 13)
                          (∃ (n : Int),
                            ∃ (n_1 : Int),
                              (w'_2.cell? (Addr.mk w.heap.size 0 none) = some (Value.int IntKind.u64 n) ∧
                                  w'_2.cell? (Addr.mk w.heap.size 1 none) = some (Value.int IntKind.u64 n_1) ∧ True) ∧
                                ∃ (n_2 : Int),
                                  ∃ (n_3 : Int),
                                    (w'_2.cell? (Addr.mk w'.heap.size 0 none) = some (Value.int IntKind.u64 n_2) ∧
                                        w'_2.cell? (Addr.mk w'.heap.size 1 none) = some (Value.int IntKind.u64 n_3) ∧
                                          True) ∧
                                      Calls Proofs.Try.prog 25
                                        #[Value.int IntKind.u8 fn',
                                          Value.agg #[Value.int IntKind.u64 n, Value.int IntKind.u64 n_1],
                                          Value.agg #[Value.int IntKind.u64 n_2, Value.int IntKind.u64 n_3]]
                                        w'_2 fun (e : Ending) (w' : World) =>
                                        ∃ (n : Int),
                                          ∃ (n_4 : Int),
                                            e =
                                                Ending.returned
                                                  (Value.agg #[Value.int IntKind.u64 n, Value.int IntKind.u64 n_4]) ∧
                                              SetsAt w' (Addr.mk w'_1.heap.size 0 none) 0
                                                  [Value.int IntKind.u64 n, Value.int IntKind.u64 n_4] ∧
                                                ∀ (w'_3 : World),
                                                  w'_3 =
                                                      setCellsAt w' (Addr.mk w'_1.heap.size 0 none) 0
                                                        [Value.int IntKind.u64 n, Value.int IntKind.u64 n_4] →
                                                    ∃ (n : Int),
                                                      ∃ (n_5 : Int),
                                                        (w'_3.cell? (Addr.mk w'_1.heap.size 0 none) =
                                                              some (Value.int IntKind.u64 n) ∧
                                                            w'_3.cell? (Addr.mk w'_1.heap.size 1 none) =
                                                                some (Value.int IntKind.u64 n_5) ∧
                                                              True) ∧
                                                          R
                                                            (Ending.returned
                                                              (Value.agg
                                                                #[Value.int IntKind.u64 n, Value.int IntKind.u64 n_5]))
                                                            w'_3)
                          (cnd (fn' == 10)
                            (∃ (n : Int),
                              w'_2.cell? (Addr.mk w.heap.size 1 none) = some (Value.int IntKind.u64 n) ∧
                                ∃ (n_1 : Int),
                                  w'_2.cell? (Addr.mk w'.heap.size 1 none) = some (Value.int IntKind.u64 n_1) ∧
                                    SetsAt w'_2 (Addr.mk w'_1.heap.size 0 none) 0
                                        [Value.int IntKind.u64 0, Value.int IntKind.u64 (gomin n n_1)] ∧
                                      ∀ (w' : World),
                                        w' =
                                            setCellsAt w'_2 (Addr.mk w'_1.heap.size 0 none) 0
                                              [Value.int IntKind.u64 0, Value.int IntKind.u64 (gomin n n_1)] →
                                          ∃ (n : Int),
                                            ∃ (n_2 : Int),
                                              (w'.cell? (Addr.mk w'_1.heap.size 0 none) = some (Value.int IntKind.u64 n) ∧
                                                  w'.cell? (Addr.mk w'_1.heap.size 1 none) =
                                                      some (Value.int IntKind.u64 n_2) ∧
                                                    True) ∧
                                                R
                                                  (Ending.returned
                                                    (Value.agg #[Value.int IntKind.u64 n, Value.int IntKind.u64 n_2]))
                                                  w')
                            (cnd (fn' == 9)
                              (∃ (n : Int),
                                (∀ (w' : World),
                                    Later w'_2 w' →
                                      w'.cell? (Addr.mk w.heap.size 0 none) = some (Value.int IntKind.u64 n)) ∧
                                  ∃ (n_1 : Int),
                                    (∀ (w'_3 : World),
                                        Later w'_2 w'_3 →
                                          w'_3.cell? (Addr.mk w'.heap.size 0 none) = some (Value.int IntKind.u64 n_1)) ∧
                                      ∃ (n_2 : Int),
                                        (∀ (w' : World),
                                            Later w'_2 w' →
                                              w'.cell? (Addr.mk w.heap.size 1 none) = some (Value.int IntKind.u64 n_2)) ∧
                                          ∃ (n_3 : Int),
                                            (∀ (w'_3 : World),
                                                Later w'_2 w'_3 →
                                                  w'_3.cell? (Addr.mk w'.heap.size 1 none) =
                                                    some (Value.int IntKind.u64 n_3)) ∧
                                              ∃ (n_4 : Int),
                                                (∀ (w' : World),
                                                    Later w'_2 w' →
                                                      Calls Proofs.Try.prog 26
                                                        #[Value.int IntKind.u64 (bits BinOp.or IntKind.u64 n_2 n_3)] w'
                                                        fun (e : Ending) (w'' : World) =>
                                                        e = Ending.returned (Value.int IntKind.u64 n_4) ∧ Later w' w'') ∧
                                                  ∀ (w' : World),
                                                    Later w'_2 w' →
                                                      SetsAt w' (Addr.mk w'_1.heap.size 0 none) 0
                                                          [Value.int IntKind.u64 (gomax n n_1),
                                                            Value.int IntKind.u64 n_4] ∧
                                                        ∀ (w'_3 : World),
                                                          w'_3 =
                                                              setCellsAt w' (Addr.mk w'_1.heap.size 0 none) 0
                                                                [Value.int IntKind.u64 (gomax n n_1),
                                                                  Value.int IntKind.u64 n_4] →
                                                            ∃ (n : Int),
                                                              ∃ (n_5 : Int),
                                                                (w'_3.cell? (Addr.mk w'_1.heap.size 0 none) =
                                                                      some (Value.int IntKind.u64 n) ∧
                                                                    w'_3.cell? (Addr.mk w'_1.heap.size 1 none) =
                                                                        some (Value.int IntKind.u64 n_5) ∧
                                                                      True) ∧
                                                                  R
                                                                    (Ending.returned
                                                                      (Value.agg
                                                                        #[Value.int IntKind.u64 n,
                                                                          Value.int IntKind.u64 n_5]))
                                                                    w'_3)
                              (cnd (fn' == 6)
                                (∃ (n : Int),
                                  w'_2.cell? (Addr.mk w.heap.size 1 none) = some (Value.int IntKind.u64 n) ∧
                                    ∃ (n_1 : Int),
                                      w'_2.cell? (Addr.mk w'.heap.size 1 none) = some (Value.int IntKind.u64 n_1) ∧
                                        Calls Proofs.Try.prog 26
                                          #[Value.int IntKind.u64 (bits BinOp.or IntKind.u64 n n_1)] w'_2
                                          fun (e : Ending) (w' : World) =>
                                          ∃ (n : Int),
                                            e = Ending.returned (Value.int IntKind.u64 n) ∧
                                              SetsAt w' (Addr.mk w'_1.heap.size 0 none) 0
                                                  [Value.int IntKind.u64 0, Value.int IntKind.u64 n] ∧
                                                ∀ (w'_3 : World),
                                                  w'_3 =
                                                      setCellsAt w' (Addr.mk w'_1.heap.size 0 none) 0
                                                        [Value.int IntKind.u64 0, Value.int IntKind.u64 n] →
                                                    ∃ (n : Int),
                                                      ∃ (n_2 : Int),
                                                        (w'_3.cell? (Addr.mk w'_1.heap.size 0 none) =
                                                              some (Value.int IntKind.u64 n) ∧
                                                            w'_3.cell? (Addr.mk w'_1.heap.size 1 none) =
                                                                some (Value.int IntKind.u64 n_2) ∧
                                                              True) ∧
                                                          R
                                                            (Ending.returned
                                                              (Value.agg
                                                                #[Value.int IntKind.u64 n, Value.int IntKind.u64 n_2]))
                                                            w'_3)
                                (cnd (fn' == 5)
                                  (∃ (n : Int),
                                    ∃ (n_1 : Int),
                                      (w'_2.cell? (Addr.mk w.heap.size 0 none) = some (Value.int IntKind.u64 n) ∧
                                          w'_2.cell? (Addr.mk w.heap.size 1 none) = some (Value.int IntKind.u64 n_1) ∧
                                            True) ∧
                                        ∃ (n_2 : Int),
                                          ∃ (n_3 : Int),
                                            (w'_2.cell? (Addr.mk w'.heap.size 0 none) = some (Value.int IntKind.u64 n_2) ∧
                                                w'_2.cell? (Addr.mk w'.heap.size 1 none) =
                                                    some (Value.int IntKind.u64 n_3) ∧
                                                  True) ∧
                                              Calls Proofs.Try.prog 27
                                                #[Value.agg #[Value.int IntKind.u64 n, Value.int IntKind.u64 n_1],
                                                  Value.agg #[Value.int IntKind.u64 n_2, Value.int IntKind.u64 n_3]]
                                                w'_2 fun (e : Ending) (w' : World) =>
                                                ∃ (n : Int),
                                                  ∃ (n_4 : Int),
                                                    e =
                                                        Ending.returned
                                                          (Value.agg
                                                            #[Value.int IntKind.u64 n, Value.int IntKind.u64 n_4]) ∧
                                                      SetsAt w' (Addr.mk w'_1.heap.size 0 none) 0
                                                          [Value.int IntKind.u64 n, Value.int IntKind.u64 n_4] ∧
                                                        ∀ (w'_3 : World),
                                                          w'_3 =
                                                              setCellsAt w' (Addr.mk w'_1.heap.size 0 none) 0
                                                                [Value.int IntKind.u64 n, Value.int IntKind.u64 n_4] →
                                                            ∃ (n : Int),
                                                              ∃ (n_5 : Int),
                                                                (w'_3.cell? (Addr.mk w'_1.heap.size 0 none) =
                                                                      some (Value.int IntKind.u64 n) ∧
                                                                    w'_3.cell? (Addr.mk w'_1.heap.size 1 none) =
                                                                        some (Value.int IntKind.u64 n_5) ∧
                                                                      True) ∧
                                                                  R
                                                                    (Ending.returned
                                                                      (Value.agg
                                                                        #[Value.int IntKind.u64 n,
                                                                          Value.int IntKind.u64 n_5]))
                                                                    w'_3)
                                  (cnd (fn' == 4)
                                    (SetsAt w'_2 (Addr.mk w'_1.heap.size 0 none) 0
                                        [Value.int IntKind.u64 0, Value.int IntKind.u64 1] ∧
                                      ∀ (w' : World),
                                        w' =
                                            setCellsAt w'_2 (Addr.mk w'_1.heap.size 0 none) 0
                                              [Value.int IntKind.u64 0, Value.int IntKind.u64 1] →
                                          ∃ (n : Int),
                                            ∃ (n_1 : Int),
                                              (w'.cell? (Addr.mk w'_1.heap.size 0 none) = some (Value.int IntKind.u64 n) ∧
                                                  w'.cell? (Addr.mk w'_1.heap.size 1 none) =
                                                      some (Value.int IntKind.u64 n_1) ∧
                                                    True) ∧
                                                R
                                                  (Ending.returned
                                                    (Value.agg #[Value.int IntKind.u64 n, Value.int IntKind.u64 n_1]))
                                                  w')
                                    (∃ (n : Int),
                                      ∃ (n_1 : Int),
                                        (w'_2.cell? (Addr.mk w.heap.size 0 none) = some (Value.int IntKind.u64 n) ∧
                                            w'_2.cell? (Addr.mk w.heap.size 1 none) = some (Value.int IntKind.u64 n_1) ∧
                                              True) ∧
                                          ∃ (n_2 : Int),
                                            ∃ (n_3 : Int),
                                              (w'_2.cell? (Addr.mk w'.heap.size 0 none) =
                                                    some (Value.int IntKind.u64 n_2) ∧
                                                  w'_2.cell? (Addr.mk w'.heap.size 1 none) =
                                                      some (Value.int IntKind.u64 n_3) ∧
                                                    True) ∧
                                                Calls Proofs.Try.prog 28
                                                  #[Value.int IntKind.u8 fn',
                                                    Value.agg #[Value.int IntKind.u64 n, Value.int IntKind.u64 n_1],
                                                    Value.agg #[Value.int IntKind.u64 n_2, Value.int IntKind.u64 n_3]]
                                                  w'_2 fun (e : Ending) (w' : World) =>
                                                  ∃ (n : Int),
                                                    ∃ (n_4 : Int),
                                                      e =
                                                          Ending.returned
                                                            (Value.agg
                                                              #[Value.int IntKind.u64 n, Value.int IntKind.u64 n_4]) ∧
                                                        SetsAt w' (Addr.mk w'_1.heap.size 0 none) 0
                                                            [Value.int IntKind.u64 n, Value.int IntKind.u64 n_4] ∧
                                                          ∀ (w'_3 : World),
                                                            w'_3 =
                                                                setCellsAt w' (Addr.mk w'_1.heap.size 0 none) 0
                                                                  [Value.int IntKind.u64 n, Value.int IntKind.u64 n_4] →
                                                              ∃ (n : Int),
                                                                ∃ (n_5 : Int),
                                                                  (w'_3.cell? (Addr.mk w'_1.heap.size 0 none) =
                                                                        some (Value.int IntKind.u64 n) ∧
                                                                      w'_3.cell? (Addr.mk w'_1.heap.size 1 none) =
                                                                          some (Value.int IntKind.u64 n_5) ∧
                                                                        True) ∧
                                                                    R
                                                                      (Ending.returned
                                                                        (Value.agg
                                                                          #[Value.int IntKind.u64 n,
                                                                            Value.int IntKind.u64 n_5]))
                                                                      w'_3)))))))
                        (cnd (fn' == 14)
                          (∃ (n : Int),
                            ∃ (n_1 : Int),
                              (w'_2.cell? (Addr.mk w.heap.size 0 none) = some (Value.int IntKind.u64 n) ∧
                                  w'_2.cell? (Addr.mk w.heap.size 1 none) = some (Value.int IntKind.u64 n_1) ∧ True) ∧
                                ∃ (n_2 : Int),
                                  ∃ (n_3 : Int),
                                    (w'_2.cell? (Addr.mk w'.heap.size 0 none) = some (Value.int IntKind.u64 n_2) ∧
                                        w'_2.cell? (Addr.mk w'.heap.size 1 none) = some (Value.int IntKind.u64 n_3) ∧
                                          True) ∧
                                      Calls Proofs.Try.prog 25
                                        #[Value.int IntKind.u8 fn',
                                          Value.agg #[Value.int IntKind.u64 n, Value.int IntKind.u64 n_1],
                                          Value.agg #[Value.int IntKind.u64 n_2, Value.int IntKind.u64 n_3]]
                                        w'_2 fun (e : Ending) (w' : World) =>
                                        ∃ (n : Int),
                                          ∃ (n_4 : Int),
                                            e =
                                                Ending.returned
                                                  (Value.agg #[Value.int IntKind.u64 n, Value.int IntKind.u64 n_4]) ∧
                                              SetsAt w' (Addr.mk w'_1.heap.size 0 none) 0
                                                  [Value.int IntKind.u64 n, Value.int IntKind.u64 n_4] ∧
                                                ∀ (w'_3 : World),
                                                  w'_3 =
                                                      setCellsAt w' (Addr.mk w'_1.heap.size 0 none) 0
                                                        [Value.int IntKind.u64 n, Value.int IntKind.u64 n_4] →
                                                    ∃ (n : Int),
                                                      ∃ (n_5 : Int),
                                                        (w'_3.cell? (Addr.mk w'_1.heap.size 0 none) =
                                                              some (Value.int IntKind.u64 n) ∧
                                                            w'_3.cell? (Addr.mk w'_1.heap.size 1 none) =
                                                                some (Value.int IntKind.u64 n_5) ∧
                                                              True) ∧
                                                          R
                                                            (Ending.returned
                                                              (Value.agg
                                                                #[Value.int IntKind.u64 n, Value.int IntKind.u64 n_5]))
                                                            w'_3)
                          (cnd (fn' == 10)
                            (∃ (n : Int),
                              w'_2.cell? (Addr.mk w.heap.size 1 none) = some (Value.int IntKind.u64 n) ∧
                                ∃ (n_1 : Int),
                                  w'_2.cell? (Addr.mk w'.heap.size 1 none) = some (Value.int IntKind.u64 n_1) ∧
                                    SetsAt w'_2 (Addr.mk w'_1.heap.size 0 none) 0
                                        [Value.int IntKind.u64 0, Value.int IntKind.u64 (gomin n n_1)] ∧
                                      ∀ (w' : World),
                                        w' =
                                            setCellsAt w'_2 (Addr.mk w'_1.heap.size 0 none) 0
                                              [Value.int IntKind.u64 0, Value.int IntKind.u64 (gomin n n_1)] →
                                          ∃ (n : Int),
                                            ∃ (n_2 : Int),
                                              (w'.cell? (Addr.mk w'_1.heap.size 0 none) = some (Value.int IntKind.u64 n) ∧
                                                  w'.cell? (Addr.mk w'_1.heap.size 1 none) =
                                                      some (Value.int IntKind.u64 n_2) ∧
                                                    True) ∧
                                                R
                                                  (Ending.returned
                                                    (Value.agg #[Value.int IntKind.u64 n, Value.int IntKind.u64 n_2]))
                                                  w')
                            (cnd (fn' == 9)
                              (∃ (n : Int),
                                (∀ (w' : World),
                                    Later w'_2 w' →
                                      w'.cell? (Addr.mk w.heap.size 0 none) = some (Value.int IntKind.u64 n)) ∧
                                  ∃ (n_1 : Int),
                                    (∀ (w'_3 : World),
                                        Later w'_2 w'_3 →
                                          w'_3.cell? (Addr.mk w'.heap.size 0 none) = some (Value.int IntKind.u64 n_1)) ∧
                                      ∃ (n_2 : Int),
                                        (∀ (w' : World),
                                            Later w'_2 w' →
                                              w'.cell? (Addr.mk w.heap.size 1 none) = some (Value.int IntKind.u64 n_2)) ∧
                                          ∃ (n_3 : Int),
                                            (∀ (w'_3 : World),
                                                Later w'_2 w'_3 →
                                                  w'_3.cell? (Addr.mk w'.heap.size 1 none) =
                                                    some (Value.int IntKind.u64 n_3)) ∧
                                              ∃ (n_4 : Int),
                                                (∀ (w' : World),
                                                    Later w'_2 w' →
                                                      Calls Proofs.Try.prog 26
                                                        #[Value.int IntKind.u64 (bits BinOp.or IntKind.u64 n_2 n_3)] w'
                                                        fun (e : Ending) (w'' : World) =>
                                                        e = Ending.returned (Value.int IntKind.u64 n_4) ∧ Later w' w'') ∧
                                                  ∀ (w' : World),
                                                    Later w'_2 w' →
                                                      SetsAt w' (Addr.mk w'_1.heap.size 0 none) 0
                                                          [Value.int IntKind.u64 (gomax n n_1),
                                                            Value.int IntKind.u64 n_4] ∧
                                                        ∀ (w'_3 : World),
                                                          w'_3 =
                                                              setCellsAt w' (Addr.mk w'_1.heap.size 0 none) 0
                                                                [Value.int IntKind.u64 (gomax n n_1),
                                                                  Value.int IntKind.u64 n_4] →
                                                            ∃ (n : Int),
                                                              ∃ (n_5 : Int),
                                                                (w'_3.cell? (Addr.mk w'_1.heap.size 0 none) =
                                                                      some (Value.int IntKind.u64 n) ∧
                                                                    w'_3.cell? (Addr.mk w'_1.heap.size 1 none) =
                                                                        some (Value.int IntKind.u64 n_5) ∧
                                                                      True) ∧
                                                                  R
                                                                    (Ending.returned
                                                                      (Value.agg
                                                                        #[Value.int IntKind.u64 n,
                                                                          Value.int IntKind.u64 n_5]))
                                                                    w'_3)
                              (cnd (fn' == 6)
                                (∃ (n : Int),
                                  w'_2.cell? (Addr.mk w.heap.size 1 none) = some (Value.int IntKind.u64 n) ∧
                                    ∃ (n_1 : Int),
                                      w'_2.cell? (Addr.mk w'.heap.size 1 none) = some (Value.int IntKind.u64 n_1) ∧
                                        Calls Proofs.Try.prog 26
                                          #[Value.int IntKind.u64 (bits BinOp.or IntKind.u64 n n_1)] w'_2
                                          fun (e : Ending) (w' : World) =>
                                          ∃ (n : Int),
                                            e = Ending.returned (Value.int IntKind.u64 n) ∧
                                              SetsAt w' (Addr.mk w'_1.heap.size 0 none) 0
                                                  [Value.int IntKind.u64 0, Value.int IntKind.u64 n] ∧
                                                ∀ (w'_3 : World),
                                                  w'_3 =
                                                      setCellsAt w' (Addr.mk w'_1.heap.size 0 none) 0
                                                        [Value.int IntKind.u64 0, Value.int IntKind.u64 n] →
                                                    ∃ (n : Int),
                                                      ∃ (n_2 : Int),
                                                        (w'_3.cell? (Addr.mk w'_1.heap.size 0 none) =
                                                              some (Value.int IntKind.u64 n) ∧
                                                            w'_3.cell? (Addr.mk w'_1.heap.size 1 none) =
                                                                some (Value.int IntKind.u64 n_2) ∧
                                                              True) ∧
                                                          R
                                                            (Ending.returned
                                                              (Value.agg
                                                                #[Value.int IntKind.u64 n, Value.int IntKind.u64 n_2]))
                                                            w'_3)
                                (cnd (fn' == 5)
                                  (∃ (n : Int),
                                    ∃ (n_1 : Int),
                                      (w'_2.cell? (Addr.mk w.heap.size 0 none) = some (Value.int IntKind.u64 n) ∧
                                          w'_2.cell? (Addr.mk w.heap.size 1 none) = some (Value.int IntKind.u64 n_1) ∧
                                            True) ∧
                                        ∃ (n_2 : Int),
                                          ∃ (n_3 : Int),
                                            (w'_2.cell? (Addr.mk w'.heap.size 0 none) = some (Value.int IntKind.u64 n_2) ∧
                                                w'_2.cell? (Addr.mk w'.heap.size 1 none) =
                                                    some (Value.int IntKind.u64 n_3) ∧
                                                  True) ∧
                                              Calls Proofs.Try.prog 27
                                                #[Value.agg #[Value.int IntKind.u64 n, Value.int IntKind.u64 n_1],
                                                  Value.agg #[Value.int IntKind.u64 n_2, Value.int IntKind.u64 n_3]]
                                                w'_2 fun (e : Ending) (w' : World) =>
                                                ∃ (n : Int),
                                                  ∃ (n_4 : Int),
                                                    e =
                                                        Ending.returned
                                                          (Value.agg
                                                            #[Value.int IntKind.u64 n, Value.int IntKind.u64 n_4]) ∧
                                                      SetsAt w' (Addr.mk w'_1.heap.size 0 none) 0
                                                          [Value.int IntKind.u64 n, Value.int IntKind.u64 n_4] ∧
                                                        ∀ (w'_3 : World),
                                                          w'_3 =
                                                              setCellsAt w' (Addr.mk w'_1.heap.size 0 none) 0
                                                                [Value.int IntKind.u64 n, Value.int IntKind.u64 n_4] →
                                                            ∃ (n : Int),
                                                              ∃ (n_5 : Int),
                                                                (w'_3.cell? (Addr.mk w'_1.heap.size 0 none) =
                                                                      some (Value.int IntKind.u64 n) ∧
                                                                    w'_3.cell? (Addr.mk w'_1.heap.size 1 none) =
                                                                        some (Value.int IntKind.u64 n_5) ∧
                                                                      True) ∧
                                                                  R
                                                                    (Ending.returned
                                                                      (Value.agg
                                                                        #[Value.int IntKind.u64 n,
                                                                          Value.int IntKind.u64 n_5]))
                                                                    w'_3)
                                  (cnd (fn' == 4)
                                    (SetsAt w'_2 (Addr.mk w'_1.heap.size 0 none) 0
                                        [Value.int IntKind.u64 0, Value.int IntKind.u64 1] ∧
                                      ∀ (w' : World),
                                        w' =
                                            setCellsAt w'_2 (Addr.mk w'_1.heap.size 0 none) 0
                                              [Value.int IntKind.u64 0, Value.int IntKind.u64 1] →
                                          ∃ (n : Int),
                                            ∃ (n_1 : Int),
                                              (w'.cell? (Addr.mk w'_1.heap.size 0 none) = some (Value.int IntKind.u64 n) ∧
                                                  w'.cell? (Addr.mk w'_1.heap.size 1 none) =
                                                      some (Value.int IntKind.u64 n_1) ∧
                                                    True) ∧
                                                R
                                                  (Ending.returned
                                                    (Value.agg #[Value.int IntKind.u64 n, Value.int IntKind.u64 n_1]))
                                                  w')
                                    (∃ (n : Int),
                                      ∃ (n_1 : Int),
                                        (w'_2.cell? (Addr.mk w.heap.size 0 none) = some (Value.int IntKind.u64 n) ∧
                                            w'_2.cell? (Addr.mk w.heap.size 1 none) = some (Value.int IntKind.u64 n_1) ∧
                                              True) ∧
                                          ∃ (n_2 : Int),
                                            ∃ (n_3 : Int),
                                              (w'_2.cell? (Addr.mk w'.heap.size 0 none) =
                                                    some (Value.int IntKind.u64 n_2) ∧
                                                  w'_2.cell? (Addr.mk w'.heap.size 1 none) =
                                                      some (Value.int IntKind.u64 n_3) ∧
                                                    True) ∧
                                                Calls Proofs.Try.prog 28
                                                  #[Value.int IntKind.u8 fn',
                                                    Value.agg #[Value.int IntKind.u64 n, Value.int IntKind.u64 n_1],
                                                    Value.agg #[Value.int IntKind.u64 n_2, Value.int IntKind.u64 n_3]]
                                                  w'_2 fun (e : Ending) (w' : World) =>
                                                  ∃ (n : Int),
                                                    ∃ (n_4 : Int),
                                                      e =
                                                          Ending.returned
                                                            (Value.agg
                                                              #[Value.int IntKind.u64 n, Value.int IntKind.u64 n_4]) ∧
                                                        SetsAt w' (Addr.mk w'_1.heap.size 0 none) 0
                                                            [Value.int IntKind.u64 n, Value.int IntKind.u64 n_4] ∧
                                                          ∀ (w'_3 : World),
                                                            w'_3 =
                                                                setCellsAt w' (Addr.mk w'_1.heap.size 0 none) 0
                                                                  [Value.int IntKind.u64 n, Value.int IntKind.u64 n_4] →
                                                              ∃ (n : Int),
                                                                ∃ (n_5 : Int),
                                                                  (w'_3.cell? (Addr.mk w'_1.heap.size 0 none) =
                                                                        some (Value.int IntKind.u64 n) ∧
                                                                      w'_3.cell? (Addr.mk w'_1.heap.size 1 none) =
                                                                          some (Value.int IntKind.u64 n_5) ∧
                                                                        True) ∧
                                                                    R
                                                                      (Ending.returned
                                                                        (Value.agg
                                                                          #[Value.int IntKind.u64 n,
                                                                            Value.int IntKind.u64 n_5]))
                                                                      w'_3)))))))))))
theorem ref20_Alu.vc_eq (fn' : Int) (a'_0 : Int) (a'_1 : Int) (b'_0 : Int) (b'_1 : Int) (w : World) (R : Ending → World → Prop) : fnV Try.prog ref20_Alu.H 10 [Value.int IntKind.u8 fn', Value.agg #[Value.int IntKind.u64 a'_0, Value.int IntKind.u64 a'_1],
    Value.agg #[Value.int IntKind.u64 b'_0, Value.int IntKind.u64 b'_1]] w R = ref20_Alu.vc fn' a'_0 a'_1 b'_0 b'_1 w R := by kernel_rfl
theorem ref20_Alu.calls {fn' : Int} {a'_0 : Int} {a'_1 : Int} {b'_0 : Int} {b'_1 : Int} {w : World} {R : Ending → World → Prop} (h : ref20_Alu.vc fn' a'_0 a'_1 b'_0 b'_1 w R) : Calls Try.prog 10 ([Value.int IntKind.u8 fn', Value.agg #[Value.int IntKind.u64 a'_0, Value.int IntKind.u64 a'_1],
    Value.agg #[Value.int IntKind.u64 b'_0, Value.int IntKind.u64 b'_1]] : List Value).toArray w R := calls_of_eq (ref20_Alu.vc_eq fn' a'_0 a'_1 b'_0 b'_1 w R) h

/- function 16: sacristy/sacristyref20.Meet -/
abbrev ref20_Meet.N : FuncId := 16
def ref20_Meet.H : Hints := {  }
def ref20_Meet.vc (a'_0 : Int) (a'_1 : Int) (b'_0 : Int) (b'_1 : Int) (w : World) (R : Ending → World → Prop) : Prop :=
  ∀ (w' : World),
    w' = w.alloc (Obj.cells #[Value.int IntKind.u64 a'_0, Value.int IntKind.u64 a'_1] 24) →
      ∀ (w'_1 : World),
        w'_1 = w'.alloc (Obj.cells #[Value.int IntKind.u64 b'_0, Value.int IntKind.u64 b'_1] 24) →
          ∀ (w'_2 : World),
            w'_2 = w'_1.alloc (Obj.cells #[Value.int IntKind.u64 0, Value.int IntKind.u64 0] 24) →
              ∃ (n : Int),
                w'_2.cell? (Addr.mk w.heap.size 0 none) = some (Value.int IntKind.u64 n) ∧
                  ∃ (n_1 : Int),
                    w'_2.cell? (Addr.mk w'.heap.size 0 none) = some (Value.int IntKind.u64 n_1) ∧
                      ∃ (n_2 : Int),
                        w'_2.cell? (Addr.mk w.heap.size 1 none) = some (Value.int IntKind.u64 n_2) ∧
                          ∃ (n_3 : Int),
                            w'_2.cell? (Addr.mk w'.heap.size 1 none) = some (Value.int IntKind.u64 n_3) ∧
                              ∀ (w' : World),
                                w' = w'_2.alloc (Obj.cells #[Value.int IntKind.u64 0, Value.int IntKind.u64 0] 24) →
                                  SetsAt w' (Addr.mk w'_2.heap.size 0 none) 0
                                      [Value.int IntKind.u64 (gomax n n_1), Value.int IntKind.u64 (gomin n_2 n_3)] ∧
                                    ∀ (w'_3 : World),
                                      w'_3 =
                                          setCellsAt w' (Addr.mk w'_2.heap.size 0 none) 0
                                            [Value.int IntKind.u64 (gomax n n_1), Value.int IntKind.u64 (gomin n_2 n_3)] →
                                        ∃ (n : Int),
                                          ∃ (n_4 : Int),
                                            (w'_3.cell? (Addr.mk w'_2.heap.size 0 none) = some (Value.int IntKind.u64 n) ∧
                                                w'_3.cell? (Addr.mk w'_2.heap.size 1 none) =
                                                    some (Value.int IntKind.u64 n_4) ∧
                                                  True) ∧
                                              Calls Proofs.Try.prog 8
                                                #[Value.agg #[Value.int IntKind.u64 n, Value.int IntKind.u64 n_4]] w'_3
                                                fun (e : Ending) (w' : World) =>
                                                ∃ (b : Bool),
                                                  e = Ending.returned (Value.bool b) ∧
                                                    cnd (!b)
                                                      (SetsAt w' (Addr.mk w'_1.heap.size 0 none) 0
                                                          [Value.int IntKind.u64 0, Value.int IntKind.u64 0] ∧
                                                        ∀ (w'_4 : World),
                                                          w'_4 =
                                                              setCellsAt w' (Addr.mk w'_1.heap.size 0 none) 0
                                                                [Value.int IntKind.u64 0, Value.int IntKind.u64 0] →
                                                            ∃ (n : Int),
                                                              ∃ (n_5 : Int),
                                                                (w'_4.cell? (Addr.mk w'_1.heap.size 0 none) =
                                                                      some (Value.int IntKind.u64 n) ∧
                                                                    w'_4.cell? (Addr.mk w'_1.heap.size 1 none) =
                                                                        some (Value.int IntKind.u64 n_5) ∧
                                                                      True) ∧
                                                                  R
                                                                    (Ending.returned
                                                                      (Value.tuple
                                                                        #[Value.agg
                                                                            #[Value.int IntKind.u64 n,
                                                                              Value.int IntKind.u64 n_5],
                                                                          Value.bool false]))
                                                                    w'_4)
                                                      (∃ (n : Int),
                                                        ∃ (n_5 : Int),
                                                          (w'.cell? (Addr.mk w'_2.heap.size 0 none) =
                                                                some (Value.int IntKind.u64 n) ∧
                                                              w'.cell? (Addr.mk w'_2.heap.size 1 none) =
                                                                  some (Value.int IntKind.u64 n_5) ∧
                                                                True) ∧
                                                            SetsAt w' (Addr.mk w'_1.heap.size 0 none) 0
                                                                [Value.int IntKind.u64 n, Value.int IntKind.u64 n_5] ∧
                                                              ∀ (w'_4 : World),
                                                                w'_4 =
                                                                    setCellsAt w' (Addr.mk w'_1.heap.size 0 none) 0
                                                                      [Value.int IntKind.u64 n,
                                                                        Value.int IntKind.u64 n_5] →
                                                                  ∃ (n : Int),
                                                                    ∃ (n_6 : Int),
                                                                      (w'_4.cell? (Addr.mk w'_1.heap.size 0 none) =
                                                                            some (Value.int IntKind.u64 n) ∧
                                                                          w'_4.cell? (Addr.mk w'_1.heap.size 1 none) =
                                                                              some (Value.int IntKind.u64 n_6) ∧
                                                                            True) ∧
                                                                        R
                                                                          (Ending.returned
                                                                            (Value.tuple
                                                                              #[Value.agg
                                                                                  #[Value.int IntKind.u64 n,
                                                                                    Value.int IntKind.u64 n_6],
                                                                                Value.bool true]))
                                                                          w'_4)
theorem ref20_Meet.vc_eq (a'_0 : Int) (a'_1 : Int) (b'_0 : Int) (b'_1 : Int) (w : World) (R : Ending → World → Prop) : fnV Try.prog ref20_Meet.H 16 [Value.agg #[Value.int IntKind.u64 a'_0, Value.int IntKind.u64 a'_1],
    Value.agg #[Value.int IntKind.u64 b'_0, Value.int IntKind.u64 b'_1]] w R = ref20_Meet.vc a'_0 a'_1 b'_0 b'_1 w R := by kernel_rfl
theorem ref20_Meet.calls {a'_0 : Int} {a'_1 : Int} {b'_0 : Int} {b'_1 : Int} {w : World} {R : Ending → World → Prop} (h : ref20_Meet.vc a'_0 a'_1 b'_0 b'_1 w R) : Calls Try.prog 16 ([Value.agg #[Value.int IntKind.u64 a'_0, Value.int IntKind.u64 a'_1],
    Value.agg #[Value.int IntKind.u64 b'_0, Value.int IntKind.u64 b'_1]] : List Value).toArray w R := calls_of_eq (ref20_Meet.vc_eq a'_0 a'_1 b'_0 b'_1 w R) h

/- function 17: sacristy/sacristyref20.Join -/
abbrev ref20_Join.N : FuncId := 17
def ref20_Join.H : Hints := {  }
def ref20_Join.vc (a'_0 : Int) (a'_1 : Int) (b'_0 : Int) (b'_1 : Int) (w : World) (R : Ending → World → Prop) : Prop :=
  ∀ (w' : World),
    w' = w.alloc (Obj.cells #[Value.int IntKind.u64 a'_0, Value.int IntKind.u64 a'_1] 24) →
      ∀ (w'_1 : World),
        w'_1 = w'.alloc (Obj.cells #[Value.int IntKind.u64 b'_0, Value.int IntKind.u64 b'_1] 24) →
          ∀ (w'_2 : World),
            w'_2 = w'_1.alloc (Obj.cells #[Value.int IntKind.u64 0, Value.int IntKind.u64 0] 24) →
              ∃ (n : Int),
                w'_2.cell? (Addr.mk w.heap.size 0 none) = some (Value.int IntKind.u64 n) ∧
                  ∃ (n_1 : Int),
                    w'_2.cell? (Addr.mk w'.heap.size 0 none) = some (Value.int IntKind.u64 n_1) ∧
                      ∃ (n_2 : Int),
                        w'_2.cell? (Addr.mk w.heap.size 1 none) = some (Value.int IntKind.u64 n_2) ∧
                          ∃ (n_3 : Int),
                            w'_2.cell? (Addr.mk w'.heap.size 1 none) = some (Value.int IntKind.u64 n_3) ∧
                              SetsAt w'_2 (Addr.mk w'_1.heap.size 0 none) 0
                                  [Value.int IntKind.u64 (gomin n n_1), Value.int IntKind.u64 (gomax n_2 n_3)] ∧
                                ∀ (w' : World),
                                  w' =
                                      setCellsAt w'_2 (Addr.mk w'_1.heap.size 0 none) 0
                                        [Value.int IntKind.u64 (gomin n n_1), Value.int IntKind.u64 (gomax n_2 n_3)] →
                                    ∃ (n : Int),
                                      ∃ (n_4 : Int),
                                        (w'.cell? (Addr.mk w'_1.heap.size 0 none) = some (Value.int IntKind.u64 n) ∧
                                            w'.cell? (Addr.mk w'_1.heap.size 1 none) = some (Value.int IntKind.u64 n_4) ∧
                                              True) ∧
                                          R
                                            (Ending.returned
                                              (Value.agg #[Value.int IntKind.u64 n, Value.int IntKind.u64 n_4]))
                                            w'
theorem ref20_Join.vc_eq (a'_0 : Int) (a'_1 : Int) (b'_0 : Int) (b'_1 : Int) (w : World) (R : Ending → World → Prop) : fnV Try.prog ref20_Join.H 17 [Value.agg #[Value.int IntKind.u64 a'_0, Value.int IntKind.u64 a'_1],
    Value.agg #[Value.int IntKind.u64 b'_0, Value.int IntKind.u64 b'_1]] w R = ref20_Join.vc a'_0 a'_1 b'_0 b'_1 w R := by kernel_rfl
theorem ref20_Join.calls {a'_0 : Int} {a'_1 : Int} {b'_0 : Int} {b'_1 : Int} {w : World} {R : Ending → World → Prop} (h : ref20_Join.vc a'_0 a'_1 b'_0 b'_1 w R) : Calls Try.prog 17 ([Value.agg #[Value.int IntKind.u64 a'_0, Value.int IntKind.u64 a'_1],
    Value.agg #[Value.int IntKind.u64 b'_0, Value.int IntKind.u64 b'_1]] : List Value).toArray w R := calls_of_eq (ref20_Join.vc_eq a'_0 a'_1 b'_0 b'_1 w R) h

/- function 18: sacristy/sacristyref20.Widen -/
abbrev ref20_Widen.N : FuncId := 18
def ref20_Widen.H : Hints := {  }
def ref20_Widen.vc (a'_0 : Int) (a'_1 : Int) (b'_0 : Int) (b'_1 : Int) (w : World) (R : Ending → World → Prop) : Prop :=
  ∀ (w' : World),
    w' = w.alloc (Obj.cells #[Value.int IntKind.u64 a'_0, Value.int IntKind.u64 a'_1] 24) →
      ∀ (w'_1 : World),
        w'_1 = w'.alloc (Obj.cells #[Value.int IntKind.u64 b'_0, Value.int IntKind.u64 b'_1] 24) →
          ∀ (w'_2 : World),
            w'_2 = w'_1.alloc (Obj.cells #[Value.int IntKind.u64 0, Value.int IntKind.u64 0] 24) →
              ∃ (n : Int),
                w'_2.cell? (Addr.mk w'.heap.size 0 none) = some (Value.int IntKind.u64 n) ∧
                  ∃ (n_1 : Int),
                    w'_2.cell? (Addr.mk w.heap.size 0 none) = some (Value.int IntKind.u64 n_1) ∧
                      cnd (decide (n < n_1))
                        (((w'_2.cell? (Addr.mk w.heap.size 0 none)).isSome = true ∧
                            w'_2.frozen? (Addr.mk w.heap.size 0 none) = false) ∧
                          ∀ (w'_3 : World),
                            w'_3 = w'_2.setCell (Addr.mk w.heap.size 0 none) (Value.int IntKind.u64 0) →
                              ∃ (n : Int),
                                w'_3.cell? (Addr.mk w'.heap.size 1 none) = some (Value.int IntKind.u64 n) ∧
                                  ∃ (n_2 : Int),
                                    w'_3.cell? (Addr.mk w.heap.size 1 none) = some (Value.int IntKind.u64 n_2) ∧
                                      cnd (decide (n > n_2))
                                        (((w'_3.cell? (Addr.mk w.heap.size 1 none)).isSome = true ∧
                                            w'_3.frozen? (Addr.mk w.heap.size 1 none) = false) ∧
                                          ∀ (w' : World),
                                            w' =
                                                w'_3.setCell (Addr.mk w.heap.size 1 none)
                                                  (Value.int IntKind.u64 18446744073709551615) →
                                              ∃ (n : Int),
                                                ∃ (n_3 : Int),
                                                  (w'.cell? (Addr.mk w.heap.size 0 none) =
                                                        some (Value.int IntKind.u64 n) ∧
                                                      w'.cell? (Addr.mk w.heap.size 1 none) =
                                                          some (Value.int IntKind.u64 n_3) ∧
                                                        True) ∧
                                                    SetsAt w' (Addr.mk w'_1.heap.size 0 none) 0
                                                        [Value.int IntKind.u64 n, Value.int IntKind.u64 n_3] ∧
                                                      ∀ (w'_4 : World),
                                                        w'_4 =
                                                            setCellsAt w' (Addr.mk w'_1.heap.size 0 none) 0
                                                              [Value.int IntKind.u64 n, Value.int IntKind.u64 n_3] →
                                                          ∃ (n : Int),
                                                            ∃ (n_4 : Int),
                                                              (w'_4.cell? (Addr.mk w'_1.heap.size 0 none) =
                                                                    some (Value.int IntKind.u64 n) ∧
                                                                  w'_4.cell? (Addr.mk w'_1.heap.size 1 none) =
                                                                      some (Value.int IntKind.u64 n_4) ∧
                                                                    True) ∧
                                                                R
                                                                  (Ending.returned
                                                                    (Value.agg
                                                                      #[Value.int IntKind.u64 n,
                                                                        Value.int IntKind.u64 n_4]))
                                                                  w'_4)
                                        (∃ (n : Int),
                                          ∃ (n_3 : Int),
                                            (w'_3.cell? (Addr.mk w.heap.size 0 none) = some (Value.int IntKind.u64 n) ∧
                                                w'_3.cell? (Addr.mk w.heap.size 1 none) =
                                                    some (Value.int IntKind.u64 n_3) ∧
                                                  True) ∧
                                              SetsAt w'_3 (Addr.mk w'_1.heap.size 0 none) 0
                                                  [Value.int IntKind.u64 n, Value.int IntKind.u64 n_3] ∧
                                                ∀ (w' : World),
                                                  w' =
                                                      setCellsAt w'_3 (Addr.mk w'_1.heap.size 0 none) 0
                                                        [Value.int IntKind.u64 n, Value.int IntKind.u64 n_3] →
                                                    ∃ (n : Int),
                                                      ∃ (n_4 : Int),
                                                        (w'.cell? (Addr.mk w'_1.heap.size 0 none) =
                                                              some (Value.int IntKind.u64 n) ∧
                                                            w'.cell? (Addr.mk w'_1.heap.size 1 none) =
                                                                some (Value.int IntKind.u64 n_4) ∧
                                                              True) ∧
                                                          R
                                                            (Ending.returned
                                                              (Value.agg
                                                                #[Value.int IntKind.u64 n, Value.int IntKind.u64 n_4]))
                                                            w'))
                        (∃ (n : Int),
                          w'_2.cell? (Addr.mk w'.heap.size 1 none) = some (Value.int IntKind.u64 n) ∧
                            ∃ (n_2 : Int),
                              w'_2.cell? (Addr.mk w.heap.size 1 none) = some (Value.int IntKind.u64 n_2) ∧
                                cnd (decide (n > n_2))
                                  (((w'_2.cell? (Addr.mk w.heap.size 1 none)).isSome = true ∧
                                      w'_2.frozen? (Addr.mk w.heap.size 1 none) = false) ∧
                                    ∀ (w' : World),
                                      w' =
                                          w'_2.setCell (Addr.mk w.heap.size 1 none)
                                            (Value.int IntKind.u64 18446744073709551615) →
                                        ∃ (n : Int),
                                          ∃ (n_3 : Int),
                                            (w'.cell? (Addr.mk w.heap.size 0 none) = some (Value.int IntKind.u64 n) ∧
                                                w'.cell? (Addr.mk w.heap.size 1 none) = some (Value.int IntKind.u64 n_3) ∧
                                                  True) ∧
                                              SetsAt w' (Addr.mk w'_1.heap.size 0 none) 0
                                                  [Value.int IntKind.u64 n, Value.int IntKind.u64 n_3] ∧
                                                ∀ (w'_3 : World),
                                                  w'_3 =
                                                      setCellsAt w' (Addr.mk w'_1.heap.size 0 none) 0
                                                        [Value.int IntKind.u64 n, Value.int IntKind.u64 n_3] →
                                                    ∃ (n : Int),
                                                      ∃ (n_4 : Int),
                                                        (w'_3.cell? (Addr.mk w'_1.heap.size 0 none) =
                                                              some (Value.int IntKind.u64 n) ∧
                                                            w'_3.cell? (Addr.mk w'_1.heap.size 1 none) =
                                                                some (Value.int IntKind.u64 n_4) ∧
                                                              True) ∧
                                                          R
                                                            (Ending.returned
                                                              (Value.agg
                                                                #[Value.int IntKind.u64 n, Value.int IntKind.u64 n_4]))
                                                            w'_3)
                                  (∃ (n : Int),
                                    ∃ (n_3 : Int),
                                      (w'_2.cell? (Addr.mk w.heap.size 0 none) = some (Value.int IntKind.u64 n) ∧
                                          w'_2.cell? (Addr.mk w.heap.size 1 none) = some (Value.int IntKind.u64 n_3) ∧
                                            True) ∧
                                        SetsAt w'_2 (Addr.mk w'_1.heap.size 0 none) 0
                                            [Value.int IntKind.u64 n, Value.int IntKind.u64 n_3] ∧
                                          ∀ (w' : World),
                                            w' =
                                                setCellsAt w'_2 (Addr.mk w'_1.heap.size 0 none) 0
                                                  [Value.int IntKind.u64 n, Value.int IntKind.u64 n_3] →
                                              ∃ (n : Int),
                                                ∃ (n_4 : Int),
                                                  (w'.cell? (Addr.mk w'_1.heap.size 0 none) =
                                                        some (Value.int IntKind.u64 n) ∧
                                                      w'.cell? (Addr.mk w'_1.heap.size 1 none) =
                                                          some (Value.int IntKind.u64 n_4) ∧
                                                        True) ∧
                                                    R
                                                      (Ending.returned
                                                        (Value.agg #[Value.int IntKind.u64 n, Value.int IntKind.u64 n_4]))
                                                      w'))
theorem ref20_Widen.vc_eq (a'_0 : Int) (a'_1 : Int) (b'_0 : Int) (b'_1 : Int) (w : World) (R : Ending → World → Prop) : fnV Try.prog ref20_Widen.H 18 [Value.agg #[Value.int IntKind.u64 a'_0, Value.int IntKind.u64 a'_1],
    Value.agg #[Value.int IntKind.u64 b'_0, Value.int IntKind.u64 b'_1]] w R = ref20_Widen.vc a'_0 a'_1 b'_0 b'_1 w R := by kernel_rfl
theorem ref20_Widen.calls {a'_0 : Int} {a'_1 : Int} {b'_0 : Int} {b'_1 : Int} {w : World} {R : Ending → World → Prop} (h : ref20_Widen.vc a'_0 a'_1 b'_0 b'_1 w R) : Calls Try.prog 18 ([Value.agg #[Value.int IntKind.u64 a'_0, Value.int IntKind.u64 a'_1],
    Value.agg #[Value.int IntKind.u64 b'_0, Value.int IntKind.u64 b'_1]] : List Value).toArray w R := calls_of_eq (ref20_Widen.vc_eq a'_0 a'_1 b'_0 b'_1 w R) h

end Go.Proofs.Ytpfnjooddobohaa
