/-
The explicit conditions of some functions of the program, printed by this repo's own program over VcTop: what is proved is that each is the condition.
Conditions: none.
-/
import Derived.Test.YtpfnjooddobohaaVcTop
import Derived.Test.YtpfnjooddobohaaProg
namespace Go.Proofs.Ytpfnjooddobohaa
open Go Go.Vc Go.RowKit
set_option linter.unusedVariables false
set_option maxRecDepth 100000

/- function 14: sacristy/span.Check -/
abbrev span_Check.N : FuncId := 14
def span_Check.H : Hints := {  }
def span_Check.vc (r'_0 : Int) (r'_1 : Int) (w : World) (R : Ending → World → Prop) : Prop :=
  ∀ (w' : World),
    w' = w.alloc (Obj.cells #[Value.int IntKind.u64 r'_0, Value.int IntKind.u64 r'_1] 24) →
      ∃ (n : Int),
        w'.cell? (Addr.mk w.heap.size 0 none) = some (Value.int IntKind.u64 n) ∧
          ∃ (n_1 : Int),
            w'.cell? (Addr.mk w.heap.size 1 none) = some (Value.int IntKind.u64 n_1) ∧
              cnd (decide (n > n_1)) (R (Ending.returned (Value.int IntKind.i64 2)) w')
                (R (Ending.returned (Value.int IntKind.i64 0)) w')
theorem span_Check.vc_eq (r'_0 : Int) (r'_1 : Int) (w : World) (R : Ending → World → Prop) : fnV Try.prog span_Check.H 14 [Value.agg #[Value.int IntKind.u64 r'_0, Value.int IntKind.u64 r'_1]] w R = span_Check.vc r'_0 r'_1 w R := by kernel_rfl
theorem span_Check.calls {r'_0 : Int} {r'_1 : Int} {w : World} {R : Ending → World → Prop} (h : span_Check.vc r'_0 r'_1 w R) : Calls Try.prog 14 ([Value.agg #[Value.int IntKind.u64 r'_0, Value.int IntKind.u64 r'_1]] : List Value).toArray w R := calls_of_eq (span_Check.vc_eq r'_0 r'_1 w R) h

/- function 15: sacristy/span.Has -/
abbrev span_Has.N : FuncId := 15
def span_Has.H : Hints := {  }
def span_Has.vc (r'_0 : Int) (r'_1 : Int) (v' : Int) (w : World) (R : Ending → World → Prop) : Prop :=
  ∀ (w' : World),
    w' = w.alloc (Obj.cells #[Value.int IntKind.u64 r'_0, Value.int IntKind.u64 r'_1] 24) →
      ∃ (n : Int),
        w'.cell? (Addr.mk w.heap.size 0 none) = some (Value.int IntKind.u64 n) ∧
          cnd (decide (n ≤ v'))
            (∃ (n : Int),
              w'.cell? (Addr.mk w.heap.size 1 none) = some (Value.int IntKind.u64 n) ∧
                R (Ending.returned (Value.bool (decide (v' ≤ n)))) w')
            (R (Ending.returned (Value.bool false)) w')
theorem span_Has.vc_eq (r'_0 : Int) (r'_1 : Int) (v' : Int) (w : World) (R : Ending → World → Prop) : fnV Try.prog span_Has.H 15 [Value.agg #[Value.int IntKind.u64 r'_0, Value.int IntKind.u64 r'_1], Value.int IntKind.u64 v'] w R = span_Has.vc r'_0 r'_1 v' w R := by kernel_rfl
theorem span_Has.calls {r'_0 : Int} {r'_1 : Int} {v' : Int} {w : World} {R : Ending → World → Prop} (h : span_Has.vc r'_0 r'_1 v' w R) : Calls Try.prog 15 ([Value.agg #[Value.int IntKind.u64 r'_0, Value.int IntKind.u64 r'_1], Value.int IntKind.u64 v'] : List Value).toArray w R := calls_of_eq (span_Has.vc_eq r'_0 r'_1 v' w R) h

/- function 64: sacristy/span.all -/
abbrev span_all.N : FuncId := 64
def span_all.H : Hints := {  }
def span_all.vc (w : World) (R : Ending → World → Prop) : Prop :=
  ∀ (w' : World),
    w' = w.alloc (Obj.cells #[Value.int IntKind.u64 0, Value.int IntKind.u64 0] 24) →
      SetsAt w' (Addr.mk w.heap.size 0 none) 0 [Value.int IntKind.u64 0, Value.int IntKind.u64 18446744073709551615] ∧
        ∀ (w'_1 : World),
          w'_1 =
              setCellsAt w' (Addr.mk w.heap.size 0 none) 0
                [Value.int IntKind.u64 0, Value.int IntKind.u64 18446744073709551615] →
            ∃ (n : Int),
              ∃ (n_1 : Int),
                (w'_1.cell? (Addr.mk w.heap.size 0 none) = some (Value.int IntKind.u64 n) ∧
                    w'_1.cell? (Addr.mk w.heap.size 1 none) = some (Value.int IntKind.u64 n_1) ∧ True) ∧
                  R (Ending.returned (Value.agg #[Value.int IntKind.u64 n, Value.int IntKind.u64 n_1])) w'_1
theorem span_all.vc_eq (w : World) (R : Ending → World → Prop) : fnV Try.prog span_all.H 64 [] w R = span_all.vc w R := by kernel_rfl
theorem span_all.calls {w : World} {R : Ending → World → Prop} (h : span_all.vc w R) : Calls Try.prog 64 ([] : List Value).toArray w R := calls_of_eq (span_all.vc_eq w R) h

/- function 21: sacristy/span.two -/
abbrev span_two.N : FuncId := 21
def span_two.H : Hints := {  }
def span_two.vc (a'_0 : Int) (a'_1 : Int) (b'_0 : Int) (b'_1 : Int) (do' : Value) (w : World) (R : Ending → World → Prop) : Prop :=
  ∀ (w' : World),
    w' = w.alloc (Obj.cells #[Value.int IntKind.u64 a'_0, Value.int IntKind.u64 a'_1] 24) →
      ∀ (w'_1 : World),
        w'_1 = w'.alloc (Obj.cells #[Value.int IntKind.u64 b'_0, Value.int IntKind.u64 b'_1] 24) →
          ∀ (w'_2 : World),
            w'_2 = w'_1.alloc (Obj.cells #[Value.int IntKind.u64 0, Value.int IntKind.u64 0] 24) →
              ∃ (n : Int),
                ∃ (n_1 : Int),
                  (w'_2.cell? (Addr.mk w.heap.size 0 none) = some (Value.int IntKind.u64 n) ∧
                      w'_2.cell? (Addr.mk w.heap.size 1 none) = some (Value.int IntKind.u64 n_1) ∧ True) ∧
                    Calls Proofs.Try.prog 14 #[Value.agg #[Value.int IntKind.u64 n, Value.int IntKind.u64 n_1]] w'_2
                      fun (e : Ending) (w'_3 : World) =>
                      ∃ (n : Int),
                        e = Ending.returned (Value.int IntKind.i64 n) ∧
                          cnd (n != 0)
                            (SetsAt w'_3 (Addr.mk w'_1.heap.size 0 none) 0
                                [Value.int IntKind.u64 0, Value.int IntKind.u64 0] ∧
                              ∀ (w' : World),
                                w' =
                                    setCellsAt w'_3 (Addr.mk w'_1.heap.size 0 none) 0
                                      [Value.int IntKind.u64 0, Value.int IntKind.u64 0] →
                                  ∃ (n : Int),
                                    ∃ (n_2 : Int),
                                      (w'.cell? (Addr.mk w'_1.heap.size 0 none) = some (Value.int IntKind.u64 n) ∧
                                          w'.cell? (Addr.mk w'_1.heap.size 1 none) = some (Value.int IntKind.u64 n_2) ∧
                                            True) ∧
                                        R
                                          (Ending.returned
                                            (Value.tuple
                                              #[Value.agg #[Value.int IntKind.u64 n, Value.int IntKind.u64 n_2],
                                                Value.int IntKind.i64 2]))
                                          w')
                            (∃ (n : Int),
                              ∃ (n_2 : Int),
                                (w'_3.cell? (Addr.mk w'.heap.size 0 none) = some (Value.int IntKind.u64 n) ∧
                                    w'_3.cell? (Addr.mk w'.heap.size 1 none) = some (Value.int IntKind.u64 n_2) ∧ True) ∧
                                  Calls Proofs.Try.prog 14
                                    #[Value.agg #[Value.int IntKind.u64 n, Value.int IntKind.u64 n_2]] w'_3
                                    fun (e : Ending) (w'_4 : World) =>
                                    ∃ (n : Int),
                                      e = Ending.returned (Value.int IntKind.i64 n) ∧
                                        cnd (n != 0)
                                          (SetsAt w'_4 (Addr.mk w'_1.heap.size 0 none) 0
                                              [Value.int IntKind.u64 0, Value.int IntKind.u64 0] ∧
                                            ∀ (w' : World),
                                              w' =
                                                  setCellsAt w'_4 (Addr.mk w'_1.heap.size 0 none) 0
                                                    [Value.int IntKind.u64 0, Value.int IntKind.u64 0] →
                                                ∃ (n : Int),
                                                  ∃ (n_3 : Int),
                                                    (w'.cell? (Addr.mk w'_1.heap.size 0 none) =
                                                          some (Value.int IntKind.u64 n) ∧
                                                        w'.cell? (Addr.mk w'_1.heap.size 1 none) =
                                                            some (Value.int IntKind.u64 n_3) ∧
                                                          True) ∧
                                                      R
                                                        (Ending.returned
                                                          (Value.tuple
                                                            #[Value.agg
                                                                #[Value.int IntKind.u64 n, Value.int IntKind.u64 n_3],
                                                              Value.int IntKind.i64 2]))
                                                        w')
                                          (∃ (n : Int),
                                            ∃ (n_3 : Int),
                                              (w'_4.cell? (Addr.mk w.heap.size 0 none) = some (Value.int IntKind.u64 n) ∧
                                                  w'_4.cell? (Addr.mk w.heap.size 1 none) =
                                                      some (Value.int IntKind.u64 n_3) ∧
                                                    True) ∧
                                                ∃ (n_4 : Int),
                                                  ∃ (n_5 : Int),
                                                    (w'_4.cell? (Addr.mk w'.heap.size 0 none) =
                                                          some (Value.int IntKind.u64 n_4) ∧
                                                        w'_4.cell? (Addr.mk w'.heap.size 1 none) =
                                                            some (Value.int IntKind.u64 n_5) ∧
                                                          True) ∧
                                                      AsFn do' fun (f : FuncId) (fi ca : Array Value) =>
                                                        cnd (entersB Proofs.Try.prog f)
                                                          (Calls Proofs.Try.prog f
                                                            (fi ++
                                                                #[Value.agg
                                                                    #[Value.int IntKind.u64 n, Value.int IntKind.u64 n_3],
                                                                  Value.agg
                                                                    #[Value.int IntKind.u64 n_4,
                                                                      Value.int IntKind.u64 n_5]] ++
                                                              ca)
                                                            w'_4 fun (e : Ending) (w' : World) =>
                                                            ∃ (n : Int),
                                                              ∃ (n_6 : Int),
                                                                e =
                                                                    Ending.returned
                                                                      (Value.agg
                                                                        #[Value.int IntKind.u64 n,
                                                                          Value.int IntKind.u64 n_6]) ∧
                                                                  SetsAt w' (Addr.mk w'_1.heap.size 0 none) 0
                                                                      [Value.int IntKind.u64 n,
                                                                        Value.int IntKind.u64 n_6] ∧
                                                                    ∀ (w'_5 : World),
                                                                      w'_5 =
                                                                          setCellsAt w' (Addr.mk w'_1.heap.size 0 none) 0
                                                                            [Value.int IntKind.u64 n,
                                                                              Value.int IntKind.u64 n_6] →
                                                                        ∃ (n : Int),
                                                                          ∃ (n_7 : Int),
                                                                            (w'_5.cell? (Addr.mk w'_1.heap.size 0 none) =
                                                                                  some (Value.int IntKind.u64 n) ∧
                                                                                w'_5.cell?
                                                                                      (Addr.mk w'_1.heap.size 1 none) =
                                                                                    some (Value.int IntKind.u64 n_7) ∧
                                                                                  True) ∧
                                                                              R
                                                                                (Ending.returned
                                                                                  (Value.tuple
                                                                                    #[Value.agg
                                                                                        #[Value.int IntKind.u64 n,
                                                                                          Value.int IntKind.u64 n_7],
                                                                                      Value.int IntKind.i64 0]))
                                                                                w'_5)
                                                          (RunsC Proofs.Try.prog f
                                                            (fi ++
                                                                #[Value.agg
                                                                    #[Value.int IntKind.u64 n, Value.int IntKind.u64 n_3],
                                                                  Value.agg
                                                                    #[Value.int IntKind.u64 n_4,
                                                                      Value.int IntKind.u64 n_5]] ++
                                                              ca)
                                                            w'_4 fun (v : Value) (w' : World) =>
                                                            ∃ (n : Int),
                                                              ∃ (n_6 : Int),
                                                                v =
                                                                    Value.agg
                                                                      #[Value.int IntKind.u64 n,
                                                                        Value.int IntKind.u64 n_6] ∧
                                                                  SetsAt w' (Addr.mk w'_1.heap.size 0 none) 0
                                                                      [Value.int IntKind.u64 n,
                                                                        Value.int IntKind.u64 n_6] ∧
                                                                    ∀ (w'_5 : World),
                                                                      w'_5 =
                                                                          setCellsAt w' (Addr.mk w'_1.heap.size 0 none) 0
                                                                            [Value.int IntKind.u64 n,
                                                                              Value.int IntKind.u64 n_6] →
                                                                        ∃ (n : Int),
                                                                          ∃ (n_7 : Int),
                                                                            (w'_5.cell? (Addr.mk w'_1.heap.size 0 none) =
                                                                                  some (Value.int IntKind.u64 n) ∧
                                                                                w'_5.cell?
                                                                                      (Addr.mk w'_1.heap.size 1 none) =
                                                                                    some (Value.int IntKind.u64 n_7) ∧
                                                                                  True) ∧
                                                                              R
                                                                                (Ending.returned
                                                                                  (Value.tuple
                                                                                    #[Value.agg
                                                                                        #[Value.int IntKind.u64 n,
                                                                                          Value.int IntKind.u64 n_7],
                                                                                      Value.int IntKind.i64 0]))
                                                                                w'_5)))
theorem span_two.vc_eq (a'_0 : Int) (a'_1 : Int) (b'_0 : Int) (b'_1 : Int) (do' : Value) (w : World) (R : Ending → World → Prop) : fnV Try.prog span_two.H 21 [Value.agg #[Value.int IntKind.u64 a'_0, Value.int IntKind.u64 a'_1],
    Value.agg #[Value.int IntKind.u64 b'_0, Value.int IntKind.u64 b'_1], do'] w R = span_two.vc a'_0 a'_1 b'_0 b'_1 do' w R := by kernel_rfl
theorem span_two.calls {a'_0 : Int} {a'_1 : Int} {b'_0 : Int} {b'_1 : Int} {do' : Value} {w : World} {R : Ending → World → Prop} (h : span_two.vc a'_0 a'_1 b'_0 b'_1 do' w R) : Calls Try.prog 21 ([Value.agg #[Value.int IntKind.u64 a'_0, Value.int IntKind.u64 a'_1],
    Value.agg #[Value.int IntKind.u64 b'_0, Value.int IntKind.u64 b'_1], do'] : List Value).toArray w R := calls_of_eq (span_two.vc_eq a'_0 a'_1 b'_0 b'_1 do' w R) h

/- function 11: sacristy/span.Join -/
abbrev span_Join.N : FuncId := 11
def span_Join.H : Hints := {  }
def span_Join.vc (a'_0 : Int) (a'_1 : Int) (b'_0 : Int) (b'_1 : Int) (w : World) (R : Ending → World → Prop) : Prop :=
  ∀ (w' : World),
    w' = w.alloc (Obj.cells #[Value.int IntKind.u64 a'_0, Value.int IntKind.u64 a'_1] 24) →
      ∀ (w'_1 : World),
        w'_1 = w'.alloc (Obj.cells #[Value.int IntKind.u64 b'_0, Value.int IntKind.u64 b'_1] 24) →
          ∀ (w'_2 : World),
            w'_2 = w'_1.alloc (Obj.cells #[Value.int IntKind.u64 0, Value.int IntKind.u64 0] 24) →
              ∃ (n : Int),
                ∃ (n_1 : Int),
                  (w'_2.cell? (Addr.mk w.heap.size 0 none) = some (Value.int IntKind.u64 n) ∧
                      w'_2.cell? (Addr.mk w.heap.size 1 none) = some (Value.int IntKind.u64 n_1) ∧ True) ∧
                    ∃ (n_2 : Int),
                      ∃ (n_3 : Int),
                        (w'_2.cell? (Addr.mk w'.heap.size 0 none) = some (Value.int IntKind.u64 n_2) ∧
                            w'_2.cell? (Addr.mk w'.heap.size 1 none) = some (Value.int IntKind.u64 n_3) ∧ True) ∧
                          Calls Proofs.Try.prog 21
                            #[Value.agg #[Value.int IntKind.u64 n, Value.int IntKind.u64 n_1],
                              Value.agg #[Value.int IntKind.u64 n_2, Value.int IntKind.u64 n_3],
                              Value.func (Fn.func 29) #[] #[]]
                            w'_2 fun (e : Ending) (w' : World) =>
                            ∃ (n : Int),
                              ∃ (n_4 : Int),
                                ∃ (n_5 : Int),
                                  e =
                                      Ending.returned
                                        (Value.tuple
                                          #[Value.agg #[Value.int IntKind.u64 n, Value.int IntKind.u64 n_4],
                                            Value.int IntKind.i64 n_5]) ∧
                                    SetsAt w' (Addr.mk w'_1.heap.size 0 none) 0
                                        [Value.int IntKind.u64 n, Value.int IntKind.u64 n_4] ∧
                                      ∀ (w'_3 : World),
                                        w'_3 =
                                            setCellsAt w' (Addr.mk w'_1.heap.size 0 none) 0
                                              [Value.int IntKind.u64 n, Value.int IntKind.u64 n_4] →
                                          ∃ (n : Int),
                                            ∃ (n_6 : Int),
                                              (w'_3.cell? (Addr.mk w'_1.heap.size 0 none) =
                                                    some (Value.int IntKind.u64 n) ∧
                                                  w'_3.cell? (Addr.mk w'_1.heap.size 1 none) =
                                                      some (Value.int IntKind.u64 n_6) ∧
                                                    True) ∧
                                                R
                                                  (Ending.returned
                                                    (Value.tuple
                                                      #[Value.agg #[Value.int IntKind.u64 n, Value.int IntKind.u64 n_6],
                                                        Value.int IntKind.i64 n_5]))
                                                  w'_3
theorem span_Join.vc_eq (a'_0 : Int) (a'_1 : Int) (b'_0 : Int) (b'_1 : Int) (w : World) (R : Ending → World → Prop) : fnV Try.prog span_Join.H 11 [Value.agg #[Value.int IntKind.u64 a'_0, Value.int IntKind.u64 a'_1],
    Value.agg #[Value.int IntKind.u64 b'_0, Value.int IntKind.u64 b'_1]] w R = span_Join.vc a'_0 a'_1 b'_0 b'_1 w R := by kernel_rfl
theorem span_Join.calls {a'_0 : Int} {a'_1 : Int} {b'_0 : Int} {b'_1 : Int} {w : World} {R : Ending → World → Prop} (h : span_Join.vc a'_0 a'_1 b'_0 b'_1 w R) : Calls Try.prog 11 ([Value.agg #[Value.int IntKind.u64 a'_0, Value.int IntKind.u64 a'_1],
    Value.agg #[Value.int IntKind.u64 b'_0, Value.int IntKind.u64 b'_1]] : List Value).toArray w R := calls_of_eq (span_Join.vc_eq a'_0 a'_1 b'_0 b'_1 w R) h

/- function 29: sacristy/span.Join$1 -/
abbrev span_Join_1.N : FuncId := 29
def span_Join_1.H : Hints := {  }
def span_Join_1.vc (a'_0 : Int) (a'_1 : Int) (b'_0 : Int) (b'_1 : Int) (w : World) (R : Ending → World → Prop) : Prop :=
  ∀ (w' : World),
    w' = w.alloc (Obj.cells #[Value.int IntKind.u64 a'_0, Value.int IntKind.u64 a'_1] 24) →
      ∀ (w'_1 : World),
        w'_1 = w'.alloc (Obj.cells #[Value.int IntKind.u64 b'_0, Value.int IntKind.u64 b'_1] 24) →
          ∀ (w'_2 : World),
            w'_2 = w'_1.alloc (Obj.cells #[Value.int IntKind.u64 0, Value.int IntKind.u64 0] 24) →
              ∃ (n : Int),
                w'_2.cell? (Addr.mk w.heap.size 0 none) = some (Value.int IntKind.u64 n) ∧
                  ∃ (n_1 : Int),
                    w'_2.cell? (Addr.mk w'.heap.size 0 none) = some (Value.int IntKind.u64 n_1) ∧
                      ∃ (n_2 : Int),
                        w'_2.cell? (Addr.mk w.heap.size 1 none) = some (Value.int IntKind.u64 n_2) ∧
                          ∃ (n_3 : Int),
                            w'_2.cell? (Addr.mk w'.heap.size 1 none) = some (Value.int IntKind.u64 n_3) ∧
                              SetsAt w'_2 (Addr.mk w'_1.heap.size 0 none) 0
                                  [Value.int IntKind.u64 (gomin n n_1), Value.int IntKind.u64 (gomax n_2 n_3)] ∧
                                ∀ (w' : World),
                                  w' =
                                      setCellsAt w'_2 (Addr.mk w'_1.heap.size 0 none) 0
                                        [Value.int IntKind.u64 (gomin n n_1), Value.int IntKind.u64 (gomax n_2 n_3)] →
                                    ∃ (n : Int),
                                      ∃ (n_4 : Int),
                                        (w'.cell? (Addr.mk w'_1.heap.size 0 none) = some (Value.int IntKind.u64 n) ∧
                                            w'.cell? (Addr.mk w'_1.heap.size 1 none) = some (Value.int IntKind.u64 n_4) ∧
                                              True) ∧
                                          R
                                            (Ending.returned
                                              (Value.agg #[Value.int IntKind.u64 n, Value.int IntKind.u64 n_4]))
                                            w'
theorem span_Join_1.vc_eq (a'_0 : Int) (a'_1 : Int) (b'_0 : Int) (b'_1 : Int) (w : World) (R : Ending → World → Prop) : fnV Try.prog span_Join_1.H 29 [Value.agg #[Value.int IntKind.u64 a'_0, Value.int IntKind.u64 a'_1],
    Value.agg #[Value.int IntKind.u64 b'_0, Value.int IntKind.u64 b'_1]] w R = span_Join_1.vc a'_0 a'_1 b'_0 b'_1 w R := by kernel_rfl
theorem span_Join_1.calls {a'_0 : Int} {a'_1 : Int} {b'_0 : Int} {b'_1 : Int} {w : World} {R : Ending → World → Prop} (h : span_Join_1.vc a'_0 a'_1 b'_0 b'_1 w R) : Calls Try.prog 29 ([Value.agg #[Value.int IntKind.u64 a'_0, Value.int IntKind.u64 a'_1],
    Value.agg #[Value.int IntKind.u64 b'_0, Value.int IntKind.u64 b'_1]] : List Value).toArray w R := calls_of_eq (span_Join_1.vc_eq a'_0 a'_1 b'_0 b'_1 w R) h

/- function 12: sacristy/span.Meet -/
abbrev span_Meet.N : FuncId := 12
def span_Meet.H : Hints := {  }
def span_Meet.vc (a'_0 : Int) (a'_1 : Int) (b'_0 : Int) (b'_1 : Int) (w : World) (R : Ending → World → Prop) : Prop :=
  ∀ (w' : World),
    w' = w.alloc (Obj.cells #[Value.int IntKind.u64 a'_0, Value.int IntKind.u64 a'_1] 24) →
      ∀ (w'_1 : World),
        w'_1 = w'.alloc (Obj.cells #[Value.int IntKind.u64 b'_0, Value.int IntKind.u64 b'_1] 24) →
          ∀ (w'_2 : World),
            w'_2 = w'_1.alloc (Obj.cells #[Value.int IntKind.u64 0, Value.int IntKind.u64 0] 24) →
              ∃ (n : Int),
                ∃ (n_1 : Int),
                  (w'_2.cell? (Addr.mk w.heap.size 0 none) = some (Value.int IntKind.u64 n) ∧
                      w'_2.cell? (Addr.mk w.heap.size 1 none) = some (Value.int IntKind.u64 n_1) ∧ True) ∧
                    ∃ (n_2 : Int),
                      ∃ (n_3 : Int),
                        (w'_2.cell? (Addr.mk w'.heap.size 0 none) = some (Value.int IntKind.u64 n_2) ∧
                            w'_2.cell? (Addr.mk w'.heap.size 1 none) = some (Value.int IntKind.u64 n_3) ∧ True) ∧
                          Calls Proofs.Try.prog 21
                            #[Value.agg #[Value.int IntKind.u64 n, Value.int IntKind.u64 n_1],
                              Value.agg #[Value.int IntKind.u64 n_2, Value.int IntKind.u64 n_3],
                              Value.func (Fn.func 30) #[] #[]]
                            w'_2 fun (e : Ending) (w' : World) =>
                            ∃ (n : Int),
                              ∃ (n_4 : Int),
                                ∃ (n_5 : Int),
                                  e =
                                      Ending.returned
                                        (Value.tuple
                                          #[Value.agg #[Value.int IntKind.u64 n, Value.int IntKind.u64 n_4],
                                            Value.int IntKind.i64 n_5]) ∧
                                    ∀ (w'_3 : World),
                                      w'_3 = w'.alloc (Obj.cells #[Value.int IntKind.u64 0, Value.int IntKind.u64 0] 24) →
                                        SetsAt w'_3 (Addr.mk w'.heap.size 0 none) 0
                                            [Value.int IntKind.u64 n, Value.int IntKind.u64 n_4] ∧
                                          ∀ (w'_4 : World),
                                            w'_4 =
                                                setCellsAt w'_3 (Addr.mk w'.heap.size 0 none) 0
                                                  [Value.int IntKind.u64 n, Value.int IntKind.u64 n_4] →
                                              cnd (n_5 == 0)
                                                (∃ (n : Int),
                                                  ∃ (n_6 : Int),
                                                    (w'_4.cell? (Addr.mk w'.heap.size 0 none) =
                                                          some (Value.int IntKind.u64 n) ∧
                                                        w'_4.cell? (Addr.mk w'.heap.size 1 none) =
                                                            some (Value.int IntKind.u64 n_6) ∧
                                                          True) ∧
                                                      Calls Proofs.Try.prog 14
                                                        #[Value.agg #[Value.int IntKind.u64 n, Value.int IntKind.u64 n_6]]
                                                        w'_4 fun (e : Ending) (w'_5 : World) =>
                                                        ∃ (n : Int),
                                                          e = Ending.returned (Value.int IntKind.i64 n) ∧
                                                            cnd (n != 0)
                                                              (SetsAt w'_5 (Addr.mk w'_1.heap.size 0 none) 0
                                                                  [Value.int IntKind.u64 0, Value.int IntKind.u64 0] ∧
                                                                ∀ (w' : World),
                                                                  w' =
                                                                      setCellsAt w'_5 (Addr.mk w'_1.heap.size 0 none) 0
                                                                        [Value.int IntKind.u64 0,
                                                                          Value.int IntKind.u64 0] →
                                                                    ∃ (n : Int),
                                                                      ∃ (n_7 : Int),
                                                                        (w'.cell? (Addr.mk w'_1.heap.size 0 none) =
                                                                              some (Value.int IntKind.u64 n) ∧
                                                                            w'.cell? (Addr.mk w'_1.heap.size 1 none) =
                                                                                some (Value.int IntKind.u64 n_7) ∧
                                                                              True) ∧
                                                                          R
                                                                            (Ending.returned
                                                                              (Value.tuple
                                                                                #[Value.agg
                                                                                    #[Value.int IntKind.u64 n,
                                                                                      Value.int IntKind.u64 n_7],
                                                                                  Value.int IntKind.i64 3]))
                                                                            w')
                                                              (∃ (n : Int),
                                                                ∃ (n_7 : Int),
                                                                  (w'_5.cell? (Addr.mk w'.heap.size 0 none) =
                                                                        some (Value.int IntKind.u64 n) ∧
                                                                      w'_5.cell? (Addr.mk w'.heap.size 1 none) =
                                                                          some (Value.int IntKind.u64 n_7) ∧
                                                                        True) ∧
                                                                    SetsAt w'_5 (Addr.mk w'_1.heap.size 0 none) 0
                                                                        [Value.int IntKind.u64 n,
                                                                          Value.int IntKind.u64 n_7] ∧
                                                                      ∀ (w' : World),
                                                                        w' =
                                                                            setCellsAt w'_5
                                                                              (Addr.mk w'_1.heap.size 0 none) 0
                                                                              [Value.int IntKind.u64 n,
                                                                                Value.int IntKind.u64 n_7] →
                                                                          ∃ (n : Int),
                                                                            ∃ (n_8 : Int),
                                                                              (w'.cell? (Addr.mk w'_1.heap.size 0 none) =
                                                                                    some (Value.int IntKind.u64 n) ∧
                                                                                  w'.cell?
                                                                                        (Addr.mk w'_1.heap.size 1 none) =
                                                                                      some (Value.int IntKind.u64 n_8) ∧
                                                                                    True) ∧
                                                                                R
                                                                                  (Ending.returned
                                                                                    (Value.tuple
                                                                                      #[Value.agg
                                                                                          #[Value.int IntKind.u64 n,
                                                                                            Value.int IntKind.u64 n_8],
                                                                                        Value.int IntKind.i64 n_5]))
                                                                                  w'))
                                                (∃ (n : Int),
                                                  ∃ (n_6 : Int),
                                                    (w'_4.cell? (Addr.mk w'.heap.size 0 none) =
                                                          some (Value.int IntKind.u64 n) ∧
                                                        w'_4.cell? (Addr.mk w'.heap.size 1 none) =
                                                            some (Value.int IntKind.u64 n_6) ∧
                                                          True) ∧
                                                      SetsAt w'_4 (Addr.mk w'_1.heap.size 0 none) 0
                                                          [Value.int IntKind.u64 n, Value.int IntKind.u64 n_6] ∧
                                                        ∀ (w' : World),
                                                          w' =
                                                              setCellsAt w'_4 (Addr.mk w'_1.heap.size 0 none) 0
                                                                [Value.int IntKind.u64 n, Value.int IntKind.u64 n_6] →
                                                            ∃ (n : Int),
                                                              ∃ (n_7 : Int),
                                                                (w'.cell? (Addr.mk w'_1.heap.size 0 none) =
                                                                      some (Value.int IntKind.u64 n) ∧
                                                                    w'.cell? (Addr.mk w'_1.heap.size 1 none) =
                                                                        some (Value.int IntKind.u64 n_7) ∧
                                                                      True) ∧
                                                                  R
                                                                    (Ending.returned
                                                                      (Value.tuple
                                                                        #[Value.agg
                                                                            #[Value.int IntKind.u64 n,
                                                                              Value.int IntKind.u64 n_7],
                                                                          Value.int IntKind.i64 n_5]))
                                                                    w')
theorem span_Meet.vc_eq (a'_0 : Int) (a'_1 : Int) (b'_0 : Int) (b'_1 : Int) (w : World) (R : Ending → World → Prop) : fnV Try.prog span_Meet.H 12 [Value.agg #[Value.int IntKind.u64 a'_0, Value.int IntKind.u64 a'_1],
    Value.agg #[Value.int IntKind.u64 b'_0, Value.int IntKind.u64 b'_1]] w R = span_Meet.vc a'_0 a'_1 b'_0 b'_1 w R := by kernel_rfl
theorem span_Meet.calls {a'_0 : Int} {a'_1 : Int} {b'_0 : Int} {b'_1 : Int} {w : World} {R : Ending → World → Prop} (h : span_Meet.vc a'_0 a'_1 b'_0 b'_1 w R) : Calls Try.prog 12 ([Value.agg #[Value.int IntKind.u64 a'_0, Value.int IntKind.u64 a'_1],
    Value.agg #[Value.int IntKind.u64 b'_0, Value.int IntKind.u64 b'_1]] : List Value).toArray w R := calls_of_eq (span_Meet.vc_eq a'_0 a'_1 b'_0 b'_1 w R) h

/- function 30: sacristy/span.Meet$1 -/
abbrev span_Meet_1.N : FuncId := 30
def span_Meet_1.H : Hints := {  }
def span_Meet_1.vc (a'_0 : Int) (a'_1 : Int) (b'_0 : Int) (b'_1 : Int) (w : World) (R : Ending → World → Prop) : Prop :=
  ∀ (w' : World),
    w' = w.alloc (Obj.cells #[Value.int IntKind.u64 a'_0, Value.int IntKind.u64 a'_1] 24) →
      ∀ (w'_1 : World),
        w'_1 = w'.alloc (Obj.cells #[Value.int IntKind.u64 b'_0, Value.int IntKind.u64 b'_1] 24) →
          ∀ (w'_2 : World),
            w'_2 = w'_1.alloc (Obj.cells #[Value.int IntKind.u64 0, Value.int IntKind.u64 0] 24) →
              ∃ (n : Int),
                w'_2.cell? (Addr.mk w.heap.size 0 none) = some (Value.int IntKind.u64 n) ∧
                  ∃ (n_1 : Int),
                    w'_2.cell? (Addr.mk w'.heap.size 0 none) = some (Value.int IntKind.u64 n_1) ∧
                      ∃ (n_2 : Int),
                        w'_2.cell? (Addr.mk w.heap.size 1 none) = some (Value.int IntKind.u64 n_2) ∧
                          ∃ (n_3 : Int),
                            w'_2.cell? (Addr.mk w'.heap.size 1 none) = some (Value.int IntKind.u64 n_3) ∧
                              SetsAt w'_2 (Addr.mk w'_1.heap.size 0 none) 0
                                  [Value.int IntKind.u64 (gomax n n_1), Value.int IntKind.u64 (gomin n_2 n_3)] ∧
                                ∀ (w' : World),
                                  w' =
                                      setCellsAt w'_2 (Addr.mk w'_1.heap.size 0 none) 0
                                        [Value.int IntKind.u64 (gomax n n_1), Value.int IntKind.u64 (gomin n_2 n_3)] →
                                    ∃ (n : Int),
                                      ∃ (n_4 : Int),
                                        (w'.cell? (Addr.mk w'_1.heap.size 0 none) = some (Value.int IntKind.u64 n) ∧
                                            w'.cell? (Addr.mk w'_1.heap.size 1 none) = some (Value.int IntKind.u64 n_4) ∧
                                              True) ∧
                                          R
                                            (Ending.returned
                                              (Value.agg #[Value.int IntKind.u64 n, Value.int IntKind.u64 n_4]))
                                            w'
theorem span_Meet_1.vc_eq (a'_0 : Int) (a'_1 : Int) (b'_0 : Int) (b'_1 : Int) (w : World) (R : Ending → World → Prop) : fnV Try.prog span_Meet_1.H 30 [Value.agg #[Value.int IntKind.u64 a'_0, Value.int IntKind.u64 a'_1],
    Value.agg #[Value.int IntKind.u64 b'_0, Value.int IntKind.u64 b'_1]] w R = span_Meet_1.vc a'_0 a'_1 b'_0 b'_1 w R := by kernel_rfl
theorem span_Meet_1.calls {a'_0 : Int} {a'_1 : Int} {b'_0 : Int} {b'_1 : Int} {w : World} {R : Ending → World → Prop} (h : span_Meet_1.vc a'_0 a'_1 b'_0 b'_1 w R) : Calls Try.prog 30 ([Value.agg #[Value.int IntKind.u64 a'_0, Value.int IntKind.u64 a'_1],
    Value.agg #[Value.int IntKind.u64 b'_0, Value.int IntKind.u64 b'_1]] : List Value).toArray w R := calls_of_eq (span_Meet_1.vc_eq a'_0 a'_1 b'_0 b'_1 w R) h

/- function 13: sacristy/span.Widen -/
abbrev span_Widen.N : FuncId := 13
def span_Widen.H : Hints := {  }
def span_Widen.vc (a'_0 : Int) (a'_1 : Int) (b'_0 : Int) (b'_1 : Int) (w : World) (R : Ending → World → Prop) : Prop :=
  ∀ (w' : World),
    w' = w.alloc (Obj.cells #[Value.int IntKind.u64 a'_0, Value.int IntKind.u64 a'_1] 24) →
      ∀ (w'_1 : World),
        w'_1 = w'.alloc (Obj.cells #[Value.int IntKind.u64 b'_0, Value.int IntKind.u64 b'_1] 24) →
          ∀ (w'_2 : World),
            w'_2 = w'_1.alloc (Obj.cells #[Value.int IntKind.u64 0, Value.int IntKind.u64 0] 24) →
              ∃ (n : Int),
                ∃ (n_1 : Int),
                  (w'_2.cell? (Addr.mk w.heap.size 0 none) = some (Value.int IntKind.u64 n) ∧
                      w'_2.cell? (Addr.mk w.heap.size 1 none) = some (Value.int IntKind.u64 n_1) ∧ True) ∧
                    ∃ (n_2 : Int),
                      ∃ (n_3 : Int),
                        (w'_2.cell? (Addr.mk w'.heap.size 0 none) = some (Value.int IntKind.u64 n_2) ∧
                            w'_2.cell? (Addr.mk w'.heap.size 1 none) = some (Value.int IntKind.u64 n_3) ∧ True) ∧
                          Calls Proofs.Try.prog 21
                            #[Value.agg #[Value.int IntKind.u64 n, Value.int IntKind.u64 n_1],
                              Value.agg #[Value.int IntKind.u64 n_2, Value.int IntKind.u64 n_3],
                              Value.func (Fn.func 31) #[] #[]]
                            w'_2 fun (e : Ending) (w' : World) =>
                            ∃ (n : Int),
                              ∃ (n_4 : Int),
                                ∃ (n_5 : Int),
                                  e =
                                      Ending.returned
                                        (Value.tuple
                                          #[Value.agg #[Value.int IntKind.u64 n, Value.int IntKind.u64 n_4],
                                            Value.int IntKind.i64 n_5]) ∧
                                    SetsAt w' (Addr.mk w'_1.heap.size 0 none) 0
                                        [Value.int IntKind.u64 n, Value.int IntKind.u64 n_4] ∧
                                      ∀ (w'_3 : World),
                                        w'_3 =
                                            setCellsAt w' (Addr.mk w'_1.heap.size 0 none) 0
                                              [Value.int IntKind.u64 n, Value.int IntKind.u64 n_4] →
                                          ∃ (n : Int),
                                            ∃ (n_6 : Int),
                                              (w'_3.cell? (Addr.mk w'_1.heap.size 0 none) =
                                                    some (Value.int IntKind.u64 n) ∧
                                                  w'_3.cell? (Addr.mk w'_1.heap.size 1 none) =
                                                      some (Value.int IntKind.u64 n_6) ∧
                                                    True) ∧
                                                R
                                                  (Ending.returned
                                                    (Value.tuple
                                                      #[Value.agg #[Value.int IntKind.u64 n, Value.int IntKind.u64 n_6],
                                                        Value.int IntKind.i64 n_5]))
                                                  w'_3
theorem span_Widen.vc_eq (a'_0 : Int) (a'_1 : Int) (b'_0 : Int) (b'_1 : Int) (w : World) (R : Ending → World → Prop) : fnV Try.prog span_Widen.H 13 [Value.agg #[Value.int IntKind.u64 a'_0, Value.int IntKind.u64 a'_1],
    Value.agg #[Value.int IntKind.u64 b'_0, Value.int IntKind.u64 b'_1]] w R = span_Widen.vc a'_0 a'_1 b'_0 b'_1 w R := by kernel_rfl
theorem span_Widen.calls {a'_0 : Int} {a'_1 : Int} {b'_0 : Int} {b'_1 : Int} {w : World} {R : Ending → World → Prop} (h : span_Widen.vc a'_0 a'_1 b'_0 b'_1 w R) : Calls Try.prog 13 ([Value.agg #[Value.int IntKind.u64 a'_0, Value.int IntKind.u64 a'_1],
    Value.agg #[Value.int IntKind.u64 b'_0, Value.int IntKind.u64 b'_1]] : List Value).toArray w R := calls_of_eq (span_Widen.vc_eq a'_0 a'_1 b'_0 b'_1 w R) h

/- function 31: sacristy/span.Widen$1 -/
abbrev span_Widen_1.N : FuncId := 31
def span_Widen_1.H : Hints := { conds := [(24, []), (19, [])] }
def span_Widen_1.vc (a'_0 : Int) (a'_1 : Int) (b'_0 : Int) (b'_1 : Int) (w : World) (R : Ending → World → Prop) : Prop :=
  ∀ (w' : World),
    w' = w.alloc (Obj.cells #[Value.int IntKind.u64 a'_0, Value.int IntKind.u64 a'_1] 24) →
      ∀ (w'_1 : World),
        w'_1 = w'.alloc (Obj.cells #[Value.int IntKind.u64 b'_0, Value.int IntKind.u64 b'_1] 24) →
          ∀ (w'_2 : World),
            w'_2 = w'_1.alloc (Obj.cells #[Value.int IntKind.u64 0, Value.int IntKind.u64 0] 24) →
              ∃ (n : Int),
                w'_2.cell? (Addr.mk w.heap.size 0 none) = some (Value.int IntKind.u64 n) ∧
                  ∃ (n_1 : Int),
                    w'_2.cell? (Addr.mk w'.heap.size 0 none) = some (Value.int IntKind.u64 n_1) ∧
                      ∃ (n_2 : Int),
                        w'_2.cell? (Addr.mk w.heap.size 1 none) = some (Value.int IntKind.u64 n_2) ∧
                          ∃ (n_3 : Int),
                            w'_2.cell? (Addr.mk w'.heap.size 1 none) = some (Value.int IntKind.u64 n_3) ∧
                              ∀ (w' : World),
                                w' = w'_2.alloc (Obj.cells #[Value.int IntKind.u64 0, Value.int IntKind.u64 0] 24) →
                                  SetsAt w' (Addr.mk w'_2.heap.size 0 none) 0
                                      [Value.int IntKind.u64 (gomin n n_1), Value.int IntKind.u64 (gomax n_2 n_3)] ∧
                                    ∀ (w'_3 : World),
                                      w'_3 =
                                          setCellsAt w' (Addr.mk w'_2.heap.size 0 none) 0
                                            [Value.int IntKind.u64 (gomin n n_1), Value.int IntKind.u64 (gomax n_2 n_3)] →
                                        ∃ (n : Int),
                                          ∃ (n_4 : Int),
                                            (w'_3.cell? (Addr.mk w'_2.heap.size 0 none) = some (Value.int IntKind.u64 n) ∧
                                                w'_3.cell? (Addr.mk w'_2.heap.size 1 none) =
                                                    some (Value.int IntKind.u64 n_4) ∧
                                                  True) ∧
                                              ∃ (n_5 : Int),
                                                ∃ (n_6 : Int),
                                                  (w'_3.cell? (Addr.mk w.heap.size 0 none) =
                                                        some (Value.int IntKind.u64 n_5) ∧
                                                      w'_3.cell? (Addr.mk w.heap.size 1 none) =
                                                          some (Value.int IntKind.u64 n_6) ∧
                                                        True) ∧
                                                    ∃ (b : Bool),
                                                      EqRuns Proofs.Try.prog BinOp.neq 24 (Operand.tmp 17)
                                                          (Operand.tmp 18)
                                                          (Value.agg
                                                            #[Value.int IntKind.u64 n, Value.int IntKind.u64 n_4])
                                                          (Value.agg
                                                            #[Value.int IntKind.u64 n_5, Value.int IntKind.u64 n_6])
                                                          b ∧
                                                        ∃ (J : List Value → World → Prop),
                                                          cnd b
                                                              (∃ (n : Int),
                                                                w'_3.cell? (Addr.mk w'_2.heap.size 0 none) =
                                                                    some (Value.int IntKind.u64 n) ∧
                                                                  ∃ (n_7 : Int),
                                                                    w'_3.cell? (Addr.mk w.heap.size 0 none) =
                                                                        some (Value.int IntKind.u64 n_7) ∧
                                                                      ∃ (J_1 : List Value → World → Prop),
                                                                        cnd (n != n_7)
                                                                            (((w'_3.cell?
                                                                                      (Addr.mk w.heap.size 0
                                                                                        none)).isSome =
                                                                                  true ∧
                                                                                w'_3.frozen?
                                                                                    (Addr.mk w.heap.size 0 none) =
                                                                                  false) ∧
                                                                              ∀ (w' : World),
                                                                                w' =
                                                                                    w'_3.setCell
                                                                                      (Addr.mk w.heap.size 0 none)
                                                                                      (Value.int IntKind.u64 0) →
                                                                                  J_1 [] w')
                                                                            (J_1 [] w'_3) ∧
                                                                          ∀ (g : Nat → Value) (w' : World),
                                                                            J_1 [] w' →
                                                                              ∃ (n : Int),
                                                                                w'.cell? (Addr.mk w'_2.heap.size 1 none) =
                                                                                    some (Value.int IntKind.u64 n) ∧
                                                                                  ∃ (n_8 : Int),
                                                                                    w'.cell?
                                                                                          (Addr.mk w.heap.size 1 none) =
                                                                                        some (Value.int IntKind.u64 n_8) ∧
                                                                                      cnd (n != n_8)
                                                                                        (((w'.cell?
                                                                                                  (Addr.mk w.heap.size 1
                                                                                                    none)).isSome =
                                                                                              true ∧
                                                                                            w'.frozen?
                                                                                                (Addr.mk w.heap.size 1
                                                                                                  none) =
                                                                                              false) ∧
                                                                                          ∀ (w'_4 : World),
                                                                                            w'_4 =
                                                                                                w'.setCell
                                                                                                  (Addr.mk w.heap.size 1
                                                                                                    none)
                                                                                                  (Value.int IntKind.u64
                                                                                                    18446744073709551615) →
                                                                                              J [] w'_4)
                                                                                        (J [] w'))
                                                              (J [] w'_3) ∧
                                                            ∀ (g : Nat → Value) (w' : World),
                                                              J [] w' →
                                                                ∃ (n : Int),
                                                                  ∃ (n_7 : Int),
                                                                    (w'.cell? (Addr.mk w.heap.size 0 none) =
                                                                          some (Value.int IntKind.u64 n) ∧
                                                                        w'.cell? (Addr.mk w.heap.size 1 none) =
                                                                            some (Value.int IntKind.u64 n_7) ∧
                                                                          True) ∧
                                                                      SetsAt w' (Addr.mk w'_1.heap.size 0 none) 0
                                                                          [Value.int IntKind.u64 n,
                                                                            Value.int IntKind.u64 n_7] ∧
                                                                        ∀ (w'_4 : World),
                                                                          w'_4 =
                                                                              setCellsAt w'
                                                                                (Addr.mk w'_1.heap.size 0 none) 0
                                                                                [Value.int IntKind.u64 n,
                                                                                  Value.int IntKind.u64 n_7] →
                                                                            ∃ (n : Int),
                                                                              ∃ (n_8 : Int),
                                                                                (w'_4.cell?
                                                                                        (Addr.mk w'_1.heap.size 0 none) =
                                                                                      some (Value.int IntKind.u64 n) ∧
                                                                                    w'_4.cell?
                                                                                          (Addr.mk w'_1.heap.size 1
                                                                                            none) =
                                                                                        some (Value.int IntKind.u64 n_8) ∧
                                                                                      True) ∧
                                                                                  R
                                                                                    (Ending.returned
                                                                                      (Value.agg
                                                                                        #[Value.int IntKind.u64 n,
                                                                                          Value.int IntKind.u64 n_8]))
                                                                                    w'_4
theorem span_Widen_1.vc_eq (a'_0 : Int) (a'_1 : Int) (b'_0 : Int) (b'_1 : Int) (w : World) (R : Ending → World → Prop) : fnV Try.prog span_Widen_1.H 31 [Value.agg #[Value.int IntKind.u64 a'_0, Value.int IntKind.u64 a'_1],
    Value.agg #[Value.int IntKind.u64 b'_0, Value.int IntKind.u64 b'_1]] w R = span_Widen_1.vc a'_0 a'_1 b'_0 b'_1 w R := by kernel_rfl
theorem span_Widen_1.calls {a'_0 : Int} {a'_1 : Int} {b'_0 : Int} {b'_1 : Int} {w : World} {R : Ending → World → Prop} (h : span_Widen_1.vc a'_0 a'_1 b'_0 b'_1 w R) : Calls Try.prog 31 ([Value.agg #[Value.int IntKind.u64 a'_0, Value.int IntKind.u64 a'_1],
    Value.agg #[Value.int IntKind.u64 b'_0, Value.int IntKind.u64 b'_1]] : List Value).toArray w R := calls_of_eq (span_Widen_1.vc_eq a'_0 a'_1 b'_0 b'_1 w R) h

/- function 66: sacristy/span.mask -/
abbrev span_mask.N : FuncId := 66
def span_mask.H : Hints := {  }
def span_mask.vc (v' : Int) (w : World) (R : Ending → World → Prop) : Prop :=
  cnd (v' == 0) (R (Ending.returned (Value.int IntKind.u64 0)) w)
    (Calls Proofs.Try.prog 72 #[Value.int IntKind.u64 v'] w fun (e : Ending) (w' : World) =>
      ∃ (n : Int),
        e = Ending.returned (Value.int IntKind.i64 n) ∧
          cnd (decide (n < 0)) False
            (R (Ending.returned (Value.int IntKind.u64 (Int.fdiv 18446744073709551615 (2 ^ min n.toNat 64)))) w'))
theorem span_mask.vc_eq (v' : Int) (w : World) (R : Ending → World → Prop) : fnV Try.prog span_mask.H 66 [Value.int IntKind.u64 v'] w R = span_mask.vc v' w R := by kernel_rfl
theorem span_mask.calls {v' : Int} {w : World} {R : Ending → World → Prop} (h : span_mask.vc v' w R) : Calls Try.prog 66 ([Value.int IntKind.u64 v'] : List Value).toArray w R := calls_of_eq (span_mask.vc_eq v' w R) h

/- function 67: sacristy/span.one -/
abbrev span_one.N : FuncId := 67
def span_one.H : Hints := {  }
def span_one.vc (b'_0 : Int) (b'_1 : Int) (w : World) (R : Ending → World → Prop) : Prop :=
  ∀ (w' : World),
    w' = w.alloc (Obj.cells #[Value.int IntKind.u64 b'_0, Value.int IntKind.u64 b'_1] 24) →
      ∃ (n : Int),
        (∀ (w'_1 : World), Later w' w'_1 → w'_1.cell? (Addr.mk w.heap.size 0 none) = some (Value.int IntKind.u64 n)) ∧
          ∃ (n_1 : Int),
            ∃ (n_2 : Int),
              (∀ (w'_1 : World),
                  Later w' w'_1 →
                    w'_1.cell? (Addr.mk w.heap.size 0 none) = some (Value.int IntKind.u64 n_1) ∧
                      w'_1.cell? (Addr.mk w.heap.size 1 none) = some (Value.int IntKind.u64 n_2) ∧ True) ∧
                ∃ (n_3 : Int),
                  (∀ (w'_1 : World),
                      Later w' w'_1 → w'_1.cell? (Addr.mk w.heap.size 0 none) = some (Value.int IntKind.u64 n_3)) ∧
                    ∃ (n_4 : Int),
                      (∀ (w'_1 : World),
                          Later w' w'_1 → w'_1.cell? (Addr.mk w.heap.size 0 none) = some (Value.int IntKind.u64 n_4)) ∧
                        ∃ (b : Bool),
                          EqRuns Proofs.Try.prog BinOp.eql 24 (Operand.tmp 6) (Operand.tmp 11)
                              (Value.agg #[Value.int IntKind.u64 n_1, Value.int IntKind.u64 n_2])
                              (Value.agg #[Value.int IntKind.u64 n_3, Value.int IntKind.u64 n_4]) b ∧
                            cnd b
                              (∃ (n_5 : Int),
                                (∀ (w'_1 : World),
                                    Later w' w'_1 →
                                      w'_1.cell? (Addr.mk w.heap.size 0 none) = some (Value.int IntKind.u64 n_5)) ∧
                                  ∀ (w'_1 : World),
                                    Later w' w'_1 →
                                      R
                                        (Ending.returned
                                          (Value.tuple #[Value.int IntKind.u64 n, Value.bool (decide (n_5 < 64))]))
                                        w'_1)
                              (∀ (w'_1 : World),
                                Later w' w'_1 →
                                  R (Ending.returned (Value.tuple #[Value.int IntKind.u64 n, Value.bool false])) w'_1)
theorem span_one.vc_eq (b'_0 : Int) (b'_1 : Int) (w : World) (R : Ending → World → Prop) : fnV Try.prog span_one.H 67 [Value.agg #[Value.int IntKind.u64 b'_0, Value.int IntKind.u64 b'_1]] w R = span_one.vc b'_0 b'_1 w R := by kernel_rfl
theorem span_one.calls {b'_0 : Int} {b'_1 : Int} {w : World} {R : Ending → World → Prop} (h : span_one.vc b'_0 b'_1 w R) : Calls Try.prog 67 ([Value.agg #[Value.int IntKind.u64 b'_0, Value.int IntKind.u64 b'_1]] : List Value).toArray w R := calls_of_eq (span_one.vc_eq b'_0 b'_1 w R) h

/- function 33: sacristy/span.add -/
abbrev span_add.N : FuncId := 33
def span_add.H : Hints := {  }
def span_add.vc (a'_0 : Int) (a'_1 : Int) (b'_0 : Int) (b'_1 : Int) (w : World) (R : Ending → World → Prop) : Prop :=
  ∀ (w' : World),
    w' = w.alloc (Obj.cells #[Value.int IntKind.u64 a'_0, Value.int IntKind.u64 a'_1] 24) →
      ∀ (w'_1 : World),
        w'_1 = w'.alloc (Obj.cells #[Value.int IntKind.u64 b'_0, Value.int IntKind.u64 b'_1] 24) →
          ∀ (w'_2 : World),
            w'_2 = w'_1.alloc (Obj.cells #[Value.int IntKind.u64 0, Value.int IntKind.u64 0] 24) →
              ∃ (n : Int),
                w'_2.cell? (Addr.mk w.heap.size 1 none) = some (Value.int IntKind.u64 n) ∧
                  ∃ (n_1 : Int),
                    w'_2.cell? (Addr.mk w'.heap.size 1 none) = some (Value.int IntKind.u64 n_1) ∧
                      RunsC Proofs.Try.prog 63
                        #[Value.int IntKind.u64 n, Value.int IntKind.u64 n_1, Value.int IntKind.u64 0] w'_2
                        fun (v : Value) (w'_3 : World) =>
                        ∃ (n : Int),
                          ∃ (n_2 : Int),
                            v = Value.tuple #[Value.int IntKind.u64 n, Value.int IntKind.u64 n_2] ∧
                              cnd (n_2 != 0)
                                (Calls Proofs.Try.prog 64 #[] w'_3 fun (e : Ending) (w' : World) =>
                                  ∃ (n : Int),
                                    ∃ (n_3 : Int),
                                      e =
                                          Ending.returned
                                            (Value.agg #[Value.int IntKind.u64 n, Value.int IntKind.u64 n_3]) ∧
                                        SetsAt w' (Addr.mk w'_1.heap.size 0 none) 0
                                            [Value.int IntKind.u64 n, Value.int IntKind.u64 n_3] ∧
                                          ∀ (w'_4 : World),
                                            w'_4 =
                                                setCellsAt w' (Addr.mk w'_1.heap.size 0 none) 0
                                                  [Value.int IntKind.u64 n, Value.int IntKind.u64 n_3] →
                                              ∃ (n : Int),
                                                ∃ (n_4 : Int),
                                                  (w'_4.cell? (Addr.mk w'_1.heap.size 0 none) =
                                                        some (Value.int IntKind.u64 n) ∧
                                                      w'_4.cell? (Addr.mk w'_1.heap.size 1 none) =
                                                          some (Value.int IntKind.u64 n_4) ∧
                                                        True) ∧
                                                    R
                                                      (Ending.returned
                                                        (Value.agg #[Value.int IntKind.u64 n, Value.int IntKind.u64 n_4]))
                                                      w'_4)
                                (∃ (n_3 : Int),
                                  w'_3.cell? (Addr.mk w.heap.size 0 none) = some (Value.int IntKind.u64 n_3) ∧
                                    ∃ (n_4 : Int),
                                      w'_3.cell? (Addr.mk w'.heap.size 0 none) = some (Value.int IntKind.u64 n_4) ∧
                                        SetsAt w'_3 (Addr.mk w'_1.heap.size 0 none) 0
                                            [Value.int IntKind.u64 (IntKind.u64.wrap (n_3 + n_4)),
                                              Value.int IntKind.u64 n] ∧
                                          ∀ (w' : World),
                                            w' =
                                                setCellsAt w'_3 (Addr.mk w'_1.heap.size 0 none) 0
                                                  [Value.int IntKind.u64 (IntKind.u64.wrap (n_3 + n_4)),
                                                    Value.int IntKind.u64 n] →
                                              ∃ (n : Int),
                                                ∃ (n_5 : Int),
                                                  (w'.cell? (Addr.mk w'_1.heap.size 0 none) =
                                                        some (Value.int IntKind.u64 n) ∧
                                                      w'.cell? (Addr.mk w'_1.heap.size 1 none) =
                                                          some (Value.int IntKind.u64 n_5) ∧
                                                        True) ∧
                                                    R
                                                      (Ending.returned
                                                        (Value.agg #[Value.int IntKind.u64 n, Value.int IntKind.u64 n_5]))
                                                      w')
theorem span_add.vc_eq (a'_0 : Int) (a'_1 : Int) (b'_0 : Int) (b'_1 : Int) (w : World) (R : Ending → World → Prop) : fnV Try.prog span_add.H 33 [Value.agg #[Value.int IntKind.u64 a'_0, Value.int IntKind.u64 a'_1],
    Value.agg #[Value.int IntKind.u64 b'_0, Value.int IntKind.u64 b'_1]] w R = span_add.vc a'_0 a'_1 b'_0 b'_1 w R := by kernel_rfl
theorem span_add.calls {a'_0 : Int} {a'_1 : Int} {b'_0 : Int} {b'_1 : Int} {w : World} {R : Ending → World → Prop} (h : span_add.vc a'_0 a'_1 b'_0 b'_1 w R) : Calls Try.prog 33 ([Value.agg #[Value.int IntKind.u64 a'_0, Value.int IntKind.u64 a'_1],
    Value.agg #[Value.int IntKind.u64 b'_0, Value.int IntKind.u64 b'_1]] : List Value).toArray w R := calls_of_eq (span_add.vc_eq a'_0 a'_1 b'_0 b'_1 w R) h

/- function 34: sacristy/span.sub -/
abbrev span_sub.N : FuncId := 34
def span_sub.H : Hints := {  }
def span_sub.vc (a'_0 : Int) (a'_1 : Int) (b'_0 : Int) (b'_1 : Int) (w : World) (R : Ending → World → Prop) : Prop :=
  ∀ (w' : World),
    w' = w.alloc (Obj.cells #[Value.int IntKind.u64 a'_0, Value.int IntKind.u64 a'_1] 24) →
      ∀ (w'_1 : World),
        w'_1 = w'.alloc (Obj.cells #[Value.int IntKind.u64 b'_0, Value.int IntKind.u64 b'_1] 24) →
          ∀ (w'_2 : World),
            w'_2 = w'_1.alloc (Obj.cells #[Value.int IntKind.u64 0, Value.int IntKind.u64 0] 24) →
              ∃ (n : Int),
                w'_2.cell? (Addr.mk w.heap.size 0 none) = some (Value.int IntKind.u64 n) ∧
                  ∃ (n_1 : Int),
                    w'_2.cell? (Addr.mk w'.heap.size 1 none) = some (Value.int IntKind.u64 n_1) ∧
                      cnd (decide (n < n_1))
                        (Calls Proofs.Try.prog 64 #[] w'_2 fun (e : Ending) (w' : World) =>
                          ∃ (n : Int),
                            ∃ (n_2 : Int),
                              e = Ending.returned (Value.agg #[Value.int IntKind.u64 n, Value.int IntKind.u64 n_2]) ∧
                                SetsAt w' (Addr.mk w'_1.heap.size 0 none) 0
                                    [Value.int IntKind.u64 n, Value.int IntKind.u64 n_2] ∧
                                  ∀ (w'_3 : World),
                                    w'_3 =
                                        setCellsAt w' (Addr.mk w'_1.heap.size 0 none) 0
                                          [Value.int IntKind.u64 n, Value.int IntKind.u64 n_2] →
                                      ∃ (n : Int),
                                        ∃ (n_3 : Int),
                                          (w'_3.cell? (Addr.mk w'_1.heap.size 0 none) = some (Value.int IntKind.u64 n) ∧
                                              w'_3.cell? (Addr.mk w'_1.heap.size 1 none) =
                                                  some (Value.int IntKind.u64 n_3) ∧
                                                True) ∧
                                            R
                                              (Ending.returned
                                                (Value.agg #[Value.int IntKind.u64 n, Value.int IntKind.u64 n_3]))
                                              w'_3)
                        (∃ (n : Int),
                          w'_2.cell? (Addr.mk w.heap.size 0 none) = some (Value.int IntKind.u64 n) ∧
                            ∃ (n_2 : Int),
                              w'_2.cell? (Addr.mk w'.heap.size 1 none) = some (Value.int IntKind.u64 n_2) ∧
                                ∃ (n_3 : Int),
                                  w'_2.cell? (Addr.mk w.heap.size 1 none) = some (Value.int IntKind.u64 n_3) ∧
                                    ∃ (n_4 : Int),
                                      w'_2.cell? (Addr.mk w'.heap.size 0 none) = some (Value.int IntKind.u64 n_4) ∧
                                        SetsAt w'_2 (Addr.mk w'_1.heap.size 0 none) 0
                                            [Value.int IntKind.u64 (IntKind.u64.wrap (n - n_2)),
                                              Value.int IntKind.u64 (IntKind.u64.wrap (n_3 - n_4))] ∧
                                          ∀ (w' : World),
                                            w' =
                                                setCellsAt w'_2 (Addr.mk w'_1.heap.size 0 none) 0
                                                  [Value.int IntKind.u64 (IntKind.u64.wrap (n - n_2)),
                                                    Value.int IntKind.u64 (IntKind.u64.wrap (n_3 - n_4))] →
                                              ∃ (n : Int),
                                                ∃ (n_5 : Int),
                                                  (w'.cell? (Addr.mk w'_1.heap.size 0 none) =
                                                        some (Value.int IntKind.u64 n) ∧
                                                      w'.cell? (Addr.mk w'_1.heap.size 1 none) =
                                                          some (Value.int IntKind.u64 n_5) ∧
                                                        True) ∧
                                                    R
                                                      (Ending.returned
                                                        (Value.agg #[Value.int IntKind.u64 n, Value.int IntKind.u64 n_5]))
                                                      w')
theorem span_sub.vc_eq (a'_0 : Int) (a'_1 : Int) (b'_0 : Int) (b'_1 : Int) (w : World) (R : Ending → World → Prop) : fnV Try.prog span_sub.H 34 [Value.agg #[Value.int IntKind.u64 a'_0, Value.int IntKind.u64 a'_1],
    Value.agg #[Value.int IntKind.u64 b'_0, Value.int IntKind.u64 b'_1]] w R = span_sub.vc a'_0 a'_1 b'_0 b'_1 w R := by kernel_rfl
theorem span_sub.calls {a'_0 : Int} {a'_1 : Int} {b'_0 : Int} {b'_1 : Int} {w : World} {R : Ending → World → Prop} (h : span_sub.vc a'_0 a'_1 b'_0 b'_1 w R) : Calls Try.prog 34 ([Value.agg #[Value.int IntKind.u64 a'_0, Value.int IntKind.u64 a'_1],
    Value.agg #[Value.int IntKind.u64 b'_0, Value.int IntKind.u64 b'_1]] : List Value).toArray w R := calls_of_eq (span_sub.vc_eq a'_0 a'_1 b'_0 b'_1 w R) h

/- function 35: sacristy/span.mul -/
abbrev span_mul.N : FuncId := 35
def span_mul.H : Hints := {  }
def span_mul.vc (a'_0 : Int) (a'_1 : Int) (b'_0 : Int) (b'_1 : Int) (w : World) (R : Ending → World → Prop) : Prop :=
  ∀ (w' : World),
    w' = w.alloc (Obj.cells #[Value.int IntKind.u64 a'_0, Value.int IntKind.u64 a'_1] 24) →
      ∀ (w'_1 : World),
        w'_1 = w'.alloc (Obj.cells #[Value.int IntKind.u64 b'_0, Value.int IntKind.u64 b'_1] 24) →
          ∀ (w'_2 : World),
            w'_2 = w'_1.alloc (Obj.cells #[Value.int IntKind.u64 0, Value.int IntKind.u64 0] 24) →
              ∃ (n : Int),
                w'_2.cell? (Addr.mk w.heap.size 1 none) = some (Value.int IntKind.u64 n) ∧
                  ∃ (n_1 : Int),
                    w'_2.cell? (Addr.mk w'.heap.size 1 none) = some (Value.int IntKind.u64 n_1) ∧
                      Calls Proofs.Try.prog 65 #[Value.int IntKind.u64 n, Value.int IntKind.u64 n_1] w'_2
                        fun (e : Ending) (w'_3 : World) =>
                        ∃ (n : Int),
                          ∃ (n_2 : Int),
                            e = Ending.returned (Value.tuple #[Value.int IntKind.u64 n, Value.int IntKind.u64 n_2]) ∧
                              cnd (n != 0)
                                (Calls Proofs.Try.prog 64 #[] w'_3 fun (e : Ending) (w' : World) =>
                                  ∃ (n : Int),
                                    ∃ (n_3 : Int),
                                      e =
                                          Ending.returned
                                            (Value.agg #[Value.int IntKind.u64 n, Value.int IntKind.u64 n_3]) ∧
                                        SetsAt w' (Addr.mk w'_1.heap.size 0 none) 0
                                            [Value.int IntKind.u64 n, Value.int IntKind.u64 n_3] ∧
                                          ∀ (w'_4 : World),
                                            w'_4 =
                                                setCellsAt w' (Addr.mk w'_1.heap.size 0 none) 0
                                                  [Value.int IntKind.u64 n, Value.int IntKind.u64 n_3] →
                                              ∃ (n : Int),
                                                ∃ (n_4 : Int),
                                                  (w'_4.cell? (Addr.mk w'_1.heap.size 0 none) =
                                                        some (Value.int IntKind.u64 n) ∧
                                                      w'_4.cell? (Addr.mk w'_1.heap.size 1 none) =
                                                          some (Value.int IntKind.u64 n_4) ∧
                                                        True) ∧
                                                    R
                                                      (Ending.returned
                                                        (Value.agg #[Value.int IntKind.u64 n, Value.int IntKind.u64 n_4]))
                                                      w'_4)
                                (∃ (n : Int),
                                  w'_3.cell? (Addr.mk w.heap.size 0 none) = some (Value.int IntKind.u64 n) ∧
                                    ∃ (n_3 : Int),
                                      w'_3.cell? (Addr.mk w'.heap.size 0 none) = some (Value.int IntKind.u64 n_3) ∧
                                        SetsAt w'_3 (Addr.mk w'_1.heap.size 0 none) 0
                                            [Value.int IntKind.u64 (IntKind.u64.wrap (n * n_3)),
                                              Value.int IntKind.u64 n_2] ∧
                                          ∀ (w' : World),
                                            w' =
                                                setCellsAt w'_3 (Addr.mk w'_1.heap.size 0 none) 0
                                                  [Value.int IntKind.u64 (IntKind.u64.wrap (n * n_3)),
                                                    Value.int IntKind.u64 n_2] →
                                              ∃ (n : Int),
                                                ∃ (n_4 : Int),
                                                  (w'.cell? (Addr.mk w'_1.heap.size 0 none) =
                                                        some (Value.int IntKind.u64 n) ∧
                                                      w'.cell? (Addr.mk w'_1.heap.size 1 none) =
                                                          some (Value.int IntKind.u64 n_4) ∧
                                                        True) ∧
                                                    R
                                                      (Ending.returned
                                                        (Value.agg #[Value.int IntKind.u64 n, Value.int IntKind.u64 n_4]))
                                                      w')
theorem span_mul.vc_eq (a'_0 : Int) (a'_1 : Int) (b'_0 : Int) (b'_1 : Int) (w : World) (R : Ending → World → Prop) : fnV Try.prog span_mul.H 35 [Value.agg #[Value.int IntKind.u64 a'_0, Value.int IntKind.u64 a'_1],
    Value.agg #[Value.int IntKind.u64 b'_0, Value.int IntKind.u64 b'_1]] w R = span_mul.vc a'_0 a'_1 b'_0 b'_1 w R := by kernel_rfl
theorem span_mul.calls {a'_0 : Int} {a'_1 : Int} {b'_0 : Int} {b'_1 : Int} {w : World} {R : Ending → World → Prop} (h : span_mul.vc a'_0 a'_1 b'_0 b'_1 w R) : Calls Try.prog 35 ([Value.agg #[Value.int IntKind.u64 a'_0, Value.int IntKind.u64 a'_1],
    Value.agg #[Value.int IntKind.u64 b'_0, Value.int IntKind.u64 b'_1]] : List Value).toArray w R := calls_of_eq (span_mul.vc_eq a'_0 a'_1 b'_0 b'_1 w R) h

/- function 36: sacristy/span.mulhu -/
abbrev span_mulhu.N : FuncId := 36
def span_mulhu.H : Hints := {  }
def span_mulhu.vc (a'_0 : Int) (a'_1 : Int) (b'_0 : Int) (b'_1 : Int) (w : World) (R : Ending → World → Prop) : Prop :=
  ∀ (w' : World),
    w' = w.alloc (Obj.cells #[Value.int IntKind.u64 a'_0, Value.int IntKind.u64 a'_1] 24) →
      ∀ (w'_1 : World),
        w'_1 = w'.alloc (Obj.cells #[Value.int IntKind.u64 b'_0, Value.int IntKind.u64 b'_1] 24) →
          ∀ (w'_2 : World),
            w'_2 = w'_1.alloc (Obj.cells #[Value.int IntKind.u64 0, Value.int IntKind.u64 0] 24) →
              ∃ (n : Int),
                w'_2.cell? (Addr.mk w.heap.size 0 none) = some (Value.int IntKind.u64 n) ∧
                  ∃ (n_1 : Int),
                    w'_2.cell? (Addr.mk w'.heap.size 0 none) = some (Value.int IntKind.u64 n_1) ∧
                      Calls Proofs.Try.prog 65 #[Value.int IntKind.u64 n, Value.int IntKind.u64 n_1] w'_2
                        fun (e : Ending) (w'_3 : World) =>
                        ∃ (n : Int),
                          ∃ (n_2 : Int),
                            e = Ending.returned (Value.tuple #[Value.int IntKind.u64 n, Value.int IntKind.u64 n_2]) ∧
                              ∃ (n_3 : Int),
                                w'_3.cell? (Addr.mk w.heap.size 1 none) = some (Value.int IntKind.u64 n_3) ∧
                                  ∃ (n_4 : Int),
                                    w'_3.cell? (Addr.mk w'.heap.size 1 none) = some (Value.int IntKind.u64 n_4) ∧
                                      Calls Proofs.Try.prog 65 #[Value.int IntKind.u64 n_3, Value.int IntKind.u64 n_4]
                                        w'_3 fun (e : Ending) (w' : World) =>
                                        ∃ (n_5 : Int),
                                          ∃ (n_6 : Int),
                                            e =
                                                Ending.returned
                                                  (Value.tuple #[Value.int IntKind.u64 n_5, Value.int IntKind.u64 n_6]) ∧
                                              SetsAt w' (Addr.mk w'_1.heap.size 0 none) 0
                                                  [Value.int IntKind.u64 n, Value.int IntKind.u64 n_5] ∧
                                                ∀ (w'_4 : World),
                                                  w'_4 =
                                                      setCellsAt w' (Addr.mk w'_1.heap.size 0 none) 0
                                                        [Value.int IntKind.u64 n, Value.int IntKind.u64 n_5] →
                                                    ∃ (n : Int),
                                                      ∃ (n_7 : Int),
                                                        (w'_4.cell? (Addr.mk w'_1.heap.size 0 none) =
                                                              some (Value.int IntKind.u64 n) ∧
                                                            w'_4.cell? (Addr.mk w'_1.heap.size 1 none) =
                                                                some (Value.int IntKind.u64 n_7) ∧
                                                              True) ∧
                                                          R
                                                            (Ending.returned
                                                              (Value.agg
                                                                #[Value.int IntKind.u64 n, Value.int IntKind.u64 n_7]))
                                                            w'_4
theorem span_mulhu.vc_eq (a'_0 : Int) (a'_1 : Int) (b'_0 : Int) (b'_1 : Int) (w : World) (R : Ending → World → Prop) : fnV Try.prog span_mulhu.H 36 [Value.agg #[Value.int IntKind.u64 a'_0, Value.int IntKind.u64 a'_1],
    Value.agg #[Value.int IntKind.u64 b'_0, Value.int IntKind.u64 b'_1]] w R = span_mulhu.vc a'_0 a'_1 b'_0 b'_1 w R := by kernel_rfl
theorem span_mulhu.calls {a'_0 : Int} {a'_1 : Int} {b'_0 : Int} {b'_1 : Int} {w : World} {R : Ending → World → Prop} (h : span_mulhu.vc a'_0 a'_1 b'_0 b'_1 w R) : Calls Try.prog 36 ([Value.agg #[Value.int IntKind.u64 a'_0, Value.int IntKind.u64 a'_1],
    Value.agg #[Value.int IntKind.u64 b'_0, Value.int IntKind.u64 b'_1]] : List Value).toArray w R := calls_of_eq (span_mulhu.vc_eq a'_0 a'_1 b'_0 b'_1 w R) h

/- function 37: sacristy/span.divu -/
abbrev span_divu.N : FuncId := 37
def span_divu.H : Hints := { tails := [(3, 11)] }
def span_divu.vc (a'_0 : Int) (a'_1 : Int) (b'_0 : Int) (b'_1 : Int) (w : World) (R : Ending → World → Prop) : Prop :=
  ∀ (w' : World),
    w' = w.alloc (Obj.cells #[Value.int IntKind.u64 a'_0, Value.int IntKind.u64 a'_1] 24) →
      ∀ (w'_1 : World),
        w'_1 = w'.alloc (Obj.cells #[Value.int IntKind.u64 b'_0, Value.int IntKind.u64 b'_1] 24) →
          ∀ (w'_2 : World),
            w'_2 = w'_1.alloc (Obj.cells #[Value.int IntKind.u64 0, Value.int IntKind.u64 0] 24) →
              ∃ (n : Int),
                w'_2.cell? (Addr.mk w'.heap.size 0 none) = some (Value.int IntKind.u64 n) ∧
                  cnd (n == 0)
                    (Calls Proofs.Try.prog 64 #[] w'_2 fun (e : Ending) (w' : World) =>
                      ∃ (n : Int),
                        ∃ (n_1 : Int),
                          e = Ending.returned (Value.agg #[Value.int IntKind.u64 n, Value.int IntKind.u64 n_1]) ∧
                            SetsAt w' (Addr.mk w'_1.heap.size 0 none) 0
                                [Value.int IntKind.u64 n, Value.int IntKind.u64 n_1] ∧
                              ∀ (w'_3 : World),
                                w'_3 =
                                    setCellsAt w' (Addr.mk w'_1.heap.size 0 none) 0
                                      [Value.int IntKind.u64 n, Value.int IntKind.u64 n_1] →
                                  ∃ (n : Int),
                                    ∃ (n_2 : Int),
                                      (w'_3.cell? (Addr.mk w'_1.heap.size 0 none) = some (Value.int IntKind.u64 n) ∧
                                          w'_3.cell? (Addr.mk w'_1.heap.size 1 none) = some (Value.int IntKind.u64 n_2) ∧
                                            True) ∧
                                        R
                                          (Ending.returned
                                            (Value.agg #[Value.int IntKind.u64 n, Value.int IntKind.u64 n_2]))
                                          w'_3)
                    (∃ (n : Int),
                      (∀ (w' : World),
                          Later w'_2 w' → w'.cell? (Addr.mk w.heap.size 0 none) = some (Value.int IntKind.u64 n)) ∧
                        ∃ (n_1 : Int),
                          (∀ (w'_3 : World),
                              Later w'_2 w'_3 →
                                w'_3.cell? (Addr.mk w'.heap.size 1 none) = some (Value.int IntKind.u64 n_1)) ∧
                            cnd (decide (n_1 = 0)) False
                              (∃ (n_2 : Int),
                                (∀ (w' : World),
                                    Later w'_2 w' →
                                      w'.cell? (Addr.mk w.heap.size 1 none) = some (Value.int IntKind.u64 n_2)) ∧
                                  ∃ (n_3 : Int),
                                    (∀ (w'_3 : World),
                                        Later w'_2 w'_3 →
                                          w'_3.cell? (Addr.mk w'.heap.size 0 none) = some (Value.int IntKind.u64 n_3)) ∧
                                      cnd (decide (n_3 = 0)) False
                                        (∀ (w' : World),
                                          Later w'_2 w' →
                                            SetsAt w' (Addr.mk w'_1.heap.size 0 none) 0
                                                [Value.int IntKind.u64 (IntKind.u64.wrap (n.tdiv n_1)),
                                                  Value.int IntKind.u64 (IntKind.u64.wrap (n_2.tdiv n_3))] ∧
                                              ∀ (w'_3 : World),
                                                w'_3 =
                                                    setCellsAt w' (Addr.mk w'_1.heap.size 0 none) 0
                                                      [Value.int IntKind.u64 (IntKind.u64.wrap (n.tdiv n_1)),
                                                        Value.int IntKind.u64 (IntKind.u64.wrap (n_2.tdiv n_3))] →
                                                  ∃ (n : Int),
                                                    ∃ (n_4 : Int),
                                                      (w'_3.cell? (Addr.mk w'_1.heap.size 0 none) =
                                                            some (Value.int IntKind.u64 n) ∧
                                                          w'_3.cell? (Addr.mk w'_1.heap.size 1 none) =
                                                              some (Value.int IntKind.u64 n_4) ∧
                                                            True) ∧
                                                        R
                                                          (Ending.returned
                                                            (Value.agg
                                                              #[Value.int IntKind.u64 n, Value.int IntKind.u64 n_4]))
                                                          w'_3)))
theorem span_divu.vc_eq (a'_0 : Int) (a'_1 : Int) (b'_0 : Int) (b'_1 : Int) (w : World) (R : Ending → World → Prop) : fnV Try.prog span_divu.H 37 [Value.agg #[Value.int IntKind.u64 a'_0, Value.int IntKind.u64 a'_1],
    Value.agg #[Value.int IntKind.u64 b'_0, Value.int IntKind.u64 b'_1]] w R = span_divu.vc a'_0 a'_1 b'_0 b'_1 w R := by kernel_rfl
theorem span_divu.calls {a'_0 : Int} {a'_1 : Int} {b'_0 : Int} {b'_1 : Int} {w : World} {R : Ending → World → Prop} (h : span_divu.vc a'_0 a'_1 b'_0 b'_1 w R) : Calls Try.prog 37 ([Value.agg #[Value.int IntKind.u64 a'_0, Value.int IntKind.u64 a'_1],
    Value.agg #[Value.int IntKind.u64 b'_0, Value.int IntKind.u64 b'_1]] : List Value).toArray w R := calls_of_eq (span_divu.vc_eq a'_0 a'_1 b'_0 b'_1 w R) h

/- function 38: sacristy/span.remu -/
abbrev span_remu.N : FuncId := 38
def span_remu.H : Hints := {  }
def span_remu.vc (a'_0 : Int) (a'_1 : Int) (b'_0 : Int) (b'_1 : Int) (w : World) (R : Ending → World → Prop) : Prop :=
  ∀ (w' : World),
    w' = w.alloc (Obj.cells #[Value.int IntKind.u64 a'_0, Value.int IntKind.u64 a'_1] 24) →
      ∀ (w'_1 : World),
        w'_1 = w'.alloc (Obj.cells #[Value.int IntKind.u64 b'_0, Value.int IntKind.u64 b'_1] 24) →
          ∀ (w'_2 : World),
            w'_2 = w'_1.alloc (Obj.cells #[Value.int IntKind.u64 0, Value.int IntKind.u64 0] 24) →
              ∃ (n : Int),
                w'_2.cell? (Addr.mk w.heap.size 1 none) = some (Value.int IntKind.u64 n) ∧
                  ∃ (n_1 : Int),
                    w'_2.cell? (Addr.mk w'.heap.size 0 none) = some (Value.int IntKind.u64 n_1) ∧
                      cnd (decide (n < n_1))
                        (∃ (n : Int),
                          ∃ (n_2 : Int),
                            (w'_2.cell? (Addr.mk w.heap.size 0 none) = some (Value.int IntKind.u64 n) ∧
                                w'_2.cell? (Addr.mk w.heap.size 1 none) = some (Value.int IntKind.u64 n_2) ∧ True) ∧
                              SetsAt w'_2 (Addr.mk w'_1.heap.size 0 none) 0
                                  [Value.int IntKind.u64 n, Value.int IntKind.u64 n_2] ∧
                                ∀ (w' : World),
                                  w' =
                                      setCellsAt w'_2 (Addr.mk w'_1.heap.size 0 none) 0
                                        [Value.int IntKind.u64 n, Value.int IntKind.u64 n_2] →
                                    ∃ (n : Int),
                                      ∃ (n_3 : Int),
                                        (w'.cell? (Addr.mk w'_1.heap.size 0 none) = some (Value.int IntKind.u64 n) ∧
                                            w'.cell? (Addr.mk w'_1.heap.size 1 none) = some (Value.int IntKind.u64 n_3) ∧
                                              True) ∧
                                          R
                                            (Ending.returned
                                              (Value.agg #[Value.int IntKind.u64 n, Value.int IntKind.u64 n_3]))
                                            w')
                        (∃ (n : Int),
                          w'_2.cell? (Addr.mk w'.heap.size 0 none) = some (Value.int IntKind.u64 n) ∧
                            cnd (n == 0)
                              (∃ (n : Int),
                                w'_2.cell? (Addr.mk w.heap.size 1 none) = some (Value.int IntKind.u64 n) ∧
                                  SetsAt w'_2 (Addr.mk w'_1.heap.size 0 none) 0
                                      [Value.int IntKind.u64 0, Value.int IntKind.u64 n] ∧
                                    ∀ (w' : World),
                                      w' =
                                          setCellsAt w'_2 (Addr.mk w'_1.heap.size 0 none) 0
                                            [Value.int IntKind.u64 0, Value.int IntKind.u64 n] →
                                        ∃ (n : Int),
                                          ∃ (n_2 : Int),
                                            (w'.cell? (Addr.mk w'_1.heap.size 0 none) = some (Value.int IntKind.u64 n) ∧
                                                w'.cell? (Addr.mk w'_1.heap.size 1 none) =
                                                    some (Value.int IntKind.u64 n_2) ∧
                                                  True) ∧
                                              R
                                                (Ending.returned
                                                  (Value.agg #[Value.int IntKind.u64 n, Value.int IntKind.u64 n_2]))
                                                w')
                              (∃ (n : Int),
                                w'_2.cell? (Addr.mk w.heap.size 1 none) = some (Value.int IntKind.u64 n) ∧
                                  ∃ (n_2 : Int),
                                    w'_2.cell? (Addr.mk w'.heap.size 1 none) = some (Value.int IntKind.u64 n_2) ∧
                                      SetsAt w'_2 (Addr.mk w'_1.heap.size 0 none) 0
                                          [Value.int IntKind.u64 0,
                                            Value.int IntKind.u64 (gomin n (IntKind.u64.wrap (n_2 - 1)))] ∧
                                        ∀ (w' : World),
                                          w' =
                                              setCellsAt w'_2 (Addr.mk w'_1.heap.size 0 none) 0
                                                [Value.int IntKind.u64 0,
                                                  Value.int IntKind.u64 (gomin n (IntKind.u64.wrap (n_2 - 1)))] →
                                            ∃ (n : Int),
                                              ∃ (n_3 : Int),
                                                (w'.cell? (Addr.mk w'_1.heap.size 0 none) =
                                                      some (Value.int IntKind.u64 n) ∧
                                                    w'.cell? (Addr.mk w'_1.heap.size 1 none) =
                                                        some (Value.int IntKind.u64 n_3) ∧
                                                      True) ∧
                                                  R
                                                    (Ending.returned
                                                      (Value.agg #[Value.int IntKind.u64 n, Value.int IntKind.u64 n_3]))
                                                    w'))
theorem span_remu.vc_eq (a'_0 : Int) (a'_1 : Int) (b'_0 : Int) (b'_1 : Int) (w : World) (R : Ending → World → Prop) : fnV Try.prog span_remu.H 38 [Value.agg #[Value.int IntKind.u64 a'_0, Value.int IntKind.u64 a'_1],
    Value.agg #[Value.int IntKind.u64 b'_0, Value.int IntKind.u64 b'_1]] w R = span_remu.vc a'_0 a'_1 b'_0 b'_1 w R := by kernel_rfl
theorem span_remu.calls {a'_0 : Int} {a'_1 : Int} {b'_0 : Int} {b'_1 : Int} {w : World} {R : Ending → World → Prop} (h : span_remu.vc a'_0 a'_1 b'_0 b'_1 w R) : Calls Try.prog 38 ([Value.agg #[Value.int IntKind.u64 a'_0, Value.int IntKind.u64 a'_1],
    Value.agg #[Value.int IntKind.u64 b'_0, Value.int IntKind.u64 b'_1]] : List Value).toArray w R := calls_of_eq (span_remu.vc_eq a'_0 a'_1 b'_0 b'_1 w R) h

/- function 39: sacristy/span.and -/
abbrev span_and.N : FuncId := 39
def span_and.H : Hints := {  }
def span_and.vc (a'_0 : Int) (a'_1 : Int) (b'_0 : Int) (b'_1 : Int) (w : World) (R : Ending → World → Prop) : Prop :=
  ∀ (w' : World),
    w' = w.alloc (Obj.cells #[Value.int IntKind.u64 a'_0, Value.int IntKind.u64 a'_1] 24) →
      ∀ (w'_1 : World),
        w'_1 = w'.alloc (Obj.cells #[Value.int IntKind.u64 b'_0, Value.int IntKind.u64 b'_1] 24) →
          ∀ (w'_2 : World),
            w'_2 = w'_1.alloc (Obj.cells #[Value.int IntKind.u64 0, Value.int IntKind.u64 0] 24) →
              ∃ (n : Int),
                w'_2.cell? (Addr.mk w.heap.size 1 none) = some (Value.int IntKind.u64 n) ∧
                  ∃ (n_1 : Int),
                    w'_2.cell? (Addr.mk w'.heap.size 1 none) = some (Value.int IntKind.u64 n_1) ∧
                      SetsAt w'_2 (Addr.mk w'_1.heap.size 0 none) 0
                          [Value.int IntKind.u64 0, Value.int IntKind.u64 (gomin n n_1)] ∧
                        ∀ (w' : World),
                          w' =
                              setCellsAt w'_2 (Addr.mk w'_1.heap.size 0 none) 0
                                [Value.int IntKind.u64 0, Value.int IntKind.u64 (gomin n n_1)] →
                            ∃ (n : Int),
                              ∃ (n_2 : Int),
                                (w'.cell? (Addr.mk w'_1.heap.size 0 none) = some (Value.int IntKind.u64 n) ∧
                                    w'.cell? (Addr.mk w'_1.heap.size 1 none) = some (Value.int IntKind.u64 n_2) ∧ True) ∧
                                  R (Ending.returned (Value.agg #[Value.int IntKind.u64 n, Value.int IntKind.u64 n_2])) w'
theorem span_and.vc_eq (a'_0 : Int) (a'_1 : Int) (b'_0 : Int) (b'_1 : Int) (w : World) (R : Ending → World → Prop) : fnV Try.prog span_and.H 39 [Value.agg #[Value.int IntKind.u64 a'_0, Value.int IntKind.u64 a'_1],
    Value.agg #[Value.int IntKind.u64 b'_0, Value.int IntKind.u64 b'_1]] w R = span_and.vc a'_0 a'_1 b'_0 b'_1 w R := by kernel_rfl
theorem span_and.calls {a'_0 : Int} {a'_1 : Int} {b'_0 : Int} {b'_1 : Int} {w : World} {R : Ending → World → Prop} (h : span_and.vc a'_0 a'_1 b'_0 b'_1 w R) : Calls Try.prog 39 ([Value.agg #[Value.int IntKind.u64 a'_0, Value.int IntKind.u64 a'_1],
    Value.agg #[Value.int IntKind.u64 b'_0, Value.int IntKind.u64 b'_1]] : List Value).toArray w R := calls_of_eq (span_and.vc_eq a'_0 a'_1 b'_0 b'_1 w R) h

/- function 40: sacristy/span.or -/
abbrev span_or.N : FuncId := 40
def span_or.H : Hints := { tails := [(1, 12)] }
def span_or.vc (a'_0 : Int) (a'_1 : Int) (b'_0 : Int) (b'_1 : Int) (w : World) (R : Ending → World → Prop) : Prop :=
  ∀ (w' : World),
    w' = w.alloc (Obj.cells #[Value.int IntKind.u64 a'_0, Value.int IntKind.u64 a'_1] 24) →
      ∀ (w'_1 : World),
        w'_1 = w'.alloc (Obj.cells #[Value.int IntKind.u64 b'_0, Value.int IntKind.u64 b'_1] 24) →
          ∀ (w'_2 : World),
            w'_2 = w'_1.alloc (Obj.cells #[Value.int IntKind.u64 0, Value.int IntKind.u64 0] 24) →
              ∃ (n : Int),
                (∀ (w' : World), Later w'_2 w' → w'.cell? (Addr.mk w.heap.size 0 none) = some (Value.int IntKind.u64 n)) ∧
                  ∃ (n_1 : Int),
                    (∀ (w'_3 : World),
                        Later w'_2 w'_3 → w'_3.cell? (Addr.mk w'.heap.size 0 none) = some (Value.int IntKind.u64 n_1)) ∧
                      ∃ (n_2 : Int),
                        (∀ (w' : World),
                            Later w'_2 w' → w'.cell? (Addr.mk w.heap.size 1 none) = some (Value.int IntKind.u64 n_2)) ∧
                          ∃ (n_3 : Int),
                            (∀ (w'_3 : World),
                                Later w'_2 w'_3 →
                                  w'_3.cell? (Addr.mk w'.heap.size 1 none) = some (Value.int IntKind.u64 n_3)) ∧
                              ∃ (n_4 : Int),
                                (∀ (w' : World),
                                    Later w'_2 w' →
                                      Calls Proofs.Try.prog 66
                                        #[Value.int IntKind.u64 (bits BinOp.or IntKind.u64 n_2 n_3)] w'
                                        fun (e : Ending) (w'' : World) =>
                                        e = Ending.returned (Value.int IntKind.u64 n_4) ∧ Later w' w'') ∧
                                  ∀ (w' : World),
                                    Later w'_2 w' →
                                      SetsAt w' (Addr.mk w'_1.heap.size 0 none) 0
                                          [Value.int IntKind.u64 (gomax n n_1), Value.int IntKind.u64 n_4] ∧
                                        ∀ (w'_3 : World),
                                          w'_3 =
                                              setCellsAt w' (Addr.mk w'_1.heap.size 0 none) 0
                                                [Value.int IntKind.u64 (gomax n n_1), Value.int IntKind.u64 n_4] →
                                            ∃ (n : Int),
                                              ∃ (n_5 : Int),
                                                (w'_3.cell? (Addr.mk w'_1.heap.size 0 none) =
                                                      some (Value.int IntKind.u64 n) ∧
                                                    w'_3.cell? (Addr.mk w'_1.heap.size 1 none) =
                                                        some (Value.int IntKind.u64 n_5) ∧
                                                      True) ∧
                                                  R
                                                    (Ending.returned
                                                      (Value.agg #[Value.int IntKind.u64 n, Value.int IntKind.u64 n_5]))
                                                    w'_3
theorem span_or.vc_eq (a'_0 : Int) (a'_1 : Int) (b'_0 : Int) (b'_1 : Int) (w : World) (R : Ending → World → Prop) : fnV Try.prog span_or.H 40 [Value.agg #[Value.int IntKind.u64 a'_0, Value.int IntKind.u64 a'_1],
    Value.agg #[Value.int IntKind.u64 b'_0, Value.int IntKind.u64 b'_1]] w R = span_or.vc a'_0 a'_1 b'_0 b'_1 w R := by kernel_rfl
theorem span_or.calls {a'_0 : Int} {a'_1 : Int} {b'_0 : Int} {b'_1 : Int} {w : World} {R : Ending → World → Prop} (h : span_or.vc a'_0 a'_1 b'_0 b'_1 w R) : Calls Try.prog 40 ([Value.agg #[Value.int IntKind.u64 a'_0, Value.int IntKind.u64 a'_1],
    Value.agg #[Value.int IntKind.u64 b'_0, Value.int IntKind.u64 b'_1]] : List Value).toArray w R := calls_of_eq (span_or.vc_eq a'_0 a'_1 b'_0 b'_1 w R) h

/- function 41: sacristy/span.xor -/
abbrev span_xor.N : FuncId := 41
def span_xor.H : Hints := {  }
def span_xor.vc (a'_0 : Int) (a'_1 : Int) (b'_0 : Int) (b'_1 : Int) (w : World) (R : Ending → World → Prop) : Prop :=
  ∀ (w' : World),
    w' = w.alloc (Obj.cells #[Value.int IntKind.u64 a'_0, Value.int IntKind.u64 a'_1] 24) →
      ∀ (w'_1 : World),
        w'_1 = w'.alloc (Obj.cells #[Value.int IntKind.u64 b'_0, Value.int IntKind.u64 b'_1] 24) →
          ∀ (w'_2 : World),
            w'_2 = w'_1.alloc (Obj.cells #[Value.int IntKind.u64 0, Value.int IntKind.u64 0] 24) →
              ∃ (n : Int),
                w'_2.cell? (Addr.mk w.heap.size 1 none) = some (Value.int IntKind.u64 n) ∧
                  ∃ (n_1 : Int),
                    w'_2.cell? (Addr.mk w'.heap.size 1 none) = some (Value.int IntKind.u64 n_1) ∧
                      Calls Proofs.Try.prog 66 #[Value.int IntKind.u64 (bits BinOp.or IntKind.u64 n n_1)] w'_2
                        fun (e : Ending) (w' : World) =>
                        ∃ (n : Int),
                          e = Ending.returned (Value.int IntKind.u64 n) ∧
                            SetsAt w' (Addr.mk w'_1.heap.size 0 none) 0
                                [Value.int IntKind.u64 0, Value.int IntKind.u64 n] ∧
                              ∀ (w'_3 : World),
                                w'_3 =
                                    setCellsAt w' (Addr.mk w'_1.heap.size 0 none) 0
                                      [Value.int IntKind.u64 0, Value.int IntKind.u64 n] →
                                  ∃ (n : Int),
                                    ∃ (n_2 : Int),
                                      (w'_3.cell? (Addr.mk w'_1.heap.size 0 none) = some (Value.int IntKind.u64 n) ∧
                                          w'_3.cell? (Addr.mk w'_1.heap.size 1 none) = some (Value.int IntKind.u64 n_2) ∧
                                            True) ∧
                                        R
                                          (Ending.returned
                                            (Value.agg #[Value.int IntKind.u64 n, Value.int IntKind.u64 n_2]))
                                          w'_3
theorem span_xor.vc_eq (a'_0 : Int) (a'_1 : Int) (b'_0 : Int) (b'_1 : Int) (w : World) (R : Ending → World → Prop) : fnV Try.prog span_xor.H 41 [Value.agg #[Value.int IntKind.u64 a'_0, Value.int IntKind.u64 a'_1],
    Value.agg #[Value.int IntKind.u64 b'_0, Value.int IntKind.u64 b'_1]] w R = span_xor.vc a'_0 a'_1 b'_0 b'_1 w R := by kernel_rfl
theorem span_xor.calls {a'_0 : Int} {a'_1 : Int} {b'_0 : Int} {b'_1 : Int} {w : World} {R : Ending → World → Prop} (h : span_xor.vc a'_0 a'_1 b'_0 b'_1 w R) : Calls Try.prog 41 ([Value.agg #[Value.int IntKind.u64 a'_0, Value.int IntKind.u64 a'_1],
    Value.agg #[Value.int IntKind.u64 b'_0, Value.int IntKind.u64 b'_1]] : List Value).toArray w R := calls_of_eq (span_xor.vc_eq a'_0 a'_1 b'_0 b'_1 w R) h

/- function 42: sacristy/span.slt -/
abbrev span_slt.N : FuncId := 42
def span_slt.H : Hints := {  }
def span_slt.vc (a'_0 : Int) (a'_1 : Int) (b'_0 : Int) (b'_1 : Int) (w : World) (R : Ending → World → Prop) : Prop :=
  ∀ (w' : World),
    w' = w.alloc (Obj.cells #[Value.int IntKind.u64 a'_0, Value.int IntKind.u64 a'_1] 24) →
      ∀ (w'_1 : World),
        w'_1 = w'.alloc (Obj.cells #[Value.int IntKind.u64 b'_0, Value.int IntKind.u64 b'_1] 24) →
          ∀ (w' : World),
            w' = w'_1.alloc (Obj.cells #[Value.int IntKind.u64 0, Value.int IntKind.u64 0] 24) →
              SetsAt w' (Addr.mk w'_1.heap.size 0 none) 0 [Value.int IntKind.u64 0, Value.int IntKind.u64 1] ∧
                ∀ (w'_2 : World),
                  w'_2 =
                      setCellsAt w' (Addr.mk w'_1.heap.size 0 none) 0 [Value.int IntKind.u64 0, Value.int IntKind.u64 1] →
                    ∃ (n : Int),
                      ∃ (n_1 : Int),
                        (w'_2.cell? (Addr.mk w'_1.heap.size 0 none) = some (Value.int IntKind.u64 n) ∧
                            w'_2.cell? (Addr.mk w'_1.heap.size 1 none) = some (Value.int IntKind.u64 n_1) ∧ True) ∧
                          R (Ending.returned (Value.agg #[Value.int IntKind.u64 n, Value.int IntKind.u64 n_1])) w'_2
theorem span_slt.vc_eq (a'_0 : Int) (a'_1 : Int) (b'_0 : Int) (b'_1 : Int) (w : World) (R : Ending → World → Prop) : fnV Try.prog span_slt.H 42 [Value.agg #[Value.int IntKind.u64 a'_0, Value.int IntKind.u64 a'_1],
    Value.agg #[Value.int IntKind.u64 b'_0, Value.int IntKind.u64 b'_1]] w R = span_slt.vc a'_0 a'_1 b'_0 b'_1 w R := by kernel_rfl
theorem span_slt.calls {a'_0 : Int} {a'_1 : Int} {b'_0 : Int} {b'_1 : Int} {w : World} {R : Ending → World → Prop} (h : span_slt.vc a'_0 a'_1 b'_0 b'_1 w R) : Calls Try.prog 42 ([Value.agg #[Value.int IntKind.u64 a'_0, Value.int IntKind.u64 a'_1],
    Value.agg #[Value.int IntKind.u64 b'_0, Value.int IntKind.u64 b'_1]] : List Value).toArray w R := calls_of_eq (span_slt.vc_eq a'_0 a'_1 b'_0 b'_1 w R) h

/- function 43: sacristy/span.sltu -/
abbrev span_sltu.N : FuncId := 43
def span_sltu.H : Hints := {  }
def span_sltu.vc (a'_0 : Int) (a'_1 : Int) (b'_0 : Int) (b'_1 : Int) (w : World) (R : Ending → World → Prop) : Prop :=
  ∀ (w' : World),
    w' = w.alloc (Obj.cells #[Value.int IntKind.u64 a'_0, Value.int IntKind.u64 a'_1] 24) →
      ∀ (w'_1 : World),
        w'_1 = w'.alloc (Obj.cells #[Value.int IntKind.u64 b'_0, Value.int IntKind.u64 b'_1] 24) →
          ∀ (w'_2 : World),
            w'_2 = w'_1.alloc (Obj.cells #[Value.int IntKind.u64 0, Value.int IntKind.u64 0] 24) →
              ∃ (n : Int),
                w'_2.cell? (Addr.mk w.heap.size 1 none) = some (Value.int IntKind.u64 n) ∧
                  ∃ (n_1 : Int),
                    w'_2.cell? (Addr.mk w'.heap.size 0 none) = some (Value.int IntKind.u64 n_1) ∧
                      cnd (decide (n < n_1))
                        (SetsAt w'_2 (Addr.mk w'_1.heap.size 0 none) 0
                            [Value.int IntKind.u64 1, Value.int IntKind.u64 1] ∧
                          ∀ (w' : World),
                            w' =
                                setCellsAt w'_2 (Addr.mk w'_1.heap.size 0 none) 0
                                  [Value.int IntKind.u64 1, Value.int IntKind.u64 1] →
                              ∃ (n : Int),
                                ∃ (n_2 : Int),
                                  (w'.cell? (Addr.mk w'_1.heap.size 0 none) = some (Value.int IntKind.u64 n) ∧
                                      w'.cell? (Addr.mk w'_1.heap.size 1 none) = some (Value.int IntKind.u64 n_2) ∧
                                        True) ∧
                                    R (Ending.returned (Value.agg #[Value.int IntKind.u64 n, Value.int IntKind.u64 n_2]))
                                      w')
                        (∃ (n : Int),
                          w'_2.cell? (Addr.mk w.heap.size 0 none) = some (Value.int IntKind.u64 n) ∧
                            ∃ (n_2 : Int),
                              w'_2.cell? (Addr.mk w'.heap.size 1 none) = some (Value.int IntKind.u64 n_2) ∧
                                cnd (decide (n ≥ n_2))
                                  (SetsAt w'_2 (Addr.mk w'_1.heap.size 0 none) 0
                                      [Value.int IntKind.u64 0, Value.int IntKind.u64 0] ∧
                                    ∀ (w' : World),
                                      w' =
                                          setCellsAt w'_2 (Addr.mk w'_1.heap.size 0 none) 0
                                            [Value.int IntKind.u64 0, Value.int IntKind.u64 0] →
                                        ∃ (n : Int),
                                          ∃ (n_3 : Int),
                                            (w'.cell? (Addr.mk w'_1.heap.size 0 none) = some (Value.int IntKind.u64 n) ∧
                                                w'.cell? (Addr.mk w'_1.heap.size 1 none) =
                                                    some (Value.int IntKind.u64 n_3) ∧
                                                  True) ∧
                                              R
                                                (Ending.returned
                                                  (Value.agg #[Value.int IntKind.u64 n, Value.int IntKind.u64 n_3]))
                                                w')
                                  (SetsAt w'_2 (Addr.mk w'_1.heap.size 0 none) 0
                                      [Value.int IntKind.u64 0, Value.int IntKind.u64 1] ∧
                                    ∀ (w' : World),
                                      w' =
                                          setCellsAt w'_2 (Addr.mk w'_1.heap.size 0 none) 0
                                            [Value.int IntKind.u64 0, Value.int IntKind.u64 1] →
                                        ∃ (n : Int),
                                          ∃ (n_3 : Int),
                                            (w'.cell? (Addr.mk w'_1.heap.size 0 none) = some (Value.int IntKind.u64 n) ∧
                                                w'.cell? (Addr.mk w'_1.heap.size 1 none) =
                                                    some (Value.int IntKind.u64 n_3) ∧
                                                  True) ∧
                                              R
                                                (Ending.returned
                                                  (Value.agg #[Value.int IntKind.u64 n, Value.int IntKind.u64 n_3]))
                                                w'))
theorem span_sltu.vc_eq (a'_0 : Int) (a'_1 : Int) (b'_0 : Int) (b'_1 : Int) (w : World) (R : Ending → World → Prop) : fnV Try.prog span_sltu.H 43 [Value.agg #[Value.int IntKind.u64 a'_0, Value.int IntKind.u64 a'_1],
    Value.agg #[Value.int IntKind.u64 b'_0, Value.int IntKind.u64 b'_1]] w R = span_sltu.vc a'_0 a'_1 b'_0 b'_1 w R := by kernel_rfl
theorem span_sltu.calls {a'_0 : Int} {a'_1 : Int} {b'_0 : Int} {b'_1 : Int} {w : World} {R : Ending → World → Prop} (h : span_sltu.vc a'_0 a'_1 b'_0 b'_1 w R) : Calls Try.prog 43 ([Value.agg #[Value.int IntKind.u64 a'_0, Value.int IntKind.u64 a'_1],
    Value.agg #[Value.int IntKind.u64 b'_0, Value.int IntKind.u64 b'_1]] : List Value).toArray w R := calls_of_eq (span_sltu.vc_eq a'_0 a'_1 b'_0 b'_1 w R) h

/- function 44: sacristy/span.sll -/
abbrev span_sll.N : FuncId := 44
def span_sll.H : Hints := {  }
def span_sll.vc (a'_0 : Int) (a'_1 : Int) (b'_0 : Int) (b'_1 : Int) (w : World) (R : Ending → World → Prop) : Prop :=
  ∀ (w' : World),
    w' = w.alloc (Obj.cells #[Value.int IntKind.u64 a'_0, Value.int IntKind.u64 a'_1] 24) →
      ∀ (w'_1 : World),
        w'_1 = w'.alloc (Obj.cells #[Value.int IntKind.u64 b'_0, Value.int IntKind.u64 b'_1] 24) →
          ∀ (w'_2 : World),
            w'_2 = w'_1.alloc (Obj.cells #[Value.int IntKind.u64 0, Value.int IntKind.u64 0] 24) →
              ∃ (n : Int),
                ∃ (n_1 : Int),
                  (w'_2.cell? (Addr.mk w'.heap.size 0 none) = some (Value.int IntKind.u64 n) ∧
                      w'_2.cell? (Addr.mk w'.heap.size 1 none) = some (Value.int IntKind.u64 n_1) ∧ True) ∧
                    Calls Proofs.Try.prog 67 #[Value.agg #[Value.int IntKind.u64 n, Value.int IntKind.u64 n_1]] w'_2
                      fun (e : Ending) (w' : World) =>
                      ∃ (n : Int),
                        ∃ (b : Bool),
                          e = Ending.returned (Value.tuple #[Value.int IntKind.u64 n, Value.bool b]) ∧
                            cnd (!b)
                              (Calls Proofs.Try.prog 64 #[] w' fun (e : Ending) (w' : World) =>
                                ∃ (n : Int),
                                  ∃ (n_2 : Int),
                                    e =
                                        Ending.returned
                                          (Value.agg #[Value.int IntKind.u64 n, Value.int IntKind.u64 n_2]) ∧
                                      SetsAt w' (Addr.mk w'_1.heap.size 0 none) 0
                                          [Value.int IntKind.u64 n, Value.int IntKind.u64 n_2] ∧
                                        ∀ (w'_3 : World),
                                          w'_3 =
                                              setCellsAt w' (Addr.mk w'_1.heap.size 0 none) 0
                                                [Value.int IntKind.u64 n, Value.int IntKind.u64 n_2] →
                                            ∃ (n : Int),
                                              ∃ (n_3 : Int),
                                                (w'_3.cell? (Addr.mk w'_1.heap.size 0 none) =
                                                      some (Value.int IntKind.u64 n) ∧
                                                    w'_3.cell? (Addr.mk w'_1.heap.size 1 none) =
                                                        some (Value.int IntKind.u64 n_3) ∧
                                                      True) ∧
                                                  R
                                                    (Ending.returned
                                                      (Value.agg #[Value.int IntKind.u64 n, Value.int IntKind.u64 n_3]))
                                                    w'_3)
                              (∃ (n_2 : Int),
                                w'.cell? (Addr.mk w.heap.size 1 none) = some (Value.int IntKind.u64 n_2) ∧
                                  Calls Proofs.Try.prog 68 #[Value.int IntKind.u64 n_2] w'
                                    fun (e : Ending) (w' : World) =>
                                    ∃ (n_3 : Int),
                                      e = Ending.returned (Value.int IntKind.i64 n_3) ∧
                                        cnd (decide (IntKind.i64.wrap (n_3 + IntKind.i64.wrap n) > 64))
                                          (Calls Proofs.Try.prog 64 #[] w' fun (e : Ending) (w' : World) =>
                                            ∃ (n : Int),
                                              ∃ (n_4 : Int),
                                                e =
                                                    Ending.returned
                                                      (Value.agg #[Value.int IntKind.u64 n, Value.int IntKind.u64 n_4]) ∧
                                                  SetsAt w' (Addr.mk w'_1.heap.size 0 none) 0
                                                      [Value.int IntKind.u64 n, Value.int IntKind.u64 n_4] ∧
                                                    ∀ (w'_3 : World),
                                                      w'_3 =
                                                          setCellsAt w' (Addr.mk w'_1.heap.size 0 none) 0
                                                            [Value.int IntKind.u64 n, Value.int IntKind.u64 n_4] →
                                                        ∃ (n : Int),
                                                          ∃ (n_5 : Int),
                                                            (w'_3.cell? (Addr.mk w'_1.heap.size 0 none) =
                                                                  some (Value.int IntKind.u64 n) ∧
                                                                w'_3.cell? (Addr.mk w'_1.heap.size 1 none) =
                                                                    some (Value.int IntKind.u64 n_5) ∧
                                                                  True) ∧
                                                              R
                                                                (Ending.returned
                                                                  (Value.agg
                                                                    #[Value.int IntKind.u64 n,
                                                                      Value.int IntKind.u64 n_5]))
                                                                w'_3)
                                          (∃ (n_4 : Int),
                                            w'.cell? (Addr.mk w.heap.size 0 none) = some (Value.int IntKind.u64 n_4) ∧
                                              cnd (decide (n < 0)) False
                                                (∃ (n_5 : Int),
                                                  w'.cell? (Addr.mk w.heap.size 1 none) =
                                                      some (Value.int IntKind.u64 n_5) ∧
                                                    cnd (decide (n < 0)) False
                                                      (SetsAt w' (Addr.mk w'_1.heap.size 0 none) 0
                                                          [Value.int IntKind.u64
                                                              (IntKind.u64.wrap (n_4 * 2 ^ min n.toNat 64)),
                                                            Value.int IntKind.u64
                                                              (IntKind.u64.wrap (n_5 * 2 ^ min n.toNat 64))] ∧
                                                        ∀ (w'_3 : World),
                                                          w'_3 =
                                                              setCellsAt w' (Addr.mk w'_1.heap.size 0 none) 0
                                                                [Value.int IntKind.u64
                                                                    (IntKind.u64.wrap (n_4 * 2 ^ min n.toNat 64)),
                                                                  Value.int IntKind.u64
                                                                    (IntKind.u64.wrap (n_5 * 2 ^ min n.toNat 64))] →
                                                            ∃ (n : Int),
                                                              ∃ (n_6 : Int),
                                                                (w'_3.cell? (Addr.mk w'_1.heap.size 0 none) =
                                                                      some (Value.int IntKind.u64 n) ∧
                                                                    w'_3.cell? (Addr.mk w'_1.heap.size 1 none) =
                                                                        some (Value.int IntKind.u64 n_6) ∧
                                                                      True) ∧
                                                                  R
                                                                    (Ending.returned
                                                                      (Value.agg
                                                                        #[Value.int IntKind.u64 n,
                                                                          Value.int IntKind.u64 n_6]))
                                                                    w'_3))))
theorem span_sll.vc_eq (a'_0 : Int) (a'_1 : Int) (b'_0 : Int) (b'_1 : Int) (w : World) (R : Ending → World → Prop) : fnV Try.prog span_sll.H 44 [Value.agg #[Value.int IntKind.u64 a'_0, Value.int IntKind.u64 a'_1],
    Value.agg #[Value.int IntKind.u64 b'_0, Value.int IntKind.u64 b'_1]] w R = span_sll.vc a'_0 a'_1 b'_0 b'_1 w R := by kernel_rfl
theorem span_sll.calls {a'_0 : Int} {a'_1 : Int} {b'_0 : Int} {b'_1 : Int} {w : World} {R : Ending → World → Prop} (h : span_sll.vc a'_0 a'_1 b'_0 b'_1 w R) : Calls Try.prog 44 ([Value.agg #[Value.int IntKind.u64 a'_0, Value.int IntKind.u64 a'_1],
    Value.agg #[Value.int IntKind.u64 b'_0, Value.int IntKind.u64 b'_1]] : List Value).toArray w R := calls_of_eq (span_sll.vc_eq a'_0 a'_1 b'_0 b'_1 w R) h

/- function 45: sacristy/span.srl -/
abbrev span_srl.N : FuncId := 45
def span_srl.H : Hints := {  }
def span_srl.vc (a'_0 : Int) (a'_1 : Int) (b'_0 : Int) (b'_1 : Int) (w : World) (R : Ending → World → Prop) : Prop :=
  ∀ (w' : World),
    w' = w.alloc (Obj.cells #[Value.int IntKind.u64 a'_0, Value.int IntKind.u64 a'_1] 24) →
      ∀ (w'_1 : World),
        w'_1 = w'.alloc (Obj.cells #[Value.int IntKind.u64 b'_0, Value.int IntKind.u64 b'_1] 24) →
          ∀ (w'_2 : World),
            w'_2 = w'_1.alloc (Obj.cells #[Value.int IntKind.u64 0, Value.int IntKind.u64 0] 24) →
              ∃ (n : Int),
                ∃ (n_1 : Int),
                  (w'_2.cell? (Addr.mk w'.heap.size 0 none) = some (Value.int IntKind.u64 n) ∧
                      w'_2.cell? (Addr.mk w'.heap.size 1 none) = some (Value.int IntKind.u64 n_1) ∧ True) ∧
                    Calls Proofs.Try.prog 67 #[Value.agg #[Value.int IntKind.u64 n, Value.int IntKind.u64 n_1]] w'_2
                      fun (e : Ending) (w' : World) =>
                      ∃ (n : Int),
                        ∃ (b : Bool),
                          e = Ending.returned (Value.tuple #[Value.int IntKind.u64 n, Value.bool b]) ∧
                            cnd (!b)
                              (∃ (n : Int),
                                w'.cell? (Addr.mk w.heap.size 1 none) = some (Value.int IntKind.u64 n) ∧
                                  SetsAt w' (Addr.mk w'_1.heap.size 0 none) 0
                                      [Value.int IntKind.u64 0, Value.int IntKind.u64 n] ∧
                                    ∀ (w'_3 : World),
                                      w'_3 =
                                          setCellsAt w' (Addr.mk w'_1.heap.size 0 none) 0
                                            [Value.int IntKind.u64 0, Value.int IntKind.u64 n] →
                                        ∃ (n : Int),
                                          ∃ (n_2 : Int),
                                            (w'_3.cell? (Addr.mk w'_1.heap.size 0 none) = some (Value.int IntKind.u64 n) ∧
                                                w'_3.cell? (Addr.mk w'_1.heap.size 1 none) =
                                                    some (Value.int IntKind.u64 n_2) ∧
                                                  True) ∧
                                              R
                                                (Ending.returned
                                                  (Value.agg #[Value.int IntKind.u64 n, Value.int IntKind.u64 n_2]))
                                                w'_3)
                              (∃ (n_2 : Int),
                                w'.cell? (Addr.mk w.heap.size 0 none) = some (Value.int IntKind.u64 n_2) ∧
                                  cnd (decide (n < 0)) False
                                    (∃ (n_3 : Int),
                                      w'.cell? (Addr.mk w.heap.size 1 none) = some (Value.int IntKind.u64 n_3) ∧
                                        cnd (decide (n < 0)) False
                                          (SetsAt w' (Addr.mk w'_1.heap.size 0 none) 0
                                              [Value.int IntKind.u64 (n_2.fdiv (2 ^ min n.toNat 64)),
                                                Value.int IntKind.u64 (n_3.fdiv (2 ^ min n.toNat 64))] ∧
                                            ∀ (w'_3 : World),
                                              w'_3 =
                                                  setCellsAt w' (Addr.mk w'_1.heap.size 0 none) 0
                                                    [Value.int IntKind.u64 (n_2.fdiv (2 ^ min n.toNat 64)),
                                                      Value.int IntKind.u64 (n_3.fdiv (2 ^ min n.toNat 64))] →
                                                ∃ (n : Int),
                                                  ∃ (n_4 : Int),
                                                    (w'_3.cell? (Addr.mk w'_1.heap.size 0 none) =
                                                          some (Value.int IntKind.u64 n) ∧
                                                        w'_3.cell? (Addr.mk w'_1.heap.size 1 none) =
                                                            some (Value.int IntKind.u64 n_4) ∧
                                                          True) ∧
                                                      R
                                                        (Ending.returned
                                                          (Value.agg
                                                            #[Value.int IntKind.u64 n, Value.int IntKind.u64 n_4]))
                                                        w'_3)))
theorem span_srl.vc_eq (a'_0 : Int) (a'_1 : Int) (b'_0 : Int) (b'_1 : Int) (w : World) (R : Ending → World → Prop) : fnV Try.prog span_srl.H 45 [Value.agg #[Value.int IntKind.u64 a'_0, Value.int IntKind.u64 a'_1],
    Value.agg #[Value.int IntKind.u64 b'_0, Value.int IntKind.u64 b'_1]] w R = span_srl.vc a'_0 a'_1 b'_0 b'_1 w R := by kernel_rfl
theorem span_srl.calls {a'_0 : Int} {a'_1 : Int} {b'_0 : Int} {b'_1 : Int} {w : World} {R : Ending → World → Prop} (h : span_srl.vc a'_0 a'_1 b'_0 b'_1 w R) : Calls Try.prog 45 ([Value.agg #[Value.int IntKind.u64 a'_0, Value.int IntKind.u64 a'_1],
    Value.agg #[Value.int IntKind.u64 b'_0, Value.int IntKind.u64 b'_1]] : List Value).toArray w R := calls_of_eq (span_srl.vc_eq a'_0 a'_1 b'_0 b'_1 w R) h

/- function 46: sacristy/span.sra -/
abbrev span_sra.N : FuncId := 46
def span_sra.H : Hints := {  }
def span_sra.vc (a'_0 : Int) (a'_1 : Int) (b'_0 : Int) (b'_1 : Int) (w : World) (R : Ending → World → Prop) : Prop :=
  ∀ (w' : World),
    w' = w.alloc (Obj.cells #[Value.int IntKind.u64 a'_0, Value.int IntKind.u64 a'_1] 24) →
      ∀ (w'_1 : World),
        w'_1 = w'.alloc (Obj.cells #[Value.int IntKind.u64 b'_0, Value.int IntKind.u64 b'_1] 24) →
          ∀ (w'_2 : World),
            w'_2 = w'_1.alloc (Obj.cells #[Value.int IntKind.u64 0, Value.int IntKind.u64 0] 24) →
              ∃ (n : Int),
                w'_2.cell? (Addr.mk w.heap.size 1 none) = some (Value.int IntKind.u64 n) ∧
                  cnd (decide (n ≥ 9223372036854775808))
                    (Calls Proofs.Try.prog 64 #[] w'_2 fun (e : Ending) (w' : World) =>
                      ∃ (n : Int),
                        ∃ (n_1 : Int),
                          e = Ending.returned (Value.agg #[Value.int IntKind.u64 n, Value.int IntKind.u64 n_1]) ∧
                            SetsAt w' (Addr.mk w'_1.heap.size 0 none) 0
                                [Value.int IntKind.u64 n, Value.int IntKind.u64 n_1] ∧
                              ∀ (w'_3 : World),
                                w'_3 =
                                    setCellsAt w' (Addr.mk w'_1.heap.size 0 none) 0
                                      [Value.int IntKind.u64 n, Value.int IntKind.u64 n_1] →
                                  ∃ (n : Int),
                                    ∃ (n_2 : Int),
                                      (w'_3.cell? (Addr.mk w'_1.heap.size 0 none) = some (Value.int IntKind.u64 n) ∧
                                          w'_3.cell? (Addr.mk w'_1.heap.size 1 none) = some (Value.int IntKind.u64 n_2) ∧
                                            True) ∧
                                        R
                                          (Ending.returned
                                            (Value.agg #[Value.int IntKind.u64 n, Value.int IntKind.u64 n_2]))
                                          w'_3)
                    (∃ (n : Int),
                      ∃ (n_1 : Int),
                        (w'_2.cell? (Addr.mk w.heap.size 0 none) = some (Value.int IntKind.u64 n) ∧
                            w'_2.cell? (Addr.mk w.heap.size 1 none) = some (Value.int IntKind.u64 n_1) ∧ True) ∧
                          ∃ (n_2 : Int),
                            ∃ (n_3 : Int),
                              (w'_2.cell? (Addr.mk w'.heap.size 0 none) = some (Value.int IntKind.u64 n_2) ∧
                                  w'_2.cell? (Addr.mk w'.heap.size 1 none) = some (Value.int IntKind.u64 n_3) ∧ True) ∧
                                Calls Proofs.Try.prog 45
                                  #[Value.agg #[Value.int IntKind.u64 n, Value.int IntKind.u64 n_1],
                                    Value.agg #[Value.int IntKind.u64 n_2, Value.int IntKind.u64 n_3]]
                                  w'_2 fun (e : Ending) (w' : World) =>
                                  ∃ (n : Int),
                                    ∃ (n_4 : Int),
                                      e =
                                          Ending.returned
                                            (Value.agg #[Value.int IntKind.u64 n, Value.int IntKind.u64 n_4]) ∧
                                        SetsAt w' (Addr.mk w'_1.heap.size 0 none) 0
                                            [Value.int IntKind.u64 n, Value.int IntKind.u64 n_4] ∧
                                          ∀ (w'_3 : World),
                                            w'_3 =
                                                setCellsAt w' (Addr.mk w'_1.heap.size 0 none) 0
                                                  [Value.int IntKind.u64 n, Value.int IntKind.u64 n_4] →
                                              ∃ (n : Int),
                                                ∃ (n_5 : Int),
                                                  (w'_3.cell? (Addr.mk w'_1.heap.size 0 none) =
                                                        some (Value.int IntKind.u64 n) ∧
                                                      w'_3.cell? (Addr.mk w'_1.heap.size 1 none) =
                                                          some (Value.int IntKind.u64 n_5) ∧
                                                        True) ∧
                                                    R
                                                      (Ending.returned
                                                        (Value.agg #[Value.int IntKind.u64 n, Value.int IntKind.u64 n_5]))
                                                      w'_3)
theorem span_sra.vc_eq (a'_0 : Int) (a'_1 : Int) (b'_0 : Int) (b'_1 : Int) (w : World) (R : Ending → World → Prop) : fnV Try.prog span_sra.H 46 [Value.agg #[Value.int IntKind.u64 a'_0, Value.int IntKind.u64 a'_1],
    Value.agg #[Value.int IntKind.u64 b'_0, Value.int IntKind.u64 b'_1]] w R = span_sra.vc a'_0 a'_1 b'_0 b'_1 w R := by kernel_rfl
theorem span_sra.calls {a'_0 : Int} {a'_1 : Int} {b'_0 : Int} {b'_1 : Int} {w : World} {R : Ending → World → Prop} (h : span_sra.vc a'_0 a'_1 b'_0 b'_1 w R) : Calls Try.prog 46 ([Value.agg #[Value.int IntKind.u64 a'_0, Value.int IntKind.u64 a'_1],
    Value.agg #[Value.int IntKind.u64 b'_0, Value.int IntKind.u64 b'_1]] : List Value).toArray w R := calls_of_eq (span_sra.vc_eq a'_0 a'_1 b'_0 b'_1 w R) h

/- function 20: sacristy/span.alus -/
abbrev span_alus.N : FuncId := 20
def span_alus.H : Hints := {  }
def span_alus.vc (w : World) (R : Ending → World → Prop) : Prop :=
  RunsV Proofs.Try.prog (Instr.makeMap 45 (Option.map (ev [Value.map none, Value.tuple #[], Value.tuple #[]]) none)) w
    fun (v : Value) (w' : World) =>
    ∃ (r : Option Nat),
      v = Value.map r ∧
        RunsV Proofs.Try.prog
          (do
            Instr.mapUpdate 45 (Value.map r) (Value.int IntKind.u8 1) (Value.func (Fn.func 33) #[] #[])
            pure (Value.tuple #[]))
          w' fun (x : Value) (w' : World) =>
          RunsV Proofs.Try.prog
            (do
              Instr.mapUpdate 45 (Value.map r) (Value.int IntKind.u8 2) (Value.func (Fn.func 34) #[] #[])
              pure (Value.tuple #[]))
            w' fun (x : Value) (w' : World) =>
            RunsV Proofs.Try.prog
              (do
                Instr.mapUpdate 45 (Value.map r) (Value.int IntKind.u8 11) (Value.func (Fn.func 35) #[] #[])
                pure (Value.tuple #[]))
              w' fun (x : Value) (w' : World) =>
              RunsV Proofs.Try.prog
                (do
                  Instr.mapUpdate 45 (Value.map r) (Value.int IntKind.u8 12) (Value.func (Fn.func 36) #[] #[])
                  pure (Value.tuple #[]))
                w' fun (x : Value) (w' : World) =>
                RunsV Proofs.Try.prog
                  (do
                    Instr.mapUpdate 45 (Value.map r) (Value.int IntKind.u8 13) (Value.func (Fn.func 37) #[] #[])
                    pure (Value.tuple #[]))
                  w' fun (x : Value) (w' : World) =>
                  RunsV Proofs.Try.prog
                    (do
                      Instr.mapUpdate 45 (Value.map r) (Value.int IntKind.u8 14) (Value.func (Fn.func 38) #[] #[])
                      pure (Value.tuple #[]))
                    w' fun (x : Value) (w' : World) =>
                    RunsV Proofs.Try.prog
                      (do
                        Instr.mapUpdate 45 (Value.map r) (Value.int IntKind.u8 10) (Value.func (Fn.func 39) #[] #[])
                        pure (Value.tuple #[]))
                      w' fun (x : Value) (w' : World) =>
                      RunsV Proofs.Try.prog
                        (do
                          Instr.mapUpdate 45 (Value.map r) (Value.int IntKind.u8 9) (Value.func (Fn.func 40) #[] #[])
                          pure (Value.tuple #[]))
                        w' fun (x : Value) (w' : World) =>
                        RunsV Proofs.Try.prog
                          (do
                            Instr.mapUpdate 45 (Value.map r) (Value.int IntKind.u8 6) (Value.func (Fn.func 41) #[] #[])
                            pure (Value.tuple #[]))
                          w' fun (x : Value) (w' : World) =>
                          RunsV Proofs.Try.prog
                            (do
                              Instr.mapUpdate 45 (Value.map r) (Value.int IntKind.u8 4) (Value.func (Fn.func 42) #[] #[])
                              pure (Value.tuple #[]))
                            w' fun (x : Value) (w' : World) =>
                            RunsV Proofs.Try.prog
                              (do
                                Instr.mapUpdate 45 (Value.map r) (Value.int IntKind.u8 5)
                                    (Value.func (Fn.func 43) #[] #[])
                                pure (Value.tuple #[]))
                              w' fun (x : Value) (w' : World) =>
                              RunsV Proofs.Try.prog
                                (do
                                  Instr.mapUpdate 45 (Value.map r) (Value.int IntKind.u8 3)
                                      (Value.func (Fn.func 44) #[] #[])
                                  pure (Value.tuple #[]))
                                w' fun (x : Value) (w' : World) =>
                                RunsV Proofs.Try.prog
                                  (do
                                    Instr.mapUpdate 45 (Value.map r) (Value.int IntKind.u8 7)
                                        (Value.func (Fn.func 45) #[] #[])
                                    pure (Value.tuple #[]))
                                  w' fun (x : Value) (w' : World) =>
                                  RunsV Proofs.Try.prog
                                    (do
                                      Instr.mapUpdate 45 (Value.map r) (Value.int IntKind.u8 8)
                                          (Value.func (Fn.func 46) #[] #[])
                                      pure (Value.tuple #[]))
                                    w' fun (x : Value) (w' : World) => R (Ending.returned (Value.map r)) w'
theorem span_alus.vc_eq (w : World) (R : Ending → World → Prop) : fnV Try.prog span_alus.H 20 [] w R = span_alus.vc w R := by kernel_rfl
theorem span_alus.calls {w : World} {R : Ending → World → Prop} (h : span_alus.vc w R) : Calls Try.prog 20 ([] : List Value).toArray w R := calls_of_eq (span_alus.vc_eq w R) h

/- function 7: sacristy/span.Alu -/
abbrev span_Alu.N : FuncId := 7
def span_Alu.H : Hints := {  }
def span_Alu.vc (fn' : Int) (a'_0 : Int) (a'_1 : Int) (b'_0 : Int) (b'_1 : Int) (w : World) (R : Ending → World → Prop) : Prop :=
  ∀ (w' : World),
    w' = w.alloc (Obj.cells #[Value.int IntKind.u64 a'_0, Value.int IntKind.u64 a'_1] 24) →
      ∀ (w'_1 : World),
        w'_1 = w'.alloc (Obj.cells #[Value.int IntKind.u64 b'_0, Value.int IntKind.u64 b'_1] 24) →
          ∀ (w'_2 : World),
            w'_2 = w'_1.alloc (Obj.cells #[Value.int IntKind.u64 0, Value.int IntKind.u64 0] 24) →
              Calls Proofs.Try.prog 20 #[] w'_2 fun (e : Ending) (w'_3 : World) =>
                ∃ (r : Option Nat),
                  e = Ending.returned (Value.map r) ∧
                    RunsV Proofs.Try.prog (Instr.lookup 45 (Value.map r) (Value.int IntKind.u8 fn') true) w'_3
                      fun (v : Value) (w'_4 : World) =>
                      ∃ (v_1 : Value),
                        ∃ (b : Bool),
                          v = Value.tuple #[v_1, Value.bool b] ∧
                            cnd (!b)
                              (SetsAt w'_4 (Addr.mk w'_1.heap.size 0 none) 0
                                  [Value.int IntKind.u64 0, Value.int IntKind.u64 0] ∧
                                ∀ (w' : World),
                                  w' =
                                      setCellsAt w'_4 (Addr.mk w'_1.heap.size 0 none) 0
                                        [Value.int IntKind.u64 0, Value.int IntKind.u64 0] →
                                    ∃ (n : Int),
                                      ∃ (n_1 : Int),
                                        (w'.cell? (Addr.mk w'_1.heap.size 0 none) = some (Value.int IntKind.u64 n) ∧
                                            w'.cell? (Addr.mk w'_1.heap.size 1 none) = some (Value.int IntKind.u64 n_1) ∧
                                              True) ∧
                                          R
                                            (Ending.returned
                                              (Value.tuple
                                                #[Value.agg #[Value.int IntKind.u64 n, Value.int IntKind.u64 n_1],
                                                  Value.int IntKind.i64 2]))
                                            w')
                              (∃ (n : Int),
                                ∃ (n_1 : Int),
                                  (w'_4.cell? (Addr.mk w.heap.size 0 none) = some (Value.int IntKind.u64 n) ∧
                                      w'_4.cell? (Addr.mk w.heap.size 1 none) = some (Value.int IntKind.u64 n_1) ∧ True) ∧
                                    ∃ (n_2 : Int),
                                      ∃ (n_3 : Int),
                                        (w'_4.cell? (Addr.mk w'.heap.size 0 none) = some (Value.int IntKind.u64 n_2) ∧
                                            w'_4.cell? (Addr.mk w'.heap.size 1 none) = some (Value.int IntKind.u64 n_3) ∧
                                              True) ∧
                                          Calls Proofs.Try.prog 21
                                            #[Value.agg #[Value.int IntKind.u64 n, Value.int IntKind.u64 n_1],
                                              Value.agg #[Value.int IntKind.u64 n_2, Value.int IntKind.u64 n_3], v_1]
                                            w'_4 fun (e : Ending) (w' : World) =>
                                            ∃ (n : Int),
                                              ∃ (n_4 : Int),
                                                ∃ (n_5 : Int),
                                                  e =
                                                      Ending.returned
                                                        (Value.tuple
                                                          #[Value.agg
                                                              #[Value.int IntKind.u64 n, Value.int IntKind.u64 n_4],
                                                            Value.int IntKind.i64 n_5]) ∧
                                                    SetsAt w' (Addr.mk w'_1.heap.size 0 none) 0
                                                        [Value.int IntKind.u64 n, Value.int IntKind.u64 n_4] ∧
                                                      ∀ (w'_5 : World),
                                                        w'_5 =
                                                            setCellsAt w' (Addr.mk w'_1.heap.size 0 none) 0
                                                              [Value.int IntKind.u64 n, Value.int IntKind.u64 n_4] →
                                                          ∃ (n : Int),
                                                            ∃ (n_6 : Int),
                                                              (w'_5.cell? (Addr.mk w'_1.heap.size 0 none) =
                                                                    some (Value.int IntKind.u64 n) ∧
                                                                  w'_5.cell? (Addr.mk w'_1.heap.size 1 none) =
                                                                      some (Value.int IntKind.u64 n_6) ∧
                                                                    True) ∧
                                                                R
                                                                  (Ending.returned
                                                                    (Value.tuple
                                                                      #[Value.agg
                                                                          #[Value.int IntKind.u64 n,
                                                                            Value.int IntKind.u64 n_6],
                                                                        Value.int IntKind.i64 n_5]))
                                                                  w'_5)
theorem span_Alu.vc_eq (fn' : Int) (a'_0 : Int) (a'_1 : Int) (b'_0 : Int) (b'_1 : Int) (w : World) (R : Ending → World → Prop) : fnV Try.prog span_Alu.H 7 [Value.int IntKind.u8 fn', Value.agg #[Value.int IntKind.u64 a'_0, Value.int IntKind.u64 a'_1],
    Value.agg #[Value.int IntKind.u64 b'_0, Value.int IntKind.u64 b'_1]] w R = span_Alu.vc fn' a'_0 a'_1 b'_0 b'_1 w R := by kernel_rfl
theorem span_Alu.calls {fn' : Int} {a'_0 : Int} {a'_1 : Int} {b'_0 : Int} {b'_1 : Int} {w : World} {R : Ending → World → Prop} (h : span_Alu.vc fn' a'_0 a'_1 b'_0 b'_1 w R) : Calls Try.prog 7 ([Value.int IntKind.u8 fn', Value.agg #[Value.int IntKind.u64 a'_0, Value.int IntKind.u64 a'_1],
    Value.agg #[Value.int IntKind.u64 b'_0, Value.int IntKind.u64 b'_1]] : List Value).toArray w R := calls_of_eq (span_Alu.vc_eq fn' a'_0 a'_1 b'_0 b'_1 w R) h

end Go.Proofs.Ytpfnjooddobohaa
