/-
The explicit conditions of some functions of the program, printed by this repo's own program over VcTop: what is proved is that each is the condition.
Conditions: none.
-/
import Derived.Test.YtoncpheocnjooaaVcTop
import Derived.Test.YtoncpheocnjooaaProg
namespace Go.Proofs.Ytoncpheocnjooaa
open Go Go.Vc Go.RowKit
set_option linter.unusedVariables false
set_option maxRecDepth 100000

/- function 9: sacristy/sacristylaw01.alive -/
abbrev law01_alive.N : FuncId := 9
def law01_alive.H : Hints := {  }
def law01_alive.vc (w : World) (R : Ending → World → Prop) : Prop :=
  Calls Proofs.Try.prog 7 #[Value.int IntKind.u8 8, Value.int IntKind.u64 18446744073709551608, Value.int IntKind.u64 65]
    w fun (e : Ending) (w' : World) =>
    ∃ (n : Int),
      ∃ (n_1 : Int),
        e = Ending.returned (Value.tuple #[Value.int IntKind.u64 n, Value.int IntKind.i64 n_1]) ∧
          Calls Proofs.Try.prog 7 #[Value.int IntKind.u8 13, Value.int IntKind.u64 5, Value.int IntKind.u64 0] w'
            fun (e : Ending) (w' : World) =>
            ∃ (n_2 : Int),
              ∃ (n_3 : Int),
                e = Ending.returned (Value.tuple #[Value.int IntKind.u64 n_2, Value.int IntKind.i64 n_3]) ∧
                  Calls Proofs.Try.prog 7
                    #[Value.int IntKind.u8 12, Value.int IntKind.u64 9223372036854775808, Value.int IntKind.u64 6] w'
                    fun (e : Ending) (w' : World) =>
                    ∃ (n_4 : Int),
                      ∃ (n_5 : Int),
                        e = Ending.returned (Value.tuple #[Value.int IntKind.u64 n_4, Value.int IntKind.i64 n_5]) ∧
                          Calls Proofs.Try.prog 10 #[Value.int IntKind.u64 255, Value.int IntKind.i64 8] w'
                            fun (e : Ending) (w' : World) =>
                            ∃ (n_6 : Int),
                              ∃ (n_7 : Int),
                                e =
                                    Ending.returned
                                      (Value.tuple #[Value.int IntKind.u64 n_6, Value.int IntKind.i64 n_7]) ∧
                                  Calls Proofs.Try.prog 12 #[Value.int IntKind.u64 258, Value.int IntKind.i64 3] w'
                                    fun (e : Ending) (w' : World) =>
                                    ∃ (s : ByteArray),
                                      ∃ (n_8 : Int),
                                        e = Ending.returned (Value.tuple #[Value.string s, Value.int IntKind.i64 n_8]) ∧
                                          Calls Proofs.Try.prog 14 #[Value.string (ByteArray.mk #[2, 1])] w'
                                            fun (e : Ending) (w' : World) =>
                                            ∃ (n_9 : Int),
                                              ∃ (n_10 : Int),
                                                e =
                                                    Ending.returned
                                                      (Value.tuple
                                                        #[Value.int IntKind.u64 n_9, Value.int IntKind.i64 n_10]) ∧
                                                  Calls Proofs.Try.prog 7
                                                    #[Value.int IntKind.u8 0, Value.int IntKind.u64 1,
                                                      Value.int IntKind.u64 1]
                                                    w' fun (e : Ending) (w' : World) =>
                                                    ∃ (n_11 : Int),
                                                      ∃ (n_12 : Int),
                                                        e =
                                                            Ending.returned
                                                              (Value.tuple
                                                                #[Value.int IntKind.u64 n_11,
                                                                  Value.int IntKind.i64 n_12]) ∧
                                                          cnd (n == 18446744073709551612)
                                                            (cnd (n_1 == 0)
                                                              (cnd (n_2 == 18446744073709551615)
                                                                (cnd (n_3 == 0)
                                                                  (cnd (n_4 == 3)
                                                                    (cnd (n_5 == 0)
                                                                      (cnd (n_6 == 18446744073709551615)
                                                                        (cnd (n_7 == 0)
                                                                          (cnd
                                                                            (s.toList == (ByteArray.mk #[2, 1, 0]).toList)
                                                                            (cnd (n_8 == 0)
                                                                              (cnd (n_9 == 258)
                                                                                (cnd (n_10 == 0)
                                                                                  (cnd (n_12 == 2)
                                                                                    (Calls Proofs.Try.prog 16
                                                                                      #[Value.int IntKind.i64 2047,
                                                                                        Value.int IntKind.i64 12]
                                                                                      w' fun (e : Ending) (w' : World) =>
                                                                                      ∃ (b : Bool),
                                                                                        e =
                                                                                            Ending.returned
                                                                                              (Value.bool b) ∧
                                                                                          cnd b
                                                                                            (Calls Proofs.Try.prog 16
                                                                                              #[Value.int IntKind.i64
                                                                                                  2048,
                                                                                                Value.int IntKind.i64 12]
                                                                                              w'
                                                                                              fun (e : Ending)
                                                                                                (w' : World) =>
                                                                                              ∃ (b : Bool),
                                                                                                e =
                                                                                                    Ending.returned
                                                                                                      (Value.bool b) ∧
                                                                                                  R
                                                                                                    (Ending.returned
                                                                                                      (Value.bool !b))
                                                                                                    w')
                                                                                            (R
                                                                                              (Ending.returned
                                                                                                (Value.bool false))
                                                                                              w'))
                                                                                    (R
                                                                                      (Ending.returned (Value.bool false))
                                                                                      w'))
                                                                                  (R (Ending.returned (Value.bool false))
                                                                                    w'))
                                                                                (R (Ending.returned (Value.bool false))
                                                                                  w'))
                                                                              (R (Ending.returned (Value.bool false)) w'))
                                                                            (R (Ending.returned (Value.bool false)) w'))
                                                                          (R (Ending.returned (Value.bool false)) w'))
                                                                        (R (Ending.returned (Value.bool false)) w'))
                                                                      (R (Ending.returned (Value.bool false)) w'))
                                                                    (R (Ending.returned (Value.bool false)) w'))
                                                                  (R (Ending.returned (Value.bool false)) w'))
                                                                (R (Ending.returned (Value.bool false)) w'))
                                                              (R (Ending.returned (Value.bool false)) w'))
                                                            (R (Ending.returned (Value.bool false)) w')
theorem law01_alive.vc_eq (w : World) (R : Ending → World → Prop) : fnV Try.prog law01_alive.H 9 [] w R = law01_alive.vc w R := by kernel_rfl
theorem law01_alive.calls {w : World} {R : Ending → World → Prop} (h : law01_alive.vc w R) : Calls Try.prog 9 ([] : List Value).toArray w R := calls_of_eq (law01_alive.vc_eq w R) h

/- function 18: sacristy/sacristylaw01.op -/
abbrev law01_op.N : FuncId := 18
def law01_op.H : Hints := {  }
def law01_op.vc (fn' : Int) (a' : Int) (b' : Int) (w : World) (R : Ending → World → Prop) : Prop :=
  Calls Proofs.Try.prog 7 #[Value.int IntKind.u8 fn', Value.int IntKind.u64 a', Value.int IntKind.u64 b'] w
    fun (e : Ending) (w' : World) =>
    ∃ (n : Int),
      ∃ (n_1 : Int),
        e = Ending.returned (Value.tuple #[Value.int IntKind.u64 n, Value.int IntKind.i64 n_1]) ∧
          cnd (n_1 != 0) (R (Ending.returned (Value.int IntKind.u64 57005)) w')
            (R (Ending.returned (Value.int IntKind.u64 n)) w')
theorem law01_op.vc_eq (fn' : Int) (a' : Int) (b' : Int) (w : World) (R : Ending → World → Prop) : fnV Try.prog law01_op.H 18 [Value.int IntKind.u8 fn', Value.int IntKind.u64 a', Value.int IntKind.u64 b'] w R = law01_op.vc fn' a' b' w R := by kernel_rfl
theorem law01_op.calls {fn' : Int} {a' : Int} {b' : Int} {w : World} {R : Ending → World → Prop} (h : law01_op.vc fn' a' b' w R) : Calls Try.prog 18 ([Value.int IntKind.u8 fn', Value.int IntKind.u64 a', Value.int IntKind.u64 b'] : List Value).toArray w R := calls_of_eq (law01_op.vc_eq fn' a' b' w R) h

/- function 3: sacristy/sacristylaw01.WordOps -/
abbrev law01_WordOps.N : FuncId := 3
def law01_WordOps.H : Hints := { loops := [(7, [(11, .one (.int .u8))])] }
def law01_WordOps.vc (fn' : Int) (a' : Int) (b' : Int) (w : World) (R : Ending → World → Prop) : Prop :=
  Calls Proofs.Try.prog 7 #[Value.int IntKind.u8 fn', Value.int IntKind.u64 a', Value.int IntKind.u64 b'] w
    fun (e : Ending) (w' : World) =>
    ∃ (n : Int),
      ∃ (n_1 : Int),
        e = Ending.returned (Value.tuple #[Value.int IntKind.u64 n, Value.int IntKind.i64 n_1]) ∧
          Calls Proofs.Try.prog 8 #[Value.int IntKind.u8 fn', Value.int IntKind.u64 a', Value.int IntKind.u64 b'] w'
            fun (e : Ending) (w' : World) =>
            ∃ (n_2 : Int),
              ∃ (n_3 : Int),
                e = Ending.returned (Value.tuple #[Value.int IntKind.u64 n_2, Value.int IntKind.i64 n_3]) ∧
                  cnd (n != n_2) (R (Ending.returned (Value.bool false)) w')
                    (cnd (n_1 != n_3) (R (Ending.returned (Value.bool false)) w')
                      (∃ (I : List Value → World → Prop),
                        ∃ (μ : List Value → World → Nat),
                          I [Value.int IntKind.u8 0] w' ∧
                            ∀ (g : Nat → Value) (k : Int) (w' : World),
                              I [Value.int IntKind.u8 k] w' →
                                cnd (decide (k < 20))
                                  (Calls Proofs.Try.prog 7
                                    #[Value.int IntKind.u8 k, Value.int IntKind.u64 a', Value.int IntKind.u64 b'] w'
                                    fun (e : Ending) (w'_1 : World) =>
                                    ∃ (n : Int),
                                      ∃ (n_4 : Int),
                                        e =
                                            Ending.returned
                                              (Value.tuple #[Value.int IntKind.u64 n, Value.int IntKind.i64 n_4]) ∧
                                          Calls Proofs.Try.prog 8
                                            #[Value.int IntKind.u8 k, Value.int IntKind.u64 a', Value.int IntKind.u64 b']
                                            w'_1 fun (e : Ending) (w'_2 : World) =>
                                            ∃ (n_5 : Int),
                                              ∃ (n_6 : Int),
                                                e =
                                                    Ending.returned
                                                      (Value.tuple
                                                        #[Value.int IntKind.u64 n_5, Value.int IntKind.i64 n_6]) ∧
                                                  cnd (n != n_5) (R (Ending.returned (Value.bool false)) w'_2)
                                                    (cnd (n_4 != n_6) (R (Ending.returned (Value.bool false)) w'_2)
                                                      (Goes I μ [Value.int IntKind.u8 k] w'
                                                        [Value.int IntKind.u8 (IntKind.u8.wrap (k + 1))] w'_2)))
                                  (Calls Proofs.Try.prog 9 #[] w' fun (e : Ending) (w' : World) =>
                                    ∃ (b : Bool),
                                      e = Ending.returned (Value.bool b) ∧ R (Ending.returned (Value.bool b)) w')))
theorem law01_WordOps.vc_eq (fn' : Int) (a' : Int) (b' : Int) (w : World) (R : Ending → World → Prop) : fnV Try.prog law01_WordOps.H 3 [Value.int IntKind.u8 fn', Value.int IntKind.u64 a', Value.int IntKind.u64 b'] w R = law01_WordOps.vc fn' a' b' w R := by kernel_rfl
theorem law01_WordOps.calls {fn' : Int} {a' : Int} {b' : Int} {w : World} {R : Ending → World → Prop} (h : law01_WordOps.vc fn' a' b' w R) : Calls Try.prog 3 ([Value.int IntKind.u8 fn', Value.int IntKind.u64 a', Value.int IntKind.u64 b'] : List Value).toArray w R := calls_of_eq (law01_WordOps.vc_eq fn' a' b' w R) h

/- function 4: sacristy/sacristylaw01.WordBytes -/
abbrev law01_WordBytes.N : FuncId := 4
def law01_WordBytes.H : Hints := {  }
def law01_WordBytes.vc (v' : Int) (i' : Int) (bits' : Int) (n' : Int) (s' : ByteArray) (w : World) (R : Ending → World → Prop) : Prop :=
  Calls Proofs.Try.prog 10 #[Value.int IntKind.u64 v', Value.int IntKind.i64 bits'] w fun (e : Ending) (w' : World) =>
    ∃ (n : Int),
      ∃ (n_1 : Int),
        e = Ending.returned (Value.tuple #[Value.int IntKind.u64 n, Value.int IntKind.i64 n_1]) ∧
          Calls Proofs.Try.prog 11 #[Value.int IntKind.u64 v', Value.int IntKind.i64 bits'] w'
            fun (e : Ending) (w' : World) =>
            ∃ (n_2 : Int),
              ∃ (n_3 : Int),
                e = Ending.returned (Value.tuple #[Value.int IntKind.u64 n_2, Value.int IntKind.i64 n_3]) ∧
                  Calls Proofs.Try.prog 12 #[Value.int IntKind.u64 v', Value.int IntKind.i64 n'] w'
                    fun (e : Ending) (w' : World) =>
                    ∃ (s : ByteArray),
                      ∃ (n_4 : Int),
                        e = Ending.returned (Value.tuple #[Value.string s, Value.int IntKind.i64 n_4]) ∧
                          Calls Proofs.Try.prog 13 #[Value.int IntKind.u64 v', Value.int IntKind.i64 n'] w'
                            fun (e : Ending) (w' : World) =>
                            ∃ (s_1 : ByteArray),
                              ∃ (n_5 : Int),
                                e = Ending.returned (Value.tuple #[Value.string s_1, Value.int IntKind.i64 n_5]) ∧
                                  Calls Proofs.Try.prog 14 #[Value.string s'] w' fun (e : Ending) (w' : World) =>
                                    ∃ (n_6 : Int),
                                      ∃ (n_7 : Int),
                                        e =
                                            Ending.returned
                                              (Value.tuple #[Value.int IntKind.u64 n_6, Value.int IntKind.i64 n_7]) ∧
                                          Calls Proofs.Try.prog 15 #[Value.string s'] w' fun (e : Ending) (w' : World) =>
                                            ∃ (n_8 : Int),
                                              ∃ (n_9 : Int),
                                                e =
                                                    Ending.returned
                                                      (Value.tuple
                                                        #[Value.int IntKind.u64 n_8, Value.int IntKind.i64 n_9]) ∧
                                                  cnd (n == n_2)
                                                    (cnd (n_1 == n_3)
                                                      (cnd (s.toList == s_1.toList)
                                                        (cnd (n_4 == n_5)
                                                          (cnd (n_6 == n_8)
                                                            (cnd (n_7 == n_9)
                                                              (Calls Proofs.Try.prog 16
                                                                #[Value.int IntKind.i64 i', Value.int IntKind.i64 bits']
                                                                w' fun (e : Ending) (w' : World) =>
                                                                ∃ (b : Bool),
                                                                  e = Ending.returned (Value.bool b) ∧
                                                                    Calls Proofs.Try.prog 17
                                                                      #[Value.int IntKind.i64 i',
                                                                        Value.int IntKind.i64 bits']
                                                                      w' fun (e : Ending) (w' : World) =>
                                                                      ∃ (b_1 : Bool),
                                                                        e = Ending.returned (Value.bool b_1) ∧
                                                                          cnd (b == b_1)
                                                                            (Calls Proofs.Try.prog 9 #[] w'
                                                                              fun (e : Ending) (w' : World) =>
                                                                              ∃ (b : Bool),
                                                                                e = Ending.returned (Value.bool b) ∧
                                                                                  R (Ending.returned (Value.bool b)) w')
                                                                            (R (Ending.returned (Value.bool false)) w'))
                                                              (R (Ending.returned (Value.bool false)) w'))
                                                            (R (Ending.returned (Value.bool false)) w'))
                                                          (R (Ending.returned (Value.bool false)) w'))
                                                        (R (Ending.returned (Value.bool false)) w'))
                                                      (R (Ending.returned (Value.bool false)) w'))
                                                    (R (Ending.returned (Value.bool false)) w')
theorem law01_WordBytes.vc_eq (v' : Int) (i' : Int) (bits' : Int) (n' : Int) (s' : ByteArray) (w : World) (R : Ending → World → Prop) : fnV Try.prog law01_WordBytes.H 4 [Value.int IntKind.u64 v', Value.int IntKind.i64 i', Value.int IntKind.i64 bits', Value.int IntKind.i64 n',
    Value.string s'] w R = law01_WordBytes.vc v' i' bits' n' s' w R := by kernel_rfl
theorem law01_WordBytes.calls {v' : Int} {i' : Int} {bits' : Int} {n' : Int} {s' : ByteArray} {w : World} {R : Ending → World → Prop} (h : law01_WordBytes.vc v' i' bits' n' s' w R) : Calls Try.prog 4 ([Value.int IntKind.u64 v', Value.int IntKind.i64 i', Value.int IntKind.i64 bits', Value.int IntKind.i64 n',
    Value.string s'] : List Value).toArray w R := calls_of_eq (law01_WordBytes.vc_eq v' i' bits' n' s' w R) h

/- function 5: sacristy/sacristylaw01.WordLaws -/
abbrev law01_WordLaws.N : FuncId := 5
def law01_WordLaws.H : Hints := { regs := [(1, [(52, .one .bool)]), (3, [(7, .one (.int .u64)), (8, .one (.int .u64))]), (4, [(84, .one .bool)]), (8, [(104, .one .bool)]), (10, [(11, .one (.int .u64)), (12, .one (.int .u64))]), (11, [(135, .one .bool)])] }
def law01_WordLaws.vc (a' : Int) (b' : Int) (c' : Int) (w : World) (R : Ending → World → Prop) : Prop :=
  ∃ (J : List Value → World → Prop),
    (Calls Proofs.Try.prog 18 #[Value.int IntKind.u8 1, Value.int IntKind.u64 a', Value.int IntKind.u64 b'] w
        fun (e : Ending) (w' : World) =>
        ∃ (n : Int),
          e = Ending.returned (Value.int IntKind.u64 n) ∧
            Calls Proofs.Try.prog 18 #[Value.int IntKind.u8 2, Value.int IntKind.u64 n, Value.int IntKind.u64 b'] w'
              fun (e : Ending) (w' : World) =>
              ∃ (n : Int),
                e = Ending.returned (Value.int IntKind.u64 n) ∧
                  cnd (n != a') (J [Value.bool true] w')
                    (Calls Proofs.Try.prog 18
                      #[Value.int IntKind.u8 11, Value.int IntKind.u64 a', Value.int IntKind.u64 b'] w'
                      fun (e : Ending) (w' : World) =>
                      ∃ (n : Int),
                        e = Ending.returned (Value.int IntKind.u64 n) ∧
                          Calls Proofs.Try.prog 18
                            #[Value.int IntKind.u8 11, Value.int IntKind.u64 b', Value.int IntKind.u64 a'] w'
                            fun (e : Ending) (w' : World) =>
                            ∃ (n_1 : Int),
                              e = Ending.returned (Value.int IntKind.u64 n_1) ∧
                                cnd (n != n_1) (J [Value.bool true] w')
                                  (Calls Proofs.Try.prog 18
                                    #[Value.int IntKind.u8 12, Value.int IntKind.u64 a', Value.int IntKind.u64 b'] w'
                                    fun (e : Ending) (w' : World) =>
                                    ∃ (n : Int),
                                      e = Ending.returned (Value.int IntKind.u64 n) ∧
                                        Calls Proofs.Try.prog 18
                                          #[Value.int IntKind.u8 12, Value.int IntKind.u64 b', Value.int IntKind.u64 a']
                                          w' fun (e : Ending) (w' : World) =>
                                          ∃ (n_2 : Int),
                                            e = Ending.returned (Value.int IntKind.u64 n_2) ∧
                                              cnd (n != n_2) (J [Value.bool true] w')
                                                (Calls Proofs.Try.prog 18
                                                  #[Value.int IntKind.u8 1, Value.int IntKind.u64 b',
                                                    Value.int IntKind.u64 c']
                                                  w' fun (e : Ending) (w' : World) =>
                                                  ∃ (n : Int),
                                                    e = Ending.returned (Value.int IntKind.u64 n) ∧
                                                      Calls Proofs.Try.prog 18
                                                        #[Value.int IntKind.u8 11, Value.int IntKind.u64 a',
                                                          Value.int IntKind.u64 n]
                                                        w' fun (e : Ending) (w' : World) =>
                                                        ∃ (n : Int),
                                                          e = Ending.returned (Value.int IntKind.u64 n) ∧
                                                            Calls Proofs.Try.prog 18
                                                              #[Value.int IntKind.u8 11, Value.int IntKind.u64 a',
                                                                Value.int IntKind.u64 b']
                                                              w' fun (e : Ending) (w' : World) =>
                                                              ∃ (n_3 : Int),
                                                                e = Ending.returned (Value.int IntKind.u64 n_3) ∧
                                                                  Calls Proofs.Try.prog 18
                                                                    #[Value.int IntKind.u8 11, Value.int IntKind.u64 a',
                                                                      Value.int IntKind.u64 c']
                                                                    w' fun (e : Ending) (w' : World) =>
                                                                    ∃ (n_4 : Int),
                                                                      e = Ending.returned (Value.int IntKind.u64 n_4) ∧
                                                                        Calls Proofs.Try.prog 18
                                                                          #[Value.int IntKind.u8 1,
                                                                            Value.int IntKind.u64 n_3,
                                                                            Value.int IntKind.u64 n_4]
                                                                          w' fun (e : Ending) (w' : World) =>
                                                                          ∃ (n_5 : Int),
                                                                            e =
                                                                                Ending.returned
                                                                                  (Value.int IntKind.u64 n_5) ∧
                                                                              J [Value.bool (n != n_5)] w')))) ∧
      ∀ (g : Nat → Value) (s52 : Bool) (w' : World),
        J [Value.bool s52] w' →
          cnd s52 (R (Ending.returned (Value.bool false)) w')
            (∃ (J : List Value → World → Prop),
              (Calls Proofs.Try.prog 18 #[Value.int IntKind.u8 13, Value.int IntKind.u64 a', Value.int IntKind.u64 b'] w'
                  fun (e : Ending) (w' : World) =>
                  ∃ (n : Int),
                    e = Ending.returned (Value.int IntKind.u64 n) ∧
                      Calls Proofs.Try.prog 18
                        #[Value.int IntKind.u8 14, Value.int IntKind.u64 a', Value.int IntKind.u64 b'] w'
                        fun (e : Ending) (w' : World) =>
                        ∃ (n_1 : Int),
                          e = Ending.returned (Value.int IntKind.u64 n_1) ∧
                            J [Value.int IntKind.u64 n, Value.int IntKind.u64 n_1] w') ∧
                ∀ (g : Nat → Value) (q r : Int) (w' : World),
                  J [Value.int IntKind.u64 q, Value.int IntKind.u64 r] w' →
                    ∃ (J : List Value → World → Prop),
                      (Calls Proofs.Try.prog 18
                          #[Value.int IntKind.u8 11, Value.int IntKind.u64 q, Value.int IntKind.u64 b'] w'
                          fun (e : Ending) (w' : World) =>
                          ∃ (n : Int),
                            e = Ending.returned (Value.int IntKind.u64 n) ∧
                              Calls Proofs.Try.prog 18
                                #[Value.int IntKind.u8 1, Value.int IntKind.u64 n, Value.int IntKind.u64 r] w'
                                fun (e : Ending) (w' : World) =>
                                ∃ (n : Int),
                                  e = Ending.returned (Value.int IntKind.u64 n) ∧
                                    cnd (n != a') (J [Value.bool true] w')
                                      (cnd (b' != 0)
                                        (cnd (decide (r ≥ b')) (J [Value.bool true] w')
                                          (cnd (b' != 0)
                                            (Calls Proofs.Try.prog 18
                                              #[Value.int IntKind.u8 12, Value.int IntKind.u64 q,
                                                Value.int IntKind.u64 b']
                                              w' fun (e : Ending) (w' : World) =>
                                              ∃ (n : Int),
                                                e = Ending.returned (Value.int IntKind.u64 n) ∧
                                                  J [Value.bool (n != 0)] w')
                                            (J [Value.bool false] w')))
                                        (cnd (b' != 0)
                                          (Calls Proofs.Try.prog 18
                                            #[Value.int IntKind.u8 12, Value.int IntKind.u64 q, Value.int IntKind.u64 b']
                                            w' fun (e : Ending) (w' : World) =>
                                            ∃ (n : Int),
                                              e = Ending.returned (Value.int IntKind.u64 n) ∧ J [Value.bool (n != 0)] w')
                                          (J [Value.bool false] w')))) ∧
                        ∀ (g : Nat → Value) (s84 : Bool) (w' : World),
                          J [Value.bool s84] w' →
                            cnd s84 (R (Ending.returned (Value.bool false)) w')
                              (cnd (decide (c'.tmod 64 < 0)) False
                                (∃ (J : List Value → World → Prop),
                                  (Calls Proofs.Try.prog 18
                                      #[Value.int IntKind.u8 3, Value.int IntKind.u64 a', Value.int IntKind.u64 c'] w'
                                      fun (e : Ending) (w' : World) =>
                                      ∃ (n : Int),
                                        e = Ending.returned (Value.int IntKind.u64 n) ∧
                                          Calls Proofs.Try.prog 18
                                            #[Value.int IntKind.u8 11, Value.int IntKind.u64 a',
                                              Value.int IntKind.u64
                                                (IntKind.u64.wrap (1 * 2 ^ min (c'.tmod 64).toNat 64))]
                                            w' fun (e : Ending) (w' : World) =>
                                            ∃ (n_1 : Int),
                                              e = Ending.returned (Value.int IntKind.u64 n_1) ∧
                                                cnd (n != n_1) (J [Value.bool true] w')
                                                  (Calls Proofs.Try.prog 18
                                                    #[Value.int IntKind.u8 7, Value.int IntKind.u64 a',
                                                      Value.int IntKind.u64 c']
                                                    w' fun (e : Ending) (w' : World) =>
                                                    ∃ (n : Int),
                                                      e = Ending.returned (Value.int IntKind.u64 n) ∧
                                                        Calls Proofs.Try.prog 18
                                                          #[Value.int IntKind.u8 13, Value.int IntKind.u64 a',
                                                            Value.int IntKind.u64
                                                              (IntKind.u64.wrap (1 * 2 ^ min (c'.tmod 64).toNat 64))]
                                                          w' fun (e : Ending) (w' : World) =>
                                                          ∃ (n_2 : Int),
                                                            e = Ending.returned (Value.int IntKind.u64 n_2) ∧
                                                              J [Value.bool (n != n_2)] w')) ∧
                                    ∀ (g : Nat → Value) (s104 : Bool) (w' : World),
                                      J [Value.bool s104] w' →
                                        cnd s104 (R (Ending.returned (Value.bool false)) w')
                                          (∃ (J : List Value → World → Prop),
                                            (Calls Proofs.Try.prog 18
                                                #[Value.int IntKind.u8 5, Value.int IntKind.u64 a',
                                                  Value.int IntKind.u64 b']
                                                w' fun (e : Ending) (w' : World) =>
                                                ∃ (n : Int),
                                                  e = Ending.returned (Value.int IntKind.u64 n) ∧
                                                    Calls Proofs.Try.prog 18
                                                      #[Value.int IntKind.u8 5, Value.int IntKind.u64 b',
                                                        Value.int IntKind.u64 a']
                                                      w' fun (e : Ending) (w' : World) =>
                                                      ∃ (n_1 : Int),
                                                        e = Ending.returned (Value.int IntKind.u64 n_1) ∧
                                                          J [Value.int IntKind.u64 n, Value.int IntKind.u64 n_1] w') ∧
                                              ∀ (g : Nat → Value) (less more : Int) (w' : World),
                                                J [Value.int IntKind.u64 less, Value.int IntKind.u64 more] w' →
                                                  ∃ (J : List Value → World → Prop),
                                                    cnd (decide (IntKind.u64.wrap (less + more) > 1))
                                                        (J [Value.bool true] w')
                                                        (cnd (!(IntKind.u64.wrap (less + more) == 0) == (a' == b'))
                                                          (J [Value.bool true] w')
                                                          (Calls Proofs.Try.prog 18
                                                            #[Value.int IntKind.u8 4, Value.int IntKind.u64 a',
                                                              Value.int IntKind.u64 b']
                                                            w' fun (e : Ending) (w' : World) =>
                                                            ∃ (n : Int),
                                                              e = Ending.returned (Value.int IntKind.u64 n) ∧
                                                                Calls Proofs.Try.prog 18
                                                                  #[Value.int IntKind.u8 5,
                                                                    Value.int IntKind.u64
                                                                      (bits BinOp.xor IntKind.u64 a' 9223372036854775808),
                                                                    Value.int IntKind.u64
                                                                      (bits BinOp.xor IntKind.u64 b' 9223372036854775808)]
                                                                  w' fun (e : Ending) (w' : World) =>
                                                                  ∃ (n_1 : Int),
                                                                    e = Ending.returned (Value.int IntKind.u64 n_1) ∧
                                                                      J [Value.bool (n != n_1)] w')) ∧
                                                      ∀ (g : Nat → Value) (s135 : Bool) (w' : World),
                                                        J [Value.bool s135] w' →
                                                          cnd s135 (R (Ending.returned (Value.bool false)) w')
                                                            (Calls Proofs.Try.prog 18
                                                              #[Value.int IntKind.u8 6, Value.int IntKind.u64 a',
                                                                Value.int IntKind.u64 b']
                                                              w' fun (e : Ending) (w' : World) =>
                                                              ∃ (n : Int),
                                                                e = Ending.returned (Value.int IntKind.u64 n) ∧
                                                                  Calls Proofs.Try.prog 18
                                                                    #[Value.int IntKind.u8 9, Value.int IntKind.u64 a',
                                                                      Value.int IntKind.u64 b']
                                                                    w' fun (e : Ending) (w' : World) =>
                                                                    ∃ (n_1 : Int),
                                                                      e = Ending.returned (Value.int IntKind.u64 n_1) ∧
                                                                        Calls Proofs.Try.prog 18
                                                                          #[Value.int IntKind.u8 10,
                                                                            Value.int IntKind.u64 a',
                                                                            Value.int IntKind.u64 b']
                                                                          w' fun (e : Ending) (w' : World) =>
                                                                          ∃ (n_2 : Int),
                                                                            e =
                                                                                Ending.returned
                                                                                  (Value.int IntKind.u64 n_2) ∧
                                                                              Calls Proofs.Try.prog 18
                                                                                #[Value.int IntKind.u8 2,
                                                                                  Value.int IntKind.u64 n_1,
                                                                                  Value.int IntKind.u64 n_2]
                                                                                w' fun (e : Ending) (w' : World) =>
                                                                                ∃ (n_3 : Int),
                                                                                  e =
                                                                                      Ending.returned
                                                                                        (Value.int IntKind.u64 n_3) ∧
                                                                                    cnd (n == n_3)
                                                                                      (Calls Proofs.Try.prog 18
                                                                                        #[Value.int IntKind.u8 9,
                                                                                          Value.int IntKind.u64 a',
                                                                                          Value.int IntKind.u64 b']
                                                                                        w'
                                                                                        fun (e : Ending) (w' : World) =>
                                                                                        ∃ (n : Int),
                                                                                          e =
                                                                                              Ending.returned
                                                                                                (Value.int IntKind.u64
                                                                                                  n) ∧
                                                                                            Calls Proofs.Try.prog 18
                                                                                              #[Value.int IntKind.u8 10,
                                                                                                Value.int IntKind.u64 a',
                                                                                                Value.int IntKind.u64 b']
                                                                                              w'
                                                                                              fun (e : Ending)
                                                                                                (w' : World) =>
                                                                                              ∃ (n_4 : Int),
                                                                                                e =
                                                                                                    Ending.returned
                                                                                                      (Value.int
                                                                                                        IntKind.u64 n_4) ∧
                                                                                                  Calls Proofs.Try.prog 18
                                                                                                    #[Value.int IntKind.u8
                                                                                                        1,
                                                                                                      Value.int
                                                                                                        IntKind.u64 n,
                                                                                                      Value.int
                                                                                                        IntKind.u64 n_4]
                                                                                                    w'
                                                                                                    fun (e : Ending)
                                                                                                      (w' : World) =>
                                                                                                    ∃ (n : Int),
                                                                                                      e =
                                                                                                          Ending.returned
                                                                                                            (Value.int
                                                                                                              IntKind.u64
                                                                                                              n) ∧
                                                                                                        cnd
                                                                                                          (n ==
                                                                                                            IntKind.u64.wrap
                                                                                                              (a' + b'))
                                                                                                          (Calls
                                                                                                            Proofs.Try.prog
                                                                                                            9 #[] w'
                                                                                                            fun
                                                                                                              (e : Ending)
                                                                                                              (w' :
                                                                                                                World) =>
                                                                                                            ∃ (b : Bool),
                                                                                                              e =
                                                                                                                  Ending.returned
                                                                                                                    (Value.bool
                                                                                                                      b) ∧
                                                                                                                R
                                                                                                                  (Ending.returned
                                                                                                                    (Value.bool
                                                                                                                      b))
                                                                                                                  w')
                                                                                                          (R
                                                                                                            (Ending.returned
                                                                                                              (Value.bool
                                                                                                                false))
                                                                                                            w'))
                                                                                      (R
                                                                                        (Ending.returned
                                                                                          (Value.bool false))
                                                                                        w'))))))
theorem law01_WordLaws.vc_eq (a' : Int) (b' : Int) (c' : Int) (w : World) (R : Ending → World → Prop) : fnV Try.prog law01_WordLaws.H 5 [Value.int IntKind.u64 a', Value.int IntKind.u64 b', Value.int IntKind.u64 c'] w R = law01_WordLaws.vc a' b' c' w R := by kernel_rfl
theorem law01_WordLaws.calls {a' : Int} {b' : Int} {c' : Int} {w : World} {R : Ending → World → Prop} (h : law01_WordLaws.vc a' b' c' w R) : Calls Try.prog 5 ([Value.int IntKind.u64 a', Value.int IntKind.u64 b', Value.int IntKind.u64 c'] : List Value).toArray w R := calls_of_eq (law01_WordLaws.vc_eq a' b' c' w R) h

/- function 6: sacristy/sacristylaw01.WordBack -/
abbrev law01_WordBack.N : FuncId := 6
def law01_WordBack.H : Hints := { conds := [(33, [(10, .one (.int .u64))])], lets := [5, 10, 11] }
def law01_WordBack.vc (v' : Int) (n' : Int) (w : World) (R : Ending → World → Prop) : Prop :=
  ∀ (x : Int),
    x = IntKind.i64.wrap (1 + (IntKind.i64.wrap n').tmod 8) →
      Calls Proofs.Try.prog 12 #[Value.int IntKind.u64 v', Value.int IntKind.i64 x] w fun (e : Ending) (w' : World) =>
        ∃ (s : ByteArray),
          ∃ (n : Int),
            e = Ending.returned (Value.tuple #[Value.string s, Value.int IntKind.i64 n]) ∧
              Calls Proofs.Try.prog 14 #[Value.string s] w' fun (e : Ending) (w' : World) =>
                ∃ (n_1 : Int),
                  ∃ (n_2 : Int),
                    e = Ending.returned (Value.tuple #[Value.int IntKind.u64 n_1, Value.int IntKind.i64 n_2]) ∧
                      ∀ (x_2 : Int),
                        x_2 = v' →
                          ∃ (J : List Value → World → Prop),
                            cnd (decide (x < 8))
                                (cnd (decide (IntKind.u64.wrap (IntKind.i64.wrap (8 * x)) < 0)) False
                                  (cnd
                                    (decide
                                      (IntKind.u64.wrap
                                          (1 * 2 ^ min (IntKind.u64.wrap (IntKind.i64.wrap (8 * x))).toNat 64) =
                                        0))
                                    False
                                    (∀ (x_4 : Int),
                                      x_4 =
                                          v'.tmod
                                            (IntKind.u64.wrap
                                              (1 * 2 ^ min (IntKind.u64.wrap (IntKind.i64.wrap (8 * x))).toNat 64)) →
                                        J [Value.int IntKind.u64 x_4] w')))
                                (J [Value.int IntKind.u64 x_2] w') ∧
                              ∀ (g : Nat → Value) (low : Int) (w' : World),
                                J [Value.int IntKind.u64 low] w' →
                                  cnd (n != 0) (R (Ending.returned (Value.bool false)) w')
                                    (cnd (n_2 != 0) (R (Ending.returned (Value.bool false)) w')
                                      (cnd ((↑s.size : Int) != x) (R (Ending.returned (Value.bool false)) w')
                                        (cnd (n_1 != low) (R (Ending.returned (Value.bool false)) w')
                                          (∀ (x : Int),
                                            x = IntKind.i64.wrap (1 + (IntKind.i64.wrap n').tmod 64) →
                                              Calls Proofs.Try.prog 10
                                                #[Value.int IntKind.u64 v', Value.int IntKind.i64 x] w'
                                                fun (e : Ending) (w' : World) =>
                                                ∃ (n : Int),
                                                  ∃ (n_3 : Int),
                                                    e =
                                                        Ending.returned
                                                          (Value.tuple
                                                            #[Value.int IntKind.u64 n, Value.int IntKind.i64 n_3]) ∧
                                                      cnd (n_3 != 0) (R (Ending.returned (Value.bool false)) w')
                                                        (cnd (decide (IntKind.u64.wrap (IntKind.i64.wrap (64 - x)) < 0))
                                                          False
                                                          (cnd (decide (IntKind.u64.wrap (IntKind.i64.wrap (64 - x)) < 0))
                                                            False
                                                            (cnd
                                                              (IntKind.u64.wrap
                                                                  (n *
                                                                    2 ^
                                                                      min
                                                                        (IntKind.u64.wrap
                                                                            (IntKind.i64.wrap (64 - x))).toNat
                                                                        64) !=
                                                                IntKind.u64.wrap
                                                                  (v' *
                                                                    2 ^
                                                                      min
                                                                        (IntKind.u64.wrap
                                                                            (IntKind.i64.wrap (64 - x))).toNat
                                                                        64))
                                                              (R (Ending.returned (Value.bool false)) w')
                                                              (Calls Proofs.Try.prog 16
                                                                #[Value.int IntKind.i64 (IntKind.i64.wrap n),
                                                                  Value.int IntKind.i64 x]
                                                                w' fun (e : Ending) (w' : World) =>
                                                                ∃ (b : Bool),
                                                                  e = Ending.returned (Value.bool b) ∧
                                                                    cnd (!b) (R (Ending.returned (Value.bool false)) w')
                                                                      (Calls Proofs.Try.prog 16
                                                                        #[Value.int IntKind.i64 (IntKind.i64.wrap v'),
                                                                          Value.int IntKind.i64 x]
                                                                        w' fun (e : Ending) (w' : World) =>
                                                                        ∃ (b : Bool),
                                                                          e = Ending.returned (Value.bool b) ∧
                                                                            cnd (!b == (n == v'))
                                                                              (R (Ending.returned (Value.bool false)) w')
                                                                              (Calls Proofs.Try.prog 10
                                                                                #[Value.int IntKind.u64 n,
                                                                                  Value.int IntKind.i64 x]
                                                                                w' fun (e : Ending) (w' : World) =>
                                                                                ∃ (n_4 : Int),
                                                                                  ∃ (n_5 : Int),
                                                                                    e =
                                                                                        Ending.returned
                                                                                          (Value.tuple
                                                                                            #[Value.int IntKind.u64 n_4,
                                                                                              Value.int IntKind.i64
                                                                                                n_5]) ∧
                                                                                      cnd (n_4 == n)
                                                                                        (cnd (n_5 == 0)
                                                                                          (Calls Proofs.Try.prog 9 #[] w'
                                                                                            fun (e : Ending)
                                                                                              (w' : World) =>
                                                                                            ∃ (b : Bool),
                                                                                              e =
                                                                                                  Ending.returned
                                                                                                    (Value.bool b) ∧
                                                                                                R
                                                                                                  (Ending.returned
                                                                                                    (Value.bool b))
                                                                                                  w')
                                                                                          (R
                                                                                            (Ending.returned
                                                                                              (Value.bool false))
                                                                                            w'))
                                                                                        (R
                                                                                          (Ending.returned
                                                                                            (Value.bool false))
                                                                                          w')))))))))))
theorem law01_WordBack.vc_eq (v' : Int) (n' : Int) (w : World) (R : Ending → World → Prop) : fnV Try.prog law01_WordBack.H 6 [Value.int IntKind.u64 v', Value.int IntKind.u8 n'] w R = law01_WordBack.vc v' n' w R := by kernel_rfl
theorem law01_WordBack.calls {v' : Int} {n' : Int} {w : World} {R : Ending → World → Prop} (h : law01_WordBack.vc v' n' w R) : Calls Try.prog 6 ([Value.int IntKind.u64 v', Value.int IntKind.u8 n'] : List Value).toArray w R := calls_of_eq (law01_WordBack.vc_eq v' n' w R) h

end Go.Proofs.Ytoncpheocnjooaa
