/-
The explicit conditions of some functions of the program, printed by this repo's own program over VcTop: what is proved is that each is the condition.
Conditions: none.
-/
import Derived.Test.YtpfnjooddobohaaVcTop
import Derived.Test.YtpfnjooddobohaaProg
namespace Go.Proofs.Ytpfnjooddobohaa
open Go Go.Vc Go.RowKit
set_option linter.unusedVariables false
set_option maxRecDepth 100000

/- function 69: sacristy/sacristyref01.product -/
abbrev ref01_product.N : FuncId := 69
def ref01_product.H : Hints := { loops := [(4, [(6, .one (.int .u64)), (7, .one (.int .u64)), (8, .one (.int .i64))])], lets := [6, 7, 9, 8] }
def ref01_product.vc (a' : Int) (b' : Int) (w : World) (R : Ending → World → Prop) : Prop :=
  ∀ (x : Int),
    x = 0 →
      ∀ (x_2 : Int),
        x_2 = 0 →
          ∀ (x_4 : Int),
            x_4 = 63 →
              ∃ (I : List Value → World → Prop),
                ∃ (μ : List Value → World → Nat),
                  I [Value.int IntKind.u64 x, Value.int IntKind.u64 x_2, Value.int IntKind.i64 x_4] w ∧
                    ∀ (g : Nat → Value) (high low i : Int) (w' : World),
                      I [Value.int IntKind.u64 high, Value.int IntKind.u64 low, Value.int IntKind.i64 i] w' →
                        cnd (decide (i ≥ 0))
                          (∀ (x : Int),
                            x = IntKind.u64.wrap (IntKind.u64.wrap (high * 2) + low.fdiv 9223372036854775808) →
                              ∀ (x_7 : Int),
                                x_7 = IntKind.u64.wrap (low * 2) →
                                  cnd (decide (IntKind.u64.wrap i < 0)) False
                                    (cnd ((b'.fdiv (2 ^ min (IntKind.u64.wrap i).toNat 64)).tmod 2 == 1)
                                      (∀ (x_9 : Int),
                                        x_9 = IntKind.u64.wrap (x_7 + a') →
                                          cnd (decide (x_9 < x_7))
                                            (∀ (x_11 : Int),
                                              x_11 = IntKind.u64.wrap (x + 1) →
                                                ∀ (x : Int),
                                                  x = x_9 →
                                                    ∀ (x_13 : Int),
                                                      x_13 = IntKind.i64.wrap (i - 1) →
                                                        Goes I μ
                                                          [Value.int IntKind.u64 high, Value.int IntKind.u64 low,
                                                            Value.int IntKind.i64 i]
                                                          w'
                                                          [Value.int IntKind.u64 x_11, Value.int IntKind.u64 x,
                                                            Value.int IntKind.i64 x_13]
                                                          w')
                                            (∀ (x_11 : Int),
                                              x_11 = x_9 →
                                                ∀ (x_13 : Int),
                                                  x_13 = IntKind.i64.wrap (i - 1) →
                                                    Goes I μ
                                                      [Value.int IntKind.u64 high, Value.int IntKind.u64 low,
                                                        Value.int IntKind.i64 i]
                                                      w'
                                                      [Value.int IntKind.u64 x, Value.int IntKind.u64 x_11,
                                                        Value.int IntKind.i64 x_13]
                                                      w'))
                                      (∀ (x_9 : Int),
                                        x_9 = IntKind.i64.wrap (i - 1) →
                                          Goes I μ
                                            [Value.int IntKind.u64 high, Value.int IntKind.u64 low,
                                              Value.int IntKind.i64 i]
                                            w'
                                            [Value.int IntKind.u64 x, Value.int IntKind.u64 x_7,
                                              Value.int IntKind.i64 x_9]
                                            w')))
                          (R (Ending.returned (Value.tuple #[Value.int IntKind.u64 high, Value.int IntKind.u64 low])) w')
theorem ref01_product.vc_eq (a' : Int) (b' : Int) (w : World) (R : Ending → World → Prop) : fnV Try.prog ref01_product.H 69 [Value.int IntKind.u64 a', Value.int IntKind.u64 b'] w R = ref01_product.vc a' b' w R := by kernel_rfl
theorem ref01_product.calls {a' : Int} {b' : Int} {w : World} {R : Ending → World → Prop} (h : ref01_product.vc a' b' w R) : Calls Try.prog 69 ([Value.int IntKind.u64 a', Value.int IntKind.u64 b'] : List Value).toArray w R := calls_of_eq (ref01_product.vc_eq a' b' w R) h

/- function 70: sacristy/sacristyref01.divide -/
abbrev ref01_divide.N : FuncId := 70
def ref01_divide.H : Hints := { loops := [(6, [(6, .one (.int .u64)), (7, .one (.int .u64)), (8, .one (.int .i64))])], lets := [9, 7, 6, 8] }
def ref01_divide.vc (a' : Int) (b' : Int) (w : World) (R : Ending → World → Prop) : Prop :=
  cnd (b' == 0)
    (R (Ending.returned (Value.tuple #[Value.int IntKind.u64 18446744073709551615, Value.int IntKind.u64 a'])) w)
    (∀ (x : Int),
      x = 0 →
        ∀ (x_2 : Int),
          x_2 = 0 →
            ∀ (x_4 : Int),
              x_4 = 63 →
                ∃ (I : List Value → World → Prop),
                  ∃ (μ : List Value → World → Nat),
                    I [Value.int IntKind.u64 x, Value.int IntKind.u64 x_2, Value.int IntKind.i64 x_4] w ∧
                      ∀ (g : Nat → Value) (q r i : Int) (w' : World),
                        I [Value.int IntKind.u64 q, Value.int IntKind.u64 r, Value.int IntKind.i64 i] w' →
                          cnd (decide (i ≥ 0))
                            (∀ (t : Bool),
                              t = (r.fdiv 9223372036854775808 == 1) →
                                cnd (decide (IntKind.u64.wrap i < 0)) False
                                  (∀ (x : Int),
                                    x =
                                        IntKind.u64.wrap
                                          (IntKind.u64.wrap (r * 2) +
                                            (a'.fdiv (2 ^ min (IntKind.u64.wrap i).toNat 64)).tmod 2) →
                                      ∀ (x_7 : Int),
                                        x_7 = IntKind.u64.wrap (q * 2) →
                                          cnd t
                                            (∀ (x_9 : Int),
                                              x_9 = IntKind.u64.wrap (x - b') →
                                                ∀ (x : Int),
                                                  x = IntKind.u64.wrap (x_7 + 1) →
                                                    ∀ (x_11 : Int),
                                                      x_11 = IntKind.i64.wrap (i - 1) →
                                                        Goes I μ
                                                          [Value.int IntKind.u64 q, Value.int IntKind.u64 r,
                                                            Value.int IntKind.i64 i]
                                                          w'
                                                          [Value.int IntKind.u64 x, Value.int IntKind.u64 x_9,
                                                            Value.int IntKind.i64 x_11]
                                                          w')
                                            (cnd (decide (x ≥ b'))
                                              (∀ (x_9 : Int),
                                                x_9 = IntKind.u64.wrap (x - b') →
                                                  ∀ (x : Int),
                                                    x = IntKind.u64.wrap (x_7 + 1) →
                                                      ∀ (x_11 : Int),
                                                        x_11 = IntKind.i64.wrap (i - 1) →
                                                          Goes I μ
                                                            [Value.int IntKind.u64 q, Value.int IntKind.u64 r,
                                                              Value.int IntKind.i64 i]
                                                            w'
                                                            [Value.int IntKind.u64 x, Value.int IntKind.u64 x_9,
                                                              Value.int IntKind.i64 x_11]
                                                            w')
                                              (∀ (x_9 : Int),
                                                x_9 = IntKind.i64.wrap (i - 1) →
                                                  Goes I μ
                                                    [Value.int IntKind.u64 q, Value.int IntKind.u64 r,
                                                      Value.int IntKind.i64 i]
                                                    w'
                                                    [Value.int IntKind.u64 x_7, Value.int IntKind.u64 x,
                                                      Value.int IntKind.i64 x_9]
                                                    w'))))
                            (R (Ending.returned (Value.tuple #[Value.int IntKind.u64 q, Value.int IntKind.u64 r])) w'))
theorem ref01_divide.vc_eq (a' : Int) (b' : Int) (w : World) (R : Ending → World → Prop) : fnV Try.prog ref01_divide.H 70 [Value.int IntKind.u64 a', Value.int IntKind.u64 b'] w R = ref01_divide.vc a' b' w R := by kernel_rfl
theorem ref01_divide.calls {a' : Int} {b' : Int} {w : World} {R : Ending → World → Prop} (h : ref01_divide.vc a' b' w R) : Calls Try.prog 70 ([Value.int IntKind.u64 a', Value.int IntKind.u64 b'] : List Value).toArray w R := calls_of_eq (ref01_divide.vc_eq a' b' w R) h

/- function 71: sacristy/sacristyref01.one -/
abbrev ref01_one.N : FuncId := 71
def ref01_one.H : Hints := {  }
def ref01_one.vc (is' : Bool) (w : World) (R : Ending → World → Prop) : Prop :=
  cnd is' (R (Ending.returned (Value.int IntKind.u64 1)) w) (R (Ending.returned (Value.int IntKind.u64 0)) w)
theorem ref01_one.vc_eq (is' : Bool) (w : World) (R : Ending → World → Prop) : fnV Try.prog ref01_one.H 71 [Value.bool is'] w R = ref01_one.vc is' w R := by kernel_rfl
theorem ref01_one.calls {is' : Bool} {w : World} {R : Ending → World → Prop} (h : ref01_one.vc is' w R) : Calls Try.prog 71 ([Value.bool is'] : List Value).toArray w R := calls_of_eq (ref01_one.vc_eq is' w R) h

/- function 47: sacristy/sacristyref01.Op -/
abbrev ref01_Op.N : FuncId := 47
def ref01_Op.H : Hints := {  }
def ref01_Op.vc (fn' : Int) (a' : Int) (b' : Int) (w : World) (R : Ending → World → Prop) : Prop :=
  Calls Proofs.Try.prog 69 #[Value.int IntKind.u64 a', Value.int IntKind.u64 b'] w fun (e : Ending) (w' : World) =>
    ∃ (n : Int),
      ∃ (n_1 : Int),
        e = Ending.returned (Value.tuple #[Value.int IntKind.u64 n, Value.int IntKind.u64 n_1]) ∧
          Calls Proofs.Try.prog 70 #[Value.int IntKind.u64 a', Value.int IntKind.u64 b'] w'
            fun (e : Ending) (w' : World) =>
            ∃ (n_2 : Int),
              ∃ (n_3 : Int),
                e = Ending.returned (Value.tuple #[Value.int IntKind.u64 n_2, Value.int IntKind.u64 n_3]) ∧
                  cnd (fn' == 1)
                    (R
                      (Ending.returned
                        (Value.tuple #[Value.int IntKind.u64 (IntKind.u64.wrap (a' + b')), Value.int IntKind.i64 0]))
                      w')
                    (cnd (fn' == 2)
                      (R
                        (Ending.returned
                          (Value.tuple #[Value.int IntKind.u64 (IntKind.u64.wrap (a' - b')), Value.int IntKind.i64 0]))
                        w')
                      (cnd (fn' == 3)
                        (cnd (decide (b'.tmod 64 < 0)) False
                          (R
                            (Ending.returned
                              (Value.tuple
                                #[Value.int IntKind.u64 (IntKind.u64.wrap (a' * 2 ^ min (b'.tmod 64).toNat 64)),
                                  Value.int IntKind.i64 0]))
                            w'))
                        (cnd (fn' == 4)
                          (Calls Proofs.Try.prog 71
                            #[Value.bool
                                (decide
                                  (bits BinOp.xor IntKind.u64 a' 9223372036854775808 <
                                    bits BinOp.xor IntKind.u64 b' 9223372036854775808))]
                            w' fun (e : Ending) (w' : World) =>
                            ∃ (n : Int),
                              e = Ending.returned (Value.int IntKind.u64 n) ∧
                                R (Ending.returned (Value.tuple #[Value.int IntKind.u64 n, Value.int IntKind.i64 0])) w')
                          (cnd (fn' == 5)
                            (Calls Proofs.Try.prog 71 #[Value.bool (decide (a' < b'))] w' fun (e : Ending) (w' : World) =>
                              ∃ (n : Int),
                                e = Ending.returned (Value.int IntKind.u64 n) ∧
                                  R (Ending.returned (Value.tuple #[Value.int IntKind.u64 n, Value.int IntKind.i64 0]))
                                    w')
                            (cnd (fn' == 6)
                              (R
                                (Ending.returned
                                  (Value.tuple
                                    #[Value.int IntKind.u64 (bits BinOp.xor IntKind.u64 a' b'), Value.int IntKind.i64 0]))
                                w')
                              (cnd (fn' == 7)
                                (cnd (decide (b'.tmod 64 < 0)) False
                                  (R
                                    (Ending.returned
                                      (Value.tuple
                                        #[Value.int IntKind.u64 (a'.fdiv (2 ^ min (b'.tmod 64).toNat 64)),
                                          Value.int IntKind.i64 0]))
                                    w'))
                                (cnd (fn' == 8)
                                  (cnd (decide (a' < 9223372036854775808))
                                    (cnd (decide (b'.tmod 64 < 0)) False
                                      (R
                                        (Ending.returned
                                          (Value.tuple
                                            #[Value.int IntKind.u64 (a'.fdiv (2 ^ min (b'.tmod 64).toNat 64)),
                                              Value.int IntKind.i64 0]))
                                        w'))
                                    (cnd (decide (b'.tmod 64 < 0)) False
                                      (R
                                        (Ending.returned
                                          (Value.tuple
                                            #[Value.int IntKind.u64
                                                (bits BinOp.xor IntKind.u64 IntKind.u64.max
                                                  ((bits BinOp.xor IntKind.u64 IntKind.u64.max a').fdiv
                                                    (2 ^ min (b'.tmod 64).toNat 64))),
                                              Value.int IntKind.i64 0]))
                                        w')))
                                  (cnd (fn' == 9)
                                    (R
                                      (Ending.returned
                                        (Value.tuple
                                          #[Value.int IntKind.u64 (bits BinOp.or IntKind.u64 a' b'),
                                            Value.int IntKind.i64 0]))
                                      w')
                                    (cnd (fn' == 10)
                                      (R
                                        (Ending.returned
                                          (Value.tuple
                                            #[Value.int IntKind.u64 (bits BinOp.and IntKind.u64 a' b'),
                                              Value.int IntKind.i64 0]))
                                        w')
                                      (cnd (fn' == 11)
                                        (R
                                          (Ending.returned
                                            (Value.tuple #[Value.int IntKind.u64 n_1, Value.int IntKind.i64 0]))
                                          w')
                                        (cnd (fn' == 12)
                                          (R
                                            (Ending.returned
                                              (Value.tuple #[Value.int IntKind.u64 n, Value.int IntKind.i64 0]))
                                            w')
                                          (cnd (fn' == 13)
                                            (R
                                              (Ending.returned
                                                (Value.tuple #[Value.int IntKind.u64 n_2, Value.int IntKind.i64 0]))
                                              w')
                                            (cnd (fn' == 14)
                                              (R
                                                (Ending.returned
                                                  (Value.tuple #[Value.int IntKind.u64 n_3, Value.int IntKind.i64 0]))
                                                w')
                                              (R
                                                (Ending.returned
                                                  (Value.tuple #[Value.int IntKind.u64 0, Value.int IntKind.i64 2]))
                                                w'))))))))))))))
theorem ref01_Op.vc_eq (fn' : Int) (a' : Int) (b' : Int) (w : World) (R : Ending → World → Prop) : fnV Try.prog ref01_Op.H 47 [Value.int IntKind.u8 fn', Value.int IntKind.u64 a', Value.int IntKind.u64 b'] w R = ref01_Op.vc fn' a' b' w R := by kernel_rfl
theorem ref01_Op.calls {fn' : Int} {a' : Int} {b' : Int} {w : World} {R : Ending → World → Prop} (h : ref01_Op.vc fn' a' b' w R) : Calls Try.prog 47 ([Value.int IntKind.u8 fn', Value.int IntKind.u64 a', Value.int IntKind.u64 b'] : List Value).toArray w R := calls_of_eq (ref01_Op.vc_eq fn' a' b' w R) h

end Go.Proofs.Ytpfnjooddobohaa
