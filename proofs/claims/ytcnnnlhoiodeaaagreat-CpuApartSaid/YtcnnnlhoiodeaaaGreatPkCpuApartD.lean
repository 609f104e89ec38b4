/-
Texts of this claim, merged: Vcpuh, Vcpu, Vref03, VcRange, Vdisasg, Vdisas, Vdisasn, Dis, DisD, Ref03D, DecF, VcGrow, VcRows, VcKept, MemP, MemQ, Word, CpuP, Vmem.
Conditions: each theorem's own.
-/
import Derived.Test.YtcnnnlhoiodeaaaGreatPkCpuApartC
import Derived.Test.YtcnnnlhoiodeaaaGreatProg
import Derived.RangeFuncNested
import Derived.RangeFuncLeaves
import Derived.RangeFuncFrom
import Derived.Laws.CopyRow
import Derived.Laws.CopyOwn
import Derived.Deep.Upon
import Derived.Lib.BufferWrite
set_option linter.unusedSimpArgs false
set_option linter.unnecessarySimpa false
set_option linter.unusedVariables false
set_option linter.unusedSectionVars false

/-
The explicit conditions of some functions of the program, printed by this repo's own program over VcTop: what is proved is that each is the condition.
Conditions: none.
-/
namespace Go.Proofs.YtcnnnlhoiodeaaaGreat
open Go Go.Vc Go.RowKit
set_option maxRecDepth 100000

/- function 111: (*sacristy/cpu.Cpu).ofTwo -/
abbrev sacristy_cpu_Cpu_ofTwo.N : FuncId := 111
def sacristy_cpu_Cpu_ofTwo.H : Hints := { regs := [(0, [(17, .one .bool)]), (2, [])], mixes := [(1, 1001), (3, 1001)] }
def sacristy_cpu_Cpu_ofTwo.vc (c' y' : Option Addr) (w : World) (R : Ending → World → Prop) : Prop := ∃ (J : List Value → World → Prop),
(Deref y' fun a =>
∃ (n : Int),
w.cell? a = some (.int .u8 n) ∧
cnd (n == 13) (J [.bool true] w) (Deref y' fun a =>
∃ (n : Int), w.cell? a = some (.int .u8 n) ∧ J [.bool (n == 14)] w)) ∧
∀ (g : Nat → Value) (s17 : Bool) (w' : World),
J [.bool s17] w' →
cnd s17 (∃ (C : World → Prop),
(∀ (w'_1 : World), Later w' w'_1 → C w'_1) ∧
∀ w'_1, Later w' w'_1 →
Deref y' fun a =>
∃ (n : Int),
(∀ (w' : World), C w' → w'.cell? (a.add 5) = some (.int .u64 n)) ∧
Deref y' fun a =>
∃ (n_1 : Int),
(∀ (w' : World), C w' → w'.cell? (a.add 7) = some (.int .u64 n_1)) ∧
Deref y' fun a =>
((w'_1.cell? ((a.add 9).add 1)).isSome = true ∧
w'_1.frozen? ((a.add 9).add 1) = false) ∧
∀ w', w' = w'_1.setCell ((a.add 9).add 1) (.int .u8 4) →
C w' ∧
Deref y' fun a =>
((w'.cell? ((a.add 9).add 2)).isSome = true ∧
w'.frozen? ((a.add 9).add 2) = false) ∧
∀ w'_2, w'_2 = w'.setCell ((a.add 9).add 2) (.int .u64 n) →
C w'_2 ∧
Deref y' fun a =>
((w'_2.cell? ((a.add 9).add 3)).isSome = true ∧
w'_2.frozen? ((a.add 9).add 3) = false) ∧
∀ w', w' = w'_2.setCell ((a.add 9).add 3) (.int .u64 n_1) →
∃ (J : List Value → World → Prop),
(Deref y' fun a =>
∃ (b : Bool),
w'.cell? ((a.add 5).add 1) = some (.bool b) ∧
cnd b (Deref y' fun a =>
((w'.cell? ((a.add 9).add 4)).isSome = true ∧
w'.frozen? ((a.add 9).add 4) = false) ∧
∀ w'_3, w'_3 = w'.setCell ((a.add 9).add 4) (.bool true) →
J [] w'_3) (Deref y' fun a =>
∃ (b : Bool),
w'.cell? ((a.add 7).add 1) = some (.bool b) ∧
Deref y' fun a =>
((w'.cell? ((a.add 9).add 4)).isSome = true ∧
w'.frozen? ((a.add 9).add 4) = false) ∧
∀ w'_3, w'_3 = w'.setCell ((a.add 9).add 4) (.bool b) →
J [] w'_3)) ∧
∀ (g : Nat → Value) (w' : World),
J [] w' →
∃ (C : World → Prop),
(∀ (w'_3 : World), Later w' w'_3 → C w'_3) ∧
∀ w'_3, Later w' w'_3 →
Deref y' fun a =>
∃ (n : Int),
(∀ w', C w' →
w'.cell? (a.add 1) = some (.int .u8 n)) ∧
Deref y' fun a =>
∃ (n_2 : Int),
(∀ w', C w' →
w'.cell? a = some (.int .u8 n_2)) ∧
Deref y' fun a =>
∃ (n_3 : Int) (b : Bool),
(∀ w', C w' →
w'.cell? (a.add 5) = some (.int .u64 n_3) ∧
w'.cell? ((a.add 5).add 1) = some (.bool b) ∧
True) ∧
Deref y' fun a =>
∃ (n_4 : Int) (b_1 : Bool),
(∀ w', C w' →
w'.cell? (a.add 7) = some (.int .u64 n_4) ∧
w'.cell? ((a.add 7).add 1) = some (.bool b_1) ∧
True) ∧
Calls Tryz.prog 132 #[.int .u8 n_2,
Value.agg #[.int .u64 n_3,
Value.bool b],
Value.agg #[.int .u64 n_4,
Value.bool b_1]] w'_3 fun e w' =>
∃ (n_5 : Int) (b : Bool),
e = .returned (.agg #[.int .u64 n_5,
Value.bool b]) ∧
C w' ∧
Calls Tryz.prog 47 #[.pointer c',
Value.int .u8 n,
Value.agg #[.int .u64 n_5,
Value.bool b]] w' fun e w' =>
e = .returned (.tuple #[]) ∧
C w' ∧
R (.returned (.tuple #[])) w') (∃ (C : World → Prop),
(∀ (w'_1 : World), Later w' w'_1 → C w'_1) ∧
∀ w'_1, Later w' w'_1 →
Deref y' fun a =>
∃ (n : Int),
(∀ (w' : World), C w' → w'.cell? (a.add 1) = some (.int .u8 n)) ∧
Deref y' fun a =>
∃ (n_1 : Int),
(∀ (w' : World), C w' → w'.cell? a = some (.int .u8 n_1)) ∧
Deref y' fun a =>
∃ (n_2 : Int) (b : Bool),
(∀ w', C w' →
w'.cell? (a.add 5) = some (.int .u64 n_2) ∧
w'.cell? ((a.add 5).add 1) = some (.bool b) ∧ True) ∧
Deref y' fun a =>
∃ (n_3 : Int) (b_1 : Bool),
(∀ w', C w' →
w'.cell? (a.add 7) = some (.int .u64 n_3) ∧
w'.cell? ((a.add 7).add 1) = some (.bool b_1) ∧ True) ∧
Calls Tryz.prog 132 #[.int .u8 n_1,
Value.agg #[.int .u64 n_2, .bool b],
Value.agg #[.int .u64 n_3, .bool b_1]] w'_1 fun e w' =>
∃ (n_4 : Int) (b : Bool),
e = .returned (.agg #[.int .u64 n_4, .bool b]) ∧
C w' ∧
Calls Tryz.prog 47 #[.pointer c', .int .u8 n,
Value.agg #[.int .u64 n_4, .bool b]] w' fun e w' =>
e = .returned (.tuple #[]) ∧
C w' ∧ R (.returned (.tuple #[])) w')
theorem sacristy_cpu_Cpu_ofTwo.calls {c' y' : Option Addr} {w : World} {R : Ending → World → Prop} (h : sacristy_cpu_Cpu_ofTwo.vc c' y' w R) : Calls Tryz.prog 111 ([.pointer c', .pointer y'] : List Value).toArray w R := calls_of_eq (show fnV Tryz.prog sacristy_cpu_Cpu_ofTwo.H 111 [.pointer c', .pointer y'] w R = _ from by kernel_rfl) h

/- function 112: (*sacristy/cpu.Cpu).ofNumber -/
abbrev sacristy_cpu_Cpu_ofNumber.N : FuncId := 112
def sacristy_cpu_Cpu_ofNumber.H : Hints := { mixes := [(1, 1001)] }
def sacristy_cpu_Cpu_ofNumber.vc (c' y' : Option Addr) (w : World) (R : Ending → World → Prop) : Prop := ∀ w', w' = w.alloc (Obj.cells #[.int .u8 0, .int .u8 0, .int .u8 0, .int .u8 0,
Value.int .u8 0, .int .u8 0, .int .u8 0, .int .u8 0] 191) →
SetsAt w' (Addr.mk w.heap.size 0 none) 0 [.int .u8 1, .int .u8 5, .int .u8 6, .int .u8 9,
Value.int .u8 10, .int .u8 3, .int .u8 7, .int .u8 8] ∧
∀ w'_1, w'_1 = setCellsAt w' (Addr.mk w.heap.size 0 none) 0 [.int .u8 1, .int .u8 5, .int .u8 6, .int .u8 9,
Value.int .u8 10, .int .u8 3, .int .u8 7, .int .u8 8] →
∃ (C : World → Prop),
(∀ (w' : World), Later w'_1 w' → C w') ∧
∀ w', Later w'_1 w' →
Deref y' fun a =>
∃ (n : Int),
(∀ (w' : World), C w' → w'.cell? (a.add 1) = some (.int .u8 n)) ∧
Deref y' fun a =>
∃ (n_1 : Int),
(∀ (w' : World), C w' → w'.cell? a = some (.int .u8 n_1)) ∧
(0 ≤ IntKind.u8.wrap (n_1 - 15) ∧ IntKind.u8.wrap (n_1 - 15) < 8) ∧
∃ (n_2 : Int),
(∀ w', C w' →
w'.cell? ((Addr.mk w.heap.size 0 none).add ((IntKind.u8.wrap (n_1 - 15)).toNat * 1)) = some (.int .u8 n_2)) ∧
Deref y' fun a =>
∃ (n_3 : Int) (b : Bool),
(∀ w', C w' →
w'.cell? (a.add 5) = some (.int .u64 n_3) ∧
w'.cell? ((a.add 5).add 1) = some (.bool b) ∧ True) ∧
Calls Tryz.prog 133 #[.pointer y'] w' fun e w' =>
∃ (n_4 : Int) (b_1 : Bool),
e = .returned (.agg #[.int .u64 n_4, .bool b_1]) ∧
C w' ∧
Calls Tryz.prog 132 #[.int .u8 n_2,
Value.agg #[.int .u64 n_3, .bool b],
Value.agg #[.int .u64 n_4, .bool b_1]] w' fun e w' =>
∃ (n_5 : Int) (b : Bool),
e = .returned (.agg #[.int .u64 n_5, .bool b]) ∧
C w' ∧
Calls Tryz.prog 47 #[.pointer c', .int .u8 n,
Value.agg #[.int .u64 n_5, .bool b]] w' fun e w' =>
e = .returned (.tuple #[]) ∧
C w' ∧ R (.returned (.tuple #[])) w'
theorem sacristy_cpu_Cpu_ofNumber.calls {c' y' : Option Addr} {w : World} {R : Ending → World → Prop} (h : sacristy_cpu_Cpu_ofNumber.vc c' y' w R) : Calls Tryz.prog 112 ([.pointer c', .pointer y'] : List Value).toArray w R := calls_of_eq (show fnV Tryz.prog sacristy_cpu_Cpu_ofNumber.H 112 [.pointer c', .pointer y'] w R = _ from by kernel_rfl) h

/- function 113: (*sacristy/cpu.Cpu).lui -/
abbrev sacristy_cpu_Cpu_lui.N : FuncId := 113
def sacristy_cpu_Cpu_lui.H : Hints := { mixes := [(0, 1001)] }
def sacristy_cpu_Cpu_lui.vc (c' y' : Option Addr) (w : World) (R : Ending → World → Prop) : Prop := ∃ (C : World → Prop),
(∀ (w' : World), Later w w' → C w') ∧
∀ w', Later w w' →
Deref y' fun a =>
∃ (n : Int),
(∀ (w' : World), C w' → w'.cell? (a.add 1) = some (.int .u8 n)) ∧
Calls Tryz.prog 133 #[.pointer y'] w' fun e w' =>
∃ (n_1 : Int) (b : Bool),
e = .returned (.agg #[.int .u64 n_1, .bool b]) ∧
C w' ∧
Calls Tryz.prog 47 #[.pointer c', .int .u8 n,
Value.agg #[.int .u64 n_1, .bool b]] w' fun e w' =>
e = .returned (.tuple #[]) ∧ C w' ∧ R (.returned (.tuple #[])) w'
theorem sacristy_cpu_Cpu_lui.calls {c' y' : Option Addr} {w : World} {R : Ending → World → Prop} (h : sacristy_cpu_Cpu_lui.vc c' y' w R) : Calls Tryz.prog 113 ([.pointer c', .pointer y'] : List Value).toArray w R := calls_of_eq (show fnV Tryz.prog sacristy_cpu_Cpu_lui.H 113 [.pointer c', .pointer y'] w R = _ from by kernel_rfl) h

/- function 114: (*sacristy/cpu.Cpu).load -/
abbrev sacristy_cpu_Cpu_load.N : FuncId := 114
def sacristy_cpu_Cpu_load.H : Hints := { mixes := [(0, 1001), (2, 1001)], pan := true }
def sacristy_cpu_Cpu_load.vc (c' y' : Option Addr) (w : World) (R : Ending → World → Prop) : Prop := ∃ (C : World → Prop),
(∀ (w' : World), Later w w' → C w') ∧
∀ w', Later w w' →
Deref c' fun a =>
∃ (p : Option Addr),
(∀ (w' : World), C w' → w'.cell? a = some (.pointer p)) ∧
Calls Tryz.prog 135 #[.pointer y', .int .u8 2] w' fun e w' =>
(∃ (n : Int),
e = .returned (.int .u64 n) ∧
C w' ∧
Calls Tryz.prog 136 #[.pointer y'] w' fun e w' =>
(∃ (n_1 : Int),
e = .returned (.int .i64 n_1) ∧
C w' ∧
Calls Tryz.prog 134 #[.pointer p, .int .u64 n, .int .i64 n_1] w' fun e w' =>
(∃ (n_2 : Int) (b : Bool) (n_3 : Int),
e = .returned (.tuple #[.int .u64 n_2, .bool b,
Value.int .i64 n_3]) ∧
C w' ∧
Calls Tryz.prog 39 #[.int .i64 n_3] w' fun e w' =>
(e = .returned (.tuple #[]) ∧
∃ (C : World → Prop),
(∀ (w'_1 : World), Later w' w'_1 → C w'_1) ∧
∀ w'_1, Later w' w'_1 →
Deref y' fun (a_2 : Addr) =>
∃ (n_4 : Int),
(∀ w', C w' →
w'.cell? (a_2.add 1) = some (.int .u8 n_4)) ∧
cnd b (Calls Tryz.prog 47 #[.pointer c', .int .u8 n_4,
Value.agg #[.int .u64 n_2,
Value.bool true]] w'_1 fun e w' =>
e = .returned (.tuple #[]) ∧
C w' ∧
R (.returned (.tuple #[])) w' ∨ ∃ (c : List PanicEntry),
e = Ending.panicked c ∧
Blind [22, 23, 24, 25, 26, 27, 28, 29, 30, 31,
32, 33, 34, 35, 36, 37, 38] [.pointer c', .pointer y',
Value.tuple #[], .tuple #[],
Value.int .u64 n_2,
Value.bool b,
Value.int .i64 n_3,
Value.tuple #[.int .u64 n_2,
Value.bool b,
Value.int .i64 n_3],
Value.pointer c',
Value.pointer (some a),
Value.pointer (some a),
Value.pointer p, .pointer y',
Value.int .u64 n,
Value.pointer y',
Value.int .i64 n_1,
Value.tuple #[.int .u64 n_2,
Value.bool b,
Value.int .i64 n_3],
Value.int .u64 n_2,
Value.bool b,
Value.int .i64 n_3,
Value.int .i64 n_3,
Value.tuple #[], .tuple #[],
Value.tuple #[], .tuple #[],
Value.tuple #[], .tuple #[],
Value.tuple #[], .tuple #[],
Value.tuple #[], .tuple #[],
Value.tuple #[], .tuple #[],
Value.tuple #[], .tuple #[],
Value.tuple #[], .tuple #[],
Value.tuple #[], .tuple #[]] fun (tm' : List Value) =>
R (Ending.panicked c) w') (Deref y' fun (a_3 : Addr) =>
∃ (b_1 : Bool),
(∀ w', C w' →
w'.cell? ((a_3.add 5).add 1) = some (.bool b_1)) ∧
Calls Tryz.prog 47 #[.pointer c',
Value.int .u8 n_4,
Value.agg #[.int .u64 n_2,
Value.bool b_1]] w'_1 fun e w' =>
e = .returned (.tuple #[]) ∧
C w' ∧
R (.returned (.tuple #[])) w' ∨ ∃ (c : List PanicEntry),
e = Ending.panicked c ∧
Blind [22, 23, 24, 25, 26, 27, 28, 29,
30, 31, 32, 33, 34, 35, 36, 37,
38] [.pointer c',
Value.pointer y',
Value.tuple #[],
Value.tuple #[],
Value.int .u64 n_2,
Value.bool b,
Value.int .i64 n_3,
Value.tuple #[.int .u64 n_2,
Value.bool b,
Value.int .i64 n_3],
Value.pointer c',
Value.pointer (some a),
Value.pointer (some a),
Value.pointer p,
Value.pointer y',
Value.int .u64 n,
Value.pointer y',
Value.int .i64 n_1,
Value.tuple #[.int .u64 n_2,
Value.bool b,
Value.int .i64 n_3],
Value.int .u64 n_2,
Value.bool b,
Value.int .i64 n_3,
Value.int .i64 n_3,
Value.tuple #[],
Value.tuple #[],
Value.tuple #[],
Value.tuple #[],
Value.tuple #[],
Value.tuple #[],
Value.tuple #[],
Value.tuple #[],
Value.tuple #[],
Value.tuple #[],
Value.tuple #[],
Value.tuple #[],
Value.tuple #[],
Value.tuple #[],
Value.tuple #[],
Value.tuple #[],
Value.tuple #[],
Value.tuple #[]] fun (tm' : List Value) =>
R (Ending.panicked c) w')) ∨ ∃ (c : List PanicEntry),
e = Ending.panicked c ∧ R (Ending.panicked c) w') ∨ ∃ (c : List PanicEntry),
e = Ending.panicked c ∧
Blind [8, 9, 10, 11, 12, 13, 14, 15, 16, 7, 17, 18, 19, 4, 5, 6] [.pointer c', .pointer y', .tuple #[], .tuple #[],
Value.tuple #[], .tuple #[], .tuple #[], .tuple #[],
Value.tuple #[], .tuple #[], .tuple #[], .tuple #[],
Value.tuple #[], .tuple #[], .tuple #[], .tuple #[],
Value.tuple #[], .tuple #[], .tuple #[], .tuple #[],
Value.tuple #[], .tuple #[], .tuple #[], .tuple #[],
Value.tuple #[], .tuple #[], .tuple #[], .tuple #[],
Value.tuple #[], .tuple #[], .tuple #[], .tuple #[],
Value.tuple #[], .tuple #[], .tuple #[], .tuple #[],
Value.tuple #[], .tuple #[], .tuple #[]] fun (tm' : List Value) => R (Ending.panicked c) w') ∨ ∃ (c : List PanicEntry),
e = Ending.panicked c ∧
Blind [8, 9, 10, 11, 12, 13, 14, 15, 16, 7, 17, 18, 19, 4, 5, 6] [.pointer c', .pointer y', .tuple #[], .tuple #[],
Value.tuple #[], .tuple #[], .tuple #[], .tuple #[], .tuple #[],
Value.tuple #[], .tuple #[], .tuple #[], .tuple #[], .tuple #[],
Value.tuple #[], .tuple #[], .tuple #[], .tuple #[], .tuple #[],
Value.tuple #[], .tuple #[], .tuple #[], .tuple #[], .tuple #[],
Value.tuple #[], .tuple #[], .tuple #[], .tuple #[], .tuple #[],
Value.tuple #[], .tuple #[], .tuple #[], .tuple #[], .tuple #[],
Value.tuple #[], .tuple #[], .tuple #[], .tuple #[], .tuple #[]] fun (tm' : List Value) => R (Ending.panicked c) w') ∨ ∃ (c : List PanicEntry),
e = Ending.panicked c ∧
Blind [8, 9, 10, 11, 12, 13, 14, 15, 16, 7, 17, 18, 19, 4, 5, 6] [.pointer c', .pointer y', .tuple #[], .tuple #[], .tuple #[],
Value.tuple #[], .tuple #[], .tuple #[], .tuple #[], .tuple #[],
Value.tuple #[], .tuple #[], .tuple #[], .tuple #[], .tuple #[],
Value.tuple #[], .tuple #[], .tuple #[], .tuple #[], .tuple #[],
Value.tuple #[], .tuple #[], .tuple #[], .tuple #[], .tuple #[],
Value.tuple #[], .tuple #[], .tuple #[], .tuple #[], .tuple #[],
Value.tuple #[], .tuple #[], .tuple #[], .tuple #[], .tuple #[],
Value.tuple #[], .tuple #[], .tuple #[], .tuple #[]] fun (tm' : List Value) => R (Ending.panicked c) w'
theorem sacristy_cpu_Cpu_load.calls {c' y' : Option Addr} {w : World} {R : Ending → World → Prop} (h : sacristy_cpu_Cpu_load.vc c' y' w R) : Calls Tryz.prog 114 ([.pointer c', .pointer y'] : List Value).toArray w R := calls_of_eq (show fnV Tryz.prog sacristy_cpu_Cpu_load.H 114 [.pointer c', .pointer y'] w R = _ from by kernel_rfl) h

/- function 115: (*sacristy/cpu.Cpu).store -/
abbrev sacristy_cpu_Cpu_store.N : FuncId := 115
def sacristy_cpu_Cpu_store.H : Hints := { mixes := [(0, 1001)], pan := true }
def sacristy_cpu_Cpu_store.vc (c' y' : Option Addr) (w : World) (R : Ending → World → Prop) : Prop := ∃ (C : World → Prop),
(∀ (w' : World), Later w w' → C w') ∧
∀ w', Later w w' →
Deref c' fun a =>
∃ (p : Option Addr),
(∀ (w' : World), C w' → w'.cell? a = some (.pointer p)) ∧
Deref y' fun a =>
∃ (n : Int),
(∀ (w' : World), C w' → w'.cell? (a.add 7) = some (.int .u64 n)) ∧
Deref y' fun a =>
∃ (b : Bool),
(∀ (w' : World), C w' → w'.cell? ((a.add 5).add 1) = some (.bool b)) ∧
Calls Tryz.prog 135 #[.pointer y', .int .u8 3] w' fun e w' =>
(∃ (n_1 : Int),
e = .returned (.int .u64 n_1) ∧
C w' ∧
Calls Tryz.prog 136 #[.pointer y'] w' fun e w' =>
(∃ (n_2 : Int),
e = .returned (.int .i64 n_2) ∧
C w' ∧
cnd b (Calls Tryz.prog 137 #[.pointer p, .int .u64 n_1,
Value.int .i64 n_2, .int .u64 n, .bool true] w' fun e w' =>
(∃ (n : Int),
e = .returned (.int .i64 n) ∧
C w' ∧
Calls Tryz.prog 39 #[.int .i64 n] w' fun e w' =>
e = .returned (.tuple #[]) ∧
C w' ∧ R (.returned (.tuple #[])) w' ∨ ∃ (c : List PanicEntry),
e = Ending.panicked c ∧
Blind [4, 5, 6, 7, 8, 9, 10, 11, 12, 13, 14, 15, 16, 17,
18, 19, 20, 21, 22, 23, 24, 25, 26, 27, 28, 29,
30] [.pointer c', .pointer y',
Value.tuple #[], .tuple #[], .tuple #[],
Value.tuple #[], .tuple #[], .tuple #[],
Value.tuple #[], .tuple #[], .tuple #[],
Value.tuple #[], .tuple #[], .tuple #[],
Value.tuple #[], .tuple #[], .tuple #[],
Value.tuple #[], .tuple #[], .tuple #[],
Value.tuple #[], .tuple #[], .tuple #[],
Value.tuple #[], .tuple #[], .tuple #[],
Value.tuple #[], .tuple #[], .tuple #[],
Value.tuple #[], .tuple #[]] fun (tm' : List Value) =>
R (Ending.panicked c) w') ∨ ∃ (c : List PanicEntry),
e = Ending.panicked c ∧
Blind [4, 5, 6, 7, 8, 9, 10, 11, 12, 13, 14, 15, 16, 17, 18, 19, 20,
21, 22, 23, 24, 25, 26, 27, 28, 29, 30] [.pointer c', .pointer y', .tuple #[],
Value.tuple #[], .tuple #[], .tuple #[],
Value.tuple #[], .tuple #[], .tuple #[],
Value.tuple #[], .tuple #[], .tuple #[],
Value.tuple #[], .tuple #[], .tuple #[],
Value.tuple #[], .tuple #[], .tuple #[],
Value.tuple #[], .tuple #[], .tuple #[],
Value.tuple #[], .tuple #[], .tuple #[],
Value.tuple #[], .tuple #[], .tuple #[],
Value.tuple #[], .tuple #[], .tuple #[],
Value.tuple #[]] fun (tm' : List Value) => R (Ending.panicked c) w') (Deref y' fun a =>
∃ (b : Bool),
(∀ w', C w' → w'.cell? ((a.add 7).add 1) = some (.bool b)) ∧
Calls Tryz.prog 137 #[.pointer p, .int .u64 n_1,
Value.int .i64 n_2, .int .u64 n,
Value.bool b] w' fun e w' =>
(∃ (n : Int),
e = .returned (.int .i64 n) ∧
C w' ∧
Calls Tryz.prog 39 #[.int .i64 n] w' fun e w' =>
e = .returned (.tuple #[]) ∧
C w' ∧ R (.returned (.tuple #[])) w' ∨ ∃ (c : List PanicEntry),
e = Ending.panicked c ∧
Blind [4, 5, 6, 7, 8, 9, 10, 11, 12, 13, 14, 15, 16,
17, 18, 19, 20, 21, 22, 23, 24, 25, 26, 27,
28, 29, 30] [.pointer c', .pointer y',
Value.tuple #[], .tuple #[],
Value.tuple #[], .tuple #[],
Value.tuple #[], .tuple #[],
Value.tuple #[], .tuple #[],
Value.tuple #[], .tuple #[],
Value.tuple #[], .tuple #[],
Value.tuple #[], .tuple #[],
Value.tuple #[], .tuple #[],
Value.tuple #[], .tuple #[],
Value.tuple #[], .tuple #[],
Value.tuple #[], .tuple #[],
Value.tuple #[], .tuple #[],
Value.tuple #[], .tuple #[],
Value.tuple #[], .tuple #[],
Value.tuple #[]] fun (tm' : List Value) =>
R (Ending.panicked c) w') ∨ ∃ (c : List PanicEntry),
e = Ending.panicked c ∧
Blind [4, 5, 6, 7, 8, 9, 10, 11, 12, 13, 14, 15, 16, 17, 18,
19, 20, 21, 22, 23, 24, 25, 26, 27, 28, 29, 30] [.pointer c', .pointer y', .tuple #[],
Value.tuple #[], .tuple #[], .tuple #[],
Value.tuple #[], .tuple #[], .tuple #[],
Value.tuple #[], .tuple #[], .tuple #[],
Value.tuple #[], .tuple #[], .tuple #[],
Value.tuple #[], .tuple #[], .tuple #[],
Value.tuple #[], .tuple #[], .tuple #[],
Value.tuple #[], .tuple #[], .tuple #[],
Value.tuple #[], .tuple #[], .tuple #[],
Value.tuple #[], .tuple #[], .tuple #[],
Value.tuple #[]] fun (tm' : List Value) => R (Ending.panicked c) w')) ∨ ∃ (c : List PanicEntry),
e = Ending.panicked c ∧
Blind [4, 5, 6, 7, 8, 9, 10, 11, 12, 13, 14, 15, 16, 17, 18, 19, 20, 21, 22, 23,
24, 25, 26, 27, 28, 29, 30] [.pointer c', .pointer y', .tuple #[], .tuple #[],
Value.tuple #[], .tuple #[], .tuple #[], .tuple #[],
Value.tuple #[], .tuple #[], .tuple #[], .tuple #[],
Value.tuple #[], .tuple #[], .tuple #[], .tuple #[],
Value.tuple #[], .tuple #[], .tuple #[], .tuple #[],
Value.tuple #[], .tuple #[], .tuple #[], .tuple #[],
Value.tuple #[], .tuple #[], .tuple #[], .tuple #[],
Value.tuple #[], .tuple #[], .tuple #[]] fun (tm' : List Value) => R (Ending.panicked c) w') ∨ ∃ (c : List PanicEntry),
e = Ending.panicked c ∧
Blind [4, 5, 6, 7, 8, 9, 10, 11, 12, 13, 14, 15, 16, 17, 18, 19, 20, 21, 22, 23, 24, 25,
26, 27, 28, 29, 30] [.pointer c', .pointer y', .tuple #[], .tuple #[],
Value.tuple #[], .tuple #[], .tuple #[], .tuple #[],
Value.tuple #[], .tuple #[], .tuple #[], .tuple #[],
Value.tuple #[], .tuple #[], .tuple #[], .tuple #[],
Value.tuple #[], .tuple #[], .tuple #[], .tuple #[],
Value.tuple #[], .tuple #[], .tuple #[], .tuple #[],
Value.tuple #[], .tuple #[], .tuple #[], .tuple #[],
Value.tuple #[], .tuple #[], .tuple #[]] fun (tm' : List Value) => R (Ending.panicked c) w'
theorem sacristy_cpu_Cpu_store.calls {c' y' : Option Addr} {w : World} {R : Ending → World → Prop} (h : sacristy_cpu_Cpu_store.vc c' y' w R) : Calls Tryz.prog 115 ([.pointer c', .pointer y'] : List Value).toArray w R := calls_of_eq (show fnV Tryz.prog sacristy_cpu_Cpu_store.H 115 [.pointer c', .pointer y'] w R = _ from by kernel_rfl) h

/- function 116: (*sacristy/cpu.Cpu).branch -/
abbrev sacristy_cpu_Cpu_branch.N : FuncId := 116
def sacristy_cpu_Cpu_branch.H : Hints := { regs := [(0, []), (1, [(4, .one .map)])], tails := [(3, 15)], mixes := [(1, 1002)] }
def sacristy_cpu_Cpu_branch.vc (c' : Option Addr) (y' : Option Addr) (w : World) (R : Ending → World → Prop) : Prop :=
  ∃ (J : List Value → World → Prop),
  (Deref y' fun (a : Addr) =>
  ∃ (b : Bool),
  w.cell? ((a.add 5).add 1) = some (Value.bool b) ∧
  cnd b
  (Deref y' fun (a : Addr) =>
  ((w.cell? ((a.add 9).add 4)).isSome = true ∧ w.frozen? ((a.add 9).add 4) = false) ∧
  ∀ (w' : World), w' = w.setCell ((a.add 9).add 4) (Value.bool true) → J [] w')
  (Deref y' fun (a : Addr) =>
  ∃ (b : Bool),
  w.cell? ((a.add 7).add 1) = some (Value.bool b) ∧
  Deref y' fun (a : Addr) =>
  ((w.cell? ((a.add 9).add 4)).isSome = true ∧ w.frozen? ((a.add 9).add 4) = false) ∧
  ∀ (w' : World), w' = w.setCell ((a.add 9).add 4) (Value.bool b) → J [] w')) ∧
  ∀ (g : Nat → Value) (w' : World),
  J [] w' →
  ∃ (J : List Value → World → Prop),
  (∃ (C : World → Prop),
  (∀ (w'_1 : World), Later w' w'_1 → C w'_1) ∧
  ∀ (w'_1 : World),
  Later w' w'_1 →
  Deref y' fun (a : Addr) =>
  ∃ (n : Int),
  (∀ (w' : World), C w' → w'.cell? (a.add 5) = some (Value.int IntKind.u64 n)) ∧
  Deref y' fun (a_1 : Addr) =>
  ∃ (n_1 : Int),
  (∀ (w' : World), C w' → w'.cell? (a_1.add 7) = some (Value.int IntKind.u64 n_1)) ∧
  Deref y' fun (a_2 : Addr) =>
  ∃ (n_2 : Int),
  (∀ (w' : World), C w' → w'.cell? (a_2.add 5) = some (Value.int IntKind.u64 n_2)) ∧
  Deref y' fun (a_3 : Addr) =>
  ∃ (n_3 : Int),
  (∀ (w' : World),
  C w' → w'.cell? (a_3.add 7) = some (Value.int IntKind.u64 n_3)) ∧
  Deref y' fun (a_4 : Addr) =>
  ∃ (n_4 : Int),
  (∀ (w' : World),
  C w' → w'.cell? (a_4.add 5) = some (Value.int IntKind.u64 n_4)) ∧
  Deref y' fun (a_5 : Addr) =>
  ∃ (n_5 : Int),
  (∀ (w' : World),
  C w' →
  w'.cell? (a_5.add 7) = some (Value.int IntKind.u64 n_5)) ∧
  Deref y' fun (a_6 : Addr) =>
  ∃ (n_6 : Int),
  (∀ (w' : World),
  C w' →
  w'.cell? (a_6.add 5) =
  some (Value.int IntKind.u64 n_6)) ∧
  Deref y' fun (a_7 : Addr) =>
  ∃ (n_7 : Int),
  (∀ (w' : World),
  C w' →
  w'.cell? (a_7.add 7) =
  some (Value.int IntKind.u64 n_7)) ∧
  (RunsV Proofs.Tryz.prog
  (Instr.makeMap 197
  (Option.map
  (ev
  [Value.pointer c', Value.pointer y',
  Value.tuple #[], Value.tuple #[],
  Value.tuple #[], g 5, g 6, g 7, g 8,
  g 9, g 10, g 11, g 12, g 13, g 14, g 15,
  g 16, g 17, g 18, g 19, g 20,
  Value.tuple #[], Value.pointer y',
  Value.pointer (some a),
  Value.pointer (some (a.add 5)),
  Value.pointer (some (a.add 5)),
  Value.int IntKind.u64 n,
  Value.pointer y',
  Value.pointer (some a_1),
  Value.pointer (some (a_1.add 7)),
  Value.pointer (some (a_1.add 7)),
  Value.int IntKind.u64 n_1,
  Value.bool (n == n_1),
  Value.agg #[Value.bool (n == n_1)],
  Value.pointer y',
  Value.pointer (some a_2),
  Value.pointer (some (a_2.add 5)),
  Value.pointer (some (a_2.add 5)),
  Value.int IntKind.u64 n_2,
  Value.pointer y',
  Value.pointer (some a_3),
  Value.pointer (some (a_3.add 7)),
  Value.pointer (some (a_3.add 7)),
  Value.int IntKind.u64 n_3,
  Value.bool (n_2 != n_3),
  Value.agg #[Value.bool (n_2 != n_3)],
  Value.pointer y',
  Value.pointer (some a_4),
  Value.pointer (some (a_4.add 5)),
  Value.pointer (some (a_4.add 5)),
  Value.int IntKind.u64 n_4,
  Value.pointer y',
  Value.pointer (some a_5),
  Value.pointer (some (a_5.add 7)),
  Value.pointer (some (a_5.add 7)),
  Value.int IntKind.u64 n_5,
  Value.bool (decide (n_4 < n_5)),
  Value.agg
  #[Value.bool (decide (n_4 < n_5))],
  Value.pointer y',
  Value.pointer (some a_6),
  Value.pointer (some (a_6.add 5)),
  Value.pointer (some (a_6.add 5)),
  Value.int IntKind.u64 n_6,
  Value.pointer y',
  Value.pointer (some a_7),
  Value.pointer (some (a_7.add 7)),
  Value.pointer (some (a_7.add 7)),
  Value.int IntKind.u64 n_7,
  Value.bool (decide (n_6 ≥ n_7)),
  Value.agg
  #[Value.bool (decide (n_6 ≥ n_7))],
  Value.tuple #[], Value.tuple #[],
  Value.tuple #[], Value.tuple #[],
  Value.tuple #[], Value.tuple #[],
  Value.tuple #[], Value.tuple #[],
  Value.tuple #[], Value.tuple #[],
  Value.tuple #[], Value.tuple #[],
  Value.tuple #[], Value.tuple #[],
  Value.tuple #[], Value.tuple #[],
  Value.tuple #[], Value.tuple #[],
  Value.tuple #[], Value.tuple #[],
  Value.tuple #[], Value.tuple #[],
  Value.tuple #[], Value.tuple #[]])
  none))
  w'_1 fun (v : Value) (w' : World) =>
  ∃ (r : Option Nat),
  v = Value.map r ∧
  C w' ∧
  (RunsV Proofs.Tryz.prog
  (do Instr.mapUpdate 197 (Value.map r) (Value.int IntKind.u8 28) (Value.agg #[Value.bool (n == n_1)]); pure (Value.tuple #[]))
  w' fun (x : Value) (w' : World) =>
  C w' ∧
  (RunsV Proofs.Tryz.prog
  (do Instr.mapUpdate 197 (Value.map r) (Value.int IntKind.u8 29) (Value.agg #[Value.bool (n_2 != n_3)]); pure (Value.tuple #[]))
  w'
  fun (x : Value) (w' : World) =>
  C w' ∧
  (RunsV Proofs.Tryz.prog
  (do Instr.mapUpdate 197 (Value.map r) (Value.int IntKind.u8 30) (Value.agg #[Value.bool (decide (n_4 < n_5))]); pure (Value.tuple #[]))
  w'
  fun (x : Value)
  (w' : World) =>
  C w' ∧
  (RunsV Proofs.Tryz.prog
  (do Instr.mapUpdate 197 (Value.map r) (Value.int IntKind.u8 31) (Value.agg #[Value.bool (decide (n_6 ≥ n_7))]); pure (Value.tuple #[]))
  w'
  fun (x : Value)
  (w' : World) =>
  C w' ∧
  J [Value.map r]
  w') ∧
  True) ∧
  (RunsV Proofs.Tryz.prog
  (do Instr.mapUpdate 197 (Value.map r) (Value.int IntKind.u8 31) (Value.agg #[Value.bool (decide (n_6 ≥ n_7))]); pure (Value.tuple #[]))
  w'
  fun (x : Value)
  (w' : World) =>
  C w' ∧
  (RunsV
  Proofs.Tryz.prog
  (do Instr.mapUpdate 197 (Value.map r) (Value.int IntKind.u8 30) (Value.agg #[Value.bool (decide (n_4 < n_5))]); pure (Value.tuple #[]))
  w'
  fun (x : Value)
  (w' : World) =>
  C w' ∧
  J [Value.map r]
  w') ∧
  True) ∧
  True) ∧
  (RunsV Proofs.Tryz.prog
  (do Instr.mapUpdate 197 (Value.map r) (Value.int IntKind.u8 30) (Value.agg #[Value.bool (decide (n_4 < n_5))]); pure (Value.tuple #[]))
  w'
  fun (x : Value)
  (w' : World) =>
  C w' ∧
  (RunsV Proofs.Tryz.prog
  (do Instr.mapUpdate 197 (Value.map r) (Value.int IntKind.u8 29) (Value.agg #[Value.bool (n_2 != n_3)]); pure (Value.tuple #[]))
  w'
  fun (x : Value)
  (w' : World) =>
  C w' ∧
  (RunsV
  Proofs.Tryz.prog
  (do Instr.mapUpdate 197 (Value.map r) (Value.int IntKind.u8 31) (Value.agg #[Value.bool (decide (n_6 ≥ n_7))]); pure (Value.tuple #[]))
  w'
  fun (x : Value)
  (w' : World) =>
  C w' ∧
  J [Value.map r]
  w') ∧
  True) ∧
  (RunsV Proofs.Tryz.prog
  (do Instr.mapUpdate 197 (Value.map r) (Value.int IntKind.u8 31) (Value.agg #[Value.bool (decide (n_6 ≥ n_7))]); pure (Value.tuple #[]))
  w'
  fun (x : Value)
  (w' : World) =>
  C w' ∧
  (RunsV
  Proofs.Tryz.prog
  (do Instr.mapUpdate 197 (Value.map r) (Value.int IntKind.u8 29) (Value.agg #[Value.bool (n_2 != n_3)]); pure (Value.tuple #[]))
  w'
  fun (x : Value)
  (w' :
  World) =>
  C w' ∧
  J
  [Value.map
  r]
  w') ∧
  True) ∧
  True) ∧
  (RunsV Proofs.Tryz.prog
  (do Instr.mapUpdate 197 (Value.map r) (Value.int IntKind.u8 31) (Value.agg #[Value.bool (decide (n_6 ≥ n_7))]); pure (Value.tuple #[]))
  w'
  fun (x : Value)
  (w' : World) =>
  C w' ∧
  (RunsV Proofs.Tryz.prog
  (do Instr.mapUpdate 197 (Value.map r) (Value.int IntKind.u8 29) (Value.agg #[Value.bool (n_2 != n_3)]); pure (Value.tuple #[]))
  w'
  fun (x : Value)
  (w' : World) =>
  C w' ∧
  (RunsV
  Proofs.Tryz.prog
  (do Instr.mapUpdate 197 (Value.map r) (Value.int IntKind.u8 30) (Value.agg #[Value.bool (decide (n_4 < n_5))]); pure (Value.tuple #[]))
  w'
  fun (x : Value)
  (w' :
  World) =>
  C w' ∧
  J
  [Value.map
  r]
  w') ∧
  True) ∧
  (RunsV Proofs.Tryz.prog
  (do Instr.mapUpdate 197 (Value.map r) (Value.int IntKind.u8 30) (Value.agg #[Value.bool (decide (n_4 < n_5))]); pure (Value.tuple #[]))
  w'
  fun (x : Value)
  (w' : World) =>
  C w' ∧
  (RunsV
  Proofs.Tryz.prog
  (do Instr.mapUpdate 197 (Value.map r) (Value.int IntKind.u8 29) (Value.agg #[Value.bool (n_2 != n_3)]); pure (Value.tuple #[]))
  w'
  fun
  (x : Value)
  (w' :
  World) =>
  C w' ∧
  J
  [Value.map
  r]
  w') ∧
  True) ∧
  True) ∧
  True) ∧
  (RunsV Proofs.Tryz.prog
  (do Instr.mapUpdate 197 (Value.map r) (Value.int IntKind.u8 29) (Value.agg #[Value.bool (n_2 != n_3)]); pure (Value.tuple #[]))
  w' fun (x : Value) (w' : World) =>
  C w' ∧
  (RunsV Proofs.Tryz.prog
  (do Instr.mapUpdate 197 (Value.map r) (Value.int IntKind.u8 28) (Value.agg #[Value.bool (n == n_1)]); pure (Value.tuple #[]))
  w'
  fun (x : Value)
  (w' : World) =>
  C w' ∧
  (RunsV Proofs.Tryz.prog
  (do Instr.mapUpdate 197 (Value.map r) (Value.int IntKind.u8 30) (Value.agg #[Value.bool (decide (n_4 < n_5))]); pure (Value.tuple #[]))
  w'
  fun (x : Value)
  (w' : World) =>
  C w' ∧
  (RunsV
  Proofs.Tryz.prog
  (do Instr.mapUpdate 197 (Value.map r) (Value.int IntKind.u8 31) (Value.agg #[Value.bool (decide (n_6 ≥ n_7))]); pure (Value.tuple #[]))
  w'
  fun (x : Value)
  (w' : World) =>
  C w' ∧
  J [Value.map r]
  w') ∧
  True) ∧
  (RunsV Proofs.Tryz.prog
  (do Instr.mapUpdate 197 (Value.map r) (Value.int IntKind.u8 31) (Value.agg #[Value.bool (decide (n_6 ≥ n_7))]); pure (Value.tuple #[]))
  w'
  fun (x : Value)
  (w' : World) =>
  C w' ∧
  (RunsV
  Proofs.Tryz.prog
  (do Instr.mapUpdate 197 (Value.map r) (Value.int IntKind.u8 30) (Value.agg #[Value.bool (decide (n_4 < n_5))]); pure (Value.tuple #[]))
  w'
  fun (x : Value)
  (w' :
  World) =>
  C w' ∧
  J
  [Value.map
  r]
  w') ∧
  True) ∧
  True) ∧
  (RunsV Proofs.Tryz.prog
  (do Instr.mapUpdate 197 (Value.map r) (Value.int IntKind.u8 30) (Value.agg #[Value.bool (decide (n_4 < n_5))]); pure (Value.tuple #[]))
  w'
  fun (x : Value)
  (w' : World) =>
  C w' ∧
  (RunsV Proofs.Tryz.prog
  (do Instr.mapUpdate 197 (Value.map r) (Value.int IntKind.u8 28) (Value.agg #[Value.bool (n == n_1)]); pure (Value.tuple #[]))
  w'
  fun (x : Value)
  (w' : World) =>
  C w' ∧
  (RunsV
  Proofs.Tryz.prog
  (do Instr.mapUpdate 197 (Value.map r) (Value.int IntKind.u8 31) (Value.agg #[Value.bool (decide (n_6 ≥ n_7))]); pure (Value.tuple #[]))
  w'
  fun (x : Value)
  (w' :
  World) =>
  C w' ∧
  J
  [Value.map
  r]
  w') ∧
  True) ∧
  (RunsV Proofs.Tryz.prog
  (do Instr.mapUpdate 197 (Value.map r) (Value.int IntKind.u8 31) (Value.agg #[Value.bool (decide (n_6 ≥ n_7))]); pure (Value.tuple #[]))
  w'
  fun (x : Value)
  (w' : World) =>
  C w' ∧
  (RunsV
  Proofs.Tryz.prog
  (do Instr.mapUpdate 197 (Value.map r) (Value.int IntKind.u8 28) (Value.agg #[Value.bool (n == n_1)]); pure (Value.tuple #[]))
  w'
  fun
  (x : Value)
  (w' :
  World) =>
  C w' ∧
  J
  [Value.map
  r]
  w') ∧
  True) ∧
  True) ∧
  (RunsV Proofs.Tryz.prog
  (do Instr.mapUpdate 197 (Value.map r) (Value.int IntKind.u8 31) (Value.agg #[Value.bool (decide (n_6 ≥ n_7))]); pure (Value.tuple #[]))
  w'
  fun (x : Value)
  (w' : World) =>
  C w' ∧
  (RunsV Proofs.Tryz.prog
  (do Instr.mapUpdate 197 (Value.map r) (Value.int IntKind.u8 28) (Value.agg #[Value.bool (n == n_1)]); pure (Value.tuple #[]))
  w'
  fun (x : Value)
  (w' : World) =>
  C w' ∧
  (RunsV
  Proofs.Tryz.prog
  (do Instr.mapUpdate 197 (Value.map r) (Value.int IntKind.u8 30) (Value.agg #[Value.bool (decide (n_4 < n_5))]); pure (Value.tuple #[]))
  w'
  fun
  (x : Value)
  (w' :
  World) =>
  C w' ∧
  J
  [Value.map
  r]
  w') ∧
  True) ∧
  (RunsV
  Proofs.Tryz.prog
  (do Instr.mapUpdate 197 (Value.map r) (Value.int IntKind.u8 30) (Value.agg #[Value.bool (decide (n_4 < n_5))]); pure (Value.tuple #[]))
  w'
  fun (x : Value)
  (w' : World) =>
  C w' ∧
  (RunsV
  Proofs.Tryz.prog
  (do Instr.mapUpdate 197 (Value.map r) (Value.int IntKind.u8 28) (Value.agg #[Value.bool (n == n_1)]); pure (Value.tuple #[]))
  w'
  fun
  (x :
  Value)
  (w' :
  World) =>
  C w' ∧
  J
  [Value.map
  r]
  w') ∧
  True) ∧
  True) ∧
  True) ∧
  (RunsV Proofs.Tryz.prog
  (do Instr.mapUpdate 197 (Value.map r) (Value.int IntKind.u8 30) (Value.agg #[Value.bool (decide (n_4 < n_5))]); pure (Value.tuple #[]))
  w' fun (x : Value) (w' : World) =>
  C w' ∧
  (RunsV Proofs.Tryz.prog
  (do Instr.mapUpdate 197 (Value.map r) (Value.int IntKind.u8 28) (Value.agg #[Value.bool (n == n_1)]); pure (Value.tuple #[]))
  w'
  fun (x : Value)
  (w' : World) =>
  C w' ∧
  (RunsV Proofs.Tryz.prog
  (do Instr.mapUpdate 197 (Value.map r) (Value.int IntKind.u8 29) (Value.agg #[Value.bool (n_2 != n_3)]); pure (Value.tuple #[]))
  w'
  fun (x : Value)
  (w' : World) =>
  C w' ∧
  (RunsV
  Proofs.Tryz.prog
  (do Instr.mapUpdate 197 (Value.map r) (Value.int IntKind.u8 31) (Value.agg #[Value.bool (decide (n_6 ≥ n_7))]); pure (Value.tuple #[]))
  w'
  fun (x : Value)
  (w' :
  World) =>
  C w' ∧
  J
  [Value.map
  r]
  w') ∧
  True) ∧
  (RunsV Proofs.Tryz.prog
  (do Instr.mapUpdate 197 (Value.map r) (Value.int IntKind.u8 31) (Value.agg #[Value.bool (decide (n_6 ≥ n_7))]); pure (Value.tuple #[]))
  w'
  fun (x : Value)
  (w' : World) =>
  C w' ∧
  (RunsV
  Proofs.Tryz.prog
  (do Instr.mapUpdate 197 (Value.map r) (Value.int IntKind.u8 29) (Value.agg #[Value.bool (n_2 != n_3)]); pure (Value.tuple #[]))
  w'
  fun
  (x : Value)
  (w' :
  World) =>
  C w' ∧
  J
  [Value.map
  r]
  w') ∧
  True) ∧
  True) ∧
  (RunsV Proofs.Tryz.prog
  (do Instr.mapUpdate 197 (Value.map r) (Value.int IntKind.u8 29) (Value.agg #[Value.bool (n_2 != n_3)]); pure (Value.tuple #[]))
  w'
  fun (x : Value)
  (w' : World) =>
  C w' ∧
  (RunsV Proofs.Tryz.prog
  (do Instr.mapUpdate 197 (Value.map r) (Value.int IntKind.u8 28) (Value.agg #[Value.bool (n == n_1)]); pure (Value.tuple #[]))
  w'
  fun (x : Value)
  (w' : World) =>
  C w' ∧
  (RunsV
  Proofs.Tryz.prog
  (do Instr.mapUpdate 197 (Value.map r) (Value.int IntKind.u8 31) (Value.agg #[Value.bool (decide (n_6 ≥ n_7))]); pure (Value.tuple #[]))
  w'
  fun
  (x : Value)
  (w' :
  World) =>
  C w' ∧
  J
  [Value.map
  r]
  w') ∧
  True) ∧
  (RunsV
  Proofs.Tryz.prog
  (do Instr.mapUpdate 197 (Value.map r) (Value.int IntKind.u8 31) (Value.agg #[Value.bool (decide (n_6 ≥ n_7))]); pure (Value.tuple #[]))
  w'
  fun (x : Value)
  (w' : World) =>
  C w' ∧
  (RunsV
  Proofs.Tryz.prog
  (do Instr.mapUpdate 197 (Value.map r) (Value.int IntKind.u8 28) (Value.agg #[Value.bool (n == n_1)]); pure (Value.tuple #[]))
  w'
  fun
  (x :
  Value)
  (w' :
  World) =>
  C w' ∧
  J
  [Value.map
  r]
  w') ∧
  True) ∧
  True) ∧
  (RunsV Proofs.Tryz.prog
  (do Instr.mapUpdate 197 (Value.map r) (Value.int IntKind.u8 31) (Value.agg #[Value.bool (decide (n_6 ≥ n_7))]); pure (Value.tuple #[]))
  w'
  fun (x : Value)
  (w' : World) =>
  C w' ∧
  (RunsV
  Proofs.Tryz.prog
  (do Instr.mapUpdate 197 (Value.map r) (Value.int IntKind.u8 28) (Value.agg #[Value.bool (n == n_1)]); pure (Value.tuple #[]))
  w'
  fun (x : Value)
  (w' : World) =>
  C w' ∧
  (RunsV
  Proofs.Tryz.prog
  (do Instr.mapUpdate 197 (Value.map r) (Value.int IntKind.u8 29) (Value.agg #[Value.bool (n_2 != n_3)]); pure (Value.tuple #[]))
  w'
  fun
  (x :
  Value)
  (w' :
  World) =>
  C w' ∧
  J
  [Value.map
  r]
  w') ∧
  True) ∧
  (RunsV
  Proofs.Tryz.prog
  (do Instr.mapUpdate 197 (Value.map r) (Value.int IntKind.u8 29) (Value.agg #[Value.bool (n_2 != n_3)]); pure (Value.tuple #[]))
  w'
  fun (x : Value)
  (w' :
  World) =>
  C w' ∧
  (RunsV
  Proofs.Tryz.prog
  (do Instr.mapUpdate 197 (Value.map r) (Value.int IntKind.u8 28) (Value.agg #[Value.bool (n == n_1)]); pure (Value.tuple #[]))
  w'
  fun
  (x :
  Value)
  (w' :
  World) =>
  C w' ∧
  J
  [Value.map
  r]
  w') ∧
  True) ∧
  True) ∧
  True) ∧
  (RunsV Proofs.Tryz.prog
  (do Instr.mapUpdate 197 (Value.map r) (Value.int IntKind.u8 31) (Value.agg #[Value.bool (decide (n_6 ≥ n_7))]); pure (Value.tuple #[]))
  w'
  fun (x : Value) (w' : World) =>
  C w' ∧
  (RunsV Proofs.Tryz.prog
  (do Instr.mapUpdate 197 (Value.map r) (Value.int IntKind.u8 28) (Value.agg #[Value.bool (n == n_1)]); pure (Value.tuple #[]))
  w'
  fun (x : Value)
  (w' : World) =>
  C w' ∧
  (RunsV Proofs.Tryz.prog
  (do Instr.mapUpdate 197 (Value.map r) (Value.int IntKind.u8 29) (Value.agg #[Value.bool (n_2 != n_3)]); pure (Value.tuple #[]))
  w'
  fun (x : Value)
  (w' : World) =>
  C w' ∧
  (RunsV
  Proofs.Tryz.prog
  (do Instr.mapUpdate 197 (Value.map r) (Value.int IntKind.u8 30) (Value.agg #[Value.bool (decide (n_4 < n_5))]); pure (Value.tuple #[]))
  w'
  fun
  (x : Value)
  (w' :
  World) =>
  C w' ∧
  J
  [Value.map
  r]
  w') ∧
  True) ∧
  (RunsV
  Proofs.Tryz.prog
  (do Instr.mapUpdate 197 (Value.map r) (Value.int IntKind.u8 30) (Value.agg #[Value.bool (decide (n_4 < n_5))]); pure (Value.tuple #[]))
  w'
  fun (x : Value)
  (w' : World) =>
  C w' ∧
  (RunsV
  Proofs.Tryz.prog
  (do Instr.mapUpdate 197 (Value.map r) (Value.int IntKind.u8 29) (Value.agg #[Value.bool (n_2 != n_3)]); pure (Value.tuple #[]))
  w'
  fun
  (x :
  Value)
  (w' :
  World) =>
  C w' ∧
  J
  [Value.map
  r]
  w') ∧
  True) ∧
  True) ∧
  (RunsV Proofs.Tryz.prog
  (do Instr.mapUpdate 197 (Value.map r) (Value.int IntKind.u8 29) (Value.agg #[Value.bool (n_2 != n_3)]); pure (Value.tuple #[]))
  w'
  fun (x : Value)
  (w' : World) =>
  C w' ∧
  (RunsV
  Proofs.Tryz.prog
  (do Instr.mapUpdate 197 (Value.map r) (Value.int IntKind.u8 28) (Value.agg #[Value.bool (n == n_1)]); pure (Value.tuple #[]))
  w'
  fun (x : Value)
  (w' : World) =>
  C w' ∧
  (RunsV
  Proofs.Tryz.prog
  (do Instr.mapUpdate 197 (Value.map r) (Value.int IntKind.u8 30) (Value.agg #[Value.bool (decide (n_4 < n_5))]); pure (Value.tuple #[]))
  w'
  fun
  (x :
  Value)
  (w' :
  World) =>
  C w' ∧
  J
  [Value.map
  r]
  w') ∧
  True) ∧
  (RunsV
  Proofs.Tryz.prog
  (do Instr.mapUpdate 197 (Value.map r) (Value.int IntKind.u8 30) (Value.agg #[Value.bool (decide (n_4 < n_5))]); pure (Value.tuple #[]))
  w'
  fun (x : Value)
  (w' :
  World) =>
  C w' ∧
  (RunsV
  Proofs.Tryz.prog
  (do Instr.mapUpdate 197 (Value.map r) (Value.int IntKind.u8 28) (Value.agg #[Value.bool (n == n_1)]); pure (Value.tuple #[]))
  w'
  fun
  (x :
  Value)
  (w' :
  World) =>
  C w' ∧
  J
  [Value.map
  r]
  w') ∧
  True) ∧
  True) ∧
  (RunsV Proofs.Tryz.prog
  (do Instr.mapUpdate 197 (Value.map r) (Value.int IntKind.u8 30) (Value.agg #[Value.bool (decide (n_4 < n_5))]); pure (Value.tuple #[]))
  w'
  fun (x : Value)
  (w' : World) =>
  C w' ∧
  (RunsV
  Proofs.Tryz.prog
  (do Instr.mapUpdate 197 (Value.map r) (Value.int IntKind.u8 28) (Value.agg #[Value.bool (n == n_1)]); pure (Value.tuple #[]))
  w'
  fun (x : Value)
  (w' :
  World) =>
  C w' ∧
  (RunsV
  Proofs.Tryz.prog
  (do Instr.mapUpdate 197 (Value.map r) (Value.int IntKind.u8 29) (Value.agg #[Value.bool (n_2 != n_3)]); pure (Value.tuple #[]))
  w'
  fun
  (x :
  Value)
  (w' :
  World) =>
  C w' ∧
  J
  [Value.map
  r]
  w') ∧
  True) ∧
  (RunsV
  Proofs.Tryz.prog
  (do Instr.mapUpdate 197 (Value.map r) (Value.int IntKind.u8 29) (Value.agg #[Value.bool (n_2 != n_3)]); pure (Value.tuple #[]))
  w'
  fun
  (x : Value)
  (w' :
  World) =>
  C w' ∧
  (RunsV
  Proofs.Tryz.prog
  (do Instr.mapUpdate 197 (Value.map r) (Value.int IntKind.u8 28) (Value.agg #[Value.bool (n == n_1)]); pure (Value.tuple #[]))
  w'
  fun
  (x :
  Value)
  (w' :
  World) =>
  C w' ∧
  J
  [Value.map
  r]
  w') ∧
  True) ∧
  True) ∧
  True) ∧
  True) ∧
  True) ∧
  ∀ (g : Nat → Value) (goes : Option Nat) (w' : World),
  J [Value.map goes] w' →
  Deref y' fun (a : Addr) =>
  ∃ (n : Int),
  w'.cell? a = some (Value.int IntKind.u8 n) ∧
  RunsV Proofs.Tryz.prog (Instr.lookup 197 (Value.map goes) (Value.int IntKind.u8 n) false) w'
  fun (v : Value) (w' : World) =>
  ∃ (b : Bool),
  v = Value.agg #[Value.bool b] ∧
  cnd b
  (Deref y' fun (a : Addr) =>
  ∃ (n : Int),
  (∀ (w'_1 : World),
  Later w' w'_1 → w'_1.cell? (a.add 9) = some (Value.int IntKind.u64 n)) ∧
  Deref y' fun (a : Addr) =>
  ∃ (n_1 : Int),
  (∀ (w'_1 : World),
  Later w' w'_1 → w'_1.cell? (a.add 4) = some (Value.int IntKind.i64 n_1)) ∧
  Deref c' fun (a : Addr) =>
  ∀ (w'_1 : World),
  Later w' w'_1 →
  ((w'_1.cell? (a.add 1)).isSome = true ∧
  w'_1.frozen? (a.add 1) = false) ∧
  ∀ (w' : World),
  w' =
  w'_1.setCell (a.add 1)
  (Value.int IntKind.u64
  (IntKind.u64.wrap (n + IntKind.u64.wrap n_1))) →
  R (Ending.returned (Value.tuple #[])) w')
  (R (Ending.returned (Value.tuple #[])) w')
theorem sacristy_cpu_Cpu_branch.calls {c' y' : Option Addr} {w : World} {R : Ending → World → Prop} (h : sacristy_cpu_Cpu_branch.vc c' y' w R) : Calls Tryz.prog 116 ([.pointer c', .pointer y'] : List Value).toArray w R := calls_of_eq (show fnV Tryz.prog sacristy_cpu_Cpu_branch.H 116 [.pointer c', .pointer y'] w R = _ from by kernel_rfl) h

/- function 138: (*sacristy/cpu.Cpu).link -/
abbrev sacristy_cpu_Cpu_link.N : FuncId := 138
def sacristy_cpu_Cpu_link.H : Hints := { mixes := [(0, 1001)] }
def sacristy_cpu_Cpu_link.vc (c' y' : Option Addr) (w : World) (R : Ending → World → Prop) : Prop := ∃ (C : World → Prop),
(∀ (w' : World), Later w w' → C w') ∧
∀ w', Later w w' →
Deref y' fun a =>
∃ (n : Int),
(∀ (w' : World), C w' → w'.cell? (a.add 1) = some (.int .u8 n)) ∧
Deref y' fun a =>
∃ (n_1 : Int),
(∀ (w' : World), C w' → w'.cell? (a.add 9) = some (.int .u64 n_1)) ∧
Calls Tryz.prog 47 #[.pointer c', .int .u8 n,
Value.agg #[.int .u64 (IntKind.u64.wrap (n_1 + 4)), .bool false]] w' fun e w' =>
e = .returned (.tuple #[]) ∧ C w' ∧ R (.returned (.tuple #[])) w'
theorem sacristy_cpu_Cpu_link.calls {c' y' : Option Addr} {w : World} {R : Ending → World → Prop} (h : sacristy_cpu_Cpu_link.vc c' y' w R) : Calls Tryz.prog 138 ([.pointer c', .pointer y'] : List Value).toArray w R := calls_of_eq (show fnV Tryz.prog sacristy_cpu_Cpu_link.H 138 [.pointer c', .pointer y'] w R = _ from by kernel_rfl) h

/- function 117: (*sacristy/cpu.Cpu).jal -/
abbrev sacristy_cpu_Cpu_jal.N : FuncId := 117
def sacristy_cpu_Cpu_jal.H : Hints := { tails := [(1, 15)] }
def sacristy_cpu_Cpu_jal.vc (c' y' : Option Addr) (w : World) (R : Ending → World → Prop) : Prop := Calls Tryz.prog 138 #[.pointer c', .pointer y'] w fun e w' =>
e = .returned (.tuple #[]) ∧
Deref y' fun a =>
∃ (n : Int),
(∀ (w'_1 : World), Later w' w'_1 → w'_1.cell? (a.add 9) = some (.int .u64 n)) ∧
Deref y' fun a =>
∃ (n_1 : Int),
(∀ (w'_1 : World), Later w' w'_1 → w'_1.cell? (a.add 4) = some (.int .i64 n_1)) ∧
Deref c' fun a =>
∀ w'_1, Later w' w'_1 →
((w'_1.cell? (a.add 1)).isSome = true ∧ w'_1.frozen? (a.add 1) = false) ∧
∀ w', w' = w'_1.setCell (a.add 1) (.int .u64 (IntKind.u64.wrap (n + IntKind.u64.wrap n_1))) →
R (.returned (.tuple #[])) w'
theorem sacristy_cpu_Cpu_jal.calls {c' y' : Option Addr} {w : World} {R : Ending → World → Prop} (h : sacristy_cpu_Cpu_jal.vc c' y' w R) : Calls Tryz.prog 117 ([.pointer c', .pointer y'] : List Value).toArray w R := calls_of_eq (show fnV Tryz.prog sacristy_cpu_Cpu_jal.H 117 [.pointer c', .pointer y'] w R = _ from by kernel_rfl) h

/- function 118: (*sacristy/cpu.Cpu).jalr -/
abbrev sacristy_cpu_Cpu_jalr.N : FuncId := 118
def sacristy_cpu_Cpu_jalr.H : Hints := { tails := [(2, 16)] }
def sacristy_cpu_Cpu_jalr.vc (c' y' : Option Addr) (w : World) (R : Ending → World → Prop) : Prop := Deref y' fun a =>
∃ (b : Bool),
w.cell? ((a.add 5).add 1) = some (.bool b) ∧
Deref y' fun a =>
((w.cell? ((a.add 9).add 4)).isSome = true ∧ w.frozen? ((a.add 9).add 4) = false) ∧
∀ w', w' = w.setCell ((a.add 9).add 4) (.bool b) →
Calls Tryz.prog 138 #[.pointer c', .pointer y'] w' fun e w' =>
e = .returned (.tuple #[]) ∧
Deref y' fun a =>
∃ (n : Int),
(∀ (w'_1 : World), Later w' w'_1 → w'_1.cell? (a.add 5) = some (.int .u64 n)) ∧
Deref y' fun a =>
∃ (n_1 : Int),
(∀ w'_1, Later w' w'_1 → w'_1.cell? (a.add 4) = some (.int .i64 n_1)) ∧
Deref c' fun a =>
∀ w'_1, Later w' w'_1 →
((w'_1.cell? (a.add 1)).isSome = true ∧ w'_1.frozen? (a.add 1) = false) ∧
∀ w', w' = w'_1.setCell (a.add 1) (.int .u64 (bits BinOp.andNot .u64 (IntKind.u64.wrap (n + IntKind.u64.wrap n_1)) 1)) →
R (.returned (.tuple #[])) w'
theorem sacristy_cpu_Cpu_jalr.calls {c' y' : Option Addr} {w : World} {R : Ending → World → Prop} (h : sacristy_cpu_Cpu_jalr.vc c' y' w R) : Calls Tryz.prog 118 ([.pointer c', .pointer y'] : List Value).toArray w R := calls_of_eq (show fnV Tryz.prog sacristy_cpu_Cpu_jalr.H 118 [.pointer c', .pointer y'] w R = _ from by kernel_rfl) h

/- function 68: (*sacristy/cpu.Cpu).ecall -/
abbrev sacristy_cpu_Cpu_ecall.N : FuncId := 68
def sacristy_cpu_Cpu_ecall.H : Hints := { mixes := [(1, 1001), (6, 1001), (9, 1001)] }
def sacristy_cpu_Cpu_ecall.vc (c' y' : Option Addr) (w : World) (R : Ending → World → Prop) : Prop := Deref c' fun a =>
(Int.le 0 17 ∧ Int.lt 17 32) ∧
∃ (n : Int) (b : Bool),
(w.cell? ((a.add 2).add 34) = some (.int .u64 n) ∧
w.cell? (((a.add 2).add 34).add 1) = some (.bool b) ∧ True) ∧
∀ w', w' = w.alloc (Obj.cells #[.int .u64 0, .bool false] 92) →
SetsAt w' (Addr.mk w.heap.size 0 none) 0 [.int .u64 n, .bool b] ∧
∀ w'_1, w'_1 = setCellsAt w' (Addr.mk w.heap.size 0 none) 0 [.int .u64 n, .bool b] →
∃ (C : World → Prop),
(∀ (w' : World), Later w'_1 w' → C w') ∧
∀ w', Later w'_1 w' →
∃ (n : Int),
(∀ w', C w' → w'.cell? (Addr.mk w.heap.size 0 none) = some (.int .u64 n)) ∧
∃ (b : Bool),
(∀ (w' : World), C w' → w'.cell? (Addr.mk w.heap.size 1 none) = some (.bool b)) ∧
Deref y' fun a =>
((w'.cell? ((a.add 9).add 1)).isSome = true ∧
w'.frozen? ((a.add 9).add 1) = false) ∧
∀ w'_2, w'_2 = w'.setCell ((a.add 9).add 1) (.int .u8 5) →
C w'_2 ∧
Deref y' fun a =>
((w'_2.cell? ((a.add 9).add 2)).isSome = true ∧
w'_2.frozen? ((a.add 9).add 2) = false) ∧
∀ w', w' = w'_2.setCell ((a.add 9).add 2) (.int .u64 n) →
C w' ∧
Deref y' fun a =>
((w'.cell? ((a.add 9).add 4)).isSome = true ∧
w'.frozen? ((a.add 9).add 4) = false) ∧
∀ w'_3, w'_3 = w'.setCell ((a.add 9).add 4) (.bool b) →
∃ (n : Int),
w'_3.cell? (Addr.mk w.heap.size 0 none) = some (.int .u64 n) ∧
cnd (decide (n > 5)) (R (Ending.panicked [PanicEntry.mk (Value.iface 36 (.int .i64 51)) false false]) w'_3) (∃ (n : Int),
w'_3.cell? (Addr.mk w.heap.size 0 none) = some (.int .u64 n) ∧
cnd (n == 4) (Deref c' fun a =>
(Int.le 0 10 ∧ Int.lt 10 32) ∧
∃ (n : Int) (b : Bool),
(w'_3.cell? ((a.add 2).add 20) = some (.int .u64 n) ∧
w'_3.cell? (((a.add 2).add 20).add 1) = some (.bool b) ∧
True) ∧
∀ w', w' = w'_3.alloc (Obj.cells #[.int .u64 0,
Value.bool false] 92) →
SetsAt w' (Addr.mk w'_3.heap.size 0 none) 0 [.int .u64 n,
Value.bool b] ∧
∀ w'_4, w'_4 = setCellsAt w' (Addr.mk w'_3.heap.size 0 none) 0 [.int .u64 n,
Value.bool b] →
∃ (C : World → Prop),
(∀ w', Later w'_4 w' →
C w') ∧
∀ w', Later w'_4 w' →
Deref c' fun a =>
∃ (p : Option Addr) (n c : Nat),
(∀ w', C w' →
w'.cell? (a.add 69) = some (.slice p n c)) ∧
∃ (n_1 : Int),
(∀ w', C w' →
w'.cell? (Addr.mk w'_3.heap.size 0 none) = some (.int .u64 n_1)) ∧
∃ (b : Bool),
(∀ w', C w' →
w'.cell? (Addr.mk w'_3.heap.size 1 none) = some (.bool b)) ∧
∀ w'_5, w'_5 = w'.alloc (Obj.cells #[.int .u64 n_1,
Value.bool b] 120) →
C w'_5 ∧
RunsV Tryz.prog (Builtin.append_ #[52,
52] 52 #[.slice p n c,
Value.slice (some (Addr.mk w'.heap.size 0 none)) 1 1]) w'_5 fun v w' =>
∃ (p : Option Addr) (n c : Nat),
v = .slice p n c ∧
C w' ∧
Deref c' fun a =>
((w'.cell? (a.add 69)).isSome = true ∧
w'.frozen? (a.add 69) = false) ∧
∀ w'_6, w'_6 = w'.setCell (a.add 69) (.slice p n c) →
Deref c' fun a =>
(Int.le 0 10 ∧
Int.lt 10 32) ∧
((w'_6.cell? (((a.add 2).add 20).add 1)).isSome = true ∧
w'_6.frozen? (((a.add 2).add 20).add 1) = false) ∧
∀ w', w' = w'_6.setCell (((a.add 2).add 20).add 1) (.bool false) →
R (.returned (.tuple #[])) w') (∃ (n : Int),
w'_3.cell? (Addr.mk w.heap.size 0 none) = some (.int .u64 n) ∧
cnd (decide (n < 4)) (∃ (C : World → Prop),
(∀ w', Later w'_3 w' → C w') ∧
∀ w', Later w'_3 w' →
∃ (n : Int),
(∀ w', C w' →
w'.cell? (Addr.mk w.heap.size 0 none) = some (.int .u64 n)) ∧
Deref y' fun a =>
∃ (n_1 : Int),
(∀ w', C w' →
w'.cell? (a.add 9) = some (.int .u64 n_1)) ∧
Deref c' fun a =>
((w'.cell? (a.add 66)).isSome = true ∧
w'.frozen? (a.add 66) = false) ∧
∀ w'_4, w'_4 = w'.setCell (a.add 66) (.bool true) →
C w'_4 ∧
Deref c' fun a =>
((w'_4.cell? (a.add 67)).isSome = true ∧
w'_4.frozen? (a.add 67) = false) ∧
∀ w', w' = w'_4.setCell (a.add 67) (.int .u8 (IntKind.u8.wrap n)) →
C w' ∧
Deref c' fun a =>
((w'.cell? (a.add 1)).isSome = true ∧
w'.frozen? (a.add 1) = false) ∧
∀ w'_5, w'_5 = w'.setCell (a.add 1) (.int .u64 n_1) →
R (.returned (.tuple #[])) w'_5) (R (.returned (.tuple #[])) w'_3)))
theorem sacristy_cpu_Cpu_ecall.calls {c' y' : Option Addr} {w : World} {R : Ending → World → Prop} (h : sacristy_cpu_Cpu_ecall.vc c' y' w R) : Calls Tryz.prog 68 ([.pointer c', .pointer y'] : List Value).toArray w R := calls_of_eq (show fnV Tryz.prog sacristy_cpu_Cpu_ecall.H 68 [.pointer c', .pointer y'] w R = _ from by kernel_rfl) h

end Go.Proofs.YtcnnnlhoiodeaaaGreat

/-
The explicit conditions of some functions of the program, printed by this repo's own program over VcTop: what is proved is that each is the condition.
Conditions: none.
-/
namespace Go.Proofs.YtcnnnlhoiodeaaaGreat
open Go Go.Vc Go.RowKit
set_option maxRecDepth 100000

/- function 20: sacristy/cpu.New -/
abbrev cpu_New.N : FuncId := 20
def cpu_New.H : Hints := {  }
def cpu_New.vc (m' : Option Addr) (pc' : Int) (w : World) (R : Ending → World → Prop) : Prop := ∃ (b : Bool),
EqRuns Tryz.prog BinOp.eql 33 (Operand.tmp 6) (Operand.const (.pointer none)) (.pointer m') (.pointer none) b ∧
cnd b (R (.returned (.tuple #[.pointer none, .int .i64 2])) w) (∀ w', w' = w.alloc (Obj.cells #[.pointer m', .int .u64 pc', .int .u64 0, .bool false,
Value.int .u64 0, .bool false, .int .u64 0, .bool false,
Value.int .u64 0, .bool false, .int .u64 0, .bool false,
Value.int .u64 0, .bool false, .int .u64 0, .bool false,
Value.int .u64 0, .bool false, .int .u64 0, .bool false,
Value.int .u64 0, .bool false, .int .u64 0, .bool false,
Value.int .u64 0, .bool false, .int .u64 0, .bool false,
Value.int .u64 0, .bool false, .int .u64 0, .bool false,
Value.int .u64 0, .bool false, .int .u64 0, .bool false,
Value.int .u64 0, .bool false, .int .u64 0, .bool false,
Value.int .u64 0, .bool false, .int .u64 0, .bool false,
Value.int .u64 0, .bool false, .int .u64 0, .bool false,
Value.int .u64 0, .bool false, .int .u64 0, .bool false,
Value.int .u64 0, .bool false, .int .u64 0, .bool false,
Value.int .u64 0, .bool false, .int .u64 0, .bool false,
Value.int .u64 0, .bool false, .int .u64 0, .bool false,
Value.int .u64 0, .bool false, .bool false, .int .u8 0,
Value.int .i64 0, .slice none 0 0, .slice none 0 0] 95) →
R (.returned (.tuple #[.pointer (some (Addr.mk w.heap.size 0 none)), .int .i64 0])) w')
theorem cpu_New.calls {m' : Option Addr} {pc' : Int} {w : World} {R : Ending → World → Prop} (h : cpu_New.vc m' pc' w R) : Calls Tryz.prog 20 ([.pointer m', .int .u64 pc'] : List Value).toArray w R := calls_of_eq (show fnV Tryz.prog cpu_New.H 20 [.pointer m', .int .u64 pc'] w R = _ from by kernel_rfl) h

/- function 42: (*sacristy/cpu.Cpu).right -/
abbrev sacristy_cpu_Cpu_right.N : FuncId := 42
def sacristy_cpu_Cpu_right.H : Hints := {  }
def sacristy_cpu_Cpu_right.vc (c' : Option Addr) (i' : Int) (w : World) (R : Ending → World → Prop) : Prop := ∃ (b : Bool),
EqRuns Tryz.prog BinOp.eql 32 (Operand.tmp 6) (Operand.const (.pointer none)) (.pointer c') (.pointer none) b ∧
cnd b (R (.returned (.int .i64 1)) w) (cnd (decide (i' < 0)) (R (.returned (.int .i64 2)) w) (cnd (decide (i' ≥ 32)) (R (.returned (.int .i64 2)) w) (R (.returned (.int .i64 0)) w)))
theorem sacristy_cpu_Cpu_right.calls {c' : Option Addr} {i' : Int} {w : World} {R : Ending → World → Prop} (h : sacristy_cpu_Cpu_right.vc c' i' w R) : Calls Tryz.prog 42 ([.pointer c', .int .i64 i'] : List Value).toArray w R := calls_of_eq (show fnV Tryz.prog sacristy_cpu_Cpu_right.H 42 [.pointer c', .int .i64 i'] w R = _ from by kernel_rfl) h

/- function 10: (*sacristy/cpu.Cpu).Reg -/
abbrev sacristy_cpu_Cpu_Reg.N : FuncId := 10
def sacristy_cpu_Cpu_Reg.H : Hints := {  }
def sacristy_cpu_Cpu_Reg.vc (c' : Option Addr) (i' : Int) (w : World) (R : Ending → World → Prop) : Prop := Calls Tryz.prog 42 #[.pointer c', .int .i64 i'] w fun e w' =>
∃ (n : Int),
e = .returned (.int .i64 n) ∧
cnd (n != 0) (R (.returned (.tuple #[.int .u64 0, .bool false, .int .i64 n])) w') (Deref c' fun a =>
(0 ≤ i' ∧ i' < 32) ∧
∃ (n : Int),
(∀ w'_1, Later w' w'_1 → w'_1.cell? ((a.add 2).add (i'.toNat * 2)) = some (.int .u64 n)) ∧
Deref c' fun a =>
(0 ≤ i' ∧ i' < 32) ∧
∃ (b : Bool),
(∀ w'_1, Later w' w'_1 → w'_1.cell? (((a.add 2).add (i'.toNat * 2)).add 1) = some (.bool b)) ∧
∀ w'_1, Later w' w'_1 →
R (.returned (.tuple #[.int .u64 n, .bool b, .int .i64 0])) w'_1)
theorem sacristy_cpu_Cpu_Reg.calls {c' : Option Addr} {i' : Int} {w : World} {R : Ending → World → Prop} (h : sacristy_cpu_Cpu_Reg.vc c' i' w R) : Calls Tryz.prog 10 ([.pointer c', .int .i64 i'] : List Value).toArray w R := calls_of_eq (show fnV Tryz.prog sacristy_cpu_Cpu_Reg.H 10 [.pointer c', .int .i64 i'] w R = _ from by kernel_rfl) h

/- function 47: (*sacristy/cpu.Cpu).set -/
abbrev sacristy_cpu_Cpu_set.N : FuncId := 47
def sacristy_cpu_Cpu_set.H : Hints := { tails := [(2, 6)] }
def sacristy_cpu_Cpu_set.vc (c' : Option Addr) (i' x'_0 : Int) (x'_1 : Bool) (w : World) (R : Ending → World → Prop) : Prop := ∀ w', w' = w.alloc (Obj.cells #[.int .u64 x'_0, .bool x'_1] 92) →
cnd (decide (i' > 0)) (∃ (n : Int) (b : Bool),
(∀ w'_1, Later w' w'_1 →
w'_1.cell? (Addr.mk w.heap.size 0 none) = some (.int .u64 n) ∧
w'_1.cell? (Addr.mk w.heap.size 1 none) = some (.bool b) ∧ True) ∧
Deref c' fun a =>
(0 ≤ i' ∧ i' < 32) ∧
∀ w'_1, Later w' w'_1 →
SetsAt w'_1 ((a.add 2).add (i'.toNat * 2)) 0 [.int .u64 n, .bool b] ∧
∀ w', w' = setCellsAt w'_1 ((a.add 2).add (i'.toNat * 2)) 0 [.int .u64 n, .bool b] →
R (.returned (.tuple #[])) w') (R (.returned (.tuple #[])) w')
theorem sacristy_cpu_Cpu_set.calls {c' : Option Addr} {i' x'_0 : Int} {x'_1 : Bool} {w : World} {R : Ending → World → Prop} (h : sacristy_cpu_Cpu_set.vc c' i' x'_0 x'_1 w R) : Calls Tryz.prog 47 ([.pointer c', .int .u8 i', .agg #[.int .u64 x'_0, .bool x'_1]] : List Value).toArray w R := calls_of_eq (show fnV Tryz.prog sacristy_cpu_Cpu_set.H 47 [.pointer c', .int .u8 i', .agg #[.int .u64 x'_0, .bool x'_1]] w R = _ from by kernel_rfl) h

/- function 16: (*sacristy/cpu.Cpu).SetReg -/
abbrev sacristy_cpu_Cpu_SetReg.N : FuncId := 16
def sacristy_cpu_Cpu_SetReg.H : Hints := {  }
def sacristy_cpu_Cpu_SetReg.vc (c' : Option Addr) (i' v' : Int) (taint' : Bool) (w : World) (R : Ending → World → Prop) : Prop := Calls Tryz.prog 42 #[.pointer c', .int .i64 i'] w fun e w' =>
∃ (n : Int),
e = .returned (.int .i64 n) ∧
cnd (n != 0) (R (.returned (.int .i64 n)) w') (Calls Tryz.prog 47 #[.pointer c', .int .u8 (IntKind.u8.wrap i'),
Value.agg #[.int .u64 v', .bool taint']] w' fun e w' =>
e = .returned (.tuple #[]) ∧ R (.returned (.int .i64 0)) w')
theorem sacristy_cpu_Cpu_SetReg.calls {c' : Option Addr} {i' v' : Int} {taint' : Bool} {w : World} {R : Ending → World → Prop} (h : sacristy_cpu_Cpu_SetReg.vc c' i' v' taint' w R) : Calls Tryz.prog 16 ([.pointer c', .int .i64 i', .int .u64 v', .bool taint'] : List Value).toArray w R := calls_of_eq (show fnV Tryz.prog sacristy_cpu_Cpu_SetReg.H 16 [.pointer c', .int .i64 i', .int .u64 v', .bool taint'] w R = _ from by kernel_rfl) h

/- function 12: (*sacristy/cpu.Cpu).Pc -/
abbrev sacristy_cpu_Cpu_Pc.N : FuncId := 12
def sacristy_cpu_Cpu_Pc.H : Hints := {  }
def sacristy_cpu_Cpu_Pc.vc (c' : Option Addr) (w : World) (R : Ending → World → Prop) : Prop := ∃ (b : Bool),
EqRuns Tryz.prog BinOp.eql 32 (Operand.tmp 3) (Operand.const (.pointer none)) (.pointer c') (.pointer none) b ∧
cnd b (R (.returned (.int .u64 0)) w) (Deref c' fun a =>
∃ (n : Int),
w.cell? (a.add 1) = some (.int .u64 n) ∧ R (.returned (.int .u64 n)) w)
theorem sacristy_cpu_Cpu_Pc.calls {c' : Option Addr} {w : World} {R : Ending → World → Prop} (h : sacristy_cpu_Cpu_Pc.vc c' w R) : Calls Tryz.prog 12 ([.pointer c'] : List Value).toArray w R := calls_of_eq (show fnV Tryz.prog sacristy_cpu_Cpu_Pc.H 12 [.pointer c'] w R = _ from by kernel_rfl) h

/- function 15: (*sacristy/cpu.Cpu).Over -/
abbrev sacristy_cpu_Cpu_Over.N : FuncId := 15
def sacristy_cpu_Cpu_Over.H : Hints := {  }
def sacristy_cpu_Cpu_Over.vc (c' : Option Addr) (w : World) (R : Ending → World → Prop) : Prop := ∃ (b : Bool),
EqRuns Tryz.prog BinOp.eql 32 (Operand.tmp 5) (Operand.const (.pointer none)) (.pointer c') (.pointer none) b ∧
cnd b (R (.returned (.tuple #[.bool false, .int .u8 0, .int .i64 0])) w) (Deref c' fun a =>
∃ (b : Bool),
(∀ (w' : World), Later w w' → w'.cell? (a.add 66) = some (.bool b)) ∧
Deref c' fun a =>
∃ (n : Int),
(∀ (w' : World), Later w w' → w'.cell? (a.add 67) = some (.int .u8 n)) ∧
Deref c' fun a =>
∃ (n_1 : Int),
(∀ (w' : World), Later w w' → w'.cell? (a.add 68) = some (.int .i64 n_1)) ∧
∀ w', Later w w' →
R (.returned (.tuple #[.bool b, .int .u8 n, .int .i64 n_1])) w')
theorem sacristy_cpu_Cpu_Over.calls {c' : Option Addr} {w : World} {R : Ending → World → Prop} (h : sacristy_cpu_Cpu_Over.vc c' w R) : Calls Tryz.prog 15 ([.pointer c'] : List Value).toArray w R := calls_of_eq (show fnV Tryz.prog sacristy_cpu_Cpu_Over.H 15 [.pointer c'] w R = _ from by kernel_rfl) h

/- function 39: sacristy/cpu.must -/
abbrev cpu_must.N : FuncId := 39
def cpu_must.H : Hints := {  }
def cpu_must.vc (e' : Int) (w : World) (R : Ending → World → Prop) : Prop := cnd (e' != 0) (R (Ending.panicked [PanicEntry.mk (Value.iface 36 (.int .i64 e')) false false]) w) (R (.returned (.tuple #[])) w)
theorem cpu_must.calls {e' : Int} {w : World} {R : Ending → World → Prop} (h : cpu_must.vc e' w R) : Calls Tryz.prog 39 ([.int .i64 e'] : List Value).toArray w R := calls_of_eq (show fnV Tryz.prog cpu_must.H 39 [.int .i64 e'] w R = _ from by kernel_rfl) h

/- function 132: sacristy/cpu.two -/
abbrev cpu_two.N : FuncId := 132
def cpu_two.H : Hints := {  }
def cpu_two.vc (fn' a'_0 : Int) (a'_1 : Bool) (b'_0 : Int) (b'_1 : Bool) (w : World) (R : Ending → World → Prop) : Prop := ∀ w', w' = w.alloc (Obj.cells #[.int .u64 a'_0, .bool a'_1] 92) →
∀ w'_1, w'_1 = w'.alloc (Obj.cells #[.int .u64 b'_0, .bool b'_1] 92) →
∀ w'_2, w'_2 = w'_1.alloc (Obj.cells #[.int .u64 0, .bool false] 92) →
∃ (n : Int),
w'_2.cell? (Addr.mk w.heap.size 0 none) = some (.int .u64 n) ∧
∃ (n_1 : Int),
w'_2.cell? (Addr.mk w'.heap.size 0 none) = some (.int .u64 n_1) ∧
Calls Tryz.prog 11 #[.int .u8 fn', .int .u64 n, .int .u64 n_1] w'_2 fun e w'_3 =>
∃ (n n_2 : Int),
e = .returned (.tuple #[.int .u64 n, .int .i64 n_2]) ∧
Calls Tryz.prog 39 #[.int .i64 n_2] w'_3 fun e w'_4 =>
e = .returned (.tuple #[]) ∧
∃ (b : Bool),
w'_4.cell? (Addr.mk w.heap.size 1 none) = some (.bool b) ∧
cnd b (SetsAt w'_4 (Addr.mk w'_1.heap.size 0 none) 0 [.int .u64 n, .bool true] ∧
∀ w', w' = setCellsAt w'_4 (Addr.mk w'_1.heap.size 0 none) 0 [.int .u64 n, .bool true] →
∃ (n : Int) (b : Bool),
(w'.cell? (Addr.mk w'_1.heap.size 0 none) = some (.int .u64 n) ∧
w'.cell? (Addr.mk w'_1.heap.size 1 none) = some (.bool b) ∧
True) ∧
R (.returned (.agg #[.int .u64 n, .bool b])) w') (∃ (b : Bool),
w'_4.cell? (Addr.mk w'.heap.size 1 none) = some (.bool b) ∧
SetsAt w'_4 (Addr.mk w'_1.heap.size 0 none) 0 [.int .u64 n, .bool b] ∧
∀ w', w' = setCellsAt w'_4 (Addr.mk w'_1.heap.size 0 none) 0 [.int .u64 n, .bool b] →
∃ (n : Int) (b : Bool),
(w'.cell? (Addr.mk w'_1.heap.size 0 none) = some (.int .u64 n) ∧
w'.cell? (Addr.mk w'_1.heap.size 1 none) = some (.bool b) ∧
True) ∧
R (.returned (.agg #[.int .u64 n, .bool b])) w')
theorem cpu_two.vc_eq (fn' a'_0 : Int) (a'_1 : Bool) (b'_0 : Int) (b'_1 : Bool) (w : World) (R : Ending → World → Prop) : fnV Tryz.prog cpu_two.H 132 [.int .u8 fn', .agg #[.int .u64 a'_0, .bool a'_1],
Value.agg #[.int .u64 b'_0, .bool b'_1]] w R = cpu_two.vc fn' a'_0 a'_1 b'_0 b'_1 w R := by kernel_rfl
theorem cpu_two.calls {fn' a'_0 : Int} {a'_1 : Bool} {b'_0 : Int} {b'_1 : Bool} {w : World} {R : Ending → World → Prop} (h : cpu_two.vc fn' a'_0 a'_1 b'_0 b'_1 w R) : Calls Tryz.prog 132 ([.int .u8 fn', .agg #[.int .u64 a'_0, .bool a'_1],
Value.agg #[.int .u64 b'_0, .bool b'_1]] : List Value).toArray w R := calls_of_eq (cpu_two.vc_eq fn' a'_0 a'_1 b'_0 b'_1 w R) h

/- function 133: (*sacristy/cpu.act).number -/
abbrev sacristy_cpu_act_number.N : FuncId := 133
def sacristy_cpu_act_number.H : Hints := {  }
def sacristy_cpu_act_number.vc (y' : Option Addr) (w : World) (R : Ending → World → Prop) : Prop := ∀ w', w' = w.alloc (Obj.cells #[.int .u64 0, .bool false] 92) →
Deref y' fun a =>
∃ (n : Int),
w'.cell? (a.add 4) = some (.int .i64 n) ∧
SetsAt w' (Addr.mk w.heap.size 0 none) 0 [.int .u64 (IntKind.u64.wrap n), .bool false] ∧
∀ w'_1, w'_1 = setCellsAt w' (Addr.mk w.heap.size 0 none) 0 [.int .u64 (IntKind.u64.wrap n), .bool false] →
∃ (n : Int) (b : Bool),
(w'_1.cell? (Addr.mk w.heap.size 0 none) = some (.int .u64 n) ∧
w'_1.cell? (Addr.mk w.heap.size 1 none) = some (.bool b) ∧ True) ∧
R (.returned (.agg #[.int .u64 n, .bool b])) w'_1
theorem sacristy_cpu_act_number.calls {y' : Option Addr} {w : World} {R : Ending → World → Prop} (h : sacristy_cpu_act_number.vc y' w R) : Calls Tryz.prog 133 ([.pointer y'] : List Value).toArray w R := calls_of_eq (show fnV Tryz.prog sacristy_cpu_act_number.H 133 [.pointer y'] w R = _ from by kernel_rfl) h

/- function 135: (*sacristy/cpu.act).place -/
abbrev sacristy_cpu_act_place.N : FuncId := 135
def sacristy_cpu_act_place.H : Hints := {  }
def sacristy_cpu_act_place.vc (y' : Option Addr) (kind' : Int) (w : World) (R : Ending → World → Prop) : Prop := Deref y' fun a =>
∃ (n : Int),
(∀ (w' : World), Later w w' → w'.cell? (a.add 5) = some (.int .u64 n)) ∧
Deref y' fun a =>
∃ (n_1 : Int),
(∀ (w' : World), Later w w' → w'.cell? (a.add 4) = some (.int .i64 n_1)) ∧
∀ w', Later w w' →
Deref y' fun a =>
∃ (b : Bool),
w'.cell? ((a.add 5).add 1) = some (.bool b) ∧
Deref y' fun a =>
((w'.cell? ((a.add 9).add 1)).isSome = true ∧ w'.frozen? ((a.add 9).add 1) = false) ∧
∀ w'_1, w'_1 = w'.setCell ((a.add 9).add 1) (.int .u8 kind') →
Deref y' fun a =>
((w'_1.cell? ((a.add 9).add 2)).isSome = true ∧
w'_1.frozen? ((a.add 9).add 2) = false) ∧
∀ w', w' = w'_1.setCell ((a.add 9).add 2) (.int .u64 (IntKind.u64.wrap (n + IntKind.u64.wrap n_1))) →
Deref y' fun a =>
((w'.cell? ((a.add 9).add 4)).isSome = true ∧
w'.frozen? ((a.add 9).add 4) = false) ∧
∀ w'_2, w'_2 = w'.setCell ((a.add 9).add 4) (.bool b) →
R (.returned (.int .u64 (IntKind.u64.wrap (n + IntKind.u64.wrap n_1)))) w'_2
theorem sacristy_cpu_act_place.calls {y' : Option Addr} {kind' : Int} {w : World} {R : Ending → World → Prop} (h : sacristy_cpu_act_place.vc y' kind' w R) : Calls Tryz.prog 135 ([.pointer y', .int .u8 kind'] : List Value).toArray w R := calls_of_eq (show fnV Tryz.prog sacristy_cpu_act_place.H 135 [.pointer y', .int .u8 kind'] w R = _ from by kernel_rfl) h

/- function 136: (*sacristy/cpu.act).size -/
abbrev sacristy_cpu_act_size.N : FuncId := 136
def sacristy_cpu_act_size.H : Hints := {  }
def sacristy_cpu_act_size.vc (y' : Option Addr) (w : World) (R : Ending → World → Prop) : Prop := Deref y' fun a =>
∃ (n : Int),
w.cell? a = some (.int .u8 n) ∧
cnd (n == 24) (R (.returned (.int .i64 1)) w) (Deref y' fun a =>
∃ (n : Int),
w.cell? a = some (.int .u8 n) ∧
cnd (n == 26) (R (.returned (.int .i64 1)) w) (R (.returned (.int .i64 8)) w))
theorem sacristy_cpu_act_size.calls {y' : Option Addr} {w : World} {R : Ending → World → Prop} (h : sacristy_cpu_act_size.vc y' w R) : Calls Tryz.prog 136 ([.pointer y'] : List Value).toArray w R := calls_of_eq (show fnV Tryz.prog sacristy_cpu_act_size.H 136 [.pointer y'] w R = _ from by kernel_rfl) h

end Go.Proofs.YtcnnnlhoiodeaaaGreat

/-
The explicit conditions of some functions of the program, printed by this repo's own program over VcTop: what is proved is that each is the condition.
Conditions: none.
-/
namespace Go.Proofs.YtcnnnlhoiodeaaaGreat
open Go Go.Vc Go.RowKit
set_option maxRecDepth 100000

/- function 123: sacristy/sacristyref03.field -/
abbrev ref03_field.N : FuncId := 123
/- function 124: sacristy/sacristyref03.signed -/
abbrev ref03_signed.N : FuncId := 124
/- function 97: sacristy/sacristyref03.guess -/
abbrev ref03_guess.N : FuncId := 97
/- function 57: sacristy/sacristyref03.Decode -/
abbrev ref03_Decode.N : FuncId := 57
end Go.Proofs.YtcnnnlhoiodeaaaGreat

/-
A function that ranges over a function: its condition, and that the condition gives the model's call. What an iterator gives, from its own call.
Conditions: none; all is proved over any program.
-/
namespace Go.Vc
open Go.RowKit

/-! ### what a loop's own books may do to a world -/
structure Turn (B : Nat) (w w' : World) : Prop where
  os : w'.os = w.os
  tape : w'.tape = w.tape
  output : w'.output = w.output
  size : w.heap.size ≤ w'.heap.size
  keep : ∀ (k : Nat) (o : Obj), w.heap[k]? = some o → (k < B ∨ o.isCells = true) → w'.heap[k]? = some o
def Steady {β : Type} (B : Nat) (I : β → World → Prop) : Prop := ∀ s w w', I s w → Turn B w w' → I s w'
theorem Steady.own {β : Type} {B : Nat} {I : β → World → Prop} (h : Steady B I) : OwnFrom B I := by
  intro s w w' row hs hg hr
  refine h s w w' hs ⟨hg.os, hg.tape, hg.output, hg.size, fun k o ho hk => ?_⟩
  rw [hg.block k (Array.getElem?_eq_some_iff.1 ho).1 (fun e => ?_)]
  · exact ho
  · obtain ⟨h1, o', ho', hc⟩ := hr k e.symm
    rw [ho] at ho'
    cases ho'
    rcases hk with hk | hk
    · omega
    · rw [hc] at hk; cases hk
theorem Turn.later {B : Nat} {w0 w w' : World} (h : Turn B w w') (hB : w0.heap.size ≤ B) (hw : Later w0 w) : Later w0 w' :=
  ⟨h.os.trans (show Below _ _ _ from hw).os, h.tape.trans (show Below _ _ _ from hw).tape, h.output.trans (show Below _ _ _ from hw).output, Nat.le_trans (show Below _ _ _ from hw).size h.size, fun k hk => by
    have h1 := (show Below _ _ _ from hw).block k hk
    have : k < w.heap.size := Nat.lt_of_lt_of_le hk (show Below _ _ _ from hw).size
    have h2 : w.heap[k]? = some w.heap[k] := by simp [this]
    rw [h.keep k _ h2 (.inl (by omega)), ← h1, h2]⟩
theorem Turn.has {B : Nat} {w w' : World} (h : Turn B w w') {b : Nat} {cs : List Value} (hb : Has w b cs) : Has w' b cs := by
  obtain ⟨t, hb⟩ := hb
  exact ⟨t, h.keep b _ hb (.inr rfl)⟩
theorem Turn.trk {B : Nat} {w0 w w' : World} {L : List Blk} (h : Turn B w w') (hB : w0.heap.size ≤ B) (hL : Trk w0 w L) : Trk w0 w' L :=
  ⟨h.later hB hL.1, fun x hx => ⟨(hL.2.1 x hx).1, h.has (hL.2.1 x hx).2⟩, hL.2.2⟩
theorem keepsFrom_later {B : Nat} {w w' : World} (h : Later w w') : KeepsFrom B w w' := ⟨(show Below _ _ _ from h).size, fun k o _ ho _ => by rw [(show Below _ _ _ from h).block k (Array.getElem?_eq_some_iff.1 ho).1]; exact ho⟩
theorem keepsFrom_setCell (B : Nat) (w : World) (a : Addr) (v : Value) : KeepsFrom B w (w.setCell a v) := (KeepsOthers.setCell w a v).from B
theorem keepsFrom_setCellsAt (B : Nat) (a : Addr) : ∀ (l : List Value) (i : Nat) (w : World), KeepsFrom B w (setCellsAt w a i l) := by
  intro l
  induction l with
  | nil => intro i w; exact KeepsFrom.refl _ _
  | cons v l ih => intro i w; exact (keepsFrom_setCell B w _ _).trans (ih (i + 1) _)
theorem turn_putObj {B D : Nat} {w : World} {o o' : Obj} (h : w.heap[D]? = some o) (ho : o.isCells = false) (hD : B ≤ D) : Turn B w (w.putObj D o') :=
  ⟨rfl, rfl, rfl, by simp, fun k u hu hk => by
    rw [World.putObj_heap_other (fun e => ?_)]
    · exact hu
    · subst e
      rw [h] at hu
      cases hu
      rcases hk with hk | hk
      · omega
      · rw [ho] at hk; cases hk⟩
theorem Trk.setAllE {w0 w : World} {L : List Blk} (h : Trk w0 w L) (k : Nat) {b : Nat} {cs l : List Value} (hk : L[k]? = some (b, cs)) (hl : l.length = cs.length) (ho : ∀ v ∈ l, v.oneCell' = true) {K : World → Prop} (hK : ∀ w', w' = setCellsAt w ⟨b, 0, none⟩ 0 l → Trk w0 w' (L.set k (b, l)) → K w') :
    SetsAt w ⟨b, 0, none⟩ 0 l ∧ ∀ w', w' = setCellsAt w ⟨b, 0, none⟩ 0 l → K w' := by
  refine ⟨(h.has k hk).sets l 0 (by omega) ho, fun w' e => hK _ e ?_⟩
  have := Trk.setMany (k := k) l 0 w L cs h hk (by omega)
  rw [e]
  simpa [hl] using this
theorem Trk.set1E {w0 w : World} {L : List Blk} (h : Trk w0 w L) (k : Nat) {b i : Nat} {cs : List Value} {v : Value} (hk : L[k]? = some (b, cs)) (hi : i < cs.length) {K : World → Prop} (hK : ∀ w', w' = w.setCell ⟨b, i, none⟩ v → Trk w0 w' (L.set k (b, cs.set i v)) → K w') :
    ((w.cell? ⟨b, i, none⟩).isSome = true ∧ w.frozen? ⟨b, i, none⟩ = false) ∧ ∀ w', w' = w.setCell ⟨b, i, none⟩ v → K w' := by
  refine ⟨⟨?_, (h.has k hk).frozen i⟩, fun w' e => hK _ e (e ▸ h.setCell k v hk)⟩
  obtain ⟨u, hu⟩ : ∃ u, cs[i]? = some u := ⟨_, List.getElem?_eq_getElem hi⟩
  rw [h.cell k hk hu]
  rfl

/-! ### iterators -/
/-- What a round that goes on keeps: the iterator's own blocks. -/
def KpS (Ks : Nat → Prop) (w w' : World) : Prop := ∀ k, Ks k → w'.heap[k]? = w.heap[k]?
/-- What is ranged over: N rounds, with what each is handed. -/
def IterV (P : Program) (gf : Nat) (lb : Array Value) (Ks : Nat → Prop) (N : Nat) (enc : Fin N → List Value) (w : World) : Prop :=
  ∀ n, SeqStopsK Fence.wide n P gf lb (fun k => (enc k).toArray) (KpS Ks) (fun xs => xs = List.finRange N) (fun pre => pre <+: List.finRange N) N w
theorem grown_of_later {w w' : World} (h : Below w.heap.size w w') : w.grownBy w' none := ⟨h.os, h.tape, h.output, h.size, fun k hk _ => h.block k hk⟩
theorem yieldAt_wide {n m : Nat} {P : Program} {l : Nat} {args : Array Value} {w : World} {R : Ending → World → Prop} (h : YieldAt Fence.wide n P l args w R) : YieldAt Fence.wide m P l args w R := by
  obtain ⟨fn, tmps, assign, body, h1, h2⟩ := h
  exact ⟨fn, tmps, assign, body, h1, roundIn_wide h2⟩
/-- An iterator's word, from its call: the rounds are numbered. -/
theorem iterV_of {P : Program} {gf : Nat} {lb : Array Value} {Ks : Nat → Prop} {N : Nat} {enc : Fin N → List Value} {w : World}
    (h : ∀ (l : Nat) (J : Nat → World → Prop) (Jx : World → Prop) (W : World), Below w.heap.size w W → (∀ k w1 w2, J k w1 → Later w1 w2 → J k w2) → (∀ w1 w2, Jx w1 → Later w1 w2 → Jx w2) →
      (∀ (k : Fin N) (w1 : World), J k.1 w1 → YieldC P l (enc k).toArray w1 fun b w' => (b = true ∧ J (k.1 + 1) w' ∧ KpS Ks w1 w') ∨ (b = false ∧ Jx w')) → J 0 W →
      Calls P gf (#[.func (.yield l) #[] #[]] ++ lb) W fun e w' => (∃ v, e = .returned v) ∧ (J N w' ∨ Jx w')) : IterV P gf lb Ks N enc w := by
  intro n l J Jx W hW hJ hJx hY h0
  have hlen : ∀ k, k ≤ N → ((List.finRange N).take k).length = k := fun k hk => by rw [List.length_take, List.length_finRange]; omega
  refine callsIn_wide.2 ((h l (fun k w' => J ((List.finRange N).take k) w') (fun w' => ∃ pre, pre <+: List.finRange N ∧ Jx pre w') W hW
    (fun k w1 w2 h1 h2 => hJ _ _ _ none h1 (grown_of_later h2) (fun r e => by cases e)) (fun w1 w2 ⟨pre, hp, h1⟩ h2 => ⟨pre, hp, hJx _ _ _ none h1 (grown_of_later h2) (fun r e => by cases e)⟩) ?_ ?_).mono ?_)
  · intro k w1 h1
    have hs : (List.finRange N).take k.1 ++ [k] = (List.finRange N).take (k.1 + 1) := by
      rw [List.take_add_one, List.getElem?_eq_getElem (by rw [List.length_finRange]; exact k.2)]
      simp
    refine YieldAt.mono (yieldAt_wide (hY _ k w1 h1 (by rw [hlen _ (Nat.le_of_lt k.2)]; exact k.2))) ?_
    rintro e w' (⟨rfl, h2, h3⟩ | ⟨rfl, h2⟩)
    · exact ⟨true, rfl, .inl ⟨rfl, hs ▸ h2, h3⟩⟩
    · exact ⟨false, rfl, .inr ⟨rfl, _, List.take_prefix _ _, hs ▸ h2⟩⟩
  · simpa using h0
  · rintro e w' ⟨hv, h1 | ⟨pre, hp, h1⟩⟩
    · exact ⟨hv, .inl ⟨_, rfl, by simpa [List.take_of_length_le] using h1⟩⟩
    · exact ⟨hv, .inr ⟨pre, hp, h1⟩⟩

/-! ### the condition -/
def lookR (l : List (Nat × Slots × Slots)) (ps : List Tmp) : Option (Slots × Slots) :=
  match ps, l with
  | p :: _, x :: r => (match Nat.beq x.1 p with | true => some x.2 | false => lookR r ps)
  | _, _ => none
def okV : Slots → List Value → Bool
  | [], [] => true
  | x :: l, v :: vs => x.2.ok v && okV l vs
  | _, _ => false
theorem allSel_vals {l : Slots} : ∀ {L : List Value → Prop}, allSel l L → ∀ {vs : List Value}, okV l vs = true → L vs := by
  induction l with
  | nil => intro L h vs hv; cases vs with | nil => exact h | cons _ _ => cases hv
  | cons x l ih =>
    intro L h vs hv
    cases vs with
    | nil => cases hv
    | cons v vs =>
      simp only [okV, Bool.and_eq_true] at hv
      exact ih (Shape.all_elim h hv.1) hv.2
theorem okV_length : ∀ {l : Slots} {vs : List Value}, okV l vs = true → vs.length = l.length := by
  intro l
  induction l with
  | nil => intro vs hv; cases vs with | nil => rfl | cons _ _ => cases hv
  | cons x l ih =>
    intro vs hv
    cases vs with
    | nil => cases hv
    | cons v vs => simp only [okV, Bool.and_eq_true] at hv; simp [ih hv.2]
def samePs : Slots → List Tmp → Bool
  | [], [] => true
  | x :: l, p :: ps => Nat.beq x.1 p && samePs l ps
  | _, _ => false
theorem samePs_fold : ∀ {l : Slots} {ps : List Tmp}, samePs l ps = true → ∀ {vs : List Value} {tm : List Value}, vs.length = l.length →
    (ps.zip vs).foldl (fun (t : Array Value) (p, v) => t.setIfInBounds p v) tm.toArray = (setSel l vs tm).toArray ∧ ps.length = l.length := by
  intro l
  induction l with
  | nil => intro ps h vs tm hl; cases ps with | nil => simp [setSel] | cons _ _ => cases h
  | cons x l ih =>
    intro ps h vs tm hl
    cases ps with
    | nil => cases h
    | cons p ps =>
      cases vs with
      | nil => simp at hl
      | cons v vs =>
        simp only [samePs, Bool.and_eq_true] at h
        have he : x.1 = p := Nat.eq_of_beq_eq_true h.1
        simp only [List.length_cons] at hl
        obtain ⟨h1, h2⟩ := ih h.2 (vs := vs) (tm := tm.set p v) (by omega)
        refine ⟨?_, by simp [h2]⟩
        simp only [List.zip_cons_cons, List.foldl_cons, setSel, he]
        rw [← h1]
        simp
def roundQ {N : Nat} (B : Nat) (Ks : Nat → Prop) (I Ix : List (Fin N) → World → Prop) (xs : List (Fin N)) (w : World) : Exit → List Value → World → Prop
  | .normal, _, w' => KeepsFrom B w w' ∧ KpS Ks w w' ∧ I xs w'
  | .ret, _, w' => KeepsFrom B w w' ∧ Ix xs w'
  | _, _, _ => False
def takenQ {N : Nat} (B : Nat) (Ks : Nat → Prop) (I : List (Fin N) → World → Prop) (Mid : Fin N → List Value → World → Prop) (S : Slots) (pre : List (Fin N)) (x : Fin N) (w : World) : Exit → List Value → World → Prop
  | .normal, tm, w' => KeepsFrom B w w' ∧ KpS Ks w w' ∧ I pre w' ∧ meetQ S (Mid x) tm w'
  | _, _, _ => False
/-- What the caller says of its rounds. -/
structure Rounds (P : Program) (gf : Nat) (lb : Array Value) (w : World) where
  N : Nat
  enc : Fin N → List Value
  Ks : Nat → Prop
  I : List (Fin N) → World → Prop
  Ix : List (Fin N) → World → Prop
  Mid : Fin N → List Value → World → Prop
  iter : IterV P gf lb Ks N enc w
  own : ∀ k, Ks k → k < w.heap.size
  steady : Steady w.heap.size I
  steadyX : Steady w.heap.size Ix
  steadyM : ∀ vs, Steady w.heap.size (fun x => Mid x vs)
  start : I [] w
def rangeV (P : Program) (H : Hints) (S1 S2 : Slots) (g : Operand) (ps : Array Tmp) (assign body : Code) (QD : Nat → Exit → List Value → World → Prop) (tm : List Value) (w : World) : Prop :=
  cnd (samePs S1 ps.toList && (subS S2 (assigned assign) && (roundB H assign && roundB H body))) (AsFn (ev tm g) fun gf fi lb => cnd (entersB P gf)
    (fi = #[] ∧ ∃ r : Rounds P gf lb w, (∀ x, okV S1 (r.enc x) = true) ∧
      (allSel S1 fun vs => ∀ (pre : List (Fin r.N)) (x : Fin r.N) (w1 : World), r.enc x = vs → r.I pre w1 → codeV P H assign (takenQ w.heap.size r.Ks r.I r.Mid S2 pre x w1) (setSel S1 vs tm) w1) ∧
      (allSel S1 fun vs => ∀ (pre : List (Fin r.N)) (x : Fin r.N), r.enc x = vs → pre.length < r.N → joinV S2 (assigned assign) (setSel S1 vs tm) (fun us w1 => r.I pre w1 ∧ r.Mid x us w1) fun tm1 w1 => codeV P H body (roundQ w.heap.size r.Ks r.I r.Ix (pre ++ [x]) w1) tm1 w1) ∧
      (∀ (D : Nat) (w1 : World), w.heap.size ≤ D → r.I (List.finRange r.N) w1 → w1.heap[D]? = some (.deferred (some [])) → QD D .normal tm w1) ∧
      (∀ (D : Nat) (pre : List (Fin r.N)) (w1 : World), w.heap.size ≤ D → pre <+: List.finRange r.N → r.Ix pre w1 → w1.heap[D]? = some (.deferred (some [])) → QD D .ret tm w1)) False) False
def hasRange : Code → Bool
  | .rangeFunc .. => true
  | .seq a b => hasRange a || hasRange b
  | .block _ c => hasRange c
  | _ => false
def thenD (P : Program) (H : Hints) (b : Code) (QD : Nat → Exit → List Value → World → Prop) (D : Nat) : Exit → List Value → World → Prop
  | .normal, tm, w => codeV P H b (QD D) tm w
  | e, tm, w => QD D e tm w
def rngV (P : Program) (H : Hints) : Code → (Nat → Exit → List Value → World → Prop) → (Exit → List Value → World → Prop) → List Value → World → Prop
  | .seq a b, QD, Q, tm, w => (match hasRange a with
    | true => rngV P H a (thenD P H b QD) (seqQ (fun tm w => codeV P H b Q tm w) Q) tm w
    | false => codeV P H a (seqQ (fun tm w => rngV P H b QD Q tm w) Q) tm w)
  | .block id c, QD, Q, tm, w => rngV P H c (fun D => blockQ id (QD D)) (blockQ id Q) tm w
  | .rangeFunc g ps a b, QD, Q, tm, w => IsSome (lookR H.rngs ps.toList) fun S => rangeV P H S.1 S.2 g ps a b QD tm w
  | _, _, _, _, _ => False

def coll (D : Nat) : List Deferred := [{ target := .collected D, args := #[] }]
def upM (QD : Nat → Exit → List Value → World → Prop) (Q : Exit → List Value → World → Prop) (e : Exit) (a : Act) (w : World) : Prop := upD [] Q e a w ∨ ∃ D, upD (coll D) (QD D) e a w

theorem rangeV_wp {P : Program} {H : Hints} {n : Nat} {S1 S2 : Slots} {g : Operand} {ps : Array Tmp} {assign body : Code} {QD : Nat → Exit → List Value → World → Prop} {Q : Exit → List Value → World → Prop} {tm : List Value} {w : World}
    (h : rangeV P H S1 S2 g ps assign body QD tm w) : (Code.rangeFunc g ps assign body).wpIn Fence.wide (n + 1) P (upM QD Q) (actD [] tm) w := by
  obtain ⟨hB, h⟩ := (cnd_cases h).resolve_right fun h => h.2
  simp only [Bool.and_eq_true] at hB
  obtain ⟨hps, hS2, hRa, hRb⟩ := hB
  obtain ⟨gf, fi, lb, hv, h⟩ := AsFn_elim h
  obtain ⟨hent, h⟩ := (cnd_cases h).resolve_right fun h => h.2
  obtain ⟨rfl, r, hok, hassign, hbody, hdone, hstop⟩ := h
  have hlen : ∀ x, (r.enc x).length = S1.length := fun x => okV_length (hok x)
  have hfold : ∀ x, (ps.zip (r.enc x).toArray).foldl (fun (t : Array Value) (p, v) => t.setIfInBounds p v) (actD [] tm).tmps = (setSel S1 (r.enc x) tm).toArray := by
    intro x
    have := (samePs_fold hps (tm := tm) (hlen x)).1
    rw [← Array.foldl_toList]
    simpa [actD, Array.toList_zip] using this
  refine wpIn_rangeFunc_ownH (w0 := w) rfl (by omega) (by rw [eval_act]; exact hv) trivial (fun args w => run_callFunc hent w) (r.iter _)
    (fun h1 h2 k hk => (h2 k hk).trans (h1 k hk)) ?_ (Below.refl _ _) ?_ r.I (fun c xs w1 => c = .ret ∧ r.Ix xs w1) r.steady.own (fun c => ?_) r.start
    (fun x a' w1 => a'.defers = [] ∧ Agree (assigned assign) (setSel S1 (r.enc x) tm) a'.tmps.toList ∧ okSel S2 a'.tmps.toList = true ∧ r.Mid x (selL S2 a'.tmps.toList) w1) ?_ ?_ ?_ ?_ ?_
  · intro W l o o' hl ho _ _ k hk
    exact World.putObj_heap_other (by have := r.own k hk; omega)
  · intro x
    have := (samePs_fold hps (vs := r.enc x) (tm := tm) (hlen x)).2
    simpa [hlen x] using this.symm
  · intro s W W' row ⟨h1, h2⟩ hg hr
    exact ⟨h1, r.steadyX.own s W W' row h2 hg hr⟩
  · intro x a' s W W' row ⟨h1, h2, h3, h4⟩ hg hr
    exact ⟨h1, h2, h3, (r.steadyM _).own x W W' row h4 hg hr⟩
  · intro l pre x W K hI hK
    have h1 := allSel_vals hassign (hok x) pre x W rfl hI
    have h2 := codeV_round (ds := []) (l := l) (n := n + 1 - 1 - 1) assign (Q := fun e tm' w' => Agree (assigned assign) (setSel S1 (r.enc x) tm) tm' ∧ takenQ w.heap.size r.Ks r.I r.Mid S2 pre x W e tm' w') hRa (fun _ _ h => h.2) (codeV_agree h1)
    have he : (actD [] (setSel S1 (r.enc x) tm)) = { tmps := (ps.zip (r.enc x).toArray).foldl (fun t (p, v) => t.setIfInBounds p v) (actD [] tm).tmps, defers := [] } := by
      rw [hfold x]; rfl
    rw [he] at h2
    refine wpIn_mono h2 ?_
    rintro e a' w' ⟨hd, ha, hq⟩
    cases e with
    | normal =>
      obtain ⟨q1, q2, q3, q4⟩ := hq
      rcases cnd_cases q4 with ⟨q5, q6⟩ | ⟨_, q6⟩
      · exact hK a' w' q1 q2 q3 ⟨hd, ha, q5, q6⟩
      · exact q6.elim
    | _ => exact hq.elim
  · intro l pre x a' W _ _ hI ⟨hd, ha, hk, hm⟩ hpl
    have h1 := joinV_elim (allSel_vals hbody (hok x) pre x rfl hpl) ha (show meetQ S2 (fun us w1 => r.I pre w1 ∧ r.Mid x us w1) a'.tmps.toList W from cnd_true hk ⟨hI, hm⟩)
    have h2 := codeV_round (ds := []) (l := l) (n := n + 1 - 1 - 1) body hRb (fun _ _ h => h) h1
    rw [← act_of hd] at h2
    refine wpIn_mono h2 ?_
    rintro e a2 w' ⟨hd2, hq⟩
    cases e with
    | normal => exact hq
    | ret => exact ⟨hq.1, rfl, hq.2⟩
    | _ => exact hq.elim
  · rintro D xs W hD rfl hI hW
    exact .inr ⟨D, rfl, by simpa [actD] using hdone D W hD hI hW⟩
  · rintro D c pre W hD hp ⟨rfl, hx⟩ hW
    exact wpIn_ret (.inr ⟨D, rfl, by simpa [actD] using hstop D pre W hD hp hx hW⟩)
theorem rngV_wp {P : Program} {H : Hints} {n : Nat} (c : Code) : ∀ {QD : Nat → Exit → List Value → World → Prop} {Q : Exit → List Value → World → Prop} {tm : List Value} {w : World}, rngV P H c QD Q tm w → c.wpIn Fence.wide (n + 1) P (upM QD Q) (actD [] tm) w := by
  induction c with
  | seq a b iha ihb =>
    intro QD Q tm w h
    unfold rngV at h
    split at h
    · refine wpIn_seq (wpIn_mono (iha h) ?_)
      rintro e a' w' (⟨hd, h'⟩ | ⟨D, hd, h'⟩)
      · cases e with
        | normal => rw [act_of hd]; exact wpIn_mono (wpIn_wide.2 (codeV_wp (ds := []) b h')) fun e a w h => .inl h
        | _ => exact .inl ⟨hd, h'⟩
      · cases e with
        | normal => rw [act_of hd]; exact wpIn_mono (wpIn_wide.2 (codeV_wp (ds := coll D) b h')) fun e a w h => .inr ⟨D, h⟩
        | _ => exact .inr ⟨D, hd, h'⟩
    · refine wpIn_seq (wpIn_mono (wpIn_wide.2 (codeV_wp (ds := []) a h)) ?_)
      rintro e a' w' ⟨hd, h'⟩
      cases e with
      | normal => rw [act_of hd]; exact ihb h'
      | _ => exact .inl ⟨hd, h'⟩
  | block id c ih =>
    intro QD Q tm w h
    unfold rngV at h
    refine wpIn_block (wpIn_mono (ih h) ?_)
    have hb : ∀ {ds : List Deferred} {Q : Exit → List Value → World → Prop} {e : Exit} {a' : Act} {w' : World}, upD ds (blockQ id Q) e a' w' → ∀ {K : Exit → Act → World → Prop}, (∀ e a w, upD ds Q e a w → K e a w) → Exit.inBlock id K e a' w' := by
      intro ds Q e a' w' ⟨hd, h'⟩ K hK
      cases e with
      | exit id' =>
        unfold blockQ at h'
        unfold Exit.inBlock
        by_cases hi : id' = id
        · subst hi
          simp only [show Nat.beq id' id' = true from Nat.beq_refl id'] at h'
          simp only [if_true]
          exact hK _ _ _ ⟨hd, h'⟩
        · have : Nat.beq id' id = false := by
            cases hn : Nat.beq id' id with
            | false => rfl
            | true => exact absurd (Nat.eq_of_beq_eq_true hn) hi
          simp only [this] at h'
          simp only [hi, if_false]
          exact hK _ _ _ ⟨hd, h'⟩
      | _ => exact hK _ _ _ ⟨hd, h'⟩
    rintro e a' w' (h' | ⟨D, h'⟩)
    · exact hb h' fun e a w h => .inl h
    · exact hb h' fun e a w h => .inr ⟨D, h⟩
  | rangeFunc g ps a b _ _ =>
    intro QD Q tm w h
    unfold rngV at h
    obtain ⟨S, _, h⟩ := IsSome_elim h
    exact rangeV_wp h
  | _ => intro QD Q tm w h; exact h.elim

/-! ### a function -/
def endD (P : Program) (fn : Func) (R : Ending → World → Prop) (D : Nat) : Exit → List Value → World → Prop
  | .normal, tm, w | .ret, tm, w => w.heap[D]? = some (.deferred (some [])) ∧ ∀ w', w' = w.putObj D (.deferred none) → resV P w' tm fn.results.toList fun vs => R (.returned (oneOr vs)) w'
  | _, _, _ => False
def fnM (P : Program) (H : Hints) (f : FuncId) (args : List Value) (w : World) (R : Ending → World → Prop) : Prop :=
  IsSome P.funcs[f]? fun fn => IsSome fn.body fun c => rngV P H c (endD P fn R) (endQ P fn R) (args ++ List.replicate (fn.ntmps - args.length) undef) w
theorem calls_of_fnM (H : Hints) {P : Program} {f : FuncId} {args : List Value} {w : World} {R : Ending → World → Prop} (h : fnM P H f args w R) : Calls P f args.toArray w R := by
  obtain ⟨fn, hf, h⟩ := IsSome_elim h
  obtain ⟨c, hb, h⟩ := IsSome_elim h
  refine (callsIn_wide (n := 2)).1 (callsIn_of_wp_marks hf hb trivial ?_)
  have he : actD [] (args ++ List.replicate (fn.ntmps - args.length) undef) = { tmps := args.toArray ++ Array.replicate (fn.ntmps - args.toArray.size) undef, defers := [] } := by
    simp [actD]
  have h1 := rngV_wp (n := 1) c h
  rw [he] at h1
  refine wpIn_mono h1 ?_
  rintro e a w' (h' | ⟨D, hd, h'⟩)
  · have h2 := endQ_post h'
    obtain ⟨hd, hq⟩ := h'
    cases e with
    | normal => simp only [bodyPostM, hd, LeavesInM, LeavesIn]; exact h2.2
    | ret => simp only [bodyPostM, hd, LeavesInM, LeavesIn]; exact h2.2
    | panic ch => simp only [bodyPostM, hd, LeavesInM, LeavesIn]; exact h2.2
    | exit id => exact h2.elim
    | goto l => exact h2.elim
    | outgrown => exact hq.elim
  · have fin : w'.heap[D]? = some (.deferred (some [])) ∧ (∀ w1, w1 = w'.putObj D (.deferred none) → resV P w1 a.tmps.toList fn.results.toList fun vs => R (.returned (oneOr vs)) w1) → LeavesInM Fence.wide 2 P fn a.tmps R a.defers .returning w' := by
      rintro ⟨hD, hr⟩
      rw [hd]
      refine ⟨by simp, .inl ⟨D, _, rfl, run_takeDeferred hD, ?_⟩⟩
      have h2 : upD [] (endQ P fn R) .ret { a with defers := [] } (w'.putObj D (.deferred none)) := ⟨rfl, hr _ rfl⟩
      exact (endQ_post h2).2
    cases e with
    | normal => exact fin h'
    | ret => exact fin h'
    | _ => exact h'.elim
theorem calls_of_eqM {P : Program} {H : Hints} {f : FuncId} {args : List Value} {w : World} {R : Ending → World → Prop} {X : Prop} (he : fnM P H f args w R = X) (h : X) : Calls P f args.toArray w R := calls_of_fnM H (by rw [he]; exact h)
end Go.Vc

/-
The explicit conditions of some functions of the program, printed by this repo's own program over VcTop: what is proved is that each is the condition.
Conditions: none.
-/
namespace Go.Proofs.YtcnnnlhoiodeaaaGreat
open Go Go.Vc Go.RowKit
set_option maxRecDepth 100000

/- function 105: sacristy/disas.guesses$1 -/
abbrev disas_guesses_1.N : FuncId := 105
def disas_guesses_1.H : Hints := { loops := [(2, [(3, .one (.int .u8))])], conds := [(6015, []), (8021, []), (10027, [])], raw := [10], yields := [(10, 2)] }
def disas_guesses_1.vc (yield' : Value) (c0 : Option Addr) (w : World) (R : Ending → World → Prop) : Prop := ∃ (I : List Value → World → Prop) (μ : List Value → World → Nat),
I [.int .u8 1] w ∧
∀ (g : Nat → Value) (op : Int) (w' : World),
I [.int .u8 op] w' →
cnd (decide (op ≤ 34)) (Deref c0 fun ad =>
∃ (n : Int),
w'.cell? ad = some (.int .u32 n) ∧
Calls Tryz.prog 106 #[.int .u8 op, .int .u32 n] w' fun e w'_1 =>
∃ (n : Int),
e = .returned (.int .i64 n) ∧
∀ w'_2, w'_2 = w'_1.alloc (Obj.cells #[.int .u8 0, .int .u8 0, .int .u8 0,
Value.int .u8 0, .int .i64 0] 25) →
SetsAt w'_2 (Addr.mk w'_1.heap.size 0 none) 0 [.int .u8 op, .int .u8 0, .int .u8 0,
Value.int .u8 0, .int .i64 n] ∧
∀ w'_3, w'_3 = setCellsAt w'_2 (Addr.mk w'_1.heap.size 0 none) 0 [.int .u8 op, .int .u8 0, .int .u8 0,
Value.int .u8 0, .int .i64 n] →
Calls Tryz.prog 107 #[.int .u8 op] w'_3 fun e w'_4 =>
∃ (b : Bool),
e = .returned (.bool b) ∧
∃ (J : List Value → World → Prop),
cnd b (Deref c0 fun ad =>
∃ (n : Int),
w'_4.cell? ad = some (.int .u32 n) ∧
Calls Tryz.prog 108 #[.int .u32 n, .int .i64 7,
Value.int .i64 5] w'_4 fun e w' =>
∃ (n : Int),
e = .returned (.int .u32 n) ∧
((w'.cell? (Addr.mk w'_1.heap.size 1 none)).isSome = true ∧
w'.frozen? (Addr.mk w'_1.heap.size 1 none) = false) ∧
∀ w'_5, w'_5 = w'.setCell (Addr.mk w'_1.heap.size 1 none) (.int .u8 (IntKind.u8.wrap n)) →
J [] w'_5) (J [] w'_4) ∧
∀ (g : Nat → Value) (w'_5 : World),
J [] w'_5 →
Calls Tryz.prog 109 #[.int .u8 op] w'_5 fun e w'_6 =>
∃ (b : Bool),
e = .returned (.bool b) ∧
∃ (J : List Value → World → Prop),
cnd b (Deref c0 fun ad =>
∃ (n : Int),
w'_6.cell? ad = some (.int .u32 n) ∧
Calls Tryz.prog 108 #[.int .u32 n, .int .i64 15,
Value.int .i64 5] w'_6 fun e w' =>
∃ (n : Int),
e = .returned (.int .u32 n) ∧
((w'.cell? (Addr.mk w'_1.heap.size 2 none)).isSome = true ∧
w'.frozen? (Addr.mk w'_1.heap.size 2 none) = false) ∧
∀ w'_7, w'_7 = w'.setCell (Addr.mk w'_1.heap.size 2 none) (.int .u8 (IntKind.u8.wrap n)) →
J [] w'_7) (J [] w'_6) ∧
∀ (g : Nat → Value) (w'_7 : World),
J [] w'_7 →
Calls Tryz.prog 110 #[.int .u8 op] w'_7 fun e w'_8 =>
∃ (b : Bool),
e = .returned (.bool b) ∧
∃ (J : List Value → World → Prop),
cnd b (Deref c0 fun ad =>
∃ (n : Int),
w'_8.cell? ad = some (.int .u32 n) ∧
Calls Tryz.prog 108 #[.int .u32 n,
Value.int .i64 20,
Value.int .i64 5] w'_8 fun e w' =>
∃ (n : Int),
e = .returned (.int .u32 n) ∧
((w'.cell? (Addr.mk w'_1.heap.size 3 none)).isSome = true ∧
w'.frozen? (Addr.mk w'_1.heap.size 3 none) = false) ∧
∀ w'_9, w'_9 = w'.setCell (Addr.mk w'_1.heap.size 3 none) (.int .u8 (IntKind.u8.wrap n)) →
J [] w'_9) (J [] w'_8) ∧
∀ (g : Nat → Value) (w'_9 : World),
J [] w'_9 →
∃ (n n_1 : Int) (n_2 n_3 n_4 : Int),
(w'_9.cell? (Addr.mk w'_1.heap.size 0 none) = some (.int .u8 n) ∧
w'_9.cell? (Addr.mk w'_1.heap.size 1 none) = some (.int .u8 n_1) ∧
w'_9.cell? (Addr.mk w'_1.heap.size 2 none) = some (.int .u8 n_2) ∧
w'_9.cell? (Addr.mk w'_1.heap.size 3 none) = some (.int .u8 n_3) ∧
w'_9.cell? (Addr.mk w'_1.heap.size 4 none) = some (.int .i64 n_4) ∧
True) ∧
AsYield yield' fun (l : Nat) =>
YieldC Tryz.prog l #[.agg #[.int .u8 n,
Value.int .u8 n_1,
Value.int .u8 n_2,
Value.int .u8 n_3,
Value.int .i64 n_4]] w'_9 fun (b : Bool) (w'_10 : World) =>
cnd (!b) (R (.returned (.tuple #[])) w'_10) (Goes I μ [.int .u8 op] w' [.int .u8 (IntKind.u8.wrap (op + 1))] w'_10)) (R (.returned (.tuple #[])) w')
theorem disas_guesses_1.calls {yield' : Value} {c0 : Option Addr} {w : World} {R : Ending → World → Prop} (h : disas_guesses_1.vc yield' c0 w R) : Calls Tryz.prog 105 ([yield', .pointer c0] : List Value).toArray w R := calls_of_eq (show fnV Tryz.prog disas_guesses_1.H 105 [yield', .pointer c0] w R = _ from by kernel_rfl) h

/- function 40: sacristy/disas.Decode -/
abbrev disas_Decode.N : FuncId := 40
def disas_Decode.H : Hints := { rngs := [(9, [(9, .agg [(.int .u8), (.int .u8), (.int .u8), (.int .u8), (.int .i64)])], [(4, .one .ptr)])] }
def disas_Decode.vc (w' : Int) (w : World) (R : Ending → World → Prop) : Prop := ∀ w'_1, w'_1 = w.alloc (Obj.cells #[.int .u32 w'] 43) →
∀ w', w' = w'_1.alloc (Obj.cells #[.int .u8 0, .int .u8 0, .int .u8 0, .int .u8 0,
Value.int .i64 0] 25) →
∀ w'_2, w'_2 = w'.alloc (Obj.cells #[.int .i64 0] 36) →
∃ (n : Int),
w'_2.cell? (Addr.mk w.heap.size 0 none) = some (.int .u32 n) ∧
Calls Tryz.prog 66 #[.int .u32 n] w'_2 fun e w'_3 =>
∃ (v : Value),
e = .returned v ∧
AsFn v fun (gf : FuncId) (fi lb : Array Value) =>
cnd (entersB Tryz.prog gf) (fi = #[] ∧
∃ (r : Rounds Tryz.prog gf lb w'_3),
(∀ (x : Fin r.N),
okV [(9,
Shape.agg [Sh.int .u8, Sh.int .u8, Sh.int .u8, Sh.int .u8,
Sh.int .i64])] (r.enc x) = true) ∧
(∀ (s9_0 s9_1 s9_2 s9_3 s9_4 : Int) (pre : List (Fin r.N)) (x : Fin r.N) (w1 : World),
r.enc x = [.agg #[.int .u8 s9_0, .int .u8 s9_1,
Value.int .u8 s9_2, .int .u8 s9_3,
Value.int .i64 s9_4]] →
r.I pre w1 →
∀ w', w' = w1.alloc (Obj.cells #[.int .u8 0, .int .u8 0,
Value.int .u8 0, .int .u8 0,
Value.int .i64 0] 25) →
SetsAt w' (Addr.mk w1.heap.size 0 none) 0 [.int .u8 s9_0, .int .u8 s9_1,
Value.int .u8 s9_2, .int .u8 s9_3,
Value.int .i64 s9_4] ∧
∀ w'_4, w'_4 = setCellsAt w' (Addr.mk w1.heap.size 0 none) 0 [.int .u8 s9_0, .int .u8 s9_1,
Value.int .u8 s9_2, .int .u8 s9_3,
Value.int .i64 s9_4] →
KeepsFrom w'_3.heap.size w1 w'_4 ∧
KpS r.Ks w1 w'_4 ∧
r.I pre w'_4 ∧
r.Mid x [.pointer (some (Addr.mk w1.heap.size 0 none))] w'_4) ∧
(∀ (s9_0 s9_1 s9_2 s9_3 s9_4 : Int) (pre : List (Fin r.N)) (x : Fin r.N),
r.enc x = [.agg #[.int .u8 s9_0, .int .u8 s9_1,
Value.int .u8 s9_2, .int .u8 s9_3,
Value.int .i64 s9_4]] →
pre.length < r.N →
∀ (g : Nat → Value) (x_1 : Option Addr) (w'_4 : World),
r.I pre w'_4 ∧ r.Mid x [.pointer x_1] w'_4 →
Deref x_1 fun ad =>
∃ (n n_1 : Int) (n_2 n_3 n_4 : Int),
(w'_4.cell? ad = some (.int .u8 n) ∧
w'_4.cell? (ad.add 1) = some (.int .u8 n_1) ∧
w'_4.cell? (ad.add 2) = some (.int .u8 n_2) ∧
w'_4.cell? (ad.add 3) = some (.int .u8 n_3) ∧
w'_4.cell? (ad.add 4) = some (.int .i64 n_4) ∧
True) ∧
Calls Tryz.prog 13 #[.agg #[.int .u8 n, .int .u8 n_1,
Value.int .u8 n_2, .int .u8 n_3,
Value.int .i64 n_4]] w'_4 fun e w'_5 =>
∃ (n n_5 : Int),
e = .returned (.tuple #[.int .u32 n,
Value.int .i64 n_5]) ∧
cnd (n_5 == 0) (∃ (n_6 : Int),
w'_5.cell? (Addr.mk w.heap.size 0 none) = some (.int .u32 n_6) ∧
cnd (n == n_6) (Deref x_1 fun ad =>
∃ (n n_7 : Int) (n_8 n_9 n_10 : Int),
(w'_5.cell? ad = some (.int .u8 n) ∧
w'_5.cell? (ad.add 1) = some (.int .u8 n_7) ∧
w'_5.cell? (ad.add 2) = some (.int .u8 n_8) ∧
w'_5.cell? (ad.add 3) = some (.int .u8 n_9) ∧
w'_5.cell? (ad.add 4) = some (.int .i64 n_10) ∧
True) ∧
SetsAt w'_5 (Addr.mk w'_1.heap.size 0 none) 0 [.int .u8 n,
Value.int .u8 n_7,
Value.int .u8 n_8,
Value.int .u8 n_9,
Value.int .i64 n_10] ∧
∀ w'_6, w'_6 = setCellsAt w'_5 (Addr.mk w'_1.heap.size 0 none) 0 [.int .u8 n,
Value.int .u8 n_7,
Value.int .u8 n_8,
Value.int .u8 n_9,
Value.int .i64 n_10] →
((w'_6.cell? (Addr.mk w'.heap.size 0 none)).isSome = true ∧
w'_6.frozen? (Addr.mk w'.heap.size 0 none) = false) ∧
∀ w'_7, w'_7 = w'_6.setCell (Addr.mk w'.heap.size 0 none) (.int .i64 0) →
KeepsFrom w'_3.heap.size w'_4 w'_7 ∧
r.Ix (pre ++ [x]) w'_7) (KeepsFrom w'_3.heap.size w'_4 w'_5 ∧
KpS r.Ks w'_4 w'_5 ∧
r.I (pre ++ [x]) w'_5)) (KeepsFrom w'_3.heap.size w'_4 w'_5 ∧
KpS r.Ks w'_4 w'_5 ∧ r.I (pre ++ [x]) w'_5)) ∧
(∀ (D : Nat) (w1 : World),
w'_3.heap.size ≤ D →
r.I (List.finRange r.N) w1 →
w1.heap[D]? = some (Obj.deferred (some [])) →
SetsAt w1 (Addr.mk w'_1.heap.size 0 none) 0 [.int .u8 0, .int .u8 0,
Value.int .u8 0, .int .u8 0,
Value.int .i64 0] ∧
∀ w'_4, w'_4 = setCellsAt w1 (Addr.mk w'_1.heap.size 0 none) 0 [.int .u8 0, .int .u8 0,
Value.int .u8 0, .int .u8 0,
Value.int .i64 0] →
((w'_4.cell? (Addr.mk w'.heap.size 0 none)).isSome = true ∧
w'_4.frozen? (Addr.mk w'.heap.size 0 none) = false) ∧
∀ w'_5, w'_5 = w'_4.setCell (Addr.mk w'.heap.size 0 none) (.int .i64 7) →
w'_5.heap[D]? = some (Obj.deferred (some [])) ∧
∀ w'_6, w'_6 = w'_5.putObj D (Obj.deferred none) →
∃ (n n_1 : Int) (n_2 n_3 n_4 : Int),
(w'_6.cell? (Addr.mk w'_1.heap.size 0 none) = some (.int .u8 n) ∧
w'_6.cell? (Addr.mk w'_1.heap.size 1 none) = some (.int .u8 n_1) ∧
w'_6.cell? (Addr.mk w'_1.heap.size 2 none) = some (.int .u8 n_2) ∧
w'_6.cell? (Addr.mk w'_1.heap.size 3 none) = some (.int .u8 n_3) ∧
w'_6.cell? (Addr.mk w'_1.heap.size 4 none) = some (.int .i64 n_4) ∧
True) ∧
∃ (n_5 : Int),
w'_6.cell? (Addr.mk w'.heap.size 0 none) = some (.int .i64 n_5) ∧
R (.returned (.tuple #[.agg #[.int .u8 n,
Value.int .u8 n_1,
Value.int .u8 n_2,
Value.int .u8 n_3,
Value.int .i64 n_4],
Value.int .i64 n_5])) w'_6) ∧
∀ (D : Nat) (pre : List (Fin r.N)) (w1 : World),
w'_3.heap.size ≤ D →
(∃ (t : List (Fin r.N)), pre ++ t = List.finRange r.N) →
r.Ix pre w1 →
w1.heap[D]? = some (Obj.deferred (some [])) →
w1.heap[D]? = some (Obj.deferred (some [])) ∧
∀ w'_4, w'_4 = w1.putObj D (Obj.deferred none) →
∃ (n n_1 : Int) (n_2 n_3 n_4 : Int),
(w'_4.cell? (Addr.mk w'_1.heap.size 0 none) = some (.int .u8 n) ∧
w'_4.cell? (Addr.mk w'_1.heap.size 1 none) = some (.int .u8 n_1) ∧
w'_4.cell? (Addr.mk w'_1.heap.size 2 none) = some (.int .u8 n_2) ∧
w'_4.cell? (Addr.mk w'_1.heap.size 3 none) = some (.int .u8 n_3) ∧
w'_4.cell? (Addr.mk w'_1.heap.size 4 none) = some (.int .i64 n_4) ∧
True) ∧
∃ (n_5 : Int),
w'_4.cell? (Addr.mk w'.heap.size 0 none) = some (.int .i64 n_5) ∧
R (.returned (.tuple #[.agg #[.int .u8 n,
Value.int .u8 n_1,
Value.int .u8 n_2,
Value.int .u8 n_3,
Value.int .i64 n_4],
Value.int .i64 n_5])) w'_4) False
theorem disas_Decode.calls {w' : Int} {w : World} {R : Ending → World → Prop} (h : disas_Decode.vc w' w R) : Calls Tryz.prog 40 ([.int .u32 w'] : List Value).toArray w R := calls_of_eqM (show fnM Tryz.prog disas_Decode.H 40 [.int .u32 w'] w R = _ from by kernel_rfl) h

end Go.Proofs.YtcnnnlhoiodeaaaGreat

/-
The explicit conditions of some functions of the program, printed by this repo's own program over VcTop: what is proved is that each is the condition.
Conditions: none.
-/
namespace Go.Proofs.YtcnnnlhoiodeaaaGreat
open Go Go.Vc Go.RowKit
set_option maxRecDepth 100000

/- function 108: sacristy/disas.field -/
abbrev disas_field.N : FuncId := 108
def disas_field.H : Hints := {  }
def disas_field.vc (w' at' n' : Int) (w : World) (R : Ending → World → Prop) : Prop := cnd (decide (at' < 0)) False (cnd (decide (n' < 0)) False (∀ w'_1, Later w w'_1 →
R (.returned (.int .u32 (bits BinOp.and .u32 (w'.fdiv (2 ^ min at'.toNat 32)) (IntKind.u32.wrap (IntKind.u32.wrap (1 * 2 ^ min n'.toNat 32) - 1))))) w'_1))
theorem disas_field.calls {w' at' n' : Int} {w : World} {R : Ending → World → Prop} (h : disas_field.vc w' at' n' w R) : Calls Tryz.prog 108 ([.int .u32 w', .int .i64 at', .int .i64 n'] : List Value).toArray w R := calls_of_eq (show fnV Tryz.prog disas_field.H 108 [.int .u32 w', .int .i64 at', .int .i64 n'] w R = _ from by kernel_rfl) h

/- function 131: sacristy/disas.signed -/
abbrev disas_signed.N : FuncId := 131
def disas_signed.H : Hints := {  }
def disas_signed.vc (v' bits' : Int) (w : World) (R : Ending → World → Prop) : Prop := Calls Tryz.prog 139 #[.int .u64 (IntKind.u64.wrap v'), .int .i64 bits'] w fun e w' =>
∃ (n n_1 : Int),
e = .returned (.tuple #[.int .u64 n, .int .i64 n_1]) ∧
R (.returned (.int .i64 (IntKind.i64.wrap n))) w'
theorem disas_signed.calls {v' bits' : Int} {w : World} {R : Ending → World → Prop} (h : disas_signed.vc v' bits' w R) : Calls Tryz.prog 131 ([.int .u32 v', .int .i64 bits'] : List Value).toArray w R := calls_of_eq (show fnV Tryz.prog disas_signed.H 131 [.int .u32 v', .int .i64 bits'] w R = _ from by kernel_rfl) h

/- function 107: sacristy/disas.hasRd -/
abbrev disas_hasRd.N : FuncId := 107
def disas_hasRd.H : Hints := {  }
def disas_hasRd.vc (op' : Int) (w : World) (R : Ending → World → Prop) : Prop := cnd (op' == 26) (cnd (op' == 26) (R (.returned (.bool false)) w) (R (.returned (.bool true)) w)) (cnd (op' == 27) (cnd (op' == 27) (R (.returned (.bool false)) w) (R (.returned (.bool true)) w)) (cnd (op' == 28) (cnd (op' == 28) (R (.returned (.bool false)) w) (R (.returned (.bool true)) w)) (cnd (op' == 29) (cnd (op' == 29) (R (.returned (.bool false)) w) (R (.returned (.bool true)) w)) (cnd (op' == 30) (cnd (op' == 30) (R (.returned (.bool false)) w) (R (.returned (.bool true)) w)) (cnd (op' == 31) (cnd (op' == 31) (R (.returned (.bool false)) w) (R (.returned (.bool true)) w)) (cnd (op' == 34) (R (.returned (.bool false)) w) (R (.returned (.bool true)) w)))))))
theorem disas_hasRd.calls {op' : Int} {w : World} {R : Ending → World → Prop} (h : disas_hasRd.vc op' w R) : Calls Tryz.prog 107 ([.int .u8 op'] : List Value).toArray w R := calls_of_eq (show fnV Tryz.prog disas_hasRd.H 107 [.int .u8 op'] w R = _ from by kernel_rfl) h

/- function 109: sacristy/disas.hasRs1 -/
abbrev disas_hasRs1.N : FuncId := 109
def disas_hasRs1.H : Hints := {  }
def disas_hasRs1.vc (op' : Int) (w : World) (R : Ending → World → Prop) : Prop := cnd (op' != 23) (cnd (op' != 32) (R (.returned (.bool (op' != 34))) w) (R (.returned (.bool false)) w)) (R (.returned (.bool false)) w)
theorem disas_hasRs1.calls {op' : Int} {w : World} {R : Ending → World → Prop} (h : disas_hasRs1.vc op' w R) : Calls Tryz.prog 109 ([.int .u8 op'] : List Value).toArray w R := calls_of_eq (show fnV Tryz.prog disas_hasRs1.H 109 [.int .u8 op'] w R = _ from by kernel_rfl) h

/- function 110: sacristy/disas.hasRs2 -/
abbrev disas_hasRs2.N : FuncId := 110
def disas_hasRs2.H : Hints := {  }
def disas_hasRs2.vc (op' : Int) (w : World) (R : Ending → World → Prop) : Prop := cnd (decide (op' ≤ 14)) (R (.returned (.bool true)) w) (cnd (op' == 26) (R (.returned (.bool true)) w) (cnd (op' == 27) (R (.returned (.bool true)) w) (cnd (decide (op' ≥ 28)) (R (.returned (.bool (decide (op' ≤ 31)))) w) (R (.returned (.bool false)) w))))
theorem disas_hasRs2.calls {op' : Int} {w : World} {R : Ending → World → Prop} (h : disas_hasRs2.vc op' w R) : Calls Tryz.prog 110 ([.int .u8 op'] : List Value).toArray w R := calls_of_eq (show fnV Tryz.prog disas_hasRs2.H 110 [.int .u8 op'] w R = _ from by kernel_rfl) h

/- function 66: sacristy/disas.guesses -/
abbrev disas_guesses.N : FuncId := 66
def disas_guesses.H : Hints := {  }
def disas_guesses.vc (w' : Int) (w : World) (R : Ending → World → Prop) : Prop := ∀ w'_1, w'_1 = w.alloc (Obj.cells #[.int .u32 w'] 43) →
R (.returned (Value.func (Fn.func 105) #[] #[.pointer (some (Addr.mk w.heap.size 0 none))])) w'_1
theorem disas_guesses.calls {w' : Int} {w : World} {R : Ending → World → Prop} (h : disas_guesses.vc w' w R) : Calls Tryz.prog 66 ([.int .u32 w'] : List Value).toArray w R := calls_of_eq (show fnV Tryz.prog disas_guesses.H 66 [.int .u32 w'] w R = _ from by kernel_rfl) h

end Go.Proofs.YtcnnnlhoiodeaaaGreat

/-
The explicit conditions of some functions of the program, printed by this repo's own program over VcTop: what is proved is that each is the condition.
Conditions: none.
-/
namespace Go.Proofs.YtcnnnlhoiodeaaaGreat
open Go Go.Vc Go.RowKit
set_option maxRecDepth 100000

/- function 106: sacristy/disas.number -/
abbrev disas_number.N : FuncId := 106
def disas_number.H : Hints := { conds := [(4006, [(6, .one .bool)]), (9012, [(12, .one .bool)]), (12016, [(16, .one .bool)]), (16022, [(22, .one .bool)]), (18025, [(25, .one .bool)])] }
def disas_number.vc (op' w' : Int) (w : World) (R : Ending → World → Prop) : Prop := ∃ (J : List Value → World → Prop),
cnd (op' == 15) (J [.bool (op' == 15)] w) (cnd (op' == 16) (J [.bool (op' == 16)] w) (cnd (op' == 17) (J [.bool (op' == 17)] w) (cnd (op' == 18) (J [.bool (op' == 18)] w) (J [.bool (op' == 19)] w)))) ∧
∀ (g : Nat → Value) (s6 : Bool) (w'_1 : World),
J [.bool s6] w'_1 →
cnd s6 (Calls Tryz.prog 108 #[.int .u32 w', .int .i64 20, .int .i64 12] w'_1 fun e w' =>
∃ (n : Int),
e = .returned (.int .u32 n) ∧
Calls Tryz.prog 131 #[.int .u32 n, .int .i64 12] w' fun e w' =>
∃ (n : Int),
e = .returned (.int .i64 n) ∧ R (.returned (.int .i64 n)) w') (∃ (J : List Value → World → Prop),
cnd (op' == 24) (J [.bool (op' == 24)] w'_1) (cnd (op' == 25) (J [.bool (op' == 25)] w'_1) (J [.bool (op' == 33)] w'_1)) ∧
∀ (g : Nat → Value) (s12 : Bool) (w'_2 : World),
J [.bool s12] w'_2 →
cnd s12 (Calls Tryz.prog 108 #[.int .u32 w', .int .i64 20, .int .i64 12] w'_2 fun e w' =>
∃ (n : Int),
e = .returned (.int .u32 n) ∧
Calls Tryz.prog 131 #[.int .u32 n, .int .i64 12] w' fun e w' =>
∃ (n : Int),
e = .returned (.int .i64 n) ∧
R (.returned (.int .i64 n)) w') (∃ (J : List Value → World → Prop),
cnd (op' == 20) (J [.bool (op' == 20)] w'_2) (cnd (op' == 21) (J [.bool (op' == 21)] w'_2) (J [.bool (op' == 22)] w'_2)) ∧
∀ (g : Nat → Value) (s16 : Bool) (w'_3 : World),
J [.bool s16] w'_3 →
cnd s16 (Calls Tryz.prog 108 #[.int .u32 w', .int .i64 20, .int .i64 6] w'_3 fun e w' =>
∃ (n : Int),
e = .returned (.int .u32 n) ∧
R (.returned (.int .i64 (IntKind.i64.wrap n))) w') (cnd (op' == 23) (Calls Tryz.prog 131 #[.int .u32 (bits BinOp.andNot .u32 w' 4095),
Value.int .i64 32] w'_3 fun e w' =>
∃ (n : Int),
e = .returned (.int .i64 n) ∧
R (.returned (.int .i64 n)) w') (∃ (J : List Value → World → Prop),
cnd (op' == 26) (J [.bool (op' == 26)] w'_3) (J [.bool (op' == 27)] w'_3) ∧
∀ (g : Nat → Value) (s22 : Bool) (w'_4 : World),
J [.bool s22] w'_4 →
cnd s22 (Calls Tryz.prog 108 #[.int .u32 w', .int .i64 25,
Value.int .i64 7] w'_4 fun e w'_5 =>
∃ (n : Int),
e = .returned (.int .u32 n) ∧
Calls Tryz.prog 108 #[.int .u32 w', .int .i64 7,
Value.int .i64 5] w'_5 fun e w' =>
∃ (n_1 : Int),
e = .returned (.int .u32 n_1) ∧
Calls Tryz.prog 131 #[.int .u32 (bits BinOp.or .u32 (IntKind.u32.wrap (n * 32)) n_1),
Value.int .i64 12] w' fun e w' =>
∃ (n : Int),
e = .returned (.int .i64 n) ∧
R (.returned (.int .i64 n)) w') (∃ (J : List Value → World → Prop),
cnd (op' == 28) (J [.bool (op' == 28)] w'_4) (cnd (op' == 29) (J [.bool (op' == 29)] w'_4) (cnd (op' == 30) (J [.bool (op' == 30)] w'_4) (J [.bool (op' == 31)] w'_4))) ∧
∀ (g : Nat → Value) (s25 : Bool) (w'_5 : World),
J [.bool s25] w'_5 →
cnd s25 (Calls Tryz.prog 108 #[.int .u32 w', .int .i64 8,
Value.int .i64 4] w'_5 fun e w'_6 =>
∃ (n : Int),
e = .returned (.int .u32 n) ∧
Calls Tryz.prog 108 #[.int .u32 w', .int .i64 25,
Value.int .i64 6] w'_6 fun e w'_7 =>
∃ (n_1 : Int),
e = .returned (.int .u32 n_1) ∧
Calls Tryz.prog 108 #[.int .u32 w', .int .i64 7,
Value.int .i64 1] w'_7 fun e w'_8 =>
∃ (n_2 : Int),
e = .returned (.int .u32 n_2) ∧
Calls Tryz.prog 108 #[.int .u32 w',
Value.int .i64 31,
Value.int .i64 1] w'_8 fun e w' =>
∃ (n_3 : Int),
e = .returned (.int .u32 n_3) ∧
Calls Tryz.prog 131 #[.int .u32 (bits BinOp.or .u32 (bits BinOp.or .u32 (bits BinOp.or .u32 (IntKind.u32.wrap (n * 2)) (IntKind.u32.wrap (n_1 * 32))) (IntKind.u32.wrap (n_2 * 2048))) (IntKind.u32.wrap (n_3 * 4096))),
Value.int .i64 13] w' fun e w' =>
∃ (n : Int),
e = .returned (.int .i64 n) ∧
R (.returned (.int .i64 n)) w') (cnd (op' == 32) (Calls Tryz.prog 108 #[.int .u32 w', .int .i64 21,
Value.int .i64 10] w'_5 fun e w'_6 =>
∃ (n : Int),
e = .returned (.int .u32 n) ∧
Calls Tryz.prog 108 #[.int .u32 w', .int .i64 20,
Value.int .i64 1] w'_6 fun e w'_7 =>
∃ (n_1 : Int),
e = .returned (.int .u32 n_1) ∧
Calls Tryz.prog 108 #[.int .u32 w',
Value.int .i64 12, .int .i64 8] w'_7 fun e w'_8 =>
∃ (n_2 : Int),
e = .returned (.int .u32 n_2) ∧
Calls Tryz.prog 108 #[.int .u32 w',
Value.int .i64 31,
Value.int .i64 1] w'_8 fun e w' =>
∃ (n_3 : Int),
e = .returned (.int .u32 n_3) ∧
Calls Tryz.prog 131 #[.int .u32 (bits BinOp.or .u32 (bits BinOp.or .u32 (bits BinOp.or .u32 (IntKind.u32.wrap (n * 2)) (IntKind.u32.wrap (n_1 * 2048))) (IntKind.u32.wrap (n_2 * 4096))) (IntKind.u32.wrap (n_3 * 1048576))),
Value.int .i64 21] w' fun e w' =>
∃ (n : Int),
e = .returned (.int .i64 n) ∧
R (.returned (.int .i64 n)) w') (R (.returned (.int .i64 0)) w'_5)))))))
theorem disas_number.calls {op' w' : Int} {w : World} {R : Ending → World → Prop} (h : disas_number.vc op' w' w R) : Calls Tryz.prog 106 ([.int .u8 op', .int .u32 w'] : List Value).toArray w R := calls_of_eq (show fnV Tryz.prog disas_number.H 106 [.int .u8 op', .int .u32 w'] w R = _ from by kernel_rfl) h

end Go.Proofs.YtcnnnlhoiodeaaaGreat

/-
The contracts of package disas, first part: fields of a word, numbers, which registers an Op has.
Conditions: the word is one of 32 bits.
-/
namespace Go.Proofs.YtcnnnlhoiodeaaaGreat
open Go Go.Vc Go.RowKit
set_option maxRecDepth 100000

def W32 (w : Int) : Prop := 0 ≤ w ∧ w < 4294967296
def fldI (w : Int) (at_ n : Nat) : Int := w / 2 ^ at_ % 2 ^ n
theorem fldI_range (w : Int) (at_ n : Nat) : 0 ≤ fldI w at_ n ∧ fldI w at_ n < 2 ^ n := ⟨Int.emod_nonneg _ (Int.ne_of_gt (two_pow_pos _)), Int.emod_lt_of_pos _ (two_pow_pos _)⟩
theorem pow_le31 (n : Nat) (hn : n ≤ 31) : 1 ≤ (2 : Nat) ^ n ∧ (2 : Nat) ^ n ≤ 2147483648 := ⟨Nat.one_le_two_pow, Nat.pow_le_pow_right (by decide) hn⟩
theorem fld_and {w : Int} (hw : W32 w) (at_ n : Nat) (ha : at_ ≤ 32) (hn : n ≤ 31) :
    bits .and .u32 (w.fdiv (2 ^ min (at_ : Int).toNat 32)) (IntKind.u32.wrap (IntKind.u32.wrap (1 * 2 ^ min (n : Int).toNat 32) - 1)) = fldI w at_ n := by
  obtain ⟨h0, h1⟩ := hw
  obtain ⟨m, rfl⟩ := Int.eq_ofNat_of_zero_le h0
  obtain ⟨p0, p1⟩ := pow_le31 n hn
  have e1 : min ((at_ : Nat) : Int).toNat 32 = at_ := by omega
  have e2 : min ((n : Nat) : Int).toNat 32 = n := by omega
  rw [e1, e2, fdiv_nn _ (Int.le_of_lt (two_pow_pos _)), Int.one_mul]
  have e3 : ((2 : Int) ^ n) = ((2 ^ n : Nat) : Int) := by simp
  have e4 : ((2 : Int) ^ at_) = ((2 ^ at_ : Nat) : Int) := by simp
  unfold fldI
  rw [e3, e4, u32_in (x := ((2 ^ n : Nat) : Int)) (by omega) (by omega), u32_in (by omega) (by omega)]
  have e5 : (((2 ^ n : Nat) : Int) - 1) = ((2 ^ n - 1 : Nat) : Int) := by omega
  have hm : m / 2 ^ at_ ≤ m := Nat.div_le_self _ _
  have e6 : (m : Int) / ((2 ^ at_ : Nat) : Int) = ((m / 2 ^ at_ : Nat) : Int) := by simp
  rw [e5, e6, bits_and_u32 _ _ (by omega) (by omega), Nat.and_two_pow_sub_one_eq_mod]
  simp
theorem disas_field_ok {w : Int} (hw : W32 w) (at_ n : Nat) (ha : at_ ≤ 32) (hn : n ≤ 31) (w0 : World) : Calls Tryz.prog disas_field.N #[u32v w, i64v at_, i64v n] w0 (Gives (u32v (fldI w at_ n)) w0) := by
  refine disas_field.calls ?_
  unfold disas_field.vc
  refine cnd_false (by simp) (cnd_false (by simp) fun w1 h1 => ⟨?_, h1⟩)
  rw [fld_and hw at_ n ha hn]
/-- A number of so many bits, with its sign. -/
def sgn (v : Int) (n : Int) : Int := IntKind.i64.wrap (signv v n)
theorem sgn_range (v n : Int) : I64 (sgn v n) := by
  unfold sgn I64
  rw [wrap_i64]
  omega
theorem disas_signed_ok {v : Int} (hv : W32 v) (n : Int) (hn : 0 ≤ n ∧ n ≤ 64) (w0 : World) : Calls Tryz.prog disas_signed.N #[u32v v, i64v n] w0 (Gives (i64v (sgn v n)) w0) := by
  refine disas_signed.calls ?_
  unfold disas_signed.vc
  rw [wrap_u64, Int.emod_eq_of_lt hv.1 (Int.lt_trans hv.2 (by decide))]
  exact (word_Sign_ok v n (by omega) (by omega) w0).mono fun e w1 ⟨he, l1⟩ => ⟨_, _, he, rfl, l1⟩

theorem bl {a b : Bool} (h : a = true ↔ b = true) : ([Value.bool a] : List Value) = [.bool b] := by rw [Bool.eq_iff_iff.2 h]
theorem bEnd {a b : Bool} (h : a = true ↔ b = true) : Ending.returned (.bool a) = Ending.returned (.bool b) := by rw [Bool.eq_iff_iff.2 h]
/-- What an Op would have as its number. -/
def numS (o w : Int) : Int :=
  if (15 ≤ o ∧ o ≤ 19) ∨ o = 24 ∨ o = 25 ∨ o = 33 then sgn (fldI w 20 12) 12
  else if 20 ≤ o ∧ o ≤ 22 then fldI w 20 6
  else if o = 23 then sgn (fldI w 12 20 * 4096) 32
  else if o = 26 ∨ o = 27 then sgn (fldI w 25 7 * 32 + fldI w 7 5) 12
  else if 28 ≤ o ∧ o ≤ 31 then sgn (fldI w 8 4 * 2 + fldI w 25 6 * 32 + fldI w 7 1 * 2048 + fldI w 31 1 * 4096) 13
  else if o = 32 then sgn (fldI w 21 10 * 2 + fldI w 20 1 * 2048 + fldI w 12 8 * 4096 + fldI w 31 1 * 1048576) 21
  else 0
theorem numS_range (o w : Int) : I64 (numS o w) := by
  unfold numS
  have h6 := fldI_range w 20 6
  split
  · exact sgn_range _ _
  split
  · exact ⟨by omega, by have := h6.2; simp only [show (2 : Int) ^ 6 = 64 from rfl] at this; omega⟩
  split
  · exact sgn_range _ _
  split
  · exact sgn_range _ _
  split
  · exact sgn_range _ _
  split
  · exact sgn_range _ _
  · exact ⟨by omega, by omega⟩
theorem bits_or_comm (x y : Int) : bits .or .u32 x y = bits .or .u32 y x := by
  simp only [bits]
  rw [BitVec.or_comm]
theorem or_low {x y : Int} (k : Nat) (h0 : 0 ≤ x) (h1 : x < 2 ^ k) (hy : 0 ≤ y) (hx : x < 4294967296) (hyk : y * 2 ^ k < 4294967296) : bits .or .u32 (IntKind.u32.wrap (y * 2 ^ k)) x = y * 2 ^ k + x := by
  have : 0 ≤ y * 2 ^ k := Int.mul_nonneg hy (Int.le_of_lt (two_pow_pos _))
  rw [u32_in this hyk, bits_or_comm, or_bits x y k h0 h1 hy hx hyk, Int.add_comm]
theorem or_high {x y : Int} (k : Nat) (h0 : 0 ≤ x) (h1 : x < 2 ^ k) (hy : 0 ≤ y) (hx : x < 4294967296) (hyk : y * 2 ^ k < 4294967296) : bits .or .u32 x (IntKind.u32.wrap (y * 2 ^ k)) = x + y * 2 ^ k := by
  have : 0 ≤ y * 2 ^ k := Int.mul_nonneg hy (Int.le_of_lt (two_pow_pos _))
  rw [u32_in this hyk, or_bits x y k h0 h1 hy hx hyk]
theorem andNot_4095 {w : Int} (hw : W32 w) : bits .andNot .u32 w 4095 = fldI w 12 20 * 4096 := by
  obtain ⟨h0, h1⟩ := hw
  obtain ⟨m, rfl⟩ := Int.eq_ofNat_of_zero_le h0
  have hm : m < 4294967296 := by omega
  have e : (BitVec.ofInt 32 (m : Int) &&& ~~~ (BitVec.ofInt 32 4095)).toNat = m / 4096 * 4096 := by
    have e1 : BitVec.ofInt 32 (m : Int) = BitVec.ofNat 32 m := by rw [BitVec.ofInt_natCast]
    rw [e1]
    have e2 : (BitVec.ofNat 32 m &&& ~~~ (BitVec.ofInt 32 4095)) = (BitVec.ofNat 32 m >>> 12) <<< 12 := by
      generalize BitVec.ofNat 32 m = b
      apply BitVec.eq_of_getLsbD_eq
      intro i hi
      have : ∀ i : Fin 32, (BitVec.ofInt 32 4095).getLsbD i.1 = decide (i.1 < 12) := by decide
      have := this ⟨i, hi⟩
      simp only [BitVec.getLsbD_and, BitVec.getLsbD_not, this, BitVec.getLsbD_shiftLeft, BitVec.getLsbD_ushiftRight, hi]
      by_cases h : i < 12
      · simp [h]
      · simp [h, show 12 + (i - 12) = i by omega]
    rw [e2, BitVec.toNat_shiftLeft, BitVec.toNat_ushiftRight, BitVec.toNat_ofNat]
    rw [Nat.mod_eq_of_lt (show m < 2 ^ 32 by omega), Nat.shiftRight_eq_div_pow, Nat.shiftLeft_eq]
    omega
  simp only [bits]
  rw [show IntKind.u32.bits = 32 from rfl, e, wrap_u32]
  unfold fldI
  simp only [show (2 : Int) ^ 12 = 4096 from rfl, show (2 : Int) ^ 20 = 1048576 from rfl]
  omega
theorem disas_number_ok (o : Int) {w : Int} (hw : W32 w) (w0 : World) : Calls Tryz.prog disas_number.N #[.int .u8 o, u32v w] w0 (Gives (i64v (numS o w)) w0) := by
  have f (at_ n : Nat) (ha : at_ ≤ 32) (hn : n ≤ 31) := fun w1 => disas_field_ok hw at_ n ha hn w1
  refine disas_number.calls ?_
  unfold disas_number.vc
  refine ⟨fun vs w1 => vs = [.bool (decide (15 ≤ o ∧ o ≤ 19))] ∧ Later w0 w1, ?_, ?_⟩
  · refine cnd_of (fun h => ⟨?_, Later.refl _⟩) fun h => cnd_of (fun h => ⟨?_, Later.refl _⟩) fun h => cnd_of (fun h => ⟨?_, Later.refl _⟩) fun h => cnd_of (fun h => ⟨?_, Later.refl _⟩) fun h => ⟨?_, Later.refl _⟩
    all_goals refine bl ?_
    all_goals simp only [beq_iff_eq, decide_eq_true_eq, beq_eq_false_iff_ne, ne_eq] at *
    all_goals omega
  rintro g s6 w1 ⟨hs, g1⟩
  simp only [List.cons.injEq, Value.bool.injEq, and_true] at hs
  subst hs
  have r12 := fldI_range w 20 12
  simp only [show (2 : Int) ^ 12 = 4096 from rfl] at r12
  refine cnd_of (fun h => ?_) fun h => ?_
  · simp only [decide_eq_true_eq] at h
    refine (f 20 12 (by omega) (by omega) w1).mono fun e w2 ⟨he, g2⟩ => ⟨_, he, (disas_signed_ok ⟨r12.1, by omega⟩ 12 (by omega) w2).mono fun e w3 ⟨he, g3⟩ => ⟨_, he, ?_, (g1.trans g2).trans g3⟩⟩
    rw [numS, if_pos (.inl h)]
  simp only [decide_eq_false_iff_not] at h
  refine ⟨fun vs w1 => vs = [.bool (decide (o = 24 ∨ o = 25 ∨ o = 33))] ∧ Later w0 w1, ?_, ?_⟩
  · refine cnd_of (fun h => ⟨?_, g1⟩) fun h => cnd_of (fun h => ⟨?_, g1⟩) fun h => ⟨?_, g1⟩
    all_goals refine bl ?_
    all_goals simp only [beq_iff_eq, decide_eq_true_eq, beq_eq_false_iff_ne, ne_eq] at *
    all_goals omega
  rintro g s6 w1 ⟨hs, g1⟩
  simp only [List.cons.injEq, Value.bool.injEq, and_true] at hs
  subst hs
  refine cnd_of (fun h2 => ?_) fun h2 => ?_
  · simp only [decide_eq_true_eq] at h2
    refine (f 20 12 (by omega) (by omega) w1).mono fun e w2 ⟨he, g2⟩ => ⟨_, he, (disas_signed_ok ⟨r12.1, by omega⟩ 12 (by omega) w2).mono fun e w3 ⟨he, g3⟩ => ⟨_, he, ?_, (g1.trans g2).trans g3⟩⟩
    rw [numS, if_pos (.inr h2)]
  simp only [decide_eq_false_iff_not] at h2
  have hA : ¬ ((15 ≤ o ∧ o ≤ 19) ∨ o = 24 ∨ o = 25 ∨ o = 33) := by omega
  refine ⟨fun vs w1 => vs = [.bool (decide (20 ≤ o ∧ o ≤ 22))] ∧ Later w0 w1, ?_, ?_⟩
  · refine cnd_of (fun h => ⟨?_, g1⟩) fun h => cnd_of (fun h => ⟨?_, g1⟩) fun h => ⟨?_, g1⟩
    all_goals refine bl ?_
    all_goals simp only [beq_iff_eq, decide_eq_true_eq, beq_eq_false_iff_ne, ne_eq] at *
    all_goals omega
  rintro g s6 w1 ⟨hs, g1⟩
  simp only [List.cons.injEq, Value.bool.injEq, and_true] at hs
  subst hs
  refine cnd_of (fun h3 => ?_) fun h3 => ?_
  · simp only [decide_eq_true_eq] at h3
    have r := fldI_range w 20 6
    simp only [show (2 : Int) ^ 6 = 64 from rfl] at r
    refine (f 20 6 (by omega) (by omega) w1).mono fun e w2 ⟨he, g2⟩ => ⟨_, he, ?_, g1.trans g2⟩
    rw [numS, if_neg hA, if_pos h3, i64_in (by omega) (by omega)]
  simp only [decide_eq_false_iff_not] at h3
  refine cnd_of (fun h4 => ?_) fun h4 => ?_
  · simp only [beq_iff_eq] at h4
    have r := fldI_range w 12 20
    simp only [show (2 : Int) ^ 20 = 1048576 from rfl] at r
    rw [andNot_4095 hw]
    refine (disas_signed_ok ⟨by omega, by omega⟩ 32 (by omega) w1).mono fun e w3 ⟨he, g3⟩ => ⟨_, he, ?_, g1.trans g3⟩
    rw [numS, if_neg hA, if_neg h3, if_pos h4]
  have h4 : ¬ o = 23 := by simpa using h4
  refine ⟨fun vs w1 => vs = [.bool (decide (o = 26 ∨ o = 27))] ∧ Later w0 w1, ?_, ?_⟩
  · refine cnd_of (fun h => ⟨?_, g1⟩) fun h => ⟨?_, g1⟩
    all_goals refine bl ?_
    all_goals simp only [beq_iff_eq, decide_eq_true_eq, beq_eq_false_iff_ne, ne_eq] at *
    all_goals omega
  rintro g s6 w1 ⟨hs, g1⟩
  simp only [List.cons.injEq, Value.bool.injEq, and_true] at hs
  subst hs
  refine cnd_of (fun h5 => ?_) fun h5 => ?_
  · simp only [decide_eq_true_eq] at h5
    have r := fldI_range w 25 7
    have r' := fldI_range w 7 5
    simp only [show (2 : Int) ^ 7 = 128 from rfl, show (2 : Int) ^ 5 = 32 from rfl] at r r'
    have e := or_low (x := fldI w 7 5) (y := fldI w 25 7) 5 r'.1 r'.2 r.1 (by omega) (by rw [show (2 : Int) ^ 5 = 32 from rfl]; omega)
    rw [show (2 : Int) ^ 5 = 32 from rfl] at e
    refine (f 25 7 (by omega) (by omega) w1).mono fun e w2 ⟨he, g2⟩ => ⟨_, he, (f 7 5 (by omega) (by omega) w2).mono fun e' w3 ⟨he', g3⟩ => ⟨_, he', ?_⟩⟩
    rw [‹bits .or .u32 _ _ = _›]
    refine (disas_signed_ok ⟨by omega, by omega⟩ 12 (by omega) w3).mono fun e w4 ⟨he, g4⟩ => ⟨_, he, ?_, ((g1.trans g2).trans g3).trans g4⟩
    rw [numS, if_neg hA, if_neg h3, if_neg h4, if_pos h5]
  simp only [decide_eq_false_iff_not] at h5
  refine ⟨fun vs w1 => vs = [.bool (decide (28 ≤ o ∧ o ≤ 31))] ∧ Later w0 w1, ?_, ?_⟩
  · refine cnd_of (fun h => ⟨?_, g1⟩) fun h => cnd_of (fun h => ⟨?_, g1⟩) fun h => cnd_of (fun h => ⟨?_, g1⟩) fun h => ⟨?_, g1⟩
    all_goals refine bl ?_
    all_goals simp only [beq_iff_eq, decide_eq_true_eq, beq_eq_false_iff_ne, ne_eq] at *
    all_goals omega
  rintro g s6 w1 ⟨hs, g1⟩
  simp only [List.cons.injEq, Value.bool.injEq, and_true] at hs
  subst hs
  refine cnd_of (fun h6 => ?_) fun h6 => ?_
  · simp only [decide_eq_true_eq] at h6
    have a := fldI_range w 8 4
    have b := fldI_range w 25 6
    have c := fldI_range w 7 1
    have d := fldI_range w 31 1
    simp only [show (2 : Int) ^ 4 = 16 from rfl, show (2 : Int) ^ 6 = 64 from rfl, show (2 : Int) ^ 1 = 2 from rfl] at a b c d
    have e1 := or_high (x := fldI w 8 4 * 2) (y := fldI w 25 6) 5 (by omega) (by rw [show (2 : Int) ^ 5 = 32 from rfl]; omega) b.1 (by omega) (by rw [show (2 : Int) ^ 5 = 32 from rfl]; omega)
    have e2 := or_high (x := fldI w 8 4 * 2 + fldI w 25 6 * 32) (y := fldI w 7 1) 11 (by omega) (by rw [show (2 : Int) ^ 11 = 2048 from rfl]; omega) c.1 (by omega) (by rw [show (2 : Int) ^ 11 = 2048 from rfl]; omega)
    have e3 := or_high (x := fldI w 8 4 * 2 + fldI w 25 6 * 32 + fldI w 7 1 * 2048) (y := fldI w 31 1) 12 (by omega) (by rw [show (2 : Int) ^ 12 = 4096 from rfl]; omega) d.1 (by omega) (by rw [show (2 : Int) ^ 12 = 4096 from rfl]; omega)
    rw [show (2 : Int) ^ 5 = 32 from rfl] at e1
    rw [show (2 : Int) ^ 11 = 2048 from rfl] at e2
    rw [show (2 : Int) ^ 12 = 4096 from rfl] at e3
    refine (f 8 4 (by omega) (by omega) w1).mono fun e w2 ⟨he, g2⟩ => ⟨_, he, (f 25 6 (by omega) (by omega) w2).mono fun e' w3 ⟨he', g3⟩ => ⟨_, he', (f 7 1 (by omega) (by omega) w3).mono fun e' w4 ⟨he', g4⟩ => ⟨_, he', (f 31 1 (by omega) (by omega) w4).mono fun e' w5 ⟨he', g5⟩ => ⟨_, he', ?_⟩⟩⟩⟩
    rw [u32_in (x := fldI w 8 4 * 2) (by omega) (by omega), e1, e2, e3]
    refine (disas_signed_ok ⟨by omega, by omega⟩ 13 (by omega) w5).mono fun e w6 ⟨he, g6⟩ => ⟨_, he, ?_, ((((g1.trans g2).trans g3).trans g4).trans g5).trans g6⟩
    rw [numS, if_neg hA, if_neg h3, if_neg h4, if_neg h5, if_pos h6]
  simp only [decide_eq_false_iff_not] at h6
  refine cnd_of (fun h7 => ?_) fun h7 => ⟨?_, g1⟩
  · simp only [beq_iff_eq] at h7
    have a := fldI_range w 21 10
    have b := fldI_range w 20 1
    have c := fldI_range w 12 8
    have d := fldI_range w 31 1
    simp only [show (2 : Int) ^ 10 = 1024 from rfl, show (2 : Int) ^ 8 = 256 from rfl, show (2 : Int) ^ 1 = 2 from rfl] at a b c d
    have e1 := or_high (x := fldI w 21 10 * 2) (y := fldI w 20 1) 11 (by omega) (by rw [show (2 : Int) ^ 11 = 2048 from rfl]; omega) b.1 (by omega) (by rw [show (2 : Int) ^ 11 = 2048 from rfl]; omega)
    have e2 := or_high (x := fldI w 21 10 * 2 + fldI w 20 1 * 2048) (y := fldI w 12 8) 12 (by omega) (by rw [show (2 : Int) ^ 12 = 4096 from rfl]; omega) c.1 (by omega) (by rw [show (2 : Int) ^ 12 = 4096 from rfl]; omega)
    have e3 := or_high (x := fldI w 21 10 * 2 + fldI w 20 1 * 2048 + fldI w 12 8 * 4096) (y := fldI w 31 1) 20 (by omega) (by rw [show (2 : Int) ^ 20 = 1048576 from rfl]; omega) d.1 (by omega) (by rw [show (2 : Int) ^ 20 = 1048576 from rfl]; omega)
    rw [show (2 : Int) ^ 11 = 2048 from rfl] at e1
    rw [show (2 : Int) ^ 12 = 4096 from rfl] at e2
    rw [show (2 : Int) ^ 20 = 1048576 from rfl] at e3
    refine (f 21 10 (by omega) (by omega) w1).mono fun e w2 ⟨he, g2⟩ => ⟨_, he, (f 20 1 (by omega) (by omega) w2).mono fun e' w3 ⟨he', g3⟩ => ⟨_, he', (f 12 8 (by omega) (by omega) w3).mono fun e' w4 ⟨he', g4⟩ => ⟨_, he', (f 31 1 (by omega) (by omega) w4).mono fun e' w5 ⟨he', g5⟩ => ⟨_, he', ?_⟩⟩⟩⟩
    rw [u32_in (x := fldI w 21 10 * 2) (by omega) (by omega), e1, e2, e3]
    refine (disas_signed_ok ⟨by omega, by omega⟩ 21 (by omega) w5).mono fun e w6 ⟨he, g6⟩ => ⟨_, he, ?_, ((((g1.trans g2).trans g3).trans g4).trans g5).trans g6⟩
    rw [numS, if_neg hA, if_neg h3, if_neg h4, if_neg h5, if_neg h6, if_pos h7]
  · have h7 : ¬ o = 32 := by simpa using h7
    rw [numS, if_neg hA, if_neg h3, if_neg h4, if_neg h5, if_neg h6, if_neg h7]
/-! ### which registers an Op has -/
def hasRdS (o : Int) : Bool := !(decide (26 ≤ o ∧ o ≤ 31) || decide (o = 34))
def hasRs1S (o : Int) : Bool := !(decide (o = 23) || decide (o = 32) || decide (o = 34))
def hasRs2S (o : Int) : Bool := decide (o ≤ 14) || decide (26 ≤ o ∧ o ≤ 31)
theorem disas_hasRd_ok (o : Int) (w0 : World) : Calls Tryz.prog disas_hasRd.N #[.int .u8 o] w0 (Gives (.bool (hasRdS o)) w0) := by
  refine disas_hasRd.calls ?_
  unfold disas_hasRd.vc hasRdS
  repeat' (refine cnd_of (fun h => ?_) fun h => ?_)
  all_goals refine ⟨bEnd ?_, Later.refl _⟩
  all_goals simp at *
  all_goals omega
theorem disas_hasRs1_ok (o : Int) (w0 : World) : Calls Tryz.prog disas_hasRs1.N #[.int .u8 o] w0 (Gives (.bool (hasRs1S o)) w0) := by
  refine disas_hasRs1.calls ?_
  unfold disas_hasRs1.vc hasRs1S
  repeat' (refine cnd_of (fun h => ?_) fun h => ?_)
  all_goals refine ⟨bEnd ?_, Later.refl _⟩
  all_goals simp at *
  all_goals omega
theorem disas_hasRs2_ok (o : Int) (w0 : World) : Calls Tryz.prog disas_hasRs2.N #[.int .u8 o] w0 (Gives (.bool (hasRs2S o)) w0) := by
  refine disas_hasRs2.calls ?_
  unfold disas_hasRs2.vc hasRs2S
  repeat' (refine cnd_of (fun h => ?_) fun h => ?_)
  all_goals refine ⟨bEnd ?_, Later.refl _⟩
  all_goals simp at *
  all_goals omega
end Go.Proofs.YtcnnnlhoiodeaaaGreat

/-
The contracts of package disas, second part: what a word might be, Op by Op, and which instruction it is.
Conditions: the word is one of 32 bits.
-/
namespace Go.Proofs.YtcnnnlhoiodeaaaGreat
open Go Go.Vc Go.RowKit
set_option maxRecDepth 100000

theorem AsFn_intro {f : FuncId} {fi ca : Array Value} {L : FuncId → Array Value → Array Value → Prop} (h : L f fi ca) : AsFn (.func (.func f) fi ca) L := h
def gRd (o w : Int) : Int := if hasRdS o = true then fldI w 7 5 else 0
def gR1 (o w : Int) : Int := if hasRs1S o = true then fldI w 15 5 else 0
def gR2 (o w : Int) : Int := if hasRs2S o = true then fldI w 20 5 else 0
def gsCells (o w : Int) : List Value := [u8v o, u8v (gRd o w), u8v (gR1 o w), u8v (gR2 o w), i64v (numS o w)]
def gsV (o w : Int) : Value := .agg (gsCells o w).toArray
theorem fld5 (w : Int) (k : Nat) : 0 ≤ fldI w k 5 ∧ fldI w k 5 < 32 := fldI_range w k 5
theorem u8_fld (w : Int) (k : Nat) : IntKind.u8.wrap (fldI w k 5) = fldI w k 5 := by
  have := fld5 w k
  exact u8_in (by omega) (by omega)
set_option maxHeartbeats 1600000 in
theorem guesses_iter {wv : Int} (hw : W32 wv) (b : Nat) (w : World) (hb : Has w b [u32v wv]) : IterV Tryz.prog disas_guesses_1.N #[.pointer (some ⟨b, 0, none⟩)] (fun k => k = b) 34 (fun k => [gsV ((k.1 : Int) + 1) wv]) w := by
  refine iterV_of fun l J Jx W hW hJ hJx hY h0 => ?_
  have hbW : Has W b [u32v wv] := hb.kept (hW.block b hb.lt)
  refine disas_guesses_1.calls (yield' := .func (.yield l) #[] #[]) (c0 := some ⟨b, 0, none⟩) ?_
  unfold disas_guesses_1.vc
  refine ⟨fun vs w' => ∃ k : Nat, k ≤ 34 ∧ vs = [.int .u8 ((k : Int) + 1)] ∧ J k w' ∧ Has w' b [u32v wv], fun vs _ => match vs with | [.int _ n] => (40 - n).toNat | _ => 0, ⟨0, by omega, rfl, h0, hbW⟩, ?_⟩
  rintro g op w1 ⟨k, hk, hs, hj, hb1⟩
  simp only [List.cons.injEq, Value.int.injEq, true_and, and_true] at hs
  subst hs
  refine cnd_of (fun h => ?_) fun h => ?_
  · have h34 : k < 34 := by simp only [decide_eq_true_eq] at h; omega
    refine Deref_some rfl ⟨wv, hb1.cell rfl, (disas_number_ok _ hw w1).mono fun e w2 ⟨he, g2⟩ => ⟨_, he, fun w3 h3 => ?_⟩⟩
    have L := (Trk.here g2).alloc h3
    refine L.setAll (l := [u8v ((k : Int) + 1), u8v 0, u8v 0, u8v 0, i64v (numS ((k : Int) + 1) wv)]) 0 rfl rfl (by simp [Value.oneCell']) fun w4 L => ?_
    refine (disas_hasRd_ok _ w4).mono fun e w5 ⟨he, g5⟩ => ⟨_, he, fun vs w6 => vs = [] ∧ Trk w1 w6 [(w2.heap.size, [u8v ((k : Int) + 1), u8v (gRd ((k : Int) + 1) wv), u8v 0, u8v 0, i64v (numS ((k : Int) + 1) wv)])], ?_, ?_⟩
    · have L := L.later g5
      refine cnd_of (fun hr => ?_) fun hr => ⟨rfl, ?_⟩
      · refine Deref_some rfl ⟨wv, (hb1.later L.to).cell rfl, (disas_field_ok hw 7 5 (by omega) (by omega) w5).mono fun e w6 ⟨he, g6⟩ => ⟨_, he, (L.later g6).set1 0 rfl (by simp) fun w7 L => ⟨rfl, ?_⟩⟩⟩
        rw [gRd, if_pos hr]
        rw [u8_fld] at L
        exact L
      · rw [gRd, if_neg (by simp [hr])]
        exact L
    rintro _ w6 ⟨-, L⟩
    refine (disas_hasRs1_ok _ w6).mono fun e w7 ⟨he, g7⟩ => ⟨_, he, fun vs w8 => vs = [] ∧ Trk w1 w8 [(w2.heap.size, [u8v ((k : Int) + 1), u8v (gRd ((k : Int) + 1) wv), u8v (gR1 ((k : Int) + 1) wv), u8v 0, i64v (numS ((k : Int) + 1) wv)])], ?_, ?_⟩
    · have L := L.later g7
      refine cnd_of (fun hr => ?_) fun hr => ⟨rfl, ?_⟩
      · refine Deref_some rfl ⟨wv, (hb1.later L.to).cell rfl, (disas_field_ok hw 15 5 (by omega) (by omega) w7).mono fun e w6 ⟨he, g6⟩ => ⟨_, he, (L.later g6).set1 0 rfl (by simp) fun w7 L => ⟨rfl, ?_⟩⟩⟩
        rw [gR1, if_pos hr]
        rw [u8_fld] at L
        exact L
      · rw [gR1, if_neg (by simp [hr])]
        exact L
    rintro _ w8 ⟨-, L⟩
    refine (disas_hasRs2_ok _ w8).mono fun e w9 ⟨he, g9⟩ => ⟨_, he, fun vs w8 => vs = [] ∧ Trk w1 w8 [(w2.heap.size, gsCells ((k : Int) + 1) wv)], ?_, ?_⟩
    · have L := L.later g9
      refine cnd_of (fun hr => ?_) fun hr => ⟨rfl, ?_⟩
      · refine Deref_some rfl ⟨wv, (hb1.later L.to).cell rfl, (disas_field_ok hw 20 5 (by omega) (by omega) w9).mono fun e w6 ⟨he, g6⟩ => ⟨_, he, (L.later g6).set1 0 rfl (by simp) fun w7 L => ⟨rfl, ?_⟩⟩⟩
        rw [gsCells, gR2, if_pos hr]
        rw [u8_fld] at L
        exact L
      · rw [gsCells, gR2, if_neg (by simp [hr])]
        exact L
    rintro _ w10 ⟨-, L⟩
    refine ⟨_, _, _, _, _, ⟨L.cell 0 rfl rfl, L.cell 0 rfl rfl, L.cell 0 rfl rfl, L.cell 0 rfl rfl, L.cell 0 rfl rfl, trivial⟩, rfl, rfl, ?_⟩
    refine YieldC_mono (fun b w' h => ?_) (hY ⟨k, h34⟩ w10 (hJ _ _ _ hj L.to))
    rcases h with ⟨rfl, h1, h2⟩ | ⟨rfl, h1⟩
    · refine ⟨⟨k + 1, by omega, ?_, h1, (hb1.later L.to).kept (h2 _ rfl)⟩, ?_⟩
      · rw [u8_in (by omega) (by omega)]
        simp
      · show (40 - IntKind.u8.wrap ((k : Int) + 1 + 1)).toNat < (40 - ((k : Int) + 1)).toNat
        rw [u8_in (by omega) (by omega)]
        omega
    · exact ⟨⟨_, rfl⟩, .inr h1⟩
  · have : k = 34 := by simp only [decide_eq_false_iff_not] at h; omega
    subst this
    exact ⟨⟨_, rfl⟩, .inl hj⟩

/-! ### Decode -/
def encG (o w : Int) : Option Int := encv o (gRd o w) (gR1 o w) (gR2 o w) (numS o w)
def fitG (w : Int) (k : Fin 34) : Bool := decide (encG ((k.1 : Int) + 1) w = some w)
def decK (w : Int) : Option (Fin 34) := (List.finRange 34).find? (fitG w)
/-- Which instruction a word is. -/
def decI (w : Int) : List Value := match decK w with | some k => gsCells ((k.1 : Int) + 1) w | none => [u8v 0, u8v 0, u8v 0, u8v 0, i64v 0]
def decE (w : Int) : Int := match decK w with | some _ => 0 | none => 7
theorem disas_guesses_ok (wv : Int) (w : World) : Calls Tryz.prog disas_guesses.N #[u32v wv] w fun e w' => e = .returned (.func (.func disas_guesses_1.N) #[] #[.pointer (some ⟨w.heap.size, 0, none⟩)]) ∧ Later w w' ∧ Has w' w.heap.size [u32v wv] := by
  refine disas_guesses.calls ?_
  unfold disas_guesses.vc
  intro w1 h1
  have L := (Trk.start w).alloc h1
  exact ⟨rfl, L.to, L.has 0 rfl⟩
theorem decK_none {w : Int} (h : ∀ y ∈ List.finRange 34, fitG w y = false) : decK w = none := List.find?_eq_none.2 fun y hy => by rw [h y hy]; simp
theorem decK_some {w : Int} {p : List (Fin 34)} {x : Fin 34} (hp : p ++ [x] <+: List.finRange 34) (h : ∀ y ∈ p, fitG w y = false) (hx : fitG w x = true) : decK w = some x := by
  obtain ⟨t, ht⟩ := hp
  rw [decK, ← ht, List.append_assoc, List.find?_append, List.find?_eq_none.2 (fun y hy => by rw [h y hy]; simp)]
  simp [hx]
set_option maxHeartbeats 3200000 in
theorem disas_Decode_ok {wv : Int} (hw : W32 wv) (w0 : World) : Calls Tryz.prog disas_Decode.N #[u32v wv] w0 (Gives (.tuple #[.agg (decI wv).toArray, i64v (decE wv)]) w0) := by
  refine disas_Decode.calls ?_
  unfold disas_Decode.vc
  intro w1 h1 w2 h2 w3 h3
  have L := (((Trk.start w0).alloc h1).alloc h2).alloc h3
  refine ⟨wv, L.cell 0 rfl rfl, (disas_guesses_ok wv w3).mono fun e w4 ⟨he, g4, hb⟩ => ⟨_, he, ?_⟩⟩
  have L4 := L.later g4
  have s04 : w0.heap.size ≤ w4.heap.size := L4.to.size
  refine AsFn_intro (cnd_true (by kernel_rfl) ⟨rfl, (⟨34, fun k => [gsV ((k.1 : Int) + 1) wv], fun k => k = w3.heap.size, fun pre W => (∀ y ∈ pre, fitG wv y = false) ∧ Later w4 W,
      fun pre W => ∃ p x, pre = p ++ [x] ∧ (∀ y ∈ p, fitG wv y = false) ∧ fitG wv x = true ∧ Trk w0 W [(w0.heap.size, [u32v wv]), (w1.heap.size, gsCells ((x.1 : Int) + 1) wv), (w2.heap.size, [i64v 0])],
      fun x vs W => ∃ b, vs = [.pointer (some ⟨b, 0, none⟩)] ∧ Has W b (gsCells ((x.1 : Int) + 1) wv),
      guesses_iter hw _ _ hb, fun k hk => by rw [hk]; exact hb.lt,
      fun s W W' h ht => ⟨h.1, ht.later (Nat.le_refl _) h.2⟩,
      fun s W W' ⟨p, x, e1, e2, e3, e4⟩ ht => ⟨p, x, e1, e2, e3, ht.trk s04 e4⟩,
      fun vs x W W' ⟨b, e1, e2⟩ ht => ⟨b, e1, ht.has e2⟩,
      ⟨by simp, Later.refl _⟩⟩ : Rounds Tryz.prog disas_guesses_1.N #[.pointer (some ⟨w3.heap.size, 0, none⟩)] w4), ?_, ?_, ?_, ?_, ?_⟩)
  · intro x; rfl
  · rintro s0 s1 s2 s3 s4 pre x W hx ⟨hp, hl⟩ W1 hW1
    have hx : gsV ((x.1 : Int) + 1) wv = .agg #[.int .u8 s0, .int .u8 s1, .int .u8 s2, .int .u8 s3, .int .i64 s4] := by simpa using hx
    have hc : gsCells ((x.1 : Int) + 1) wv = [.int .u8 s0, .int .u8 s1, .int .u8 s2, .int .u8 s3, .int .i64 s4] := by
      have := congrArg Value.cells hx
      simpa [gsV, Value.cells] using this
    have M := (Trk.start W).alloc hW1
    refine M.setAll (l := [.int .u8 s0, .int .u8 s1, .int .u8 s2, .int .u8 s3, .int .i64 s4]) 0 rfl rfl (by simp [Value.oneCell']) fun W2 M => ⟨keepsFrom_later M.to, fun k hk => ?_, ⟨hp, hl.trans M.to⟩, _, rfl, ?_⟩
    · rw [hk]; exact Later.block M.to (Nat.lt_of_lt_of_le hb.lt hl.size)
    · rw [hc]; exact M.has 0 rfl
  · rintro s0 s1 s2 s3 s4 pre x hx hlen g x1 W ⟨⟨hp, hl⟩, b, hb1, hb2⟩
    simp only [List.cons.injEq, Value.pointer.injEq, and_true] at hb1
    subst hb1
    have LW := L4.later hl
    have kp : ∀ {W1 : World}, Later W W1 → KpS (fun k => k = w3.heap.size) W W1 := fun h k hk => by rw [hk]; exact Later.block h (Nat.lt_of_lt_of_le hb.lt hl.size)
    refine Deref_some rfl ⟨_, _, _, _, _, ⟨hb2.cell rfl, hb2.cell rfl, hb2.cell rfl, hb2.cell rfl, hb2.cell rfl, trivial⟩, ?_⟩
    have r1 : U8 (gRd ((x.1 : Int) + 1) wv) := by unfold gRd U8; have := fld5 wv 7; split <;> omega
    have r2 : U8 (gR1 ((x.1 : Int) + 1) wv) := by unfold gR1 U8; have := fld5 wv 15; split <;> omega
    have r3 : U8 (gR2 ((x.1 : Int) + 1) wv) := by unfold gR2 U8; have := fld5 wv 20; split <;> omega
    refine (insn_Encode_ok _ _ _ _ _ ⟨by omega, by have : x.1 < 34 := x.2; omega⟩ r1 r2 r3 (numS_range _ _) W).mono fun e W1 ⟨he, g1⟩ => ?_
    have out : fitG wv x = false → KeepsFrom w4.heap.size W W1 ∧ KpS (fun k => k = w3.heap.size) W W1 ∧ (∀ y ∈ pre ++ [x], fitG wv y = false) ∧ Later w4 W1 := by
      intro hf
      refine ⟨keepsFrom_later g1, kp g1, ?_, hl.trans g1⟩
      intro y hy
      rcases List.mem_append.1 hy with hy | hy
      · exact hp y hy
      · rw [List.mem_singleton.1 hy]; exact hf
    have hfit : fitG wv x = decide (encG ((x.1 : Int) + 1) wv = some wv) := rfl
    change e = .returned (encR (encG ((x.1 : Int) + 1) wv)) at he
    cases hG : encG ((x.1 : Int) + 1) wv with
    | none =>
      rw [hG] at he
      exact ⟨_, _, he, cnd_false rfl (out (by rw [hfit, hG]; simp))⟩
    | some v =>
      rw [hG] at he
      refine ⟨_, _, he, cnd_true rfl ⟨wv, (LW.later g1).cell 0 rfl rfl, cnd_of (fun hv => ?_) fun hv => out (by rw [hfit, hG]; simpa using hv)⟩⟩
      have hv : v = wv := by simpa using hv
      have hf : fitG wv x = true := by rw [hfit, hG, hv]; simp
      have hb3 := hb2.later g1
      refine Deref_some rfl ⟨_, _, _, _, _, ⟨hb3.cell rfl, hb3.cell rfl, hb3.cell rfl, hb3.cell rfl, hb3.cell rfl, trivial⟩, ?_⟩
      refine (LW.later g1).setAllE (l := gsCells ((x.1 : Int) + 1) wv) 1 rfl rfl (by simp [Value.oneCell', gsCells]) fun W2 e2 M => ?_
      refine M.set1E 2 rfl (by simp) fun W3 e3 M => ?_
      refine ⟨?_, pre, x, rfl, hp, hf, M⟩
      rw [e3, e2]
      exact ((keepsFrom_later g1).trans (keepsFrom_setCellsAt _ _ _ _ _)).trans (keepsFrom_setCell _ _ _ _)
  · rintro D W hD ⟨hp, hl⟩ hd
    have LW := L4.later hl
    refine LW.setAllE (l := [u8v 0, u8v 0, u8v 0, u8v 0, i64v 0]) 1 rfl rfl (by simp [Value.oneCell']) fun W2 e2 M => ?_
    refine M.set1E 2 rfl (by simp) fun W3 e3 M => ?_
    have hd3 : W3.heap[D]? = some (.deferred (some [])) := by
      have k : KeepsFrom w4.heap.size W W3 := by rw [e3, e2]; exact (keepsFrom_setCellsAt _ _ _ _ _).trans (keepsFrom_setCell _ _ _ _)
      exact k.same D _ hD hd rfl
    refine ⟨hd3, fun W4 e4 => ?_⟩
    have M : Trk w0 W4 _ := (turn_putObj (o' := .deferred none) hd3 rfl hD).trk s04 M |> fun h => e4 ▸ h
    have hk := decK_none fun y hy => hp y hy
    refine ⟨_, _, _, _, _, ⟨M.cell 1 rfl rfl, M.cell 1 rfl rfl, M.cell 1 rfl rfl, M.cell 1 rfl rfl, M.cell 1 rfl rfl, trivial⟩, _, M.cell 2 rfl rfl, ?_, M.to⟩
    rw [decI, decE, hk]
  · rintro D pre W hD hpre ⟨p, x, rfl, e1, e2, M⟩ hd
    refine ⟨hd, fun W4 e4 => ?_⟩
    have M : Trk w0 W4 _ := (turn_putObj (o' := .deferred none) hd rfl hD).trk s04 M |> fun h => e4 ▸ h
    have hk := decK_some hpre e1 e2
    refine ⟨_, _, _, _, _, ⟨M.cell 1 rfl rfl, M.cell 1 rfl rfl, M.cell 1 rfl rfl, M.cell 1 rfl rfl, M.cell 1 rfl rfl, trivial⟩, _, M.cell 2 rfl rfl, ?_, M.to⟩
    rw [decI, decE, hk]
    rfl
end Go.Proofs.YtcnnnlhoiodeaaaGreat

/-
The contracts of package sacristyref03 as far as its Decode: it answers as disas does.
Conditions: the word is one of 32 bits.
-/
namespace Go.Proofs.YtcnnnlhoiodeaaaGreat
open Go Go.Vc Go.RowKit
set_option maxRecDepth 100000

/-! ### guess: by its form -/
def numK (k : Nat) (w : Int) : Int :=
  if k = 1 then sgn (fldI w 20 12) 12
  else if k = 2 then fldI w 20 6
  else if k = 3 then sgn (fldI w 12 20 * 4096) 32
  else if k = 4 then sgn (fldI w 25 7 * 32 + fldI w 7 5) 12
  else if k = 5 then sgn (fldI w 8 4 * 2 + fldI w 25 6 * 32 + fldI w 7 1 * 2048 + fldI w 31 1 * 4096) 13
  else if k = 6 then sgn (fldI w 21 10 * 2 + fldI w 20 1 * 2048 + fldI w 12 8 * 4096 + fldI w 31 1 * 1048576) 21
  else 0
/-! ### Decode -/
theorem decK_at {w : Int} {k : Fin 34} (h : ∀ y : Fin 34, y.1 < k.1 → fitG w y = false) (hk : fitG w k = true) : decK w = some k := by
  have hp : (List.finRange 34).take k.1 ++ [k] <+: List.finRange 34 := by
    have : (List.finRange 34).take k.1 ++ [k] = (List.finRange 34).take (k.1 + 1) := by
      rw [List.take_add_one, List.getElem?_eq_getElem (by rw [List.length_finRange]; exact k.2)]
      simp
    rw [this]
    exact List.take_prefix _ _
  refine decK_some hp (fun y hy => h y ?_) hk
  obtain ⟨i, hi, e⟩ := List.getElem_of_mem hy
  rw [List.getElem_take, List.getElem_finRange] at e
  simp at hi
  rw [← e]
  simp
  omega
end Go.Proofs.YtcnnnlhoiodeaaaGreat

/-
What a word's instruction holds, number by number.
Conditions: none.
-/
namespace Go.Proofs.YtcnnnlhoiodeaaaGreat
open Go Go.Vc Go.RowKit
set_option maxRecDepth 100000

def decF (w : Int) (j : Nat) : Int :=
  match decK w with
  | some k => (match j with | 0 => (k.1 : Int) + 1 | 1 => gRd ((k.1 : Int) + 1) w | 2 => gR1 ((k.1 : Int) + 1) w | 3 => gR2 ((k.1 : Int) + 1) w | _ => numS ((k.1 : Int) + 1) w)
  | none => 0
theorem decI_eq (w : Int) : decI w = [u8v (decF w 0), u8v (decF w 1), u8v (decF w 2), u8v (decF w 3), i64v (decF w 4)] := by
  unfold decI decF
  cases decK w <;> rfl
theorem decF_range (w : Int) : U8 (decF w 0) ∧ U8 (decF w 1) ∧ U8 (decF w 2) ∧ U8 (decF w 3) ∧ I64 (decF w 4) := by
  unfold decF
  cases hk : decK w with
  | none =>
    simp only
    exact ⟨⟨by omega, by omega⟩, ⟨by omega, by omega⟩, ⟨by omega, by omega⟩, ⟨by omega, by omega⟩, ⟨by omega, by omega⟩⟩
  | some k =>
    simp only
    have f1 := fld5 w 7
    have f2 := fld5 w 15
    have f3 := fld5 w 20
    have hk := k.2
    refine ⟨⟨by omega, by omega⟩, ?_, ?_, ?_, numS_range _ _⟩
    · unfold gRd; split <;> exact ⟨by omega, by omega⟩
    · unfold gR1; split <;> exact ⟨by omega, by omega⟩
    · unfold gR2; split <;> exact ⟨by omega, by omega⟩
end Go.Proofs.YtcnnnlhoiodeaaaGreat

/-
Own rows beside other blocks: a row is grown, a cell of it is written, elements are taken out; each other block stays and stays another one.
Conditions: each theorem's hypotheses; nothing is asked of a program but closed facts of its types.
-/
namespace Go.Vc
open Go.RowKit

/-- The block of a row. -/
abbrev rowB (b : Option Addr) : Option Nat := b.map (·.block)
theorem ownBlock_rowB (b : Option Addr) (n c : Nat) : (Value.slice b n c).ownBlock = rowB b := by cases b <;> rfl
theorem OwnS.kept {w0 w w' : World} {e : TypeId} {size : Nat} {b : Option Addr} {bn bc n : Nat} {xs : List Value} (h : OwnS w0 w e size (.slice b bn bc) n xs) (hk : ∀ k, rowB b = some k → w'.heap[k]? = w.heap[k]?) : OwnS w0 w' e size (.slice b bn bc) n xs := by
  obtain ⟨h1, h | ⟨g, cap, cur, h2, h3, h4, h5⟩⟩ := h
  · exact ⟨h1, .inl h⟩
  · refine ⟨h1, .inr ⟨g, cap, cur, h2, h3, ?_, h5⟩⟩
    cases h2
    rw [hk g rfl]; exact h4
theorem OwnS.lt {w0 w : World} {e : TypeId} {size : Nat} {b : Option Addr} {bn bc n : Nat} {xs : List Value} (h : OwnS w0 w e size (.slice b bn bc) n xs) {k : Nat} (hk : rowB b = some k) : w0.heap.size ≤ k ∧ k < w.heap.size :=
  World.ownsRow.lt h k (by rw [ownBlock_rowB]; exact hk)
/-- A row is grown: each block that was there and is not the row's stays and is not the new row's. -/
theorem RunsV_append_apart {P : Program} {w0 w : World} {t e : TypeId} {size bytes : Nat} (ty : TypeId) (hT : RowTy P t e size bytes) {b : Option Addr} {bn bc n : Nat} {xs : List Value} (hown : OwnS w0 w e size (.slice b bn bc) n xs) (hl : Later w0 w)
    {a : Addr} {m c : Nat} {news : List Value} (hlen : news.length = m * size) (hnews : CellsAt w a 0 news) (h1 : ∀ u ∈ news, u.oneCell' = true) (h63 : n + m ≤ maxLen) (hbytes : (n + m) * bytes ≤ 140737488355328)
    {K : Value → World → Prop}
    (hK : ∀ b' bn' bc' w', OwnS w0 w' e size (.slice b' bn' bc') (n + m) (xs ++ news) → Later w0 w' → (∀ k, k < w.heap.size → rowB b ≠ some k → w'.heap[k]? = w.heap[k]? ∧ rowB b' ≠ some k) → K (.slice b' bn' bc') w') :
    RunsV P (Builtin.append_ #[t, t] ty #[.slice b bn bc, .slice (some a) m c]) w K := by
  obtain ⟨i, z, hi, hz, hs, hby, hzs⟩ := hT.info
  have hnews' : ∀ j u, news[j]? = some u → w.cell? (a.add j) = some u := fun j u hj => by have := CellsAt_get hnews j u hj; rwa [Nat.zero_add] at this
  obtain ⟨v', w', hr, ho, hg, _⟩ := run_append_own (P := P) w w0.heap.size t ty e i z size bytes hT.under hi hz hs hby hzs hT.pos _ n xs hown a m c news hlen hnews' h1 h63 hbytes hl.size
  rw [ownBlock_rowB] at hg
  have hlt := World.ownsRow.lt hown
  have hb : Later w0 w' := Below.grown hl hg hl.size (fun k hk => (hlt k (by rw [ownBlock_rowB]; exact hk)).1)
  -- where the new row is
  have hap : ∀ k, k < w.heap.size → rowB b ≠ some k → v'.ownBlock ≠ some k := by
    intro k hk hbk hv
    have hsm : n + m ≤ 9223372036854775807 := by simp only [maxLen] at h63; omega
    have hw := hown
    obtain ⟨hx0, h | ⟨g, cap, cur, h, hbg, hgb, hnc, hcm, hcs, htk⟩⟩ := hw
    · obtain ⟨hbb, rfl⟩ := h
      have hnil : w.ownsRow w.heap.size e size (.slice b bn bc) 0 xs := ⟨hx0, .inl ⟨hbb, rfl⟩⟩
      obtain ⟨v2, w2, hr2, ho2, _, _⟩ := run_append_own (P := P) w w.heap.size t ty e i z size bytes hT.under hi hz hs hby hzs hT.pos _ 0 xs hnil a m c news hlen hnews' h1 h63 hbytes (Nat.le_refl _)
      rw [hr] at hr2
      cases hr2
      have := (World.ownsRow.lt ho2 k hv).1
      omega
    · cases h
      by_cases hroom : bn + m ≤ bc
      · obtain ⟨w2, hr2, _, _⟩ := run_append_fits (P := P) w w0.heap.size t ty e i size hT.under hi hs g bn bc xs hown a m c news hlen hnews' h1 hroom
        rw [hr] at hr2
        cases hr2
        exact hbk hv
      · have hr2 := run_append_grow (P := P) w t ty e i z hT.under hi hz ⟨g, 0, none⟩ bn bc xs (by rw [hs]; exact hx0) (fun j u hj => World.ownsRow.cells hown (g := g) rfl j u hj) a m c news (by rw [hs]; exact hlen) hnews' (by omega) (by omega) (growslice_fits (by omega) (by rw [hby]; exact hbytes))
        rw [hr] at hr2
        cases hr2
        simp only [Value.ownBlock, Option.some.injEq] at hv
        omega
  refine RunsV_of hr ?_
  obtain ⟨hxs, h | ⟨g, cap, cur, h2, h3⟩⟩ := ho
  · obtain ⟨rfl, hn⟩ := h
    exact hK _ _ _ _ ⟨hxs, .inl ⟨rfl, hn⟩⟩ hb fun k hk hne => ⟨hg.block k hk (fun h => hne h.symm), by simp⟩
  · subst h2
    exact hK _ _ _ _ ⟨hxs, .inr ⟨g, cap, cur, rfl, h3⟩⟩ hb fun k hk hne => ⟨hg.block k hk (fun h => hne h.symm), hap k hk hne⟩
theorem OwnS.split {w0 w : World} {e : TypeId} {size : Nat} {b : Option Addr} {bn bc n : Nat} {xs : List Value} (h : OwnS w0 w e size (.slice b bn bc) n xs) (hn : 0 < n) : ∃ g, b = some ⟨g, 0, none⟩ ∧ bn = n ∧ n ≤ bc ∧ bc ≤ maxLen ∧ ∃ cur, w.heap[g]? = some (.cells cur e (0, 0)) ∧ cur.size = bc * size ∧ cur.toList.take (n * size) = xs := by
  obtain ⟨h1, h | ⟨g, cap, cur, h2, h3, h4, h5, h6, h7, h8⟩⟩ := h
  · omega
  · cases h2
    exact ⟨g, rfl, rfl, h5, h6, cur, h4, h7, h8⟩
end Go.Vc

/-
Rows of elements of some cells each, whatever they are: handed in, or own; grown, copied, written.
Conditions: each theorem's hypotheses.
-/
namespace Go.Vc
open Go.RowKit

theorem addr_add_add (a : Addr) (i j : Nat) : (a.add i).add j = a.add (i + j) := by
  unfold Addr.add
  by_cases hi : i = 0
  · subst hi; simp
  · by_cases hj : j = 0
    · subst hj; simp
    · rw [if_neg hi, if_neg hj, if_neg (by omega)]
      simp only [Nat.add_assoc]
theorem addr_add_zero (a : Addr) : a.add 0 = a := by simp [Addr.add]
/-- What an element is in cells. -/
structure ElT (α : Type) where
  sz : Nat
  pos : 0 < sz
  enc : α → List Value
  len : ∀ a, (enc a).length = sz
  one : ∀ a, ∀ u ∈ enc a, u.oneCell' = true
section
variable {α : Type} (T : ElT α)
def rowC (l : List α) : List Value := l.flatMap T.enc
theorem rowC_cons (m : α) (l : List α) : rowC T (m :: l) = T.enc m ++ rowC T l := by simp [rowC]
theorem rowC_append (l k : List α) : rowC T (l ++ k) = rowC T l ++ rowC T k := by simp [rowC]
theorem rowC_one (m : α) : rowC T [m] = T.enc m := by simp [rowC]
theorem rowC_length : ∀ l : List α, (rowC T l).length = l.length * T.sz
  | [] => by simp [rowC]
  | m :: l => by rw [rowC_cons, List.length_append, rowC_length l, T.len, List.length_cons, Nat.add_mul]; omega
theorem rowC_get : ∀ (l : List α) (i j : Nat) (m : α), l[i]? = some m → j < T.sz → (rowC T l)[i * T.sz + j]? = (T.enc m)[j]?
  | [], i, j, m, h, _ => by simp at h
  | x :: l, 0, j, m, h, hj => by
    obtain rfl : x = m := by simpa using h
    rw [rowC_cons, List.getElem?_append_left (by rw [T.len]; omega)]
    congr 1; omega
  | x :: l, i + 1, j, m, h, hj => by
    have e : (i + 1) * T.sz + j = T.sz + (i * T.sz + j) := by rw [Nat.add_mul]; omega
    rw [rowC_cons, e, List.getElem?_append_right (by rw [T.len]; omega), T.len, show T.sz + (i * T.sz + j) - T.sz = i * T.sz + j by omega]
    exact rowC_get l i j m (by simpa using h) hj
theorem rowC_all (l : List α) : ∀ u ∈ rowC T l, u.oneCell' = true := by
  intro u hu
  obtain ⟨m, _, hm⟩ := List.mem_flatMap.1 hu
  exact T.one m u hm
/-- A row's elements stand there. -/
def ERow (w : World) (A : Option Addr) (l : List α) : Prop := ∀ i m, l[i]? = some m → ∃ ad, A = some ad ∧ ∀ j v, (T.enc m)[j]? = some v → w.cell? ((ad.add (i * T.sz)).add j) = some v
variable {T}
theorem ERow.later {w w' : World} {A : Option Addr} {l : List α} (h : ERow T w A l) (hl : Later w w') : ERow T w' A l := by
  intro i m hi
  obtain ⟨ad, h1, h2⟩ := h i m hi
  exact ⟨ad, h1, fun j v hv => hl.cell_some (h2 j v hv)⟩
theorem ERow.nil (w : World) (A : Option Addr) : ERow T w A [] := fun i m h => by simp at h
theorem ERow.front {w : World} {ad : Addr} {l : List α} (h : ERow T w (some ad) l) (k : Nat) : CellsAt w ad 0 (rowC T (l.take k)) := by
  have hp := T.pos
  refine CellsAt_of_get fun j u hj => ?_
  have hjl : j < (rowC T (l.take k)).length := (List.getElem?_eq_some_iff.1 hj).1
  rw [rowC_length] at hjl
  have hq : j / T.sz < (l.take k).length := (Nat.div_lt_iff_lt_mul hp).2 hjl
  have e1 := List.getElem?_eq_getElem hq
  have e2 := rowC_get T (l.take k) (j / T.sz) (j % T.sz) _ e1 (Nat.mod_lt _ hp)
  rw [show j / T.sz * T.sz + j % T.sz = j by rw [Nat.mul_comm]; exact Nat.div_add_mod j T.sz, hj] at e2
  have e3 : l[j / T.sz]? = some (l.take k)[j / T.sz] := by
    rw [List.getElem?_take] at e1
    split at e1
    · exact e1
    · cases e1
  obtain ⟨ae, hae, hc⟩ := h _ _ e3
  obtain rfl := Option.some.inj hae
  have := hc (j % T.sz) u e2.symm
  rw [addr_add_add, show j / T.sz * T.sz + j % T.sz = j by rw [Nat.mul_comm]; exact Nat.div_add_mod j T.sz] at this
  rw [Nat.zero_add]; exact this
theorem ERow.all {w : World} {ad : Addr} {l : List α} (h : ERow T w (some ad) l) : CellsAt w ad 0 (rowC T l) := by
  have := h.front l.length
  rwa [List.take_length] at this
/-- A row that the call made. -/
abbrev OwnE (T : ElT α) (w0 w : World) (e : TypeId) (b : Option Addr) (c : Nat) (l : List α) : Prop := OwnS w0 w e T.sz (.slice b l.length c) l.length (rowC T l)
theorem OwnE.row {w0 w : World} {e : TypeId} {b : Option Addr} {c : Nat} {l : List α} (h : OwnE T w0 w e b c l) : ERow T w b l := by
  intro i m hi
  have hil : i < l.length := (List.getElem?_eq_some_iff.1 hi).1
  obtain ⟨g, rfl, -⟩ := h.split (by omega)
  refine ⟨_, rfl, fun j v hv => ?_⟩
  have hj : j < T.sz := by rw [← T.len m]; exact (List.getElem?_eq_some_iff.1 hv).1
  have hc := CellsAt_get h.cells (i * T.sz + j) v (by rw [rowC_get T l i j m hi hj]; exact hv)
  rw [Nat.zero_add] at hc
  rw [addr_add_add]; exact hc
theorem OwnE.nil (w0 w : World) (e : TypeId) : OwnE T w0 w e none 0 [] := ⟨by simp [rowC], .inl ⟨rfl, rfl⟩⟩
/-- Some are appended. -/
theorem OwnE.append {P : Program} {t e : TypeId} {bytes : Nat} (ty : TypeId) (hT : RowTy P t e T.sz bytes) {w0 w : World} {b : Option Addr} {c : Nat} {l news : List α} {a : Addr} {c2 : Nat} (hown : OwnE T w0 w e b c l) (hl : Later w0 w) (hb : l.length + news.length ≤ maxLen) (hby : (l.length + news.length) * bytes ≤ 140737488355328)
    (hc : CellsAt w a 0 (rowC T news)) {K : Value → World → Prop}
    (hK : ∀ b' c' w', OwnE T w0 w' e b' c' (l ++ news) → Later w0 w' → (∀ k, k < w.heap.size → rowB b ≠ some k → w'.heap[k]? = w.heap[k]? ∧ rowB b' ≠ some k) → K (.slice b' (l ++ news).length c') w') :
    RunsV P (Builtin.append_ #[t, t] ty #[.slice b l.length c, .slice (some a) news.length c2]) w K := by
  refine RunsV_append_apart ty hT hown hl (m := news.length) (news := rowC T news) (rowC_length T _) hc (rowC_all T _) hb hby ?_
  intro p pn pc w' ho hl' hk
  obtain rfl := ho.len
  rw [← rowC_append, ← List.length_append] at ho
  rw [← List.length_append]
  exact hK _ _ _ ho hl' hk
/-- One is appended, that was laid as a block. -/
theorem OwnE.push {P : Program} {t e : TypeId} {bytes : Nat} (ty : TypeId) (hT : RowTy P t e T.sz bytes) {w0 w w1 : World} {b : Option Addr} {c : Nat} {l : List α} (m : α) (hown : OwnE T w0 w e b c l) (hl : Later w0 w) (hb : l.length + 1 ≤ maxLen) (hby : (l.length + 1) * bytes ≤ 140737488355328)
    {cs : Array Value} (e1 : w1 = w.alloc (.cells cs e)) (hcs : cs.toList = T.enc m) {K : Value → World → Prop}
    (hK : ∀ b' c' w', OwnE T w0 w' e b' c' (l ++ [m]) → Later w0 w' → (∀ k, k < w.heap.size → rowB b ≠ some k → w'.heap[k]? = w.heap[k]? ∧ rowB b' ≠ some k) → K (.slice b' (l ++ [m]).length c') w') :
    RunsV P (Builtin.append_ #[t, t] ty #[.slice b l.length c, .slice (some ⟨w.heap.size, 0, none⟩) 1 1]) w1 K := by
  subst e1
  have hcells : CellsAt (w.alloc (.cells cs e)) ⟨w.heap.size, 0, none⟩ 0 (rowC T [m]) := by
    rw [rowC_one, ← hcs]
    exact CellsAt_new' w e (0, 0) cs
  have := OwnE.append (news := [m]) (c2 := 1) ty hT (hown.alloc (.cells cs e)) (hl.alloc _) hb hby hcells (K := K) fun b' c' w' ho hl' hk => hK b' c' w' ho hl' fun k hk1 hk2 => by
    obtain ⟨h1, h2⟩ := hk k (Nat.lt_of_lt_of_le hk1 (Later.size (Later.alloc' w _))) hk2
    exact ⟨h1.trans (Later.block (Later.alloc' w _) hk1), h2⟩
  exact this
/-- A full row that lies anywhere is grown: a new one. -/
theorem OwnE.grow {P : Program} {t e : TypeId} {bytes : Nat} (ty : TypeId) (hT : RowTy P t e T.sz bytes) {w0 w : World} (hl : Later w0 w) {a b : Addr} {l news : List α} {sCap c2 : Nat} (ho : CellsAt w b 0 (rowC T l)) (hc : CellsAt w a 0 (rowC T news)) (hg : sCap < l.length + news.length)
    (hb : l.length + news.length ≤ maxLen) (hby : (l.length + news.length) * bytes ≤ 140737488355328) {K : Value → World → Prop}
    (hK : ∀ b' c' w', OwnE T w0 w' e b' c' (l ++ news) → Later w w' → K (.slice b' (l ++ news).length c') w') :
    RunsV P (Builtin.append_ #[t, t] ty #[.slice (some b) l.length sCap, .slice (some a) news.length c2]) w K := by
  obtain ⟨i, z, hi, hz, hs, hby', hzs⟩ := hT.info
  have hge := grownCap_ge w (l.length + news.length) sCap e
  have hcm : grownCap w (l.length + news.length) sCap e ≤ maxLen := grownCap_le_maxLen w _ sCap e hb
  have hfit : Builtin.nextslicecap (l.length + news.length) sCap * i.bytes ≤ 281474976710656 := by
    have h1 := Nat.mul_le_mul_right i.bytes (nextslicecap_le hg)
    rw [hby'] at h1 ⊢
    rw [Nat.mul_assoc] at h1
    omega
  have hrun := run_append_grow w t ty e i z hT.under hi hz b l.length sCap (rowC T l) (by rw [rowC_length, hs]) (fun j v hv => by have := CellsAt_get ho j v hv; rwa [Nat.zero_add] at this)
    a news.length c2 (rowC T news) (by rw [rowC_length, hs]) (fun j v hv => by have := CellsAt_get hc j v hv; rwa [Nat.zero_add] at this) hg (by simp only [maxLen] at hb; omega) hfit
  have hlw : Later w (w.drew.alloc (.cells ((rowC T l).toArray ++ (rowC T news).toArray ++ Builtin.zeroCells z.cells (grownCap w (l.length + news.length) sCap e - (l.length + news.length))) e)) := ((Below.refl _ w).drew).alloc (Nat.le_refl _) _
  refine RunsV_of hrun ?_
  rw [← List.length_append] at hge hcm hlw ⊢
  have hlen : (rowC T (l ++ news)).length = (l ++ news).length * T.sz := rowC_length T _
  refine hK _ _ _ ⟨hlen, .inr ⟨w.heap.size, _, _, rfl, Later.size hl, heap_alloc_new w.drew _, hge, hcm, ?_, ?_⟩⟩ hlw
  · simp only [Array.size_append, List.size_toArray, size_zeroCells, hzs, rowC_length]
    rw [← Nat.add_mul, ← Nat.add_mul, ← List.length_append]
    congr 1
    omega
  · simp only [Array.toList_append]
    rw [rowC_append] at hlen ⊢
    rw [← hlen]
    exact List.take_left' rfl
/-- A block that was laid just now is a row. -/
theorem OwnE.new {w0 w w1 : World} {e : TypeId} (hl : Later w0 w) {cs : Array Value} (e1 : w1 = w.alloc (.cells cs e)) {l : List α} (hcs : cs.toList = rowC T l) (hb : l.length ≤ maxLen) : OwnE T w0 w1 e (some ⟨w.heap.size, 0, none⟩) l.length l := by
  subst e1
  refine ⟨rowC_length T _, .inr ⟨w.heap.size, l.length, cs, rfl, Later.size hl, heap_alloc_new w _, Nat.le_refl _, hb, ?_, ?_⟩⟩
  · have := congrArg List.length hcs
    rw [rowC_length] at this
    simpa using this
  · rw [hcs, List.take_of_length_le (by rw [rowC_length]; omega)]
end
end Go.Vc

/-
What lies outside a stretch of blocks stays: for calls that write into blocks of their own kind.
Conditions: each theorem's hypotheses; nothing is asked of a program.
-/
namespace Go.Vc
open Go.RowKit

/-- Of the older blocks those within [a, b) alone may be turned. -/
structure Kept (a b : Nat) (w w' : World) : Prop where
  os : w'.os = w.os
  tape : w'.tape = w.tape
  output : w'.output = w.output
  size : w.heap.size ≤ w'.heap.size
  keep : ∀ k, k < w.heap.size → (k < a ∨ b ≤ k) → w'.heap[k]? = w.heap[k]?
theorem Kept.refl (a b : Nat) (w : World) : Kept a b w w := ⟨rfl, rfl, rfl, Nat.le_refl _, fun _ _ _ => rfl⟩
theorem Kept.trans {a b : Nat} {w w1 w2 : World} (h : Kept a b w w1) (k : Kept a b w1 w2) : Kept a b w w2 :=
  ⟨k.os.trans h.os, k.tape.trans h.tape, k.output.trans h.output, Nat.le_trans h.size k.size, fun i hi hn => (k.keep i (Nat.lt_of_lt_of_le hi h.size) hn).trans (h.keep i hi hn)⟩
theorem Later.kept {w w' : World} (h : Later w w') (a b : Nat) : Kept a b w w' :=
  ⟨(show Below _ _ _ from h).os, (show Below _ _ _ from h).tape, (show Below _ _ _ from h).output, (show Below _ _ _ from h).size, fun k hk _ => (show Below _ _ _ from h).block k hk⟩
theorem Kept.later {a b : Nat} {w0 w w' : World} (h : Kept a b w w') (hl : Later w0 w) (ha : w0.heap.size ≤ a) : Later w0 w' :=
  Below.trans hl ⟨h.os, h.tape, h.output, h.size, fun k hk => h.keep k (Nat.lt_of_lt_of_le hk (Later.size hl)) (.inl (Nat.lt_of_lt_of_le hk ha))⟩
theorem Kept.has {a b : Nat} {w w' : World} (h : Kept a b w w') {k : Nat} {cs : List Value} (hx : Has w k cs) (hn : k < a ∨ b ≤ k) : Has w' k cs := hx.kept (h.keep k hx.lt hn)
theorem Has.setRow {w : World} {b : Nat} {cs : List Value} (h : Has w b cs) (ds : List Value) : Has (w.setRow b ds.toArray) b ds := by
  obtain ⟨t, h⟩ := h
  exact ⟨t, setRow_heap w b _ _ t _ h⟩

/-- Of the older blocks those of S alone may be turned. -/
structure But (S : Nat → Prop) (w w' : World) : Prop where
  os : w'.os = w.os
  tape : w'.tape = w.tape
  output : w'.output = w.output
  size : w.heap.size ≤ w'.heap.size
  keep : ∀ k, k < w.heap.size → ¬ S k → w'.heap[k]? = w.heap[k]?
theorem But.refl (S : Nat → Prop) (w : World) : But S w w := ⟨rfl, rfl, rfl, Nat.le_refl _, fun _ _ _ => rfl⟩
theorem But.trans {S : Nat → Prop} {w w1 w2 : World} (h : But S w w1) (k : But S w1 w2) : But S w w2 :=
  ⟨k.os.trans h.os, k.tape.trans h.tape, k.output.trans h.output, Nat.le_trans h.size k.size, fun i hi hn => (k.keep i (Nat.lt_of_lt_of_le hi h.size) hn).trans (h.keep i hi hn)⟩
theorem Later.but {w w' : World} (h : Later w w') (S : Nat → Prop) : But S w w' :=
  ⟨(show Below _ _ _ from h).os, (show Below _ _ _ from h).tape, (show Below _ _ _ from h).output, (show Below _ _ _ from h).size, fun k hk _ => (show Below _ _ _ from h).block k hk⟩
theorem But.kept {S : Nat → Prop} {w w' : World} (h : But S w w') {a b : Nat} (hS : ∀ k, S k → a ≤ k ∧ k < b) : Kept a b w w' :=
  ⟨h.os, h.tape, h.output, h.size, fun k hk hn => h.keep k hk fun hs => by have := hS k hs; omega⟩
theorem But.has {S : Nat → Prop} {w w' : World} (h : But S w w') {k : Nat} {cs : List Value} (hx : Has w k cs) (hn : ¬ S k) : Has w' k cs := hx.kept (h.keep k hx.lt hn)
theorem But.cell {S : Nat → Prop} {w w' : World} (h : But S w w') {p : Addr} {v : Value} (hv : w.cell? p = some v) (hn : ¬ S p.block) : w'.cell? p = some v := by
  have hl : p.block < w.heap.size := by
    by_cases hl : p.block < w.heap.size
    · exact hl
    · have : w.heap[p.block]? = none := by simp [Nat.le_of_not_lt hl]
      simp [World.cell?, this] at hv
  simpa [World.cell?, h.keep _ hl hn] using hv
theorem But.setCell {S : Nat → Prop} {x i : Nat} (w : World) (v : Value) (hx : S x) : But S w (w.setCell ⟨x, i, none⟩ v) :=
  ⟨rfl, rfl, rfl, by simp [World.setCell], fun k hk hn => by
    have : ¬ x = k := fun e => hn (e ▸ hx)
    simp [World.setCell, Array.getElem?_modify, this]⟩
theorem But.setRow {S : Nat → Prop} {x : Nat} (w : World) (cs : Array Value) (hx : S x) : But S w (w.setRow x cs) :=
  ⟨rfl, rfl, rfl, by simp [World.setRow], fun k hk hn => setRow_other w x k cs fun e => hn (e ▸ hx)⟩
theorem lt_of_cell {w : World} {p : Addr} {v : Value} (hv : w.cell? p = some v) : p.block < w.heap.size := by
  by_cases hl : p.block < w.heap.size
  · exact hl
  · have : w.heap[p.block]? = none := by simp [Nat.le_of_not_lt hl]
    simp [World.cell?, this] at hv

theorem fn_intro {f : FuncId} {fi ca : Array Value} {L : FuncId → Array Value → Array Value → Prop} (h : L f fi ca) : AsFn (.func (.func f) fi ca) L := h
theorem yield_intro {l : Nat} {L : Nat → Prop} (h : L l) : AsYield (.func (.yield l) #[] #[]) L := by simpa [AsYield] using h

/-! ### a stretch of a block -/
/-- From o on these cells stand. -/
def Seg (B : List Value) (o : Nat) (l : List Value) : Prop := ∀ j v, l[j]? = some v → B[o + j]? = some v
/-- A stretch of a list, written over. -/
def putL {α : Type} (B : List α) (o : Nat) (vs : List α) : List α := B.take o ++ vs ++ B.drop (o + vs.length)
theorem putL_get {α : Type} {B : List α} {o : Nat} {vs : List α} (h : o + vs.length ≤ B.length) (x : Nat) : (putL B o vs)[x]? = if o ≤ x ∧ x < o + vs.length then vs[x - o]? else B[x]? := by
  unfold putL
  rw [List.append_assoc, List.getElem?_append]
  have ht : (B.take o).length = o := by rw [List.length_take]; omega
  rw [ht]
  by_cases h1 : x < o
  · rw [if_pos h1, if_neg (by omega), List.getElem?_take, if_pos h1]
  · rw [if_neg h1, List.getElem?_append]
    by_cases h2 : x - o < vs.length
    · rw [if_pos h2, if_pos (by omega)]
    · rw [if_neg h2, if_neg (by omega), List.getElem?_drop]
      congr 1
      omega
theorem putL_length {α : Type} {B : List α} {o : Nat} {vs : List α} (h : o + vs.length ≤ B.length) : (putL B o vs).length = B.length := by
  simp [putL]
  omega
theorem putL_nil {α : Type} (B : List α) (o : Nat) : putL B o [] = B := by simp [putL]
theorem putL_one {α : Type} {B : List α} {o : Nat} {v : α} (h : o < B.length) : putL B o [v] = B.set o v := by
  apply List.ext_getElem?
  intro x
  rw [putL_get (by simp; omega), List.getElem?_set]
  by_cases hx : o = x
  · subst hx
    rw [if_pos (by simp), if_pos rfl, if_pos h]
    simp
  · rw [if_neg (by simp; omega), if_neg hx]
theorem putL_snoc {α : Type} {B : List α} {o : Nat} {vs : List α} {v : α} (h : o + vs.length < B.length) : putL (putL B o vs) (o + vs.length) [v] = putL B o (vs ++ [v]) := by
  apply List.ext_getElem?
  intro x
  rw [putL_get (by rw [putL_length (by omega)]; simp; omega), putL_get (by omega), putL_get (by simp; omega)]
  simp only [List.length_cons, List.length_nil, List.length_append]
  by_cases h1 : o + vs.length ≤ x ∧ x < o + vs.length + (0 + 1)
  · rw [if_pos h1, if_pos (by omega), List.getElem?_append_right (by omega)]
    congr 1
    omega
  · rw [if_neg h1]
    by_cases h2 : o ≤ x ∧ x < o + vs.length
    · rw [if_pos h2, if_pos (by omega), List.getElem?_append_left (by omega)]
    · rw [if_neg h2, if_neg (by omega)]
theorem Seg.put {B : List Value} {o k : Nat} {l vs : List Value} (h : Seg B o l) (hk : k + vs.length ≤ l.length) (hB : o + l.length ≤ B.length) : Seg (putL B (o + k) vs) o (putL l k vs) := by
  intro j v hj
  rw [putL_get hk] at hj
  rw [putL_get (by omega)]
  by_cases h1 : k ≤ j ∧ j < k + vs.length
  · rw [if_pos h1] at hj
    rw [if_pos (by omega), show o + j - (o + k) = j - k by omega]
    exact hj
  · rw [if_neg h1] at hj
    rw [if_neg (by omega)]
    exact h j v hj
theorem Seg.other {B : List Value} {o k : Nat} {l vs : List Value} (h : Seg B o l) (hd : o + l.length ≤ k ∨ k + vs.length ≤ o) (hB : k + vs.length ≤ B.length) : Seg (putL B k vs) o l := by
  intro j v hj
  have hjl : j < l.length := (List.getElem?_eq_some_iff.1 hj).1
  rw [putL_get hB, if_neg (by omega)]
  exact h j v hj
/-! ### a row that grows, whatever else was turned -/
theorem RunsV_and {P : Program} {s : Sem Value} {w : World} {K1 K2 : Value → World → Prop} (h1 : RunsV P s w K1) (h2 : RunsV P s w K2) : RunsV P s w fun v w' => K1 v w' ∧ K2 v w' := by
  obtain ⟨v, w', hr, k1⟩ := RunsV_elim h1
  obtain ⟨v2, w2, hr2, k2⟩ := RunsV_elim h2
  rw [hr] at hr2
  cases hr2
  exact RunsV_of hr ⟨k1, k2⟩
/-- A world's first blocks. -/
def frontW (w : World) (n : Nat) : World := { w with heap := w.heap.extract 0 n }
theorem frontW_size {w : World} {n : Nat} (h : n ≤ w.heap.size) : (frontW w n).heap.size = n := by
  simp [frontW]
  omega
theorem frontW_later {w : World} {n : Nat} (h : n ≤ w.heap.size) : Later (frontW w n) w := by
  show Below (frontW w n).heap.size _ _
  rw [frontW_size h]
  refine ⟨rfl, rfl, rfl, by rw [frontW_size h]; exact h, fun k hk => ?_⟩
  simp [frontW, Array.getElem?_extract]
  omega
theorem OwnE.pushG {α : Type} {T : ElT α} {P : Program} {t e : TypeId} {bytes : Nat} (ty : TypeId) (hT : RowTy P t e T.sz bytes) {w0 w w1 : World} {b : Option Addr} {c : Nat} {l : List α} (m : α) (hown : OwnE T w0 w e b c l) (hs : w0.heap.size ≤ w.heap.size) (hb : l.length + 1 ≤ maxLen) (hby : (l.length + 1) * bytes ≤ 140737488355328)
    {cs : Array Value} (e1 : w1 = w.alloc (.cells cs e)) (hcs : cs.toList = T.enc m) {K : Value → World → Prop}
    (hK : ∀ b' c' w', OwnE T w0 w' e b' c' (l ++ [m]) → But (fun k => rowB b = some k) w w' → (∀ k, k < w.heap.size → rowB b ≠ some k → rowB b' ≠ some k) → K (.slice b' (l ++ [m]).length c') w') :
    RunsV P (Builtin.append_ #[t, t] ty #[.slice b l.length c, .slice (some ⟨w.heap.size, 0, none⟩) 1 1]) w1 K := by
  have hf := frontW_size hs
  have hown' : OwnE T (frontW w w0.heap.size) w e b c l := by
    show w.ownsRow (frontW w w0.heap.size).heap.size _ _ _ _ _
    rw [hf]
    exact hown
  have h1 := OwnE.push (K := fun v w' => ∃ b' c', v = .slice b' (l ++ [m]).length c' ∧ OwnE T w0 w' e b' c' (l ++ [m]) ∧ (∀ k, k < w.heap.size → rowB b ≠ some k → w'.heap[k]? = w.heap[k]? ∧ rowB b' ≠ some k)) ty hT m hown' (frontW_later hs) hb hby e1 hcs fun b' c' w' ho _ hk => ⟨b', c', rfl, by
      have : w'.ownsRow (frontW w w0.heap.size).heap.size e T.sz (.slice b' (l ++ [m]).length c') (l ++ [m]).length (rowC T (l ++ [m])) := ho
      rw [hf] at this
      exact this, hk⟩
  subst e1
  have hcells : CellsAt (w.alloc (.cells cs e)) ⟨w.heap.size, 0, none⟩ 0 (rowC T [m]) := by
    rw [rowC_one, ← hcs]
    exact CellsAt_new' w e (0, 0) cs
  have h2 := RunsV_append (K := fun v w' => (w.alloc (.cells cs e)).grownBy w' (rowB b)) ty hT (OwnS.alloc hown' (.cells cs e)) ((frontW_later hs).alloc _) (news := rowC T [m]) (m := 1) (c := 1) (by rw [rowC_length]; simp) hcells (rowC_all T _) hb hby fun b' bn' bc' w' _ _ hg => by rw [ownBlock_rowB] at hg; exact hg
  refine RunsV_mono ?_ (RunsV_and h1 h2)
  rintro v w' ⟨⟨b', c', rfl, ho, hk⟩, hg⟩
  refine hK b' c' w' ho ⟨hg.os, hg.tape, hg.output, Nat.le_trans (Later.size (Later.alloc' w _)) hg.size, fun k hk1 hk2 => (hk k hk1 hk2).1⟩ fun k hk1 hk2 => (hk k hk1 hk2).2
theorem OwnE.but {α : Type} {T : ElT α} {w0 w w' : World} {e : TypeId} {b : Option Addr} {c : Nat} {l : List α} {S : Nat → Prop} (h : OwnE T w0 w e b c l) (hb : But S w w') (hn : ∀ k, rowB b = some k → ¬ S k) : OwnE T w0 w' e b c l :=
  OwnS.kept h fun k hk => hb.keep k (OwnS.lt h hk).2 (hn k hk)
theorem But.later {S : Nat → Prop} {w0 w w' : World} (h : But S w w') (hl : Later w0 w) (hS : ∀ k, S k → w0.heap.size ≤ k) : Later w0 w' :=
  Below.trans hl ⟨h.os, h.tape, h.output, h.size, fun k hk => h.keep k (Nat.lt_of_lt_of_le hk (Later.size hl)) fun hs => by have := hS k hs; omega⟩
theorem Trk.but {S : Nat → Prop} {w0 w w' : World} {L : List Blk} (hL : Trk w0 w L) (h : But S w w') (hS : ∀ k, S k → w0.heap.size ≤ k) (hn : ∀ x ∈ L, ¬ S x.1) : Trk w0 w' L :=
  ⟨h.later hL.1 hS, fun x hx => ⟨(hL.2.1 x hx).1, h.has (hL.2.1 x hx).2 (hn x hx)⟩, hL.2.2⟩
theorem repL_one (v : Value) : ∀ n, repL [v] n = List.replicate n v
  | 0 => rfl
  | n + 1 => by rw [repL, repL_one v n]; rfl
theorem reslice_zero (A : Option Addr) (m s : Nat) : reslice A 0 m s = A := by
  unfold reslice
  split
  · rfl
  · cases A with
    | none => rfl
    | some a => simp [addr_add_zero]
end Go.Vc

/-
Memories, the plain part: regions, which may be, where a stretch lies, what is loaded and laid.
Conditions: none.
-/
namespace Go.Proofs.YtcnnnlhoiodeaaaGreat
open Go Go.Vc Go.RowKit
set_option maxRecDepth 100000

structure Reg where
  f : Int
  s : Int
  k : Int
  deriving DecidableEq
structure Pt where
  r : Reg
  bs : List Int
  ts : List Bool
  deriving DecidableEq
/-- A region's numbers are of their kinds. -/
structure RegIn (x : Reg) : Prop where
  f0 : 0 ≤ x.f
  f1 : x.f < 18446744073709551616
  s0 : 0 ≤ x.s
  s1 : x.s < 18446744073709551616
  k0 : 0 ≤ x.k
  k1 : x.k < 256
def mayR (x : Reg) : Bool := decide (1 ≤ x.k ∧ x.k ≤ 4) && (decide (1 ≤ x.s ∧ x.s ≤ 1048576) && decide (x.f ≤ 1099511627776 - x.s))
def touchR (x y : Reg) : Bool := decide (x.f < y.f + y.s) && decide (y.f < x.f + x.s)
def okUpto : List Reg → List Reg → Bool
  | _, [] => true
  | seen, x :: r => (mayR x && !(seen.any (touchR x))) && okUpto (seen ++ [x]) r
def mayL (l : List Reg) : Bool := decide (1 ≤ l.length ∧ l.length ≤ 16) && okUpto [] l
theorem okUpto_append : ∀ (a s b : List Reg), okUpto s (a ++ b) = (okUpto s a && okUpto (s ++ a) b)
  | [], s, b => by simp [okUpto]
  | x :: a, s, b => by
    simp only [List.cons_append, okUpto]
    rw [okUpto_append a (s ++ [x]) b, show s ++ x :: a = s ++ [x] ++ a by simp]
    simp only [Bool.and_assoc]
theorem okUpto_step {l : List Reg} {i : Nat} {x : Reg} (h : l[i]? = some x) : okUpto [] (l.take (i + 1)) = (okUpto [] (l.take i) && (mayR x && !((l.take i).any (touchR x)))) := by
  rw [List.take_add_one, h]
  show okUpto [] (l.take i ++ [x]) = _
  rw [okUpto_append]
  simp [okUpto]
theorem okUpto_front {l : List Reg} (i : Nat) (h : okUpto [] l = true) : okUpto [] (l.take i) = true := by
  rw [← List.take_append_drop i l, okUpto_append, Bool.and_eq_true] at h
  exact h.1
theorem okUpto_all {l : List Reg} (h : okUpto [] l = true) {i : Nat} {x : Reg} (hi : l[i]? = some x) : mayR x = true ∧ ∀ k y, k < i → l[k]? = some y → touchR x y = false := by
  have h1 := okUpto_front (i + 1) h
  rw [okUpto_step hi] at h1
  simp only [Bool.and_eq_true, Bool.not_eq_true', List.any_eq_false] at h1
  refine ⟨h1.2.1, fun k y hk hy => ?_⟩
  have := h1.2.2 y (List.mem_of_getElem? (i := k) (by rw [List.getElem?_take, if_pos hk]; exact hy))
  simpa using this
theorem okUpto_bad {l : List Reg} {i : Nat} {x : Reg} (hi : l[i]? = some x) (h : mayR x = false ∨ (l.take i).any (touchR x) = true) : okUpto [] l = false := by
  cases hc : okUpto [] l with
  | false => rfl
  | true =>
    have h1 := okUpto_front (i + 1) hc
    rw [okUpto_step hi] at h1
    rcases h with h | h <;> simp [h] at h1
theorem mayR_facts {x : Reg} (h : mayR x = true) : (1 ≤ x.k ∧ x.k ≤ 4) ∧ (1 ≤ x.s ∧ x.s ≤ 1048576) ∧ x.f + x.s ≤ 1099511627776 := by
  simp only [mayR, Bool.and_eq_true, decide_eq_true_eq] at h
  omega
def newM (l : List Reg) : List Pt := l.map fun r => ⟨r, List.replicate r.s.toNat 0, List.replicate r.s.toNat false⟩
/-! ### where a stretch lies -/
def hasR (r : Reg) (a n : Int) : Bool := decide (r.f ≤ a) && (decide (a - r.f < r.s) && decide (n % 18446744073709551616 ≤ r.s - (a - r.f)))
def findM : List Pt → Int → Int → Option (Nat × Pt)
  | [], _, _ => none
  | p :: l, a, n => if hasR p.r a n = true then some (0, p) else (findM l a n).map fun x => (x.1 + 1, x.2)
theorem findM_some : ∀ {st : List Pt} {a n : Int} {i : Nat} {p : Pt}, st[i]? = some p → hasR p.r a n = true → (∀ (j : Nat) (q : Pt), j < i → st[j]? = some q → hasR q.r a n = false) → findM st a n = some (i, p)
  | [], a, n, i, p, h, _, _ => by simp at h
  | q :: st, a, n, 0, p, h, hp, _ => by
    obtain rfl : q = p := by simpa using h
    simp [findM, hp]
  | q :: st, a, n, i + 1, p, h, hp, hq => by
    have h0 := hq 0 q (by omega) rfl
    have := findM_some (st := st) (by simpa using h) hp fun j r hj hr => hq (j + 1) r (by omega) (by simpa using hr)
    simp [findM, h0, this]
theorem findM_none : ∀ {st : List Pt} {a n : Int}, (∀ (j : Nat) (q : Pt), st[j]? = some q → hasR q.r a n = false) → findM st a n = none
  | [], a, n, _ => rfl
  | q :: st, a, n, h => by
    have h0 := h 0 q rfl
    have := findM_none (st := st) (a := a) (n := n) fun j r hr => h (j + 1) r (by simpa using hr)
    simp [findM, h0, this]
theorem findM_get : ∀ {st : List Pt} {a n : Int} {i : Nat} {p : Pt}, findM st a n = some (i, p) → st[i]? = some p ∧ hasR p.r a n = true
  | [], a, n, i, p, h => by simp [findM] at h
  | q :: st, a, n, i, p, h => by
    unfold findM at h
    split at h
    · rename_i hq
      simp only [Option.some.injEq, Prod.mk.injEq] at h
      obtain ⟨rfl, rfl⟩ := h
      exact ⟨rfl, hq⟩
    · cases hf : findM st a n with
      | none => rw [hf] at h; simp at h
      | some x =>
        rw [hf] at h
        simp only [Option.map_some, Option.some.injEq, Prod.mk.injEq] at h
        obtain ⟨rfl, rfl⟩ := h
        have := findM_get (st := st) hf
        simpa using this
/-- Where in it. -/
def offR (p : Pt) (a : Int) : Nat := (a - p.r.f).toNat
/-! ### bytes as a number -/
def valB : List Int → Int
  | [] => 0
  | b :: l => b + 256 * valB l
/-! ### what a memory does -/
def loadM (st : List Pt) (a n : Int) : Int × Bool × Int :=
  if n < 1 ∨ 8 < n then (0, false, 2)
  else match findM st a n with
    | none => (0, false, 40)
    | some (_, p) => if p.r.k = 1 then (0, false, 40) else (valB ((p.bs.drop (offR p a)).take n.toNat), ((p.ts.drop (offR p a)).take n.toNat).any id, 0)
def layP (p : Pt) (k : Nat) (l : List Int) (t : Bool) : Pt := ⟨p.r, putL p.bs k l, putL p.ts k (List.replicate l.length t)⟩
def layM (st : List Pt) (i : Nat) (p : Pt) (k : Nat) (l : List Int) (t : Bool) : List Pt := st.set i (layP p k l t)
def lowB (v : Int) (n : Nat) : List Int := (List.range n).map fun j => v / 2 ^ (8 * j) % 256
def storeM (st : List Pt) (a n v : Int) (t : Bool) : List Pt × Int :=
  if n < 1 ∨ 8 < n then (st, 2)
  else match findM st a n with
    | none => (st, 40)
    | some (i, p) => if p.r.k = 3 ∨ p.r.k = 4 then (layM st i p (offR p a) (lowB v n.toNat) t, 0) else (st, 40)
def fetchM (st : List Pt) (a : Int) : Int × Int :=
  if a % 4 = 0 then match findM st a 4 with
    | none => (0, 40)
    | some (_, p) => if p.r.k = 1 then (valB ((p.bs.drop (offR p a)).take 4), 0) else (0, 40)
  else (0, 40)
def setM (st : List Pt) (a : Int) (l : List Int) (t : Bool) : List Pt × Int :=
  match findM st a l.length with
    | none => (st, 40)
    | some (i, p) => (layM st i p (offR p a) l t, 0)
def bytesM (st : List Pt) (a n : Int) : List Int × List Bool × Int :=
  if n < 0 ∨ 1048576 < n then ([], [], 2)
  else match findM st a n with
    | none => ([], [], 40)
    | some (_, p) => ((p.bs.drop (offR p a)).take n.toNat, (p.ts.drop (offR p a)).take n.toNat, 0)
/-- A state that a memory may be in. -/
structure PtOk (p : Pt) : Prop where
  may : mayR p.r = true
  inn : RegIn p.r
  bl : p.bs.length = p.r.s.toNat
  tl : p.ts.length = p.r.s.toNat
  b8 : ∀ b ∈ p.bs, 0 ≤ b ∧ b < 256
def StOk (st : List Pt) : Prop := st.length ≤ 16 ∧ ∀ (i : Nat) (p : Pt), st[i]? = some p → PtOk p
theorem hasR_facts {p : Pt} (hp : PtOk p) {a n : Int} (h : hasR p.r a n = true) : p.r.f ≤ a ∧ (a - p.r.f = (offR p a : Int)) ∧ offR p a < p.r.s.toNat ∧ (n % 18446744073709551616).toNat ≤ p.r.s.toNat - offR p a := by
  have m := mayR_facts hp.may
  simp only [hasR, Bool.and_eq_true, decide_eq_true_eq] at h
  unfold offR
  omega
theorem putL_mem {α : Type} {B : List α} {o : Nat} {vs : List α} {x : α} (h : x ∈ putL B o vs) : x ∈ B ∨ x ∈ vs := by
  unfold putL at h
  rcases List.mem_append.1 h with h | h
  · rcases List.mem_append.1 h with h | h
    · exact .inl (List.mem_of_mem_take h)
    · exact .inr h
  · exact .inl (List.mem_of_mem_drop h)
theorem layP_ok {p : Pt} (hp : PtOk p) {k : Nat} {l : List Int} {t : Bool} (hk : k + l.length ≤ p.r.s.toNat) (hl : ∀ b ∈ l, 0 ≤ b ∧ b < 256) : PtOk (layP p k l t) := by
  refine ⟨hp.may, hp.inn, ?_, ?_, fun b hb => ?_⟩
  · show (putL p.bs k l).length = _
    rw [putL_length (by rw [hp.bl]; exact hk)]
    exact hp.bl
  · show (putL p.ts k _).length = _
    rw [putL_length (by rw [hp.tl, List.length_replicate]; exact hk)]
    exact hp.tl
  · rcases putL_mem hb with h | h
    · exact hp.b8 b h
    · exact hl b h
theorem layM_ok {st : List Pt} (hs : StOk st) {i : Nat} {p : Pt} (hi : st[i]? = some p) {k : Nat} {l : List Int} {t : Bool} (hk : k + l.length ≤ p.r.s.toNat) (hl : ∀ b ∈ l, 0 ≤ b ∧ b < 256) : StOk (layM st i p k l t) := by
  refine ⟨by simp [layM]; exact hs.1, fun j q hj => ?_⟩
  simp only [layM, List.getElem?_set] at hj
  split at hj
  · split at hj
    · obtain rfl := Option.some.inj hj
      exact layP_ok (hs.2 i p hi) hk hl
    · cases hj
  · exact hs.2 j q hj
theorem lowB_length (v : Int) (n : Nat) : (lowB v n).length = n := by simp [lowB]
theorem lowB_b8 (v : Int) (n : Nat) : ∀ b ∈ lowB v n, 0 ≤ b ∧ b < 256 := by
  intro b hb
  obtain ⟨j, -, rfl⟩ := List.mem_map.1 hb
  have h1 : (0 : Int) < 256 := by decide
  exact ⟨Int.emod_nonneg _ (by decide), Int.emod_lt_of_pos _ h1⟩
theorem newM_ok {l : List Reg} (hl : ∀ (i : Nat) (x : Reg), l[i]? = some x → RegIn x) (h : mayL l = true) : StOk (newM l) := by
  simp only [mayL, Bool.and_eq_true, decide_eq_true_eq] at h
  refine ⟨by simp [newM]; exact h.1.2, fun i p hi => ?_⟩
  simp only [newM, List.getElem?_map, Option.map_eq_some_iff] at hi
  obtain ⟨x, hx, rfl⟩ := hi
  refine ⟨(okUpto_all h.2 hx).1, hl i x hx, by simp, by simp, fun b hb => ?_⟩
  obtain rfl := (List.mem_replicate.1 hb).2
  decide
end Go.Proofs.YtcnnnlhoiodeaaaGreat

/-
Memories, the plain law: what was stored is loaded, what lies elsewhere stays; which kinds may be loaded, stored, fetched.
Conditions: each theorem's hypotheses.
-/
namespace Go.Proofs.YtcnnnlhoiodeaaaGreat
open Go Go.Vc Go.RowKit
set_option maxRecDepth 100000

/-- No two parts touch. -/
def Sep (st : List Pt) : Prop := okUpto [] (st.map (·.r)) = true
theorem Sep.one {st : List Pt} (h : Sep st) {i j : Nat} {p q : Pt} (hi : st[i]? = some p) (hj : st[j]? = some q) {x : Int} (hp : p.r.f ≤ x ∧ x < p.r.f + p.r.s) (hq : q.r.f ≤ x ∧ x < q.r.f + q.r.s) : i = j := by
  have ei : (st.map (·.r))[i]? = some p.r := by rw [List.getElem?_map, hi]; rfl
  have ej : (st.map (·.r))[j]? = some q.r := by rw [List.getElem?_map, hj]; rfl
  rcases Nat.lt_trichotomy i j with hij | hij | hij
  · have := (okUpto_all h ej).2 i _ hij ei
    simp [touchR] at this
    omega
  · exact hij
  · have := (okUpto_all h ei).2 j _ hij ej
    simp [touchR] at this
    omega
theorem find_at {st : List Pt} (hs : Sep st) {i : Nat} {p : Pt} (hi : st[i]? = some p) {a n : Int} (hn : hasR p.r a n = true) : findM st a n = some (i, p) := by
  refine findM_some hi hn fun j q hj hq => ?_
  cases hb : hasR q.r a n with
  | false => rfl
  | true =>
    simp only [hasR, Bool.and_eq_true, decide_eq_true_eq] at hn hb
    have := hs.one hi hq (x := a) (by omega) (by omega)
    omega
section
variable {st : List Pt} (hs : StOk st) (hd : Sep st) {a n v : Int} {t : Bool}
include hs hd
end
/-! ### kinds -/
section
variable {st : List Pt} (hs : StOk st) (hd : Sep st) {i : Nat} {p : Pt} (hi : st[i]? = some p) {x : Int} (hx : p.r.f ≤ x ∧ x < p.r.f + p.r.s)
include hs hd hi hx
end
end Go.Proofs.YtcnnnlhoiodeaaaGreat

/-
The contracts of package word: what each function of the machine's numbers comes to.
Conditions: each number is of its kind, as each theorem says.
-/
namespace Go.Proofs.YtcnnnlhoiodeaaaGreat
open Go Go.Vc Go.RowKit
set_option maxRecDepth 100000

theorem word_table_1_ok (a b : Int) (w : World) : Calls Tryz.prog word_table_1.N #[u64v a, u64v b] w (Gives (u64v ((a + b) % 18446744073709551616)) w) := by
  refine word_table_1.calls ?_
  exact ⟨by rw [wrap_u64], Later.refl _⟩
theorem word_table_2_ok (a b : Int) (w : World) : Calls Tryz.prog word_table_2.N #[u64v a, u64v b] w (Gives (u64v ((a - b) % 18446744073709551616)) w) := by
  refine word_table_2.calls ?_
  exact ⟨by rw [wrap_u64], Later.refl _⟩
theorem min64 {b : Int} (h : 0 ≤ b) : min (b % 64).toNat 64 = (b % 64).toNat := by omega
theorem word_sll_ok (a b : Int) (hb : 0 ≤ b) (w : World) : Calls Tryz.prog word_sll.N #[u64v a, u64v b] w (Gives (u64v (a * 2 ^ (b % 64).toNat % 18446744073709551616)) w) := by
  refine word_sll.calls ?_
  unfold word_sll.vc
  rw [tmod_nn 64 hb]
  refine cnd_false (by simp; omega) ?_
  exact ⟨by rw [wrap_u64, min64 hb], Later.refl _⟩
theorem word_srl_ok (a b : Int) (hb : 0 ≤ b) (w : World) : Calls Tryz.prog word_srl.N #[u64v a, u64v b] w (Gives (u64v (a / 2 ^ (b % 64).toNat)) w) := by
  refine word_srl.calls ?_
  unfold word_srl.vc
  rw [tmod_nn 64 hb]
  refine cnd_false (by simp; omega) ?_
  exact ⟨by rw [min64 hb, fdiv_nn _ (Int.le_of_lt (two_pow_pos _))], Later.refl _⟩
theorem word_sra_ok (a b : Int) (hb : 0 ≤ b) (w : World) : Calls Tryz.prog word_sra.N #[u64v a, u64v b] w (Gives (u64v ((IntKind.i64.wrap a / 2 ^ (b % 64).toNat) % 18446744073709551616)) w) := by
  refine word_sra.calls ?_
  unfold word_sra.vc
  rw [tmod_nn 64 hb]
  refine cnd_false (by simp; omega) ?_
  exact ⟨by rw [min64 hb, fdiv_nn _ (Int.le_of_lt (two_pow_pos _)), wrap_u64], Later.refl _⟩
theorem word_bit_ok (c : Bool) (w : World) : Calls Tryz.prog word_bit.N #[.bool c] w (Gives (u64v (if c then 1 else 0)) w) := by
  refine word_bit.calls ?_
  exact cnd_of (fun h => by subst h; exact ⟨rfl, Later.refl _⟩) (fun h => by subst h; exact ⟨rfl, Later.refl _⟩)
theorem word_slt_ok (a b : Int) (w : World) : Calls Tryz.prog word_slt.N #[u64v a, u64v b] w (Gives (u64v (if IntKind.i64.wrap a < IntKind.i64.wrap b then 1 else 0)) w) := by
  refine word_slt.calls ?_
  exact (word_bit_ok _ _).mono fun e w' ⟨he, hl⟩ => ⟨_, he, by simp, hl⟩
theorem word_table_3_ok (a b : Int) (w : World) : Calls Tryz.prog word_table_3.N #[u64v a, u64v b] w (Gives (u64v (if a < b then 1 else 0)) w) := by
  refine word_table_3.calls ?_
  exact (word_bit_ok _ _).mono fun e w' ⟨he, hl⟩ => ⟨_, he, by simp, hl⟩
theorem word_table_4_ok (a b : Int) (w : World) : Calls Tryz.prog word_table_4.N #[u64v a, u64v b] w (Gives (u64v (bits .xor .u64 a b)) w) := by
  refine word_table_4.calls ?_
  exact ⟨rfl, Later.refl _⟩
theorem word_table_5_ok (a b : Int) (w : World) : Calls Tryz.prog word_table_5.N #[u64v a, u64v b] w (Gives (u64v (bits .or .u64 a b)) w) := by
  refine word_table_5.calls ?_
  exact ⟨rfl, Later.refl _⟩
theorem word_table_6_ok (a b : Int) (w : World) : Calls Tryz.prog word_table_6.N #[u64v a, u64v b] w (Gives (u64v (bits .and .u64 a b)) w) := by
  refine word_table_6.calls ?_
  exact ⟨rfl, Later.refl _⟩
theorem word_table_7_ok (a b : Int) (w : World) : Calls Tryz.prog word_table_7.N #[u64v a, u64v b] w (Gives (u64v (a * b % 18446744073709551616)) w) := by
  refine word_table_7.calls ?_
  exact ⟨by rw [wrap_u64], Later.refl _⟩
theorem word_divu_ok (a b : Int) (ha : 0 ≤ a) (ha1 : a < 18446744073709551616) (hb : 0 ≤ b) (w : World) : Calls Tryz.prog word_divu.N #[u64v a, u64v b] w (Gives (u64v (if b = 0 then 18446744073709551615 else a / b)) w) := by
  refine word_divu.calls ?_
  refine cnd_of (fun h => ?_) (fun h => ?_)
  · have h : b = 0 := by simpa using h
    subst h
    exact ⟨rfl, Later.refl _⟩
  · have h : ¬ b = 0 := by simpa using h
    refine cnd_false (by simpa using h) ⟨?_, Later.refl _⟩
    have h1 : a / b ≤ a := Int.ediv_le_self _ ha
    have h0 : 0 ≤ a / b := Int.ediv_nonneg ha hb
    rw [if_neg h, tdiv_nn _ ha, u64_in h0 (by omega)]
theorem word_remu_ok (a b : Int) (ha : 0 ≤ a) (hb : 0 ≤ b) (w : World) : Calls Tryz.prog word_remu.N #[u64v a, u64v b] w (Gives (u64v (if b = 0 then a else a % b)) w) := by
  refine word_remu.calls ?_
  refine cnd_of (fun h => ?_) (fun h => ?_)
  · have h : b = 0 := by simpa using h
    subst h
    exact ⟨rfl, Later.refl _⟩
  · have h : ¬ b = 0 := by simpa using h
    refine cnd_false (by simpa using h) ⟨?_, Later.refl _⟩
    rw [if_neg h, tmod_nn _ ha]

/-! ### the table -/
def tableL : List Value := [.nilFunc, fnv word_table_1.N, fnv word_table_2.N, fnv word_sll.N, fnv word_slt.N, fnv word_table_3.N, fnv word_table_4.N, fnv word_srl.N, fnv word_sra.N, fnv word_table_5.N, fnv word_table_6.N, fnv word_table_7.N, fnv word_mulhu.N, fnv word_divu.N, fnv word_remu.N]
theorem word_table_ok (w : World) : Calls Tryz.prog word_table.N #[] w (Gives (.agg tableL.toArray) w) := by
  refine word_table.calls ?_
  intro w1 h1
  subst h1
  refine ⟨SetsAt_new _ _ _ 0 (by simp) (by simp [Value.oneCell']), ?_⟩
  intro w2 h2
  rw [setCellsAt_new _ _ _ (by simp)] at h2
  subst h2
  exact ⟨tableL.toArray, rfl, CellsAt_new' _ _ _ _, rfl, Later.alloc' _ _⟩

theorem math_bits_Mul64_ok (a b : Int) (ha : 0 ≤ a) (ha1 : a < 18446744073709551616) (hb : 0 ≤ b) (hb1 : b < 18446744073709551616) (w : World) :
    Calls Tryz.prog math_bits_Mul64.N #[u64v a, u64v b] w (Gives (pairv (u64v (a * b / 18446744073709551616)) (u64v (a * b % 18446744073709551616))) w) := by
  refine math_bits_Mul64.calls ?_
  unfold math_bits_Mul64.vc
  have e1 : ∀ x : Int, 0 ≤ x → x < 18446744073709551616 → bits .and .u64 x 4294967295 = x % 4294967296 := by
    intro x h0 h1
    obtain ⟨n, rfl⟩ := Int.eq_ofNat_of_zero_le h0
    exact low32_and n (by omega)
  have e2 : ∀ x : Int, x.fdiv 4294967296 = x / 4294967296 := fun x => fdiv_nn x (by decide)
  have hm : ∀ x : Int, 0 ≤ x % 18446744073709551616 ∧ x % 18446744073709551616 < 18446744073709551616 := fun x => ⟨Int.emod_nonneg _ (by decide), Int.emod_lt_of_pos _ (by decide)⟩
  simp only [wrap_u64, e2]
  rw [e1 a ha ha1, e1 b hb hb1, e1 _ (hm _).1 (hm _).2, mul_hi a b ha ha1 hb hb1]
  exact ⟨rfl, Later.refl _⟩
theorem word_mulhu_ok (a b : Int) (ha : 0 ≤ a) (ha1 : a < 18446744073709551616) (hb : 0 ≤ b) (hb1 : b < 18446744073709551616) (w : World) :
    Calls Tryz.prog word_mulhu.N #[u64v a, u64v b] w (Gives (u64v (a * b / 18446744073709551616)) w) := by
  refine word_mulhu.calls ?_
  exact (math_bits_Mul64_ok a b ha ha1 hb hb1 _).mono fun e w' ⟨he, hl⟩ => ⟨_, _, he, rfl, hl⟩

/-! ### Op -/
def opv (fn a b : Int) : Int :=
  if fn = 1 then (a + b) % 18446744073709551616
  else if fn = 2 then (a - b) % 18446744073709551616
  else if fn = 3 then a * 2 ^ (b % 64).toNat % 18446744073709551616
  else if fn = 4 then (if IntKind.i64.wrap a < IntKind.i64.wrap b then 1 else 0)
  else if fn = 5 then (if a < b then 1 else 0)
  else if fn = 6 then bits .xor .u64 a b
  else if fn = 7 then a / 2 ^ (b % 64).toNat
  else if fn = 8 then (IntKind.i64.wrap a / 2 ^ (b % 64).toNat) % 18446744073709551616
  else if fn = 9 then bits .or .u64 a b
  else if fn = 10 then bits .and .u64 a b
  else if fn = 11 then a * b % 18446744073709551616
  else if fn = 12 then a * b / 18446744073709551616
  else if fn = 13 then (if b = 0 then 18446744073709551615 else a / b)
  else if fn = 14 then (if b = 0 then a else a % b)
  else 0
def ope (fn : Int) : Int := if 1 ≤ fn ∧ fn ≤ 14 then 0 else 2
theorem word_Op_at (fn : Nat) (hfn : fn < 15) (k : FuncId) (hk : tableL[fn]? = some (fnv k)) (he : entersB Tryz.prog k = true) (a b r : Int)
    (hc : ∀ w, Calls Tryz.prog k #[u64v a, u64v b] w (Gives (u64v r) w)) (w : World) :
    Calls Tryz.prog word_Op.N #[.int .u8 fn, u64v a, u64v b] w (Gives (pairv (u64v r) okv) w) := by
  refine word_Op.calls ?_
  refine (word_table_ok w).mono fun e w1 ⟨h1, hl1⟩ => ⟨tableL.toArray, rfl, h1, ?_⟩
  intro w2 h2
  subst h2
  refine cnd_true rfl ⟨SetsAt_new _ _ _ 0 (by simp [tableL]) (by simp [tableL, Value.oneCell']), ?_⟩
  intro w3 h3
  have h3 := h3.trans (setCellsAt_new w1 _ _ (by simp [tableL]))
  subst h3
  have hw : IntKind.i64.wrap (fn : Int) = fn := i64_in (by omega) (by omega)
  have hcell : ∀ (t : TypeId), (w1.alloc (.cells tableL.toArray t)).cell? ((Addr.mk w1.heap.size 0 none).add ((fn : Int).toNat * 1)) = some (fnv k) := by
    intro t
    rw [add_block, cell_new]
    simpa using hk
  rw [hw]
  refine cnd_false (by simp; omega) ⟨⟨by omega, by omega⟩, _, hcell _, false, fun w => ?_, ?_⟩
  · kernel_rfl
  refine ⟨⟨by omega, by omega⟩, _, hcell _, ?_⟩
  show cnd (entersB _ k) _ _
  refine cnd_true he ?_
  refine (hc _).mono fun e w' ⟨h4, hl4⟩ => ⟨r, h4, rfl, ?_⟩
  exact hl1.trans ((Later.alloc' _ _).trans hl4)
theorem word_Op_bad (fn : Int) (h0 : 0 ≤ fn) (h1 : fn < 256) (hfn : fn = 0 ∨ 15 ≤ fn) (a b : Int) (w : World) :
    Calls Tryz.prog word_Op.N #[.int .u8 fn, u64v a, u64v b] w (Gives (pairv (u64v 0) (i64v 2)) w) := by
  refine word_Op.calls ?_
  refine (word_table_ok w).mono fun e w1 ⟨h1, hl1⟩ => ⟨tableL.toArray, rfl, h1, ?_⟩
  intro w2 h2
  subst h2
  refine cnd_true rfl ⟨SetsAt_new _ _ _ 0 (by simp [tableL]) (by simp [tableL, Value.oneCell']), ?_⟩
  intro w3 h3
  have h3 := h3.trans (setCellsAt_new w1 _ _ (by simp [tableL]))
  subst h3
  have hw : IntKind.i64.wrap fn = fn := i64_in (by omega) (by omega)
  rw [hw]
  have hl : ∀ o, Later w (w1.alloc o) := fun o => hl1.alloc o
  rcases hfn with rfl | hfn
  · refine cnd_false (by decide) ⟨⟨by omega, by omega⟩, .nilFunc, ?_, true, fun w => ?_, ?_⟩
    · show (w1.alloc _).cell? (Addr.mk w1.heap.size 0 none) = _
      rw [cell_new]; rfl
    · kernel_rfl
    · exact cnd_true rfl ⟨rfl, hl _⟩
  · exact cnd_true (by simp; omega) ⟨rfl, hl _⟩
theorem word_Op_ok (fn a b : Int) (h0 : 0 ≤ fn) (h1 : fn < 256) (ha : 0 ≤ a) (ha1 : a < 18446744073709551616) (hb : 0 ≤ b) (hb1 : b < 18446744073709551616) (w : World) :
    Calls Tryz.prog word_Op.N #[.int .u8 fn, u64v a, u64v b] w (Gives (pairv (u64v (opv fn a b)) (i64v (ope fn))) w) := by
  by_cases h : fn = 0 ∨ 15 ≤ fn
  · have e1 : opv fn a b = 0 := by unfold opv; repeat' (rw [if_neg (by omega)])
    have e2 : ope fn = 2 := by unfold ope; rw [if_neg (by omega)]
    rw [e1, e2]
    exact word_Op_bad fn h0 h1 h a b w
  · have e2 : ope fn = 0 := by unfold ope; rw [if_pos (by omega)]
    rw [e2]
    have : fn = 1 ∨ fn = 2 ∨ fn = 3 ∨ fn = 4 ∨ fn = 5 ∨ fn = 6 ∨ fn = 7 ∨ fn = 8 ∨ fn = 9 ∨ fn = 10 ∨ fn = 11 ∨ fn = 12 ∨ fn = 13 ∨ fn = 14 := by omega
    rcases this with rfl | rfl | rfl | rfl | rfl | rfl | rfl | rfl | rfl | rfl | rfl | rfl | rfl | rfl
    · exact word_Op_at 1 (by decide) _ rfl (by kernel_rfl) a b _ (fun w => word_table_1_ok a b w) w
    · exact word_Op_at 2 (by decide) _ rfl (by kernel_rfl) a b _ (fun w => word_table_2_ok a b w) w
    · exact word_Op_at 3 (by decide) _ rfl (by kernel_rfl) a b _ (fun w => word_sll_ok a b hb w) w
    · exact word_Op_at 4 (by decide) _ rfl (by kernel_rfl) a b _ (fun w => word_slt_ok a b w) w
    · exact word_Op_at 5 (by decide) _ rfl (by kernel_rfl) a b _ (fun w => word_table_3_ok a b w) w
    · exact word_Op_at 6 (by decide) _ rfl (by kernel_rfl) a b _ (fun w => word_table_4_ok a b w) w
    · exact word_Op_at 7 (by decide) _ rfl (by kernel_rfl) a b _ (fun w => word_srl_ok a b hb w) w
    · exact word_Op_at 8 (by decide) _ rfl (by kernel_rfl) a b _ (fun w => word_sra_ok a b hb w) w
    · exact word_Op_at 9 (by decide) _ rfl (by kernel_rfl) a b _ (fun w => word_table_5_ok a b w) w
    · exact word_Op_at 10 (by decide) _ rfl (by kernel_rfl) a b _ (fun w => word_table_6_ok a b w) w
    · exact word_Op_at 11 (by decide) _ rfl (by kernel_rfl) a b _ (fun w => word_table_7_ok a b w) w
    · exact word_Op_at 12 (by decide) _ rfl (by kernel_rfl) a b _ (fun w => word_mulhu_ok a b ha ha1 hb hb1 w) w
    · exact word_Op_at 13 (by decide) _ rfl (by kernel_rfl) a b _ (fun w => word_divu_ok a b ha ha1 hb w) w
    · exact word_Op_at 14 (by decide) _ rfl (by kernel_rfl) a b _ (fun w => word_remu_ok a b ha hb w) w

end Go.Proofs.YtcnnnlhoiodeaaaGreat

/-
The machine, the plain part: its state, what a step makes of it.
Conditions: none.
-/
namespace Go.Proofs.YtcnnnlhoiodeaaaGreat
open Go Go.Vc Go.RowKit
set_option maxRecDepth 100000

/-- What is seen of a step. -/
structure Sn where
  pc : Int
  k : Int
  a : Int
  b : Int
  t : Bool
  deriving DecidableEq
structure Cst where
  pc : Int
  R : Nat → Int
  T : Nat → Bool
  over : Bool
  code : Int
  e : Int
  told : List (Int × Bool)
  tr : List Sn
  M : List Pt
def U64 (x : Int) : Prop := 0 ≤ x ∧ x < 18446744073709551616
def uw (x : Int) : Int := IntKind.u64.wrap x
theorem uw_eq (x : Int) : uw x = x % 18446744073709551616 := wrap_u64 x
theorem uw_in (x : Int) : U64 (uw x) := by rw [uw_eq]; exact ⟨by omega, by omega⟩
def upd {α : Type} (f : Nat → α) (i : Nat) (v : α) : Nat → α := fun j => if j = i then v else f j
theorem upd_same {α : Type} (f : Nat → α) (i : Nat) (v : α) : upd f i v i = v := if_pos rfl
theorem upd_other {α : Type} (f : Nat → α) {i j : Nat} (v : α) (h : j ≠ i) : upd f i v j = f j := if_neg h
def setS (s : Cst) (d : Int) (v : Int) (t : Bool) : Cst := if d > 0 then { s with R := upd s.R d.toNat v, T := upd s.T d.toNat t } else s
def likeS (o : Int) : Int := if o = 15 then 1 else if o = 16 then 5 else if o = 17 then 6 else if o = 18 then 9 else if o = 19 then 10 else if o = 20 then 3 else if o = 21 then 7 else if o = 22 then 8 else 0
def goesS (o a b : Int) : Bool := if o = 28 then decide (a = b) else if o = 29 then decide (a ≠ b) else if o = 30 then decide (a < b) else decide (a ≥ b)
def sizeS (o : Int) : Int := if o = 24 ∨ o = 26 then 1 else 8
def isDiv (o : Int) : Bool := decide (o = 13 ∨ o = 14)
def clr (v : Int) : Int := bits .andNot .u64 v 1
/-- An instruction; the machine's place is behind it already. -/
def doS (s : Cst) (o d v pc ra : Int) (ta : Bool) (rb : Int) (tb : Bool) : Cst × Sn × Int :=
  if o ≤ 14 then (setS s d (opv o ra rb) (ta || tb), if isDiv o = true then ⟨pc, 4, ra, rb, ta || tb⟩ else ⟨pc, 1, 0, 0, false⟩, 0)
  else if o ≤ 22 then (setS s d (opv (likeS o) ra (uw v)) ta, ⟨pc, 1, 0, 0, false⟩, 0)
  else if o ≤ 23 then (setS s d (uw v) false, ⟨pc, 1, 0, 0, false⟩, 0)
  else if o ≤ 25 then (setS s d (loadM s.M (uw (ra + uw v)) (sizeS o)).1 ((loadM s.M (uw (ra + uw v)) (sizeS o)).2.1 || ta), ⟨pc, 2, uw (ra + uw v), 0, ta⟩, (loadM s.M (uw (ra + uw v)) (sizeS o)).2.2)
  else if o ≤ 27 then ({ s with M := (storeM s.M (uw (ra + uw v)) (sizeS o) rb (ta || tb)).1 }, ⟨pc, 3, uw (ra + uw v), 0, ta⟩, (storeM s.M (uw (ra + uw v)) (sizeS o) rb (ta || tb)).2)
  else if o ≤ 31 then (if goesS o ra rb = true then { s with pc := uw (pc + uw v) } else s, ⟨pc, 1, 0, 0, ta || tb⟩, 0)
  else if o ≤ 32 then ({ setS s d (uw (pc + 4)) false with pc := uw (pc + uw v) }, ⟨pc, 1, 0, 0, false⟩, 0)
  else if o ≤ 33 then ({ setS s d (uw (pc + 4)) false with pc := clr (uw (ra + uw v)) }, ⟨pc, 1, 0, 0, ta⟩, 0)
  else if s.R 17 > 5 then (s, ⟨pc, 5, s.R 17, 0, s.T 17⟩, 51)
  else if s.R 17 = 4 then ({ s with told := s.told ++ [(s.R 10, s.T 10)], T := upd s.T 10 false }, ⟨pc, 5, s.R 17, 0, s.T 17⟩, 0)
  else if s.R 17 < 4 then ({ s with over := true, code := IntKind.u8.wrap (s.R 17), pc := pc }, ⟨pc, 5, s.R 17, 0, s.T 17⟩, 0)
  else (s, ⟨pc, 5, s.R 17, 0, s.T 17⟩, 0)
def failS (s : Cst) (e : Int) : Cst × Int := ({ s with over := true, e := e }, e)
def insS (s : Cst) (w : Int) : Cst × Sn × Int :=
  doS { s with pc := uw (s.pc + 4) } (decF w 0) (decF w 1) (decF w 4) s.pc (s.R (decF w 2).toNat) (s.T (decF w 2).toNat) (s.R (decF w 3).toNat) (s.T (decF w 3).toNat)
def stepS (s : Cst) : Cst × Int :=
  if s.over = true then (s, 50)
  else if 1048576 ≤ s.tr.length then (s, 4)
  else if (fetchM s.M s.pc).2 ≠ 0 then failS s (fetchM s.M s.pc).2
  else if decE (fetchM s.M s.pc).1 ≠ 0 then failS s (decE (fetchM s.M s.pc).1)
  else if (insS s (fetchM s.M s.pc).1).2.2 ≠ 0 then failS s (insS s (fetchM s.M s.pc).1).2.2
  else ({ (insS s (fetchM s.M s.pc).1).1 with tr := (insS s (fetchM s.M s.pc).1).1.tr ++ [(insS s (fetchM s.M s.pc).1).2.1] }, 0)

/-! ### what stays true of a state -/
structure CstOk (s : Cst) : Prop where
  pc : U64 s.pc
  R : ∀ i, i < 32 → U64 (s.R i)
  code : 0 ≤ s.code ∧ s.code < 256
  told : s.told.length ≤ s.tr.length + 1
  tr : s.tr.length ≤ 1048576
  ne : 0 < s.M.length
  M : StOk s.M
theorem dec_small {w : Int} (h : decE w = 0) : (1 ≤ decF w 0 ∧ decF w 0 ≤ 34) ∧ (0 ≤ decF w 1 ∧ decF w 1 < 32) ∧ (0 ≤ decF w 2 ∧ decF w 2 < 32) ∧ (0 ≤ decF w 3 ∧ decF w 3 < 32) := by
  unfold decE at h
  unfold decF
  cases hk : decK w with
  | none => rw [hk] at h; cases h
  | some k =>
    simp only
    have f1 := fld5 w 7
    have f2 := fld5 w 15
    have f3 := fld5 w 20
    have hk := k.2
    refine ⟨⟨by omega, by omega⟩, ?_, ?_, ?_⟩
    · unfold gRd; split <;> exact ⟨by omega, by omega⟩
    · unfold gR1; split <;> exact ⟨by omega, by omega⟩
    · unfold gR2; split <;> exact ⟨by omega, by omega⟩
theorem setS_M (s : Cst) (d v : Int) (t : Bool) : (setS s d v t).M = s.M ∧ (setS s d v t).tr = s.tr ∧ (setS s d v t).told = s.told ∧ (setS s d v t).pc = s.pc ∧ (setS s d v t).code = s.code ∧ (setS s d v t).over = s.over ∧ (setS s d v t).e = s.e := by
  unfold setS; split <;> exact ⟨rfl, rfl, rfl, rfl, rfl, rfl, rfl⟩
theorem storeM_len (st : List Pt) (a n v : Int) (t : Bool) : (storeM st a n v t).1.length = st.length := by
  unfold storeM layM
  split
  · rfl
  · split
    · rfl
    · split <;> simp
theorem doS_tr (s : Cst) (o d v pc ra : Int) (ta : Bool) (rb : Int) (tb : Bool) : (doS s o d v pc ra ta rb tb).1.tr = s.tr := by
  unfold doS
  by_cases h1 : o ≤ 14
  · rw [if_pos h1]; exact (setS_M _ _ _ _).2.1
  rw [if_neg h1]
  by_cases h2 : o ≤ 22
  · rw [if_pos h2]; exact (setS_M _ _ _ _).2.1
  rw [if_neg h2]
  by_cases h3 : o ≤ 23
  · rw [if_pos h3]; exact (setS_M _ _ _ _).2.1
  rw [if_neg h3]
  by_cases h4 : o ≤ 25
  · rw [if_pos h4]; exact (setS_M _ _ _ _).2.1
  rw [if_neg h4]
  by_cases h5 : o ≤ 27
  · rw [if_pos h5]
  rw [if_neg h5]
  by_cases h6 : o ≤ 31
  · rw [if_pos h6]; show (if goesS o ra rb = true then _ else _ : Cst).tr = _; split <;> rfl
  rw [if_neg h6]
  by_cases h7 : o ≤ 32
  · rw [if_pos h7]; exact (setS_M _ _ _ _).2.1
  rw [if_neg h7]
  by_cases h8 : o ≤ 33
  · rw [if_pos h8]; exact (setS_M _ _ _ _).2.1
  rw [if_neg h8]
  by_cases h9 : s.R 17 > 5
  · rw [if_pos h9]
  rw [if_neg h9]
  by_cases h10 : s.R 17 = 4
  · rw [if_pos h10]
  rw [if_neg h10]
  by_cases h11 : s.R 17 < 4
  · rw [if_pos h11]
  rw [if_neg h11]
end Go.Proofs.YtcnnnlhoiodeaaaGreat

/-
The explicit conditions of some functions of the program, printed by this repo's own program over VcTop: what is proved is that each is the condition.
Conditions: none.
-/
namespace Go.Proofs.YtcnnnlhoiodeaaaGreat
open Go Go.Vc Go.RowKit
set_option maxRecDepth 100000

/- function 59: sacristy/mem.may -/
abbrev mem_may.N : FuncId := 59
def mem_may.H : Hints := {  }
def mem_may.vc (x'_0 x'_1 x'_2 : Int) (w : World) (R : Ending → World → Prop) : Prop := ∀ w', w' = w.alloc (Obj.cells #[.int .u64 x'_0, .int .u64 x'_1, .int .u8 x'_2] 128) →
∃ (n : Int),
w'.cell? (Addr.mk w.heap.size 2 none) = some (.int .u8 n) ∧
cnd (decide (n ≥ 1)) (∃ (n : Int),
w'.cell? (Addr.mk w.heap.size 2 none) = some (.int .u8 n) ∧
cnd (decide (n ≤ 4)) (∃ (n : Int),
w'.cell? (Addr.mk w.heap.size 1 none) = some (.int .u64 n) ∧
cnd (decide (n ≥ 1)) (∃ (n : Int),
w'.cell? (Addr.mk w.heap.size 1 none) = some (.int .u64 n) ∧
cnd (decide (n ≤ 1048576)) (∃ (n : Int),
w'.cell? (Addr.mk w.heap.size 0 none) = some (.int .u64 n) ∧
∃ (n_1 : Int),
w'.cell? (Addr.mk w.heap.size 1 none) = some (.int .u64 n_1) ∧
R (.returned (.bool (decide (n ≤ IntKind.u64.wrap (1099511627776 - n_1))))) w') (R (.returned (.bool false)) w')) (R (.returned (.bool false)) w')) (R (.returned (.bool false)) w')) (R (.returned (.bool false)) w')
theorem mem_may.calls {x'_0 x'_1 x'_2 : Int} {w : World} {R : Ending → World → Prop} (h : mem_may.vc x'_0 x'_1 x'_2 w R) : Calls Tryz.prog 59 ([.agg #[.int .u64 x'_0, .int .u64 x'_1, .int .u8 x'_2]] : List Value).toArray w R := calls_of_eq (show fnV Tryz.prog mem_may.H 59 [.agg #[.int .u64 x'_0, .int .u64 x'_1, .int .u8 x'_2]] w R = _ from by kernel_rfl) h

/- function 62: sacristy/mem.touch -/
abbrev mem_touch.N : FuncId := 62
def mem_touch.H : Hints := {  }
def mem_touch.vc (x'_0 x'_1 : Int) (x'_2 y'_0 : Int) (y'_1 y'_2 : Int) (w : World) (R : Ending → World → Prop) : Prop := ∀ w', w' = w.alloc (Obj.cells #[.int .u64 x'_0, .int .u64 x'_1, .int .u8 x'_2] 128) →
∀ w'_1, w'_1 = w'.alloc (Obj.cells #[.int .u64 y'_0, .int .u64 y'_1, .int .u8 y'_2] 128) →
∃ (n : Int),
w'_1.cell? (Addr.mk w.heap.size 0 none) = some (.int .u64 n) ∧
∃ (n_1 : Int),
w'_1.cell? (Addr.mk w'.heap.size 0 none) = some (.int .u64 n_1) ∧
∃ (n_2 : Int),
w'_1.cell? (Addr.mk w'.heap.size 1 none) = some (.int .u64 n_2) ∧
cnd (decide (n < IntKind.u64.wrap (n_1 + n_2))) (∃ (n : Int),
w'_1.cell? (Addr.mk w'.heap.size 0 none) = some (.int .u64 n) ∧
∃ (n_3 : Int),
w'_1.cell? (Addr.mk w.heap.size 0 none) = some (.int .u64 n_3) ∧
∃ (n_4 : Int),
w'_1.cell? (Addr.mk w.heap.size 1 none) = some (.int .u64 n_4) ∧
R (.returned (.bool (decide (n < IntKind.u64.wrap (n_3 + n_4))))) w'_1) (R (.returned (.bool false)) w'_1)
theorem mem_touch.vc_eq (x'_0 x'_1 : Int) (x'_2 y'_0 : Int) (y'_1 y'_2 : Int) (w : World) (R : Ending → World → Prop) : fnV Tryz.prog mem_touch.H 62 [.agg #[.int .u64 x'_0, .int .u64 x'_1, .int .u8 x'_2],
Value.agg #[.int .u64 y'_0, .int .u64 y'_1, .int .u8 y'_2]] w R = mem_touch.vc x'_0 x'_1 x'_2 y'_0 y'_1 y'_2 w R := by kernel_rfl
theorem mem_touch.calls {x'_0 x'_1 : Int} {x'_2 y'_0 : Int} {y'_1 y'_2 : Int} {w : World} {R : Ending → World → Prop} (h : mem_touch.vc x'_0 x'_1 x'_2 y'_0 y'_1 y'_2 w R) : Calls Tryz.prog 62 ([.agg #[.int .u64 x'_0, .int .u64 x'_1, .int .u8 x'_2],
Value.agg #[.int .u64 y'_0, .int .u64 y'_1, .int .u8 y'_2]] : List Value).toArray w R := calls_of_eq (mem_touch.vc_eq x'_0 x'_1 x'_2 y'_0 y'_1 y'_2 w R) h

/- function 61: sacristy/mem.New$1 -/
abbrev mem_New_1.N : FuncId := 61
def mem_New_1.H : Hints := {  }
def mem_New_1.vc (y'_0 y'_1 y'_2 : Int) (c0 : Option Addr) (w : World) (R : Ending → World → Prop) : Prop := ∀ w', w' = w.alloc (Obj.cells #[.int .u64 y'_0, .int .u64 y'_1, .int .u8 y'_2] 128) →
Deref c0 fun ad =>
∃ (n n_1 n_2 : Int),
(w'.cell? ad = some (.int .u64 n) ∧
w'.cell? (ad.add 1) = some (.int .u64 n_1) ∧
w'.cell? (ad.add 2) = some (.int .u8 n_2) ∧ True) ∧
∃ (n_3 n_4 n_5 : Int),
(w'.cell? (Addr.mk w.heap.size 0 none) = some (.int .u64 n_3) ∧
w'.cell? (Addr.mk w.heap.size 1 none) = some (.int .u64 n_4) ∧
w'.cell? (Addr.mk w.heap.size 2 none) = some (.int .u8 n_5) ∧ True) ∧
Calls Tryz.prog 62 #[.agg #[.int .u64 n, .int .u64 n_1, .int .u8 n_2],
Value.agg #[.int .u64 n_3, .int .u64 n_4, .int .u8 n_5]] w' fun e w' =>
∃ (b : Bool), e = .returned (.bool b) ∧ R (.returned (.bool b)) w'
theorem mem_New_1.calls {y'_0 y'_1 y'_2 : Int} {c0 : Option Addr} {w : World} {R : Ending → World → Prop} (h : mem_New_1.vc y'_0 y'_1 y'_2 c0 w R) : Calls Tryz.prog 61 ([.agg #[.int .u64 y'_0, .int .u64 y'_1, .int .u8 y'_2], .pointer c0] : List Value).toArray w R := calls_of_eq (show fnV Tryz.prog mem_New_1.H 61 [.agg #[.int .u64 y'_0, .int .u64 y'_1, .int .u8 y'_2], .pointer c0] w R = _ from by kernel_rfl) h

/- function 60: slices.ContainsFunc[[]sacristy/api.Region,sacristy/api.Region] -/
abbrev slices_ContainsFunc.N : FuncId := 60
def slices_ContainsFunc.H : Hints := {  }
def slices_ContainsFunc.vc (s' : Option Addr) (s'n s'c : Nat) (f' : Value) (w : World) (R : Ending → World → Prop) : Prop := Calls Tryz.prog 102 #[.slice s' s'n s'c, f'] w fun e w' =>
∃ (n : Int), e = .returned (.int .i64 n) ∧ R (.returned (.bool (decide (n ≥ 0)))) w'
theorem slices_ContainsFunc.calls {s' : Option Addr} {s'n s'c : Nat} {f' : Value} {w : World} {R : Ending → World → Prop} (h : slices_ContainsFunc.vc s' s'n s'c f' w R) : Calls Tryz.prog 60 ([.slice s' s'n s'c, f'] : List Value).toArray w R := calls_of_eq (show fnV Tryz.prog slices_ContainsFunc.H 60 [.slice s' s'n s'c, f'] w R = _ from by kernel_rfl) h

/- function 102: slices.IndexFunc[[]sacristy/api.Region,sacristy/api.Region] -/
abbrev slices_IndexFunc.N : FuncId := 102
def slices_IndexFunc.H : Hints := { loops := [(3, [(8, .one (.int .i64))])] }
def slices_IndexFunc.vc (s' : Option Addr) (s'n s'c : Nat) (f' : Value) (w : World) (R : Ending → World → Prop) : Prop := ∃ (I : List Value → World → Prop) (μ : List Value → World → Nat),
I [.int .i64 0] w ∧
∀ (g : Nat → Value) (s8 : Int) (w' : World),
I [.int .i64 s8] w' →
cnd (decide (s8 < (↑s'n : Int))) ((0 ≤ s8 ∧ s8 < (↑s'n : Int)) ∧
Deref s' fun a =>
∃ (n n_1 n_2 : Int),
(w'.cell? (a.add (s8.toNat * 3)) = some (.int .u64 n) ∧
w'.cell? ((a.add (s8.toNat * 3)).add 1) = some (.int .u64 n_1) ∧
w'.cell? ((a.add (s8.toNat * 3)).add 2) = some (.int .u8 n_2) ∧ True) ∧
AsFn f' fun (f : FuncId) (fi ca : Array Value) =>
cnd (entersB Tryz.prog f) (Calls Tryz.prog f (fi ++ #[.agg #[.int .u64 n, .int .u64 n_1,
Value.int .u8 n_2]] ++ ca) w' fun e w'_1 =>
∃ (b : Bool),
e = .returned (.bool b) ∧
cnd b (R (.returned (.int .i64 s8)) w'_1) (Goes I μ [.int .i64 s8] w' [.int .i64 (IntKind.i64.wrap (s8 + 1))] w'_1)) (RunsC Tryz.prog f (fi ++ #[.agg #[.int .u64 n, .int .u64 n_1,
Value.int .u8 n_2]] ++ ca) w' fun v w'_1 =>
∃ (b : Bool),
v = .bool b ∧
cnd b (R (.returned (.int .i64 s8)) w'_1) (Goes I μ [.int .i64 s8] w' [.int .i64 (IntKind.i64.wrap (s8 + 1))] w'_1))) (R (.returned (.int .i64 (-1))) w')
theorem slices_IndexFunc.calls {s' : Option Addr} {s'n s'c : Nat} {f' : Value} {w : World} {R : Ending → World → Prop} (h : slices_IndexFunc.vc s' s'n s'c f' w R) : Calls Tryz.prog 102 ([.slice s' s'n s'c, f'] : List Value).toArray w R := calls_of_eq (show fnV Tryz.prog slices_IndexFunc.H 102 [.slice s' s'n s'c, f'] w R = _ from by kernel_rfl) h

/- function 32: sacristy/mem.New -/
abbrev mem_New.N : FuncId := 32
def mem_New.H : Hints := { loops := [(6, [(4, .one (.int .u64)), (23, .one (.int .i64))]), (15, [(7, .one .slice), (8, .one .slice), (51, .one (.int .i64))])], mixes := [(11, 5), (17, 1001)] }
def mem_New.vc (l' : Option Addr) (l'n l'c : Nat) (w : World) (R : Ending → World → Prop) : Prop := cnd (decide ((↑l'n : Int) < 1)) (R (.returned (.tuple #[.pointer none, .int .i64 2])) w) (cnd (decide ((↑l'n : Int) > 16)) (R (.returned (.tuple #[.pointer none, .int .i64 2])) w) (∃ (I : List Value → World → Prop) (μ : List Value → World → Nat),
I [.int .u64 0, .int .i64 0] w ∧
∀ (g : Nat → Value) (all s23 : Int) (w' : World),
I [.int .u64 all, .int .i64 s23] w' →
cnd (decide (s23 < (↑l'n : Int))) ((0 ≤ s23 ∧ s23 < (↑l'n : Int)) ∧
Deref l' fun a =>
∃ (n n_1 n_2 : Int),
(w'.cell? (a.add (s23.toNat * 3)) = some (.int .u64 n) ∧
w'.cell? ((a.add (s23.toNat * 3)).add 1) = some (.int .u64 n_1) ∧
w'.cell? ((a.add (s23.toNat * 3)).add 2) = some (.int .u8 n_2) ∧ True) ∧
∀ w'_1, w'_1 = w'.alloc (Obj.cells #[.int .u64 0, .int .u64 0, .int .u8 0] 128) →
SetsAt w'_1 (Addr.mk w'.heap.size 0 none) 0 [.int .u64 n, .int .u64 n_1, .int .u8 n_2] ∧
∀ w'_2, w'_2 = setCellsAt w'_1 (Addr.mk w'.heap.size 0 none) 0 [.int .u64 n, .int .u64 n_1,
Value.int .u8 n_2] →
∃ (n n_3 n_4 : Int),
(w'_2.cell? (Addr.mk w'.heap.size 0 none) = some (.int .u64 n) ∧
w'_2.cell? (Addr.mk w'.heap.size 1 none) = some (.int .u64 n_3) ∧
w'_2.cell? (Addr.mk w'.heap.size 2 none) = some (.int .u8 n_4) ∧
True) ∧
Calls Tryz.prog 59 #[.agg #[.int .u64 n, .int .u64 n_3,
Value.int .u8 n_4]] w'_2 fun e w'_3 =>
∃ (b : Bool),
e = .returned (.bool b) ∧
cnd (!b) (R (.returned (.tuple #[.pointer none, .int .i64 2])) w'_3) ((0 ≤ s23 ∧ s23 ≤ (↑l'c : Int)) ∧
Calls Tryz.prog 60 #[.slice (reslice l' 0 l'c 3) (s23.toNat - 0) (l'c - 0),
Value.func (Fn.func 61) #[] #[.pointer (some (Addr.mk w'.heap.size 0 none))]] w'_3 fun e w'_4 =>
∃ (b : Bool),
e = .returned (.bool b) ∧
cnd b (R (.returned (.tuple #[.pointer none, .int .i64 2])) w'_4) (∃ (n : Int),
w'_4.cell? (Addr.mk w'.heap.size 1 none) = some (.int .u64 n) ∧
Goes I μ [.int .u64 all,
Value.int .i64 s23] w' [.int .u64 (IntKind.u64.wrap (all + n)),
Value.int .i64 (IntKind.i64.wrap (s23 + 1))] w'_4))) ((0 ≤ all ∧ all = all ∧ all ≤ 16777216 ∧ 1 ≤ 1024 ∧ 1 = 1 ∧ 0 < 1) ∧
∀ (k : Nat),
w'.heap.size ≤ k →
(0 ≤ all ∧ all = all ∧ all ≤ 16777216 ∧ 1 ≤ 1024 ∧ 1 = 1 ∧ 0 < 1) ∧
∀ (k_1 : Nat),
w'.heap.size ≤ k_1 →
∀ w'_1, Vc.Good w' [(k_1, Obj.cells (repL [.bool false] all.toNat).toArray 4),
(k, Obj.cells (repL [.int .u8 0] all.toNat).toArray 5)] w'_1 →
∀ w', w' = w'_1.alloc (Obj.cells #[.slice none 0 0] 147) →
∃ (I : List Value → World → Prop) (μ : List Value → World → Nat),
I [.slice (some (Addr.mk k 0 none)) all.toNat all.toNat,
Value.slice (some (Addr.mk k_1 0 none)) all.toNat all.toNat,
Value.int .i64 0] w' ∧
∀ (g : Nat → Value) (bytes : Option Addr) (bytesn bytesc : Nat) (taints : Option Addr) (taintsn taintsc : Nat) (s51 : Int) (w' : World),
I [.slice bytes bytesn bytesc, .slice taints taintsn taintsc,
Value.int .i64 s51] w' →
cnd (decide (s51 < (↑l'n : Int))) ((0 ≤ s51 ∧ s51 < (↑l'n : Int)) ∧
Deref l' fun a =>
∃ (n n_1 n_2 : Int),
(w'.cell? (a.add (s51.toNat * 3)) = some (.int .u64 n) ∧
w'.cell? ((a.add (s51.toNat * 3)).add 1) = some (.int .u64 n_1) ∧
w'.cell? ((a.add (s51.toNat * 3)).add 2) = some (.int .u8 n_2) ∧
True) ∧
∀ w'_2, w'_2 = w'.alloc (Obj.cells #[.int .u64 0,
Value.int .u64 0, .int .u8 0] 128) →
SetsAt w'_2 (Addr.mk w'.heap.size 0 none) 0 [.int .u64 n, .int .u64 n_1,
Value.int .u8 n_2] ∧
∀ w'_3, w'_3 = setCellsAt w'_2 (Addr.mk w'.heap.size 0 none) 0 [.int .u64 n,
Value.int .u64 n_1,
Value.int .u8 n_2] →
∃ (n : Int),
w'_3.cell? (Addr.mk w'.heap.size 1 none) = some (.int .u64 n) ∧
∃ (C : World → Prop),
(∀ (w' : World), Later w'_3 w' → C w') ∧
∀ w'_4, Later w'_3 w'_4 →
∃ (p : Option Addr) (n_3 c : Nat),
(∀ w', C w' →
w'.cell? (Addr.mk w'_1.heap.size 0 none) = some (.slice p n_3 c)) ∧
∃ (n_4 n_5 n_6 : Int),
(∀ w'_5, C w'_5 →
w'_5.cell? (Addr.mk w'.heap.size 0 none) = some (.int .u64 n_4) ∧
w'_5.cell? (Addr.mk w'.heap.size 1 none) = some (.int .u64 n_5) ∧
w'_5.cell? (Addr.mk w'.heap.size 2 none) = some (.int .u8 n_6) ∧
True) ∧
(0 ≤ n ∧
n ≤ (↑bytesc : Int)) ∧
(0 ≤ n ∧
n ≤ (↑n.toNat : Int)) ∧
(0 ≤ n ∧
n ≤ (↑taintsc : Int)) ∧
(0 ≤ n ∧
n ≤ (↑n.toNat : Int)) ∧
∀ w'_5, w'_5 = w'_4.alloc (Obj.cells #[.int .u64 n_4,
Value.int .u64 n_5,
Value.int .u8 n_6,
Value.slice (reslice bytes 0 n.toNat 1) (n.toNat - 0) (n.toNat - 0),
Value.slice (reslice taints 0 n.toNat 1) (n.toNat - 0) (n.toNat - 0)] 130) →
C w'_5 ∧
∀ w'_6, w'_6 = w'_5.alloc (Obj.cells #[.pointer (some (Addr.mk w'_4.heap.size 0 none))] 124) →
C w'_6 ∧
RunsV Tryz.prog (Builtin.append_ #[145,
145] 145 #[.slice p n_3 c,
Value.slice (some (Addr.mk w'_5.heap.size 0 none)) 1 1]) w'_6 fun v w'_7 =>
∃ (p : Option Addr) (n_7 c : Nat),
v = .slice p n_7 c ∧
C w'_7 ∧
((w'_7.cell? (Addr.mk w'_1.heap.size 0 none)).isSome = true ∧
w'_7.frozen? (Addr.mk w'_1.heap.size 0 none) = false) ∧
∀ w'_8, w'_8 = w'_7.setCell (Addr.mk w'_1.heap.size 0 none) (.slice p n_7 c) →
(0 ≤ n ∧
n ≤ (↑bytesn : Int)) ∧
(0 ≤ n ∧
n ≤ (↑taintsn : Int)) ∧
∀ w'_9, Later w'_8 w'_9 →
Goes I μ [.slice bytes bytesn bytesc,
Value.slice taints taintsn taintsc,
Value.int .i64 s51] w' [.slice (reslice bytes n.toNat bytesc 1) (bytesn - n.toNat) (bytesc - n.toNat),
Value.slice (reslice taints n.toNat taintsc 1) (taintsn - n.toNat) (taintsc - n.toNat),
Value.int .i64 (IntKind.i64.wrap (s51 + 1))] w'_9) (R (.returned (.tuple #[.pointer (some (Addr.mk w'_1.heap.size 0 none)),
Value.int .i64 0])) w'))))
theorem mem_New.calls {l' : Option Addr} {l'n l'c : Nat} {w : World} {R : Ending → World → Prop} (h : mem_New.vc l' l'n l'c w R) : Calls Tryz.prog 32 ([.slice l' l'n l'c] : List Value).toArray w R := calls_of_eq (show fnV Tryz.prog mem_New.H 32 [.slice l' l'n l'c] w R = _ from by kernel_rfl) h

/- function 92: (*sacristy/mem.Mem).each -/
abbrev sacristy_mem_Mem_each.N : FuncId := 92
def sacristy_mem_Mem_each.H : Hints := {  }
def sacristy_mem_Mem_each.vc (m' : Option Addr) (w : World) (R : Ending → World → Prop) : Prop := ∀ w', w' = w.alloc (Obj.cells #[.pointer m'] 33) →
R (.returned (Value.func (Fn.func 121) #[] #[.pointer (some (Addr.mk w.heap.size 0 none))])) w'
theorem sacristy_mem_Mem_each.calls {m' : Option Addr} {w : World} {R : Ending → World → Prop} (h : sacristy_mem_Mem_each.vc m' w R) : Calls Tryz.prog 92 ([.pointer m'] : List Value).toArray w R := calls_of_eq (show fnV Tryz.prog sacristy_mem_Mem_each.H 92 [.pointer m'] w R = _ from by kernel_rfl) h

/- function 121: (*sacristy/mem.Mem).each$1 -/
abbrev sacristy_mem_Mem_each_1.N : FuncId := 121
def sacristy_mem_Mem_each_1.H : Hints := { loops := [(3, [(12, .one (.int .i64))])], raw := [4], yields := [(4, 2)] }
def sacristy_mem_Mem_each_1.vc (yield' : Value) (c0 : Option Addr) (w : World) (R : Ending → World → Prop) : Prop := Deref c0 fun ad =>
∃ (p : Option Addr),
w.cell? ad = some (.pointer p) ∧
∃ (b : Bool),
EqRuns Tryz.prog BinOp.eql 33 (Operand.tmp 5) (Operand.const (.pointer none)) (.pointer p) (.pointer none) b ∧
cnd b (R (.returned (.tuple #[])) w) (Deref c0 fun ad =>
∃ (p : Option Addr),
w.cell? ad = some (.pointer p) ∧
Deref p fun a =>
∃ (p : Option Addr) (n c : Nat),
w.cell? a = some (.slice p n c) ∧
∃ (I : List Value → World → Prop) (μ : List Value → World → Nat),
I [.int .i64 0] w ∧
∀ (g : Nat → Value) (s12 : Int) (w' : World),
I [.int .i64 s12] w' →
cnd (decide (s12 < (↑n : Int))) ((0 ≤ s12 ∧ s12 < (↑n : Int)) ∧
Deref p fun a =>
∃ (p : Option Addr),
w'.cell? (a.add (s12.toNat * 1)) = some (.pointer p) ∧
AsYield yield' fun (l : Nat) =>
YieldC Tryz.prog l #[.pointer p] w' fun (b : Bool) (w'_1 : World) =>
cnd (!b) (R (.returned (.tuple #[])) w'_1) (Goes I μ [.int .i64 s12] w' [.int .i64 (IntKind.i64.wrap (s12 + 1))] w'_1)) (R (.returned (.tuple #[])) w'))
theorem sacristy_mem_Mem_each_1.calls {yield' : Value} {c0 : Option Addr} {w : World} {R : Ending → World → Prop} (h : sacristy_mem_Mem_each_1.vc yield' c0 w R) : Calls Tryz.prog 121 ([yield', .pointer c0] : List Value).toArray w R := calls_of_eq (show fnV Tryz.prog sacristy_mem_Mem_each_1.H 121 [yield', .pointer c0] w R = _ from by kernel_rfl) h

/- function 93: (*sacristy/mem.part).has -/
abbrev sacristy_mem_part_has.N : FuncId := 93
def sacristy_mem_part_has.H : Hints := {  }
def sacristy_mem_part_has.vc (p' : Option Addr) (at' n' : Int) (w : World) (R : Ending → World → Prop) : Prop := Deref p' fun a =>
∃ (n : Int),
(∀ (w' : World), Later w w' → w'.cell? a = some (.int .u64 n)) ∧
cnd (decide (at' ≥ n)) (Deref p' fun a =>
∃ (n : Int),
(∀ (w' : World), Later w w' → w'.cell? a = some (.int .u64 n)) ∧
Deref p' fun a =>
∃ (n_1 : Int),
(∀ (w' : World), Later w w' → w'.cell? (a.add 1) = some (.int .u64 n_1)) ∧
cnd (decide (IntKind.u64.wrap (at' - n) < n_1)) (Deref p' fun a =>
∃ (n : Int),
(∀ (w' : World), Later w w' → w'.cell? (a.add 1) = some (.int .u64 n)) ∧
Deref p' fun a =>
∃ (n_2 : Int),
(∀ (w' : World), Later w w' → w'.cell? a = some (.int .u64 n_2)) ∧
∀ w', Later w w' →
R (.returned (.bool (decide (IntKind.u64.wrap n' ≤ IntKind.u64.wrap (n - IntKind.u64.wrap (at' - n_2)))))) w') (∀ (w' : World), Later w w' → R (.returned (.bool false)) w')) (∀ (w' : World), Later w w' → R (.returned (.bool false)) w')
theorem sacristy_mem_part_has.calls {p' : Option Addr} {at' n' : Int} {w : World} {R : Ending → World → Prop} (h : sacristy_mem_part_has.vc p' at' n' w R) : Calls Tryz.prog 93 ([.pointer p', .int .u64 at', .int .i64 n'] : List Value).toArray w R := calls_of_eq (show fnV Tryz.prog sacristy_mem_part_has.H 93 [.pointer p', .int .u64 at', .int .i64 n'] w R = _ from by kernel_rfl) h

/- function 50: (*sacristy/mem.Mem).in -/
abbrev sacristy_mem_Mem_in.N : FuncId := 50
def sacristy_mem_Mem_in.H : Hints := { rngs := [(11, [(11, .one .ptr)], [(8, .one .ptr)])], mixes := [(4, 1001)] }
def sacristy_mem_Mem_in.vc (m' : Option Addr) (at' n' : Int) (w : World) (R : Ending → World → Prop) : Prop := ∀ w', w' = w.alloc (Obj.cells #[.int .u64 at'] 22) →
∀ w'_1, w'_1 = w'.alloc (Obj.cells #[.int .i64 n'] 3) →
∀ w'_2, w'_2 = w'_1.alloc (Obj.cells #[.pointer none] 124) →
∀ w'_3, w'_3 = w'_2.alloc (Obj.cells #[.int .i64 0] 3) →
Calls Tryz.prog 92 #[.pointer m'] w'_3 fun e w'_4 =>
∃ (v : Value),
e = .returned v ∧
AsFn v fun (gf : FuncId) (fi lb : Array Value) =>
cnd (entersB Tryz.prog gf) (fi = #[] ∧
∃ (r : Rounds Tryz.prog gf lb w'_4),
(∀ (x : Fin r.N), okV [(11, Shape.one Sh.ptr)] (r.enc x) = true) ∧
(∀ (s11 : Option Addr) (pre : List (Fin r.N)) (x : Fin r.N) (w1 : World),
r.enc x = [.pointer s11] →
r.I pre w1 →
KeepsFrom w'_4.heap.size w1 w1 ∧
KpS r.Ks w1 w1 ∧ r.I pre w1 ∧ r.Mid x [.pointer s11] w1) ∧
(∀ (s11 : Option Addr) (pre : List (Fin r.N)) (x : Fin r.N),
r.enc x = [.pointer s11] →
pre.length < r.N →
∀ (g : Nat → Value) (p : Option Addr) (w'_5 : World),
r.I pre w'_5 ∧ r.Mid x [.pointer p] w'_5 →
∃ (n : Int),
w'_5.cell? (Addr.mk w.heap.size 0 none) = some (.int .u64 n) ∧
∃ (n_1 : Int),
w'_5.cell? (Addr.mk w'.heap.size 0 none) = some (.int .i64 n_1) ∧
Calls Tryz.prog 93 #[.pointer p, .int .u64 n,
Value.int .i64 n_1] w'_5 fun e w' =>
∃ (b : Bool),
e = .returned (.bool b) ∧
cnd b (∃ (C : World → Prop),
(∀ (w'_6 : World), Later w' w'_6 → C w'_6) ∧
∀ w'_6, Later w' w'_6 →
∃ (n : Int),
(∀ w', C w' →
w'.cell? (Addr.mk w.heap.size 0 none) = some (.int .u64 n)) ∧
Deref p fun a =>
∃ (n_2 : Int),
(∀ w', C w' →
w'.cell? a = some (.int .u64 n_2)) ∧
((w'_6.cell? (Addr.mk w'_1.heap.size 0 none)).isSome = true ∧
w'_6.frozen? (Addr.mk w'_1.heap.size 0 none) = false) ∧
∀ w', w' = w'_6.setCell (Addr.mk w'_1.heap.size 0 none) (.pointer p) →
C w' ∧
((w'.cell? (Addr.mk w'_2.heap.size 0 none)).isSome = true ∧
w'.frozen? (Addr.mk w'_2.heap.size 0 none) = false) ∧
∀ w'_7, w'_7 = w'.setCell (Addr.mk w'_2.heap.size 0 none) (.int .i64 (IntKind.i64.wrap (IntKind.u64.wrap (n - n_2)))) →
KeepsFrom w'_4.heap.size w'_5 w'_7 ∧
r.Ix (pre ++ [x]) w'_7) (KeepsFrom w'_4.heap.size w'_5 w' ∧
KpS r.Ks w'_5 w' ∧ r.I (pre ++ [x]) w')) ∧
(∀ (D : Nat) (w1 : World),
w'_4.heap.size ≤ D →
r.I (List.finRange r.N) w1 →
w1.heap[D]? = some (Obj.deferred (some [])) →
((w1.cell? (Addr.mk w'_1.heap.size 0 none)).isSome = true ∧
w1.frozen? (Addr.mk w'_1.heap.size 0 none) = false) ∧
∀ w', w' = w1.setCell (Addr.mk w'_1.heap.size 0 none) (.pointer none) →
((w'.cell? (Addr.mk w'_2.heap.size 0 none)).isSome = true ∧
w'.frozen? (Addr.mk w'_2.heap.size 0 none) = false) ∧
∀ w'_5, w'_5 = w'.setCell (Addr.mk w'_2.heap.size 0 none) (.int .i64 0) →
w'_5.heap[D]? = some (Obj.deferred (some [])) ∧
∀ w', w' = w'_5.putObj D (Obj.deferred none) →
∃ (p : Option Addr),
w'.cell? (Addr.mk w'_1.heap.size 0 none) = some (.pointer p) ∧
∃ (n : Int),
w'.cell? (Addr.mk w'_2.heap.size 0 none) = some (.int .i64 n) ∧
R (.returned (.tuple #[.pointer p,
Value.int .i64 n])) w') ∧
∀ (D : Nat) (pre : List (Fin r.N)) (w1 : World),
w'_4.heap.size ≤ D →
(∃ (t : List (Fin r.N)), pre ++ t = List.finRange r.N) →
r.Ix pre w1 →
w1.heap[D]? = some (Obj.deferred (some [])) →
w1.heap[D]? = some (Obj.deferred (some [])) ∧
∀ w', w' = w1.putObj D (Obj.deferred none) →
∃ (p : Option Addr),
w'.cell? (Addr.mk w'_1.heap.size 0 none) = some (.pointer p) ∧
∃ (n : Int),
w'.cell? (Addr.mk w'_2.heap.size 0 none) = some (.int .i64 n) ∧
R (.returned (.tuple #[.pointer p, .int .i64 n])) w') False
theorem sacristy_mem_Mem_in.calls {m' : Option Addr} {at' n' : Int} {w : World} {R : Ending → World → Prop} (h : sacristy_mem_Mem_in.vc m' at' n' w R) : Calls Tryz.prog 50 ([.pointer m', .int .u64 at', .int .i64 n'] : List Value).toArray w R := calls_of_eqM (show fnM Tryz.prog sacristy_mem_Mem_in.H 50 [.pointer m', .int .u64 at', .int .i64 n'] w R = _ from by kernel_rfl) h

/- function 144: (*sacristy/mem.Mem).right -/
abbrev sacristy_mem_Mem_right.N : FuncId := 144
def sacristy_mem_Mem_right.H : Hints := {  }
def sacristy_mem_Mem_right.vc (m' : Option Addr) (n' : Int) (w : World) (R : Ending → World → Prop) : Prop := ∃ (b : Bool),
EqRuns Tryz.prog BinOp.eql 33 (Operand.tmp 6) (Operand.const (.pointer none)) (.pointer m') (.pointer none) b ∧
cnd b (R (.returned (.int .i64 1)) w) (cnd (decide (n' < 1)) (R (.returned (.int .i64 2)) w) (cnd (decide (n' > 8)) (R (.returned (.int .i64 2)) w) (R (.returned (.int .i64 0)) w)))
theorem sacristy_mem_Mem_right.calls {m' : Option Addr} {n' : Int} {w : World} {R : Ending → World → Prop} (h : sacristy_mem_Mem_right.vc m' n' w R) : Calls Tryz.prog 144 ([.pointer m', .int .i64 n'] : List Value).toArray w R := calls_of_eq (show fnV Tryz.prog sacristy_mem_Mem_right.H 144 [.pointer m', .int .i64 n'] w R = _ from by kernel_rfl) h

/- function 134: (*sacristy/mem.Mem).Load -/
abbrev sacristy_mem_Mem_Load.N : FuncId := 134
def sacristy_mem_Mem_Load.H : Hints := { loops := [(9, [(7, .one .bool), (50, .one (.int .i64))])] }
def sacristy_mem_Mem_Load.vc (m' : Option Addr) (at' n' : Int) (w : World) (R : Ending → World → Prop) : Prop := Calls Tryz.prog 144 #[.pointer m', .int .i64 n'] w fun e w' =>
∃ (n : Int),
e = .returned (.int .i64 n) ∧
cnd (n != 0) (R (.returned (.tuple #[.int .u64 0, .bool false, .int .i64 n])) w') (Calls Tryz.prog 50 #[.pointer m', .int .u64 at', .int .i64 n'] w' fun e w' =>
∃ (p : Option Addr) (n : Int),
e = .returned (.tuple #[.pointer p, .int .i64 n]) ∧
∃ (b : Bool),
EqRuns Tryz.prog BinOp.eql 124 (Operand.tmp 27) (Operand.const (.pointer none)) (.pointer p) (.pointer none) b ∧
cnd b (R (.returned (.tuple #[.int .u64 0, .bool false, .int .i64 40])) w') (Deref p fun a =>
∃ (n_1 : Int),
w'.cell? (a.add 2) = some (.int .u8 n_1) ∧
cnd (n_1 == 1) (R (.returned (.tuple #[.int .u64 0, .bool false, .int .i64 40])) w') (Deref p fun a =>
∃ (p_1 : Option Addr) (n_2 c : Nat),
w'.cell? (a.add 4) = some (.slice p_1 n_2 c) ∧
(0 ≤ IntKind.i64.wrap (n + n') ∧ IntKind.i64.wrap (n + n') ≤ (↑c : Int)) ∧
(0 ≤ IntKind.i64.wrap (n + n') ∧
IntKind.i64.wrap (n + n') ≤ (↑(IntKind.i64.wrap (n + n')).toNat : Int)) ∧
(0 ≤ n ∧ n ≤ (↑(IntKind.i64.wrap (n + n')).toNat : Int)) ∧
∃ (I : List Value → World → Prop) (μ : List Value → World → Nat),
I [.bool false, .int .i64 0] w' ∧
∀ (g : Nat → Value) (taint : Bool) (s50 : Int) (w' : World),
I [.bool taint, .int .i64 s50] w' →
cnd (decide (s50 < (↑((IntKind.i64.wrap (n + n')).toNat - n.toNat) : Int))) ((0 ≤ s50 ∧
s50 < (↑((IntKind.i64.wrap (n + n')).toNat - n.toNat) : Int)) ∧
Deref (reslice p_1 n.toNat (IntKind.i64.wrap (n + n')).toNat 1) fun a =>
∃ (b : Bool),
w'.cell? (a.add (s50.toNat * 1)) = some (.bool b) ∧
cnd taint (Goes I μ [.bool taint, .int .i64 s50] w' [.bool true,
Value.int .i64 (IntKind.i64.wrap (s50 + 1))] w') (Goes I μ [.bool taint, .int .i64 s50] w' [.bool b,
Value.int .i64 (IntKind.i64.wrap (s50 + 1))] w')) (Deref p fun a =>
∃ (p : Option Addr) (n_3 c : Nat),
w'.cell? (a.add 3) = some (.slice p n_3 c) ∧
(0 ≤ IntKind.i64.wrap (n + n') ∧
IntKind.i64.wrap (n + n') ≤ (↑c : Int)) ∧
(0 ≤ IntKind.i64.wrap (n + n') ∧
IntKind.i64.wrap (n + n') ≤ (↑(IntKind.i64.wrap (n + n')).toNat : Int)) ∧
(0 ≤ n ∧
n ≤ (↑(IntKind.i64.wrap (n + n')).toNat : Int)) ∧
RunsV Tryz.prog (convert 90 9 (.slice (reslice p n.toNat (IntKind.i64.wrap (n + n')).toNat 1) ((IntKind.i64.wrap (n + n')).toNat - n.toNat) ((IntKind.i64.wrap (n + n')).toNat - n.toNat))) w' fun v w' =>
∃ (s : ByteArray),
v = .string s ∧
Calls Tryz.prog 65 #[.string s] w' fun e w' =>
∃ (n n_4 : Int),
e = .returned (.tuple #[.int .u64 n,
Value.int .i64 n_4]) ∧
R (.returned (.tuple #[.int .u64 n,
Value.bool taint,
Value.int .i64 n_4])) w'))))
theorem sacristy_mem_Mem_Load.calls {m' : Option Addr} {at' n' : Int} {w : World} {R : Ending → World → Prop} (h : sacristy_mem_Mem_Load.vc m' at' n' w R) : Calls Tryz.prog 134 ([.pointer m', .int .u64 at', .int .i64 n'] : List Value).toArray w R := calls_of_eq (show fnV Tryz.prog sacristy_mem_Mem_Load.H 134 [.pointer m', .int .u64 at', .int .i64 n'] w R = _ from by kernel_rfl) h

/- function 63: (*sacristy/mem.part).lay -/
abbrev sacristy_mem_part_lay.N : FuncId := 63
def sacristy_mem_part_lay.H : Hints := { loops := [(2, [(25, .one (.int .i64))])] }
def sacristy_mem_part_lay.vc (p' : Option Addr) (k' : Int) (s' : ByteArray) (taint' : Bool) (w : World) (R : Ending → World → Prop) : Prop := Deref p' fun a =>
∃ (p : Option Addr) (n c : Nat),
w.cell? (a.add 3) = some (.slice p n c) ∧
(0 ≤ IntKind.i64.wrap (k' + (↑s'.size : Int)) ∧ IntKind.i64.wrap (k' + (↑s'.size : Int)) ≤ (↑c : Int)) ∧
(0 ≤ IntKind.i64.wrap (k' + (↑s'.size : Int)) ∧
IntKind.i64.wrap (k' + (↑s'.size : Int)) ≤ (↑(IntKind.i64.wrap (k' + (↑s'.size : Int))).toNat : Int)) ∧
(0 ≤ k' ∧ k' ≤ (↑(IntKind.i64.wrap (k' + (↑s'.size : Int))).toNat : Int)) ∧
RunsV Tryz.prog (Builtin.copy_ #[90, 9] 3 #[.slice (reslice p k'.toNat (IntKind.i64.wrap (k' + (↑s'.size : Int))).toNat 1) ((IntKind.i64.wrap (k' + (↑s'.size : Int))).toNat - k'.toNat) ((IntKind.i64.wrap (k' + (↑s'.size : Int))).toNat - k'.toNat),
Value.string s']) w fun v w' =>
∃ (n : Int),
v = .int .i64 n ∧
∃ (I : List Value → World → Prop) (μ : List Value → World → Nat),
I [.int .i64 0] w' ∧
∀ (g : Nat → Value) (s25 : Int) (w' : World),
I [.int .i64 s25] w' →
cnd (decide (s25 < n)) (Deref p' fun a =>
∃ (p : Option Addr) (n c : Nat),
w'.cell? (a.add 4) = some (.slice p n c) ∧
(0 ≤ IntKind.i64.wrap (k' + s25) ∧
IntKind.i64.wrap (k' + s25) < (↑n : Int)) ∧
Deref p fun a =>
((w'.cell? (a.add ((IntKind.i64.wrap (k' + s25)).toNat * 1))).isSome = true ∧
w'.frozen? (a.add ((IntKind.i64.wrap (k' + s25)).toNat * 1)) = false) ∧
∀ w'_1, w'_1 = w'.setCell (a.add ((IntKind.i64.wrap (k' + s25)).toNat * 1)) (.bool taint') →
Goes I μ [.int .i64 s25] w' [.int .i64 (IntKind.i64.wrap (s25 + 1))] w'_1) (R (.returned (.tuple #[])) w')
theorem sacristy_mem_part_lay.calls {p' : Option Addr} {k' : Int} {s' : ByteArray} {taint' : Bool} {w : World} {R : Ending → World → Prop} (h : sacristy_mem_part_lay.vc p' k' s' taint' w R) : Calls Tryz.prog 63 ([.pointer p', .int .i64 k', .string s', .bool taint'] : List Value).toArray w R := calls_of_eq (show fnV Tryz.prog sacristy_mem_part_lay.H 63 [.pointer p', .int .i64 k', .string s', .bool taint'] w R = _ from by kernel_rfl) h

/- function 137: (*sacristy/mem.Mem).Store -/
abbrev sacristy_mem_Mem_Store.N : FuncId := 137
def sacristy_mem_Mem_Store.H : Hints := {  }
def sacristy_mem_Mem_Store.vc (m' : Option Addr) (at' n' v' : Int) (taint' : Bool) (w : World) (R : Ending → World → Prop) : Prop := Calls Tryz.prog 144 #[.pointer m', .int .i64 n'] w fun e w' =>
∃ (n : Int),
e = .returned (.int .i64 n) ∧
cnd (n != 0) (R (.returned (.int .i64 n)) w') (Calls Tryz.prog 50 #[.pointer m', .int .u64 at', .int .i64 n'] w' fun e w' =>
∃ (p : Option Addr) (n : Int),
e = .returned (.tuple #[.pointer p, .int .i64 n]) ∧
∃ (b : Bool),
EqRuns Tryz.prog BinOp.eql 124 (Operand.tmp 29) (Operand.const (.pointer none)) (.pointer p) (.pointer none) b ∧
cnd b (R (.returned (.int .i64 40)) w') (Deref p fun a =>
∃ (n_1 : Int),
w'.cell? (a.add 2) = some (.int .u8 n_1) ∧
cnd (n_1 != 3) (Deref p fun a =>
∃ (n_2 : Int),
w'.cell? (a.add 2) = some (.int .u8 n_2) ∧
cnd (n_2 != 4) (R (.returned (.int .i64 40)) w') (Calls Tryz.prog 145 #[.int .u64 v', .int .i64 n'] w' fun e w' =>
∃ (s : ByteArray) (n_3 : Int),
e = .returned (.tuple #[.string s, .int .i64 n_3]) ∧
Calls Tryz.prog 63 #[.pointer p, .int .i64 n, .string s,
Value.bool taint'] w' fun e w' =>
e = .returned (.tuple #[]) ∧
R (.returned (.int .i64 0)) w')) (Calls Tryz.prog 145 #[.int .u64 v', .int .i64 n'] w' fun e w' =>
∃ (s : ByteArray) (n_2 : Int),
e = .returned (.tuple #[.string s, .int .i64 n_2]) ∧
Calls Tryz.prog 63 #[.pointer p, .int .i64 n, .string s, .bool taint'] w' fun e w' =>
e = .returned (.tuple #[]) ∧
R (.returned (.int .i64 0)) w')))
theorem sacristy_mem_Mem_Store.calls {m' : Option Addr} {at' n' v' : Int} {taint' : Bool} {w : World} {R : Ending → World → Prop} (h : sacristy_mem_Mem_Store.vc m' at' n' v' taint' w R) : Calls Tryz.prog 137 ([.pointer m', .int .u64 at', .int .i64 n', .int .u64 v', .bool taint'] : List Value).toArray w R := calls_of_eq (show fnV Tryz.prog sacristy_mem_Mem_Store.H 137 [.pointer m', .int .u64 at', .int .i64 n', .int .u64 v', .bool taint'] w R = _ from by kernel_rfl) h

/- function 38: (*sacristy/mem.Mem).Fetch -/
abbrev sacristy_mem_Mem_Fetch.N : FuncId := 38
def sacristy_mem_Mem_Fetch.H : Hints := {  }
def sacristy_mem_Mem_Fetch.vc (m' : Option Addr) (at' : Int) (w : World) (R : Ending → World → Prop) : Prop := ∃ (b : Bool),
EqRuns Tryz.prog BinOp.eql 33 (Operand.tmp 10) (Operand.const (.pointer none)) (.pointer m') (.pointer none) b ∧
cnd b (R (.returned (.tuple #[.int .u32 0, .int .i64 1])) w) (cnd (at'.tmod 4 != 0) (R (.returned (.tuple #[.int .u32 0, .int .i64 40])) w) (Calls Tryz.prog 50 #[.pointer m', .int .u64 at', .int .i64 4] w fun e w' =>
∃ (p : Option Addr) (n : Int),
e = .returned (.tuple #[.pointer p, .int .i64 n]) ∧
∃ (b : Bool),
EqRuns Tryz.prog BinOp.eql 124 (Operand.tmp 21) (Operand.const (.pointer none)) (.pointer p) (.pointer none) b ∧
cnd b (R (.returned (.tuple #[.int .u32 0, .int .i64 40])) w') (Deref p fun a =>
∃ (n_1 : Int),
w'.cell? (a.add 2) = some (.int .u8 n_1) ∧
cnd (n_1 != 1) (R (.returned (.tuple #[.int .u32 0, .int .i64 40])) w') (Deref p fun a =>
∃ (p : Option Addr) (n_2 c : Nat),
w'.cell? (a.add 3) = some (.slice p n_2 c) ∧
(0 ≤ IntKind.i64.wrap (n + 4) ∧ IntKind.i64.wrap (n + 4) ≤ (↑c : Int)) ∧
(0 ≤ IntKind.i64.wrap (n + 4) ∧
IntKind.i64.wrap (n + 4) ≤ (↑(IntKind.i64.wrap (n + 4)).toNat : Int)) ∧
(0 ≤ n ∧ n ≤ (↑(IntKind.i64.wrap (n + 4)).toNat : Int)) ∧
RunsV Tryz.prog (convert 90 9 (.slice (reslice p n.toNat (IntKind.i64.wrap (n + 4)).toNat 1) ((IntKind.i64.wrap (n + 4)).toNat - n.toNat) ((IntKind.i64.wrap (n + 4)).toNat - n.toNat))) w' fun v w' =>
∃ (s : ByteArray),
v = .string s ∧
Calls Tryz.prog 65 #[.string s] w' fun e w' =>
∃ (n n_3 : Int),
e = .returned (.tuple #[.int .u64 n,
Value.int .i64 n_3]) ∧
R (.returned (.tuple #[.int .u32 (IntKind.u32.wrap n),
Value.int .i64 0])) w'))))
theorem sacristy_mem_Mem_Fetch.calls {m' : Option Addr} {at' : Int} {w : World} {R : Ending → World → Prop} (h : sacristy_mem_Mem_Fetch.vc m' at' w R) : Calls Tryz.prog 38 ([.pointer m', .int .u64 at'] : List Value).toArray w R := calls_of_eq (show fnV Tryz.prog sacristy_mem_Mem_Fetch.H 38 [.pointer m', .int .u64 at'] w R = _ from by kernel_rfl) h

/- function 34: (*sacristy/mem.Mem).Set -/
abbrev sacristy_mem_Mem_Set.N : FuncId := 34
def sacristy_mem_Mem_Set.H : Hints := {  }
def sacristy_mem_Mem_Set.vc (m' : Option Addr) (at' : Int) (s' : ByteArray) (taint' : Bool) (w : World) (R : Ending → World → Prop) : Prop := ∃ (b : Bool),
EqRuns Tryz.prog BinOp.eql 33 (Operand.tmp 11) (Operand.const (.pointer none)) (.pointer m') (.pointer none) b ∧
cnd b (R (.returned (.int .i64 1)) w) (Calls Tryz.prog 50 #[.pointer m', .int .u64 at', .int .i64 (↑s'.size : Int)] w fun e w' =>
∃ (p : Option Addr) (n : Int),
e = .returned (.tuple #[.pointer p, .int .i64 n]) ∧
∃ (b : Bool),
EqRuns Tryz.prog BinOp.eql 124 (Operand.tmp 21) (Operand.const (.pointer none)) (.pointer p) (.pointer none) b ∧
cnd b (R (.returned (.int .i64 40)) w') (Calls Tryz.prog 63 #[.pointer p, .int .i64 n, .string s', .bool taint'] w' fun e w' =>
e = .returned (.tuple #[]) ∧ R (.returned (.int .i64 0)) w'))
theorem sacristy_mem_Mem_Set.calls {m' : Option Addr} {at' : Int} {s' : ByteArray} {taint' : Bool} {w : World} {R : Ending → World → Prop} (h : sacristy_mem_Mem_Set.vc m' at' s' taint' w R) : Calls Tryz.prog 34 ([.pointer m', .int .u64 at', .string s', .bool taint'] : List Value).toArray w R := calls_of_eq (show fnV Tryz.prog sacristy_mem_Mem_Set.H 34 [.pointer m', .int .u64 at', .string s', .bool taint'] w R = _ from by kernel_rfl) h

/- function 22: (*sacristy/mem.Mem).Bytes -/
abbrev sacristy_mem_Mem_Bytes.N : FuncId := 22
def sacristy_mem_Mem_Bytes.H : Hints := {  }
def sacristy_mem_Mem_Bytes.vc (m' : Option Addr) (at' n' : Int) (w : World) (R : Ending → World → Prop) : Prop := ∃ (b : Bool),
EqRuns Tryz.prog BinOp.eql 33 (Operand.tmp 12) (Operand.const (.pointer none)) (.pointer m') (.pointer none) b ∧
cnd b (R (.returned (.tuple #[.string (ByteArray.mk #[]), .slice none 0 0, .int .i64 1])) w) (cnd (decide (n' < 0)) (R (.returned (.tuple #[.string (ByteArray.mk #[]), .slice none 0 0, .int .i64 2])) w) (cnd (decide (n' > 1048576)) (R (.returned (.tuple #[.string (ByteArray.mk #[]), .slice none 0 0, .int .i64 2])) w) (Calls Tryz.prog 50 #[.pointer m', .int .u64 at', .int .i64 n'] w fun e w' =>
∃ (p : Option Addr) (n : Int),
e = .returned (.tuple #[.pointer p, .int .i64 n]) ∧
∃ (b : Bool),
EqRuns Tryz.prog BinOp.eql 124 (Operand.tmp 28) (Operand.const (.pointer none)) (.pointer p) (.pointer none) b ∧
cnd b (R (.returned (.tuple #[.string (ByteArray.mk #[]), .slice none 0 0, .int .i64 40])) w') (Deref p fun a =>
∃ (p_1 : Option Addr) (n_1 c : Nat),
w'.cell? (a.add 3) = some (.slice p_1 n_1 c) ∧
(0 ≤ IntKind.i64.wrap (n + n') ∧ IntKind.i64.wrap (n + n') ≤ (↑c : Int)) ∧
(0 ≤ IntKind.i64.wrap (n + n') ∧
IntKind.i64.wrap (n + n') ≤ (↑(IntKind.i64.wrap (n + n')).toNat : Int)) ∧
(0 ≤ n ∧ n ≤ (↑(IntKind.i64.wrap (n + n')).toNat : Int)) ∧
RunsV Tryz.prog (convert 90 9 (.slice (reslice p_1 n.toNat (IntKind.i64.wrap (n + n')).toNat 1) ((IntKind.i64.wrap (n + n')).toNat - n.toNat) ((IntKind.i64.wrap (n + n')).toNat - n.toNat))) w' fun v w' =>
∃ (s : ByteArray),
v = .string s ∧
Deref p fun a =>
∃ (p : Option Addr) (n_2 c : Nat),
w'.cell? (a.add 4) = some (.slice p n_2 c) ∧
(0 ≤ IntKind.i64.wrap (n + n') ∧
IntKind.i64.wrap (n + n') ≤ (↑c : Int)) ∧
(0 ≤ IntKind.i64.wrap (n + n') ∧
IntKind.i64.wrap (n + n') ≤ (↑(IntKind.i64.wrap (n + n')).toNat : Int)) ∧
(0 ≤ n ∧ n ≤ (↑(IntKind.i64.wrap (n + n')).toNat : Int)) ∧
Calls Tryz.prog 51 #[.slice (reslice p n.toNat (IntKind.i64.wrap (n + n')).toNat 1) ((IntKind.i64.wrap (n + n')).toNat - n.toNat) ((IntKind.i64.wrap (n + n')).toNat - n.toNat)] w' fun e w' =>
∃ (p : Option Addr) (n c : Nat),
e = .returned (.slice p n c) ∧
R (.returned (.tuple #[.string s, .slice p n c,
Value.int .i64 0])) w'))))
theorem sacristy_mem_Mem_Bytes.calls {m' : Option Addr} {at' n' : Int} {w : World} {R : Ending → World → Prop} (h : sacristy_mem_Mem_Bytes.vc m' at' n' w R) : Calls Tryz.prog 22 ([.pointer m', .int .u64 at', .int .i64 n'] : List Value).toArray w R := calls_of_eq (show fnV Tryz.prog sacristy_mem_Mem_Bytes.H 22 [.pointer m', .int .u64 at', .int .i64 n'] w R = _ from by kernel_rfl) h

/- function 51: slices.Clone[[]bool,bool] -/
abbrev slices_Clone.N : FuncId := 51
def slices_Clone.H : Hints := {  }
def slices_Clone.vc (s' : Option Addr) (s'n s'c : Nat) (w : World) (R : Ending → World → Prop) : Prop := ∃ (b : Bool),
EqRuns Tryz.prog BinOp.eql 61 (Operand.tmp 3) (Operand.const (.slice none 0 0)) (.slice s' s'n s'c) (.slice none 0 0) b ∧
cnd b (R (.returned (.slice none 0 0)) w) (∀ w', w' = w.alloc (Obj.cells #[] 4) →
RunsV Tryz.prog (Builtin.append_ #[61, 61] 61 #[.slice (some (Addr.mk w.heap.size 0 none)) 0 0, .slice s' s'n s'c]) w' fun v w' =>
∃ (p : Option Addr) (n : Nat), ∃ (c : Nat), v = .slice p n c ∧ R (.returned (.slice p n c)) w')
theorem slices_Clone.calls {s' : Option Addr} {s'n s'c : Nat} {w : World} {R : Ending → World → Prop} (h : slices_Clone.vc s' s'n s'c w R) : Calls Tryz.prog 51 ([.slice s' s'n s'c] : List Value).toArray w R := calls_of_eq (show fnV Tryz.prog slices_Clone.H 51 [.slice s' s'n s'c] w R = _ from by kernel_rfl) h

end Go.Proofs.YtcnnnlhoiodeaaaGreat
