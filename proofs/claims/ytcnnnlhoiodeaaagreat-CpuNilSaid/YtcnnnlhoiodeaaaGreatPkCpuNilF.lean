/-
Texts of this claim, merged: Law5F, Vlaw05n, Law5N.
Conditions: each theorem's own.
-/
import Derived.Test.YtcnnnlhoiodeaaaGreatPkCpuNilE
import Derived.Test.YtcnnnlhoiodeaaaGreatProg
set_option linter.unusedSimpArgs false
set_option linter.unnecessarySimpa false
set_option linter.unusedVariables false
set_option linter.unusedSectionVars false

/-
The examples of chapter 05.
Conditions: each theorem's hypotheses.
-/
namespace Go.Proofs.YtcnnnlhoiodeaaaGreat
open Go Go.Vc Go.RowKit
set_option maxRecDepth 100000

def exF (i j : Nat) : Int := (([15, 10, 0, 0, 7, 15, 17, 0, 0, 4, 34, 0, 0, 0, 0, 15, 17, 0, 0, 0, 34, 0, 0, 0, 0] : List Int)[5 * i + j]?).getD 0
def exU : Su := ⟨5, exF, [], []⟩
def jaF (i j : Nat) : Int := (([32, 0, 0, 0, 0] : List Int)[5 * i + j]?).getD 0
def jaU : Su := ⟨1, jaF, [], []⟩
theorem ex_run : let r := runS (initS exU) 100; r.2 = 0 ∧ r.1.over = true ∧ r.1.code = 0 ∧ r.1.e = 0 ∧ r.1.told = [(7, false)] ∧ r.1.tr.length = 5 := by
  refine ⟨?_, ?_, ?_, ?_, ?_, ?_⟩ <;> kernel_rfl
theorem ja_run : let r := runS (initS jaU) 100; r.2 = 52 ∧ r.1.tr.length = 100 := by
  refine ⟨?_, ?_⟩ <;> kernel_rfl
theorem introw_of {w : World} {b n : Nat} {cs : List Value} {F : Nat → Nat → Int} (h : Has w b cs) (hc : ∀ i, i < n → ∀ j k, insK[j]? = some k → cs[i * 5 + j]? = some (.int k (F i j)) ∧ (Lit.int k (F i j)).wf = true) : IntRow w (some ⟨b, 0, none⟩) n insK F := by
  intro i hi
  refine ⟨_, rfl, fun j k hk => ?_⟩
  obtain ⟨h1, h2⟩ := hc i hi j k hk
  refine ⟨?_, h2⟩
  have := h.cell h1
  show w.cell? (((⟨b, 0, none⟩ : Addr).add (i * 5)).add j) = _
  rw [add_block, add_block, Nat.zero_add]
  exact this
theorem ex_row {w : World} {b : Nat} (h : Has w b [u8v 15, u8v 10, u8v 0, u8v 0, i64v 7, u8v 15, u8v 17, u8v 0, u8v 0, i64v 4, u8v 34, u8v 0, u8v 0, u8v 0, i64v 0, u8v 15, u8v 17, u8v 0, u8v 0, i64v 0, u8v 34, u8v 0, u8v 0, u8v 0, i64v 0]) : IntRow w (some ⟨b, 0, none⟩) 5 insK exF := by
  refine introw_of h fun i hi j k hk => ?_
  have hj : j < 5 := (List.getElem?_eq_some_iff.1 hk).1
  rcases i with _ | _ | _ | _ | _ | i <;> first | omega | (rcases j with _ | _ | _ | _ | _ | j <;> first | omega | (cases hk; exact ⟨rfl, by decide⟩))
theorem ja_row {w : World} {b : Nat} (h : Has w b [u8v 32, u8v 0, u8v 0, u8v 0, i64v 0]) : IntRow w (some ⟨b, 0, none⟩) 1 insK jaF := by
  refine introw_of h fun i hi j k hk => ?_
  have hj : j < 5 := (List.getElem?_eq_some_iff.1 hk).1
  rcases i with _ | i <;> first | omega | (rcases j with _ | _ | _ | _ | _ | j <;> first | omega | (cases hk; exact ⟨rfl, by decide⟩))
theorem ex_ok : SuOk exU := ⟨by decide, by decide, by decide, by decide, fun k c h => by simp [exU] at h, fun k c h => by simp [exU] at h⟩
theorem ja_ok : SuOk jaU := ⟨by decide, by decide, by decide, by decide, fun k c h => by simp [jaU] at h, fun k c h => by simp [jaU] at h⟩
theorem ptr_nen {t : TypeId} (h : Tryz.prog.underlying t = some (.pointer (Tryz.prog.pointee t))) (p : Option Addr) (xo yo : Operand) : EqRuns Tryz.prog .neq t xo yo (.pointer p) (.pointer none) (!p.isNone) := by
  intro w
  rw [eqGuard_at_pointer]
  simp only [Sem.run_bind, Sem.run_pure, Result.andThen_ok]
  exact run_neq_pointer_nil w _ p h
theorem tal_eq (a : Int) (t : Bool) (a' : Int) (t' : Bool) (xo yo : Operand) : EqRuns Tryz.prog .eql 120 xo yo (.agg #[u64v a, .bool t]) (.agg #[u64v a', .bool t']) (a == a' && t == t') := by
  have := (eq_flat (P := Tryz.prog) (vs := [u64v a, .bool t]) (us := [u64v a', .bool t']) xo yo Tryz.underlying120 (by kernel_rfl) (by kernel_rfl) (by kernel_rfl)).1
  simpa [eqL, eq1] using this
theorem init_told (u : Su) : ∀ k, (regI u k).told = [] ∧ (regI u k).tr = [] ∧ (regI u k).over = false ∧ (regI u k).M = memI u u.bys.length
  | 0 => ⟨rfl, rfl, rfl, rfl⟩
  | k + 1 => by
    have ih := init_told u k
    unfold regI
    split
    · rename_i c _
      obtain ⟨h1, h2, h3, -, -, h6, -⟩ := setS_M (regI u k) (c.a % 32) c.v c.t
      rw [h1, h2, h3, h6]; exact ih
    · exact ih
theorem init_keeps (u : Su) : (initS u).told.length ≤ (initS u).tr.length := by
  rw [show (initS u).told = [] from (init_told u _).1]
  exact Nat.zero_le _
theorem runL_keeps : ∀ (k : Nat) {s : Cst}, s.told.length ≤ s.tr.length → (runL s k).1.told.length ≤ (runL s k).1.tr.length
  | 0, s, h => h
  | k + 1, s, h => by
    have h' := (stepS_keeps h).1
    unfold runL
    split
    · exact h'
    · split
      · exact h'
      · exact runL_keeps k h'
theorem runS_keeps {s : Cst} (h : s.told.length ≤ s.tr.length) (f : Int) : (runS s f).1.told.length ≤ (runS s f).1.tr.length := by
  unfold runS
  split
  · exact h
  · split
    · exact h
    · split
      · exact h
      · exact runL_keeps _ h
set_option maxHeartbeats 3200000 in
theorem law05_alive_ok (w : World) : Calls Tryz.prog law05_alive.N #[] w (Gives (.bool true) w) := by
  obtain ⟨x1, x2, x3, x4, x5, x6⟩ := ex_run
  obtain ⟨j1, j2⟩ := ja_run
  refine law05_alive.calls ?_
  unfold law05_alive.vc
  intro w1 e1 w2 e2
  have T := ((Trk.start w).alloc e1).alloc e2
  refine T.setAll 1 rfl (by rfl) (ones rfl) fun w3 T3 => ?_
  refine ⟨_, _, _, _, _, _, _, _, _, ⟨T3.cell 1 rfl rfl, T3.cell 1 rfl rfl, T3.cell 1 rfl rfl, trivial⟩, ?_⟩
  refine (law05_Built_ok ex_ok (A := some ⟨w.heap.size, 0, none⟩) (B := none) (C := none) ⟨ex_row (T3.has 0 rfl), ERow.nil _ _, ERow.nil _ _⟩).mono fun e w4 ⟨x, mb, S, he, l4, c4, n4⟩ => ⟨_, _, he, ?_⟩
  refine ⟨_, ptr_nil (by kernel_rfl) _ _ _, cnd_false rfl ?_⟩
  refine (cpu_Run_ok c4 (init_keeps _) 100).mono fun e w5 ⟨he, b5, S1, g5, c5⟩ => ⟨_, he, ?_⟩
  rw [x1]
  refine cnd_false (by decide) ?_
  refine (cpu_Over_ok c5).mono fun e w6 ⟨he, l6⟩ => ⟨_, _, _, he, ?_⟩
  refine (cpu_Told_ok (c5.later l6)).mono fun e w7 ⟨tb, tc, he, l7, ho7⟩ => ⟨_, _, _, he, fun w8 e8 => ?_⟩
  have l8 : Later w7 w8 := e8 ▸ Later.alloc' w7 _
  have r8 : Has w8 w7.heap.size [u8v 32, u8v 0, u8v 0, u8v 0, i64v 0] := by rw [e8]; exact Has.new _ _ _
  refine (law05_Built_ok ja_ok (A := some ⟨w7.heap.size, 0, none⟩) (B := none) (C := none) ⟨ja_row r8, ERow.nil _ _, ERow.nil _ _⟩).mono fun e w9 ⟨y, mb2, S2, he, l9, c9, n9⟩ => ⟨_, _, he, ?_⟩
  refine ⟨_, ptr_nen (by kernel_rfl) _ _ _, cnd_true rfl ?_⟩
  refine (cpu_Run_ok c9 (init_keeps _) 100).mono fun e w10 ⟨he, b10, S3, g10, c10⟩ => ⟨_, he, ?_⟩
  have l69 : Later w5 w9 := ((l6.trans l7).trans l8).trans l9
  have z7 := Later.size (l6.trans l7)
  have z8 := Later.size l8
  have c10' := (c5.later l69).but b10 fun k h1 h2 => by
    have := (c5.new k h1).2
    have := n9 k h2
    omega
  have ho10 := OwnE.but (T := talT) (OwnS.later ho7 (l8.trans l9)) b10 fun k hk h2 => by
    have := (OwnS.lt ho7 hk).2
    have := n9 k h2
    omega
  rw [x2, x3, x4]
  rw [j1]
  refine cnd_true rfl (cnd_true (by decide) (cnd_true (by decide) ?_))
  have hrow := OwnE.row (T := talT) ho10
  rw [x5] at hrow ⊢
  obtain ⟨ad, rfl, h1, h2⟩ := tal_at hrow (k := 0) rfl
  rw [Nat.zero_mul, addr_add_zero] at h1 h2
  refine cnd_true (by decide) ⟨⟨Int.le_refl 0, by decide⟩, Deref_some rfl ⟨_, _, ⟨h1, h2, trivial⟩, _, tal_eq _ _ _ _ _ _, cnd_true (by decide) ?_⟩⟩
  refine (cpu_Trace_ok c10').mono fun e w11 ⟨b1, b2, he, l11, _⟩ => ⟨_, _, _, he, ?_⟩
  rw [x6]
  refine cnd_true (by decide) (cnd_true (by decide) ?_)
  refine (cpu_Trace_ok (c10.later l11)).mono fun e w12 ⟨b1, b2, he, l12, _⟩ => ⟨_, _, _, he, ?_⟩
  rw [j2]
  refine cnd_true (by decide) ?_
  refine (cpu_Step_ok (c10'.later (l11.trans l12)) (runS_keeps (init_keeps _) _)).mono fun e w13 ⟨he, b13, _⟩ => ⟨_, he, ?_⟩
  have : (stepS (runS (initS exU) 100).1).2 = 50 := by unfold stepS; rw [if_pos x2]
  rw [this]
  have q3 := Later.size T3.to
  have q4 := Later.size l4
  have q5 := b5.size
  have q9 := Later.size l9
  have u5 : Later w w5 := b5.later (T3.to.trans l4) fun k hk => by have := n4 k hk; omega
  have u10 : Later w w10 := b10.later (u5.trans l69) fun k hk => by have := n9 k hk; omega
  exact ⟨rfl, b13.later (u10.trans (l11.trans l12)) fun k hk => by
    rcases g5 k hk with hk | hk
    · have := n4 k hk; omega
    · omega⟩
end Go.Proofs.YtcnnnlhoiodeaaaGreat

/-
The explicit conditions of some functions of the program, printed by this repo's own program over VcTop: what is proved is that each is the condition.
Conditions: none.
-/
namespace Go.Proofs.YtcnnnlhoiodeaaaGreat
open Go Go.Vc Go.RowKit
set_option maxRecDepth 100000

/- function 4: sacristy/sacristylaw05.CpuNil -/
abbrev law05_CpuNil.N : FuncId := 4
def law05_CpuNil.H : Hints := {  }
def law05_CpuNil.vc (i' : Int) (v' : Int) (fuel' : Int) (w : World) (R : Ending → World → Prop) : Prop := Calls Tryz.prog 10 #[.pointer none, .int .i64 i'] w fun e w' =>
∃ (n : Int) (b : Bool) (n_1 : Int),
e = .returned (.tuple #[.int .u64 n, .bool b, .int .i64 n_1]) ∧
Calls Tryz.prog 15 #[.pointer none] w' fun e w' =>
∃ (b_1 : Bool) (n_2 : Int) (n_3 : Int),
e = .returned (.tuple #[.bool b_1, .int .u8 n_2, .int .i64 n_3]) ∧
cnd (n != 0) (R (.returned (.bool false)) w') (cnd b (R (.returned (.bool false)) w') (cnd (n_1 != 1) (R (.returned (.bool false)) w') (cnd b_1 (R (.returned (.bool false)) w') (cnd (n_2 != 0) (R (.returned (.bool false)) w') (cnd (n_3 != 0) (R (.returned (.bool false)) w') (Calls Tryz.prog 16 #[.pointer none, .int .i64 i', .int .u64 v',
Value.bool true] w' fun e w' =>
∃ (n : Int),
e = .returned (.int .i64 n) ∧
cnd (n != 1) (R (.returned (.bool false)) w') (Calls Tryz.prog 9 #[.pointer none] w' fun e w' =>
∃ (n : Int),
e = .returned (.int .i64 n) ∧
cnd (n != 1) (R (.returned (.bool false)) w') (Calls Tryz.prog 17 #[.pointer none, .int .i64 fuel'] w' fun e w' =>
∃ (n : Int),
e = .returned (.int .i64 n) ∧
cnd (n != 1) (R (.returned (.bool false)) w') (Calls Tryz.prog 12 #[.pointer none] w' fun e w' =>
∃ (n : Int),
e = .returned (.int .u64 n) ∧
cnd (n != 0) (R (.returned (.bool false)) w') (Calls Tryz.prog 18 #[.pointer none] w' fun e w' =>
∃ (p : Option Addr) (n : Nat) (c : Nat),
e = .returned (.slice p n c) ∧
Calls Tryz.prog 19 #[.pointer none] w' fun e w' =>
∃ (p : Option Addr) (n_4 : Nat) (c : Nat),
e = .returned (.slice p n_4 c) ∧
cnd (IntKind.i64.wrap ((↑n : Int) + (↑n_4 : Int)) != 0) (R (.returned (.bool false)) w') (Calls Tryz.prog 20 #[.pointer none,
Value.int .u64 v'] w' fun e w' =>
∃ (p : Option Addr) (n : Int),
e = .returned (.tuple #[.pointer p,
Value.int .i64 n]) ∧
Calls Tryz.prog 8 #[.agg #[.slice none 0 0,
Value.slice none 0 0,
Value.slice none 0 0]] w' fun e w' =>
∃ (p_1 : Option Addr) (p_2 : Option Addr),
e = .returned (.tuple #[.pointer p_1,
Value.pointer p_2]) ∧
∃ (b : Bool),
EqRuns Tryz.prog BinOp.neq 32 (Operand.tmp 99) (Operand.const (.pointer none)) (.pointer p) (.pointer none) b ∧
cnd b (R (.returned (.bool false)) w') (cnd (n != 2) (R (.returned (.bool false)) w') (∃ (b : Bool),
EqRuns Tryz.prog BinOp.eql 32 (Operand.tmp 106) (Operand.const (.pointer none)) (.pointer p_1) (.pointer none) b ∧
cnd b (R (.returned (.bool false)) w') (cnd (decide (i' < 0)) (Calls Tryz.prog 16 #[.pointer p_1,
Value.int .i64 i',
Value.int .u64 v',
Value.bool true] w' fun e w' =>
∃ (n : Int),
e = .returned (.int .i64 n) ∧
Calls Tryz.prog 10 #[.pointer p_1,
Value.int .i64 i'] w' fun e w' =>
∃ (n_5 : Int) (b : Bool) (n_6 : Int),
e = .returned (.tuple #[.int .u64 n_5,
Value.bool b,
Value.int .i64 n_6]) ∧
cnd (n == 2) (cnd (n_6 == 2) (cnd (n_5 == 0) (cnd (!b) (Calls Tryz.prog 14 #[] w' fun e w' =>
∃ (b : Bool),
e = .returned (.bool b) ∧
R (.returned (.bool b)) w') (R (.returned (.bool false)) w')) (R (.returned (.bool false)) w')) (R (.returned (.bool false)) w')) (R (.returned (.bool false)) w')) (cnd (decide (i' >
31)) (Calls Tryz.prog 16 #[.pointer p_1,
Value.int .i64 i',
Value.int .u64 v',
Value.bool true] w' fun e w' =>
∃ (n : Int),
e = .returned (.int .i64 n) ∧
Calls Tryz.prog 10 #[.pointer p_1,
Value.int .i64 i'] w' fun e w' =>
∃ (n_5 : Int) (b : Bool) (n_6 : Int),
e = .returned (.tuple #[.int .u64 n_5,
Value.bool b,
Value.int .i64 n_6]) ∧
cnd (n == 2) (cnd (n_6 == 2) (cnd (n_5 == 0) (cnd (!b) (Calls Tryz.prog 14 #[] w' fun e w' =>
∃ (b : Bool),
e = .returned (.bool b) ∧
R (.returned (.bool b)) w') (R (.returned (.bool false)) w')) (R (.returned (.bool false)) w')) (R (.returned (.bool false)) w')) (R (.returned (.bool false)) w')) (Calls Tryz.prog 16 #[.pointer p_1,
Value.int .i64 i',
Value.int .u64 v',
Value.bool true] w' fun e w' =>
∃ (n : Int),
e = .returned (.int .i64 n) ∧
Calls Tryz.prog 10 #[.pointer p_1,
Value.int .i64 i'] w' fun e w' =>
∃ (n_5 : Int) (b : Bool) (n_6 : Int),
e = .returned (.tuple #[.int .u64 n_5,
Value.bool b,
Value.int .i64 n_6]) ∧
cnd (n == 0) (cnd (n_6 == 0) (cnd (i' == 0) (cnd (n_5 == 0) (cnd (!b) (Calls Tryz.prog 14 #[] w' fun e w' =>
∃ (b : Bool),
e = .returned (.bool b) ∧
R (.returned (.bool b)) w') (cnd (decide (i' >
0)) (cnd (n_5 == v') (cnd b (Calls Tryz.prog 14 #[] w' fun e w' =>
∃ (b : Bool),
e = .returned (.bool b) ∧
R (.returned (.bool b)) w') (R (.returned (.bool false)) w')) (R (.returned (.bool false)) w')) (R (.returned (.bool false)) w'))) (cnd (decide (i' >
0)) (cnd (n_5 == v') (cnd b (Calls Tryz.prog 14 #[] w' fun e w' =>
∃ (b : Bool),
e = .returned (.bool b) ∧
R (.returned (.bool b)) w') (R (.returned (.bool false)) w')) (R (.returned (.bool false)) w')) (R (.returned (.bool false)) w'))) (cnd (decide (i' >
0)) (cnd (n_5 == v') (cnd b (Calls Tryz.prog 14 #[] w' fun e w' =>
∃ (b : Bool),
e = .returned (.bool b) ∧
R (.returned (.bool b)) w') (R (.returned (.bool false)) w')) (R (.returned (.bool false)) w')) (R (.returned (.bool false)) w'))) (R (.returned (.bool false)) w')) (R (.returned (.bool false)) w')))))))))))))))))
theorem law05_CpuNil.calls {i' : Int} {v' : Int} {fuel' : Int} {w : World} {R : Ending → World → Prop} (h : law05_CpuNil.vc i' v' fuel' w R) : Calls Tryz.prog 4 ([.int .i64 i', .int .u64 v', .int .i64 fuel'] : List Value).toArray w R := calls_of_eq (show fnV Tryz.prog law05_CpuNil.H 4 [.int .i64 i', .int .u64 v', .int .i64 fuel'] w R = _ from by kernel_rfl) h

end Go.Proofs.YtcnnnlhoiodeaaaGreat

/-
CpuNil.
Conditions: each theorem's hypotheses.
-/
namespace Go.Proofs.YtcnnnlhoiodeaaaGreat
open Go Go.Vc Go.RowKit
set_option maxRecDepth 100000

theorem nil_right (i : Int) (w : World) : Calls Tryz.prog sacristy_cpu_Cpu_right.N #[.pointer none, i64v i] w (Gives (i64v 1) w) := by
  refine sacristy_cpu_Cpu_right.calls ?_
  unfold sacristy_cpu_Cpu_right.vc
  exact ⟨_, ptr_nil (by kernel_rfl) _ _ _, cnd_true rfl ⟨rfl, Later.refl _⟩⟩
theorem nil_Reg (i : Int) (w : World) : Calls Tryz.prog sacristy_cpu_Cpu_Reg.N #[.pointer none, i64v i] w (Gives (.tuple #[u64v 0, .bool false, i64v 1]) w) := by
  refine sacristy_cpu_Cpu_Reg.calls ?_
  unfold sacristy_cpu_Cpu_Reg.vc
  exact (nil_right i w).mono fun e w1 ⟨he, l1⟩ => ⟨_, he, cnd_true (by decide) ⟨rfl, l1⟩⟩
theorem nil_SetReg (i v : Int) (t : Bool) (w : World) : Calls Tryz.prog sacristy_cpu_Cpu_SetReg.N #[.pointer none, i64v i, u64v v, .bool t] w (Gives (i64v 1) w) := by
  refine sacristy_cpu_Cpu_SetReg.calls ?_
  unfold sacristy_cpu_Cpu_SetReg.vc
  exact (nil_right i w).mono fun e w1 ⟨he, l1⟩ => ⟨_, he, cnd_true (by decide) ⟨rfl, l1⟩⟩
theorem nil_Pc (w : World) : Calls Tryz.prog sacristy_cpu_Cpu_Pc.N #[.pointer none] w (Gives (u64v 0) w) := by
  refine sacristy_cpu_Cpu_Pc.calls ?_
  unfold sacristy_cpu_Cpu_Pc.vc
  exact ⟨_, ptr_nil (by kernel_rfl) _ _ _, cnd_true rfl ⟨rfl, Later.refl _⟩⟩
theorem nil_Over (w : World) : Calls Tryz.prog sacristy_cpu_Cpu_Over.N #[.pointer none] w (Gives (.tuple #[.bool false, u8v 0, i64v 0]) w) := by
  refine sacristy_cpu_Cpu_Over.calls ?_
  unfold sacristy_cpu_Cpu_Over.vc
  exact ⟨_, ptr_nil (by kernel_rfl) _ _ _, cnd_true rfl ⟨rfl, Later.refl _⟩⟩
theorem nil_Run (f : Int) (w : World) : Calls Tryz.prog sacristy_cpu_Cpu_Run.N #[.pointer none, i64v f] w (Gives (i64v 1) w) := by
  refine sacristy_cpu_Cpu_Run.calls ?_
  unfold sacristy_cpu_Cpu_Run.vc
  exact ⟨_, ptr_nil (by kernel_rfl) _ _ _, cnd_true rfl ⟨rfl, Later.refl _⟩⟩
theorem nil_New (v : Int) (w : World) : Calls Tryz.prog cpu_New.N #[.pointer none, u64v v] w (Gives (.tuple #[.pointer none, i64v 2]) w) := by
  refine cpu_New.calls ?_
  unfold cpu_New.vc
  exact ⟨_, ptr_nil (by kernel_rfl) _ _ _, cnd_true rfl ⟨rfl, Later.refl _⟩⟩
theorem nil_Step (w : World) : Calls Tryz.prog sacristy_cpu_Cpu_Step.N #[.pointer none] w (Gives (i64v 1) w) := by
  refine sacristy_cpu_Cpu_Step.calls ?_
  unfold sacristy_cpu_Cpu_Step.vc
  intro w1 e1 w2 e2
  have T := ((Trk.start w).alloc e1).alloc e2
  refine ⟨_, T.cell 0 rfl rfl, _, ptr_nil (by kernel_rfl) _ _ _, cnd_true rfl ?_⟩
  exact T.set1E 1 rfl (by decide) fun w3 e3 T3 => ⟨_, T3.cell 1 rfl rfl, rfl, T3.to⟩
set_option maxHeartbeats 3200000 in
theorem law05_CpuNil_ok {i v fuel : Int} (hv : U64 v) (w : World) : Calls Tryz.prog law05_CpuNil.N #[i64v i, u64v v, i64v fuel] w (Gives (.bool true) w) := by
  refine law05_CpuNil.calls ?_
  unfold law05_CpuNil.vc
  refine (nil_Reg i w).mono fun e w1 ⟨he, l1⟩ => ⟨_, _, _, he, ?_⟩
  refine (nil_Over w1).mono fun e w2 ⟨he, l2⟩ => ⟨_, _, _, he, ?_⟩
  refine cnd_false (by decide) (cnd_false rfl (cnd_false (by decide) (cnd_false rfl (cnd_false (by decide) (cnd_false (by decide) ?_)))))
  refine (nil_SetReg i v true w2).mono fun e w3 ⟨he, l3⟩ => ⟨_, he, cnd_false (by decide) ?_⟩
  refine (nil_Step w3).mono fun e w4 ⟨he, l4⟩ => ⟨_, he, cnd_false (by decide) ?_⟩
  refine (nil_Run fuel w4).mono fun e w5 ⟨he, l5⟩ => ⟨_, he, cnd_false (by decide) ?_⟩
  refine (nil_Pc w5).mono fun e w6 ⟨he, l6⟩ => ⟨_, he, cnd_false (by decide) ?_⟩
  refine (cpu_ToldNil_ok w6).mono fun e w7 ⟨he, l7⟩ => ⟨_, _, _, he, ?_⟩
  refine (cpu_TraceNil_ok w7).mono fun e w8 ⟨he, l8⟩ => ⟨_, _, _, he, cnd_false (by decide) ?_⟩
  refine (nil_New v w8).mono fun e w9 ⟨he, l9⟩ => ⟨_, _, he, ?_⟩
  have l09 : Later w w9 := l1.trans (l2.trans (l3.trans (l4.trans (l5.trans (l6.trans (l7.trans (l8.trans l9)))))))
  have ok0 : SuOk ⟨0, fun _ _ => 0, [], []⟩ := ⟨by decide, fun i hi => absurd hi (Nat.not_lt_zero _), by decide, by decide, fun k c h => by simp at h, fun k c h => by simp at h⟩
  refine (law05_Built_ok ok0 (A := none) (B := none) (C := none) ⟨fun i hi => absurd hi (Nat.not_lt_zero _), ERow.nil _ _, ERow.nil _ _⟩).mono fun e w10 ⟨x, mb, S, he, l10, c10, n10⟩ => ⟨_, _, he, ?_⟩
  refine ⟨_, ptr_nen (by kernel_rfl) _ _ _, cnd_false rfl (cnd_false (by decide) ⟨_, ptr_nil (by kernel_rfl) _ _ _, cnd_false rfl ?_⟩)⟩
  have s10 : Later w w10 := l09.trans l10
  have fin : ∀ w' : World, Later w w' → Calls Tryz.prog law05_alive.N #[] w' fun e w' => ∃ b, e = .returned (.bool b) ∧ Gives (.bool true) w (.returned (.bool b)) w' := fun w' l => (law05_alive_ok w').mono fun e w'' ⟨he, l'⟩ => ⟨_, he, rfl, l.trans l'⟩
  have q9 := Later.size l09
  have tail : ∀ {w' : World}, But (fun k => k = x) w10 w' → Later w w' := fun hb => hb.later s10 fun k hk => by
    have hk : k = x := hk
    have := n10 x c10.scb; omega
  have h0 : initS ⟨0, fun _ _ => 0, [], []⟩ = st0 (memI ⟨0, fun _ _ => 0, [], []⟩ 0) := rfl
  refine cnd_of (fun hi => ?_) fun hi => cnd_of (fun hj => ?_) fun hj => ?_
  · have hi := of_decide_eq_true hi
    refine (cpu_SetReg_ok c10 i hv).mono fun e w11 h => ?_
    rcases h with ⟨h1, _⟩ | ⟨_, he, rfl⟩
    · omega
    refine ⟨_, he, (cpu_Reg_ok c10 i).mono fun e w12 ⟨he, l12⟩ => ?_⟩
    unfold regV5 at he
    rw [if_neg (by omega)] at he
    exact ⟨_, _, _, he, cnd_true (by decide) (cnd_true (by decide) (cnd_true (by decide) (cnd_true rfl (fin _ (s10.trans l12)))))⟩
  · have hj := of_decide_eq_true hj
    refine (cpu_SetReg_ok c10 i hv).mono fun e w11 h => ?_
    rcases h with ⟨h1, h2, _⟩ | ⟨_, he, rfl⟩
    · omega
    refine ⟨_, he, (cpu_Reg_ok c10 i).mono fun e w12 ⟨he, l12⟩ => ?_⟩
    unfold regV5 at he
    rw [if_neg (by omega)] at he
    exact ⟨_, _, _, he, cnd_true (by decide) (cnd_true (by decide) (cnd_true (by decide) (cnd_true rfl (fin _ (s10.trans l12)))))⟩
  · have hi := of_decide_eq_false hi
    have hj := of_decide_eq_false hj
    refine (cpu_SetReg_ok c10 i (t := true) hv).mono fun e w11 h => ?_
    rcases h with ⟨h1, h2, he, hb, hc⟩ | ⟨hno, _⟩
    rotate_left
    · exact absurd ⟨by omega, by omega⟩ hno
    have l11 := tail hb
    refine ⟨_, he, (cpu_Reg_ok hc i).mono fun e w12 ⟨he, l12⟩ => ?_⟩
    unfold regV5 at he
    rw [if_pos (by omega), h0] at he
    by_cases h3 : i > 0
    · unfold setS at he
      rw [if_pos h3] at he
      simp only [upd_same] at he
      refine ⟨_, _, _, he, cnd_true (by decide) (cnd_true (by decide) (cnd_false (by simpa using (by omega : ¬ i = 0)) (cnd_true (decide_eq_true h3) (cnd_true (by simp) (cnd_true rfl (fin _ (l11.trans l12)))))))⟩
    · have h30 : i = 0 := by omega
      subst h30
      exact ⟨_, _, _, he, cnd_true (by decide) (cnd_true (by decide) (cnd_true (by decide) (cnd_true (by rfl) (cnd_true (by rfl) (fin _ (l11.trans l12))))))⟩
end Go.Proofs.YtcnnnlhoiodeaaaGreat
