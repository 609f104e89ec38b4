/-
What the chapter's laws come to, once called: true, and nothing old is turned. First part: the examples, the words, the fits.
Conditions: each number is of its kind.
-/
import Derived.Test.YtgdbgbphbkefcaaVlaw02
import Derived.Test.YtgdbgbphbkefcaaInsnA
namespace Go.Proofs.Ytgdbgbphbkefcaa
open Go Go.Vc Go.RowKit
set_option linter.unusedVariables false
set_option linter.unusedSimpArgs false
set_option maxRecDepth 100000

def encW (r : Option Int) : Int := match r with | some w => w | none => 0
def encE (r : Option Int) : Int := match r with | some _ => 0 | none => 2
theorem encR_is (r : Option Int) : encR r = pairv (u32v (encW r)) (i64v (encE r)) := by cases r <;> rfl
theorem insn_enc (o d a b v : Int) (ho : U8 o) (hd : U8 d) (ha : U8 a) (hb : U8 b) (hv : I64 v) (w : World) :
    Calls Try.prog insn_Encode.N #[insv o d a b v] w (Gives (pairv (u32v (encW (encv o d a b v))) (i64v (encE (encv o d a b v)))) w) := by
  rw [← encR_is]
  exact insn_Encode_ok o d a b v ho hd ha hb hv w
def aliveF (i j : Nat) : Int := if i = 0 then (if j = 0 then 34 else 0) else (if j = 0 then 32 else if j = 4 then 8 else 0)
theorem alive_row {w : World} {b : Nat} (h : Has w b [u8v 34, u8v 0, u8v 0, u8v 0, i64v 0, u8v 32, u8v 0, u8v 0, u8v 0, i64v 8]) : IntRow w (some ⟨b, 0, none⟩) 2 insK aliveF := by
  intro i hi
  refine ⟨_, rfl, fun j k hj => ?_⟩
  have hj5 : j < 5 := (List.getElem?_eq_some_iff.1 hj).1
  rw [add_block, add_block]
  have : i = 0 ∨ i = 1 := by omega
  have : j = 0 ∨ j = 1 ∨ j = 2 ∨ j = 3 ∨ j = 4 := by omega
  rcases ‹i = 0 ∨ i = 1› with rfl | rfl <;> rcases ‹j = 0 ∨ j = 1 ∨ j = 2 ∨ j = 3 ∨ j = 4› with rfl | rfl | rfl | rfl | rfl
  all_goals obtain rfl := Option.some.inj hj
  all_goals exact ⟨h.cell rfl, by decide⟩
theorem law02_alive_ok (w : World) : Calls Try.prog law02_alive.N #[] w (Gives (.bool true) w) := by
  refine law02_alive.calls ?_
  unfold law02_alive.vc
  have u : ∀ k : Int, 0 ≤ k → k < 256 → U8 k := fun k h1 h2 => ⟨h1, h2⟩
  have A1 := fun w => insn_enc 15 1 0 0 (-1) (by decide) (by decide) (by decide) (by decide) (by decide) w
  have A2 := fun w => insn_enc 22 5 5 0 63 (by decide) (by decide) (by decide) (by decide) (by decide) w
  have A3 := fun w => insn_enc 29 0 5 0 (-4) (by decide) (by decide) (by decide) (by decide) (by decide) w
  have A4 := fun w => insn_enc 15 0 0 1 0 (by decide) (by decide) (by decide) (by decide) (by decide) w
  rw [show encv 15 1 0 0 (-1) = some 4293918867 by kernel_rfl] at A1
  rw [show encv 22 5 5 0 63 = some 1139987091 by kernel_rfl] at A2
  rw [show encv 29 0 5 0 (-4) = some 4261584611 by kernel_rfl] at A3
  rw [show encv 15 0 0 1 0 = none by kernel_rfl] at A4
  refine (A1 w).mono fun e w1 ⟨he, l1⟩ => ⟨_, _, he, ?_⟩
  refine (A2 w1).mono fun e w2 ⟨he, l2⟩ => ⟨_, _, he, ?_⟩
  refine (A3 w2).mono fun e w3 ⟨he, l3⟩ => ⟨_, _, he, fun w4 e4 => ?_⟩
  have L4 := (Trk.here (l1.trans (l2.trans l3))).alloc e4
  refine (insn_All_ok _ 2 2 aliveF (by omega) w4 (alive_row (L4.has 0 rfl))).mono fun e w5 ⟨he, l5⟩ => ?_
  rw [show allR (encF aliveF) 2 = pairv (.string ⟨#[115, 0, 0, 0, 111, 0, 128, 0]⟩) (i64v 0) by kernel_rfl] at he
  refine ⟨_, _, he, (A4 w5).mono fun e w6 ⟨he, l6⟩ => ⟨_, _, he, ?_⟩⟩
  exact cnd_true rfl (cnd_true rfl (cnd_true rfl (cnd_true rfl (cnd_true rfl (cnd_true rfl (cnd_true (beq_self_eq_true _) (cnd_true rfl ⟨rfl, (L4.later (l5.trans l6)).to⟩)))))))
theorem law02_done (w w' : World) (hl : Later w w') : Calls Try.prog law02_alive.N #[] w' (fun e w'' => ∃ b : Bool, e = .returned (.bool b) ∧ Gives (.bool true) w (.returned (.bool b)) w'') :=
  (law02_alive_ok _).mono fun e8 w8 ⟨he, h8⟩ => ⟨_, he, rfl, hl.trans h8⟩
theorem law02_InsnWords_ok (o d a b v : Int) (ho : U8 o) (hd : U8 d) (ha : U8 a) (hb : U8 b) (hv : I64 v) (w : World) :
    Calls Try.prog law02_InsnWords.N #[insv o d a b v] w (Gives (.bool true) w) := by
  refine law02_InsnWords.calls ?_
  unfold law02_InsnWords.vc
  intro w1 e1
  have L := (Trk.start w).alloc e1
  refine ⟨_, _, _, _, _, ⟨L.cell 0 rfl rfl, L.cell 0 rfl rfl, L.cell 0 rfl rfl, L.cell 0 rfl rfl, L.cell 0 rfl rfl, trivial⟩, (insn_enc o d a b v ho hd ha hb hv _).mono fun e w2 ⟨he, l2⟩ => ⟨_, _, he, ?_⟩⟩
  have L2 := L.later l2
  have R := fun w => ref02_Encode_ok o d a b v ho hd ha hb hv w
  rw [encR_is] at R
  refine ⟨_, _, _, _, _, ⟨L2.cell 0 rfl rfl, L2.cell 0 rfl rfl, L2.cell 0 rfl rfl, L2.cell 0 rfl rfl, L2.cell 0 rfl rfl, trivial⟩, (R _).mono fun e w3 ⟨he, l3⟩ => ⟨_, _, he, ?_⟩⟩
  exact cnd_true (beq_self_eq_true _) (cnd_true (beq_self_eq_true _) (law02_done w _ (L2.later l3).to))
theorem step_if {b p q : Bool} {X F : Prop} (h : p = (b && q)) (hX : X) : cnd b (cnd (p == q) X F) (cnd (p == false) X F) := by
  subst h
  cases b
  · exact cnd_false rfl (cnd_true rfl hX)
  · refine cnd_true rfl (cnd_true ?_ hX)
    rw [Bool.true_and]
    exact beq_self_eq_true _
theorem encE_ok (r : Option Int) : (encE r == 0) = r.isSome := by cases r <;> rfl
theorem enc_some (o d a b v : Int) (x : Int × Int × Int × FD) (h : rowOf o = some x) : (encv o d a b v).isSome = mayF x.2.2.2 d a b v := by
  unfold encv
  rw [h]
  simp only
  split
  · rename_i hm; rw [hm]; rfl
  · rename_i hm
    have : mayF x.2.2.2 d a b v = false := by simpa using hm
    rw [this]; rfl
theorem reg_may (D : FD) (d a b v : Int) (hd : d ≤ 31) (ha : a ≤ 31) (hb : b ≤ 31) (h1 : D.rd = true ∨ d = 0) (h2 : D.rs1 = true ∨ a = 0) (h3 : D.rs2 = true ∨ b = 0) : mayF D d a b v = fitsF D.nb D.step v := by
  unfold mayF
  have e1 : (d != 0 && !D.rd) = false := by rcases h1 with h | h <;> simp [h]
  have e2 : (a != 0 && !D.rs1) = false := by rcases h2 with h | h <;> simp [h]
  have e3 : (b != 0 && !D.rs2) = false := by rcases h3 with h | h <;> simp [h]
  rw [e1, e2, e3, decide_eq_false (show ¬ d > 31 by omega), decide_eq_false (show ¬ a > 31 by omega), decide_eq_false (show ¬ b > 31 by omega)]
  rfl
set_option maxHeartbeats 1600000 in
theorem law02_InsnFits_ok (rd rs v : Int) (hd : U8 rd) (hs : U8 rs) (hv : I64 v) (w : World) :
    Calls Try.prog law02_InsnFits.N #[u8v rd, u8v rs, i64v v] w (Gives (.bool true) w) := by
  refine law02_InsnFits.calls ?_
  unfold law02_InsnFits.vc
  rw [tmod_nn 32 hd.1, tmod_nn 32 hs.1]
  have ha : 0 ≤ rd % 32 ∧ rd % 32 ≤ 31 := by omega
  have hb : 0 ≤ rs % 32 ∧ rs % 32 ≤ 31 := by omega
  generalize rd % 32 = a at *
  generalize rs % 32 = b at *
  have ua : U8 a := ⟨ha.1, by omega⟩
  have ub : U8 b := ⟨hb.1, by omega⟩
  have u0 : U8 0 := by decide
  have p1 : (encE (encv 15 a b 0 v) == 0) = fitsv v 12 := by
    rw [encE_ok, enc_some 15 a b 0 v (19, 0, 0, numberD) rfl, reg_may _ _ _ _ _ ha.2 hb.2 (by decide) (.inl rfl) (.inl rfl) (.inr rfl)]
    show fitsF 12 0 v = _
    unfold fitsF
    rw [if_neg (by decide), if_neg (by decide)]
    show (fitsv v 12 && (true || _)) = _
    rw [Bool.true_or, Bool.and_true]
  have p2 : (encE (encv 23 a 0 0 v) == 0) = (fitsv v 32 && (v.tmod 4096 == 0)) := by
    rw [encE_ok, enc_some 23 a 0 0 v (55, 0, 0, largeD) rfl, reg_may _ _ _ _ _ ha.2 (by decide) (by decide) (.inl rfl) (.inr rfl) (.inr rfl)]
    show fitsF 32 4096 v = _
    unfold fitsF
    rw [if_neg (by decide), if_neg (by decide)]
    show (fitsv v 32 && (false || _)) = _
    rw [Bool.false_or]
  have p3 : (encE (encv 28 0 a b v) == 0) = (fitsv v 13 && (v.tmod 2 == 0)) := by
    rw [encE_ok, enc_some 28 0 a b v (99, 0, 0, branchD) rfl, reg_may _ _ _ _ _ (by decide) ha.2 hb.2 (.inr rfl) (.inl rfl) (.inl rfl)]
    show fitsF 13 2 v = _
    unfold fitsF
    rw [if_neg (by decide), if_neg (by decide)]
    show (fitsv v 13 && (false || _)) = _
    rw [Bool.false_or]
  have p4 : (encE (encv 32 a 0 0 v) == 0) = (fitsv v 21 && (v.tmod 2 == 0)) := by
    rw [encE_ok, enc_some 32 a 0 0 v (111, 0, 0, jumpD) rfl, reg_may _ _ _ _ _ ha.2 (by decide) (by decide) (.inl rfl) (.inr rfl) (.inr rfl)]
    show fitsF 21 2 v = _
    unfold fitsF
    rw [if_neg (by decide), if_neg (by decide)]
    show (fitsv v 21 && (false || _)) = _
    rw [Bool.false_or]
  have p5 : (encE (encv 20 a b 0 v) == 0) = (decide (v ≥ 0) && decide (v < 64)) := by
    rw [encE_ok, enc_some 20 a b 0 v (19, 1, 0, shiftD) rfl, reg_may _ _ _ _ _ ha.2 hb.2 (by decide) (.inl rfl) (.inl rfl) (.inr rfl)]
    rfl
  have F := fun (k : Int) (h1 : -9223372036854775808 ≤ k) (h2 : k < 9223372036854775808) (w : World) => word_Fits_ok v k hv.1 hv.2 h1 h2 w
  refine (insn_enc 15 a b 0 v (by decide) ua ub u0 hv w).mono fun e w1 ⟨he, l1⟩ => ⟨_, _, he, ?_⟩
  refine (insn_enc 23 a 0 0 v (by decide) ua u0 u0 hv w1).mono fun e w2 ⟨he, l2⟩ => ⟨_, _, he, ?_⟩
  refine (insn_enc 28 0 a b v (by decide) u0 ua ub hv w2).mono fun e w3 ⟨he, l3⟩ => ⟨_, _, he, ?_⟩
  refine (insn_enc 32 a 0 0 v (by decide) ua u0 u0 hv w3).mono fun e w4 ⟨he, l4⟩ => ⟨_, _, he, ?_⟩
  refine (insn_enc 20 a b 0 v (by decide) ua ub u0 hv w4).mono fun e w5 ⟨he, l5⟩ => ⟨_, _, he, ?_⟩
  refine (F 12 (by decide) (by decide) w5).mono fun e w6 ⟨he, l6⟩ => ⟨_, he, cnd_true (by rw [p1]; exact beq_self_eq_true _) ?_⟩
  refine (F 32 (by decide) (by decide) w6).mono fun e w7 ⟨he, l7⟩ => ⟨_, he, step_if p2 ?_⟩
  refine (F 13 (by decide) (by decide) w7).mono fun e w8 ⟨he, l8⟩ => ⟨_, he, step_if p3 ?_⟩
  refine (F 21 (by decide) (by decide) w8).mono fun e w9 ⟨he, l9⟩ => ⟨_, he, step_if p4 (step_if p5 ?_)⟩
  exact law02_done w _ (l1.trans (l2.trans (l3.trans (l4.trans (l5.trans (l6.trans (l7.trans (l8.trans l9))))))))
end Go.Proofs.Ytgdbgbphbkefcaa
