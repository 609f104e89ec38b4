/-
Texts of this claim, merged: Law5F, InsnJ, Law5O, Vlaw05o, Law5Q, Law5S, Law5R.
Conditions: each theorem's own.
-/
import Derived.Test.YtcnnnlhoiodeaaaGreatPkCpuOpsE
import Derived.Test.YtcnnnlhoiodeaaaGreatProg
set_option linter.unusedSimpArgs false
set_option linter.unnecessarySimpa false
set_option linter.unusedVariables false
set_option linter.unusedSectionVars false

/-
The examples of chapter 05.
Conditions: each theorem's hypotheses.
-/
namespace Go.Proofs.YtcnnnlhoiodeaaaGreat
open Go Go.Vc Go.RowKit
set_option maxRecDepth 100000

def exF (i j : Nat) : Int := (([15, 10, 0, 0, 7, 15, 17, 0, 0, 4, 34, 0, 0, 0, 0, 15, 17, 0, 0, 0, 34, 0, 0, 0, 0] : List Int)[5 * i + j]?).getD 0
def exU : Su := ⟨5, exF, [], []⟩
def jaF (i j : Nat) : Int := (([32, 0, 0, 0, 0] : List Int)[5 * i + j]?).getD 0
def jaU : Su := ⟨1, jaF, [], []⟩
theorem ex_run : let r := runS (initS exU) 100; r.2 = 0 ∧ r.1.over = true ∧ r.1.code = 0 ∧ r.1.e = 0 ∧ r.1.told = [(7, false)] ∧ r.1.tr.length = 5 := by
  refine ⟨?_, ?_, ?_, ?_, ?_, ?_⟩ <;> kernel_rfl
theorem ja_run : let r := runS (initS jaU) 100; r.2 = 52 ∧ r.1.tr.length = 100 := by
  refine ⟨?_, ?_⟩ <;> kernel_rfl
theorem introw_of {w : World} {b n : Nat} {cs : List Value} {F : Nat → Nat → Int} (h : Has w b cs) (hc : ∀ i, i < n → ∀ j k, insK[j]? = some k → cs[i * 5 + j]? = some (.int k (F i j)) ∧ (Lit.int k (F i j)).wf = true) : IntRow w (some ⟨b, 0, none⟩) n insK F := by
  intro i hi
  refine ⟨_, rfl, fun j k hk => ?_⟩
  obtain ⟨h1, h2⟩ := hc i hi j k hk
  refine ⟨?_, h2⟩
  have := h.cell h1
  show w.cell? (((⟨b, 0, none⟩ : Addr).add (i * 5)).add j) = _
  rw [add_block, add_block, Nat.zero_add]
  exact this
theorem ex_row {w : World} {b : Nat} (h : Has w b [u8v 15, u8v 10, u8v 0, u8v 0, i64v 7, u8v 15, u8v 17, u8v 0, u8v 0, i64v 4, u8v 34, u8v 0, u8v 0, u8v 0, i64v 0, u8v 15, u8v 17, u8v 0, u8v 0, i64v 0, u8v 34, u8v 0, u8v 0, u8v 0, i64v 0]) : IntRow w (some ⟨b, 0, none⟩) 5 insK exF := by
  refine introw_of h fun i hi j k hk => ?_
  have hj : j < 5 := (List.getElem?_eq_some_iff.1 hk).1
  rcases i with _ | _ | _ | _ | _ | i <;> first | omega | (rcases j with _ | _ | _ | _ | _ | j <;> first | omega | (cases hk; exact ⟨rfl, by decide⟩))
theorem ja_row {w : World} {b : Nat} (h : Has w b [u8v 32, u8v 0, u8v 0, u8v 0, i64v 0]) : IntRow w (some ⟨b, 0, none⟩) 1 insK jaF := by
  refine introw_of h fun i hi j k hk => ?_
  have hj : j < 5 := (List.getElem?_eq_some_iff.1 hk).1
  rcases i with _ | i <;> first | omega | (rcases j with _ | _ | _ | _ | _ | j <;> first | omega | (cases hk; exact ⟨rfl, by decide⟩))
theorem ex_ok : SuOk exU := ⟨by decide, by decide, by decide, by decide, fun k c h => by simp [exU] at h, fun k c h => by simp [exU] at h⟩
theorem ja_ok : SuOk jaU := ⟨by decide, by decide, by decide, by decide, fun k c h => by simp [jaU] at h, fun k c h => by simp [jaU] at h⟩
theorem ptr_nen {t : TypeId} (h : Tryz.prog.underlying t = some (.pointer (Tryz.prog.pointee t))) (p : Option Addr) (xo yo : Operand) : EqRuns Tryz.prog .neq t xo yo (.pointer p) (.pointer none) (!p.isNone) := by
  intro w
  rw [eqGuard_at_pointer]
  simp only [Sem.run_bind, Sem.run_pure, Result.andThen_ok]
  exact run_neq_pointer_nil w _ p h
theorem tal_eq (a : Int) (t : Bool) (a' : Int) (t' : Bool) (xo yo : Operand) : EqRuns Tryz.prog .eql 120 xo yo (.agg #[u64v a, .bool t]) (.agg #[u64v a', .bool t']) (a == a' && t == t') := by
  have := (eq_flat (P := Tryz.prog) (vs := [u64v a, .bool t]) (us := [u64v a', .bool t']) xo yo Tryz.underlying120 (by kernel_rfl) (by kernel_rfl) (by kernel_rfl)).1
  simpa [eqL, eq1] using this
theorem init_told (u : Su) : ∀ k, (regI u k).told = [] ∧ (regI u k).tr = [] ∧ (regI u k).over = false ∧ (regI u k).M = memI u u.bys.length
  | 0 => ⟨rfl, rfl, rfl, rfl⟩
  | k + 1 => by
    have ih := init_told u k
    unfold regI
    split
    · rename_i c _
      obtain ⟨h1, h2, h3, -, -, h6, -⟩ := setS_M (regI u k) (c.a % 32) c.v c.t
      rw [h1, h2, h3, h6]; exact ih
    · exact ih
theorem init_keeps (u : Su) : (initS u).told.length ≤ (initS u).tr.length := by
  rw [show (initS u).told = [] from (init_told u _).1]
  exact Nat.zero_le _
theorem runL_keeps : ∀ (k : Nat) {s : Cst}, s.told.length ≤ s.tr.length → (runL s k).1.told.length ≤ (runL s k).1.tr.length
  | 0, s, h => h
  | k + 1, s, h => by
    have h' := (stepS_keeps h).1
    unfold runL
    split
    · exact h'
    · split
      · exact h'
      · exact runL_keeps k h'
theorem runS_keeps {s : Cst} (h : s.told.length ≤ s.tr.length) (f : Int) : (runS s f).1.told.length ≤ (runS s f).1.tr.length := by
  unfold runS
  split
  · exact h
  · split
    · exact h
    · split
      · exact h
      · exact runL_keeps _ h
set_option maxHeartbeats 3200000 in
theorem law05_alive_ok (w : World) : Calls Tryz.prog law05_alive.N #[] w (Gives (.bool true) w) := by
  obtain ⟨x1, x2, x3, x4, x5, x6⟩ := ex_run
  obtain ⟨j1, j2⟩ := ja_run
  refine law05_alive.calls ?_
  unfold law05_alive.vc
  intro w1 e1 w2 e2
  have T := ((Trk.start w).alloc e1).alloc e2
  refine T.setAll 1 rfl (by rfl) (ones rfl) fun w3 T3 => ?_
  refine ⟨_, _, _, _, _, _, _, _, _, ⟨T3.cell 1 rfl rfl, T3.cell 1 rfl rfl, T3.cell 1 rfl rfl, trivial⟩, ?_⟩
  refine (law05_Built_ok ex_ok (A := some ⟨w.heap.size, 0, none⟩) (B := none) (C := none) ⟨ex_row (T3.has 0 rfl), ERow.nil _ _, ERow.nil _ _⟩).mono fun e w4 ⟨x, mb, S, he, l4, c4, n4⟩ => ⟨_, _, he, ?_⟩
  refine ⟨_, ptr_nil (by kernel_rfl) _ _ _, cnd_false rfl ?_⟩
  refine (cpu_Run_ok c4 (init_keeps _) 100).mono fun e w5 ⟨he, b5, S1, g5, c5⟩ => ⟨_, he, ?_⟩
  rw [x1]
  refine cnd_false (by decide) ?_
  refine (cpu_Over_ok c5).mono fun e w6 ⟨he, l6⟩ => ⟨_, _, _, he, ?_⟩
  refine (cpu_Told_ok (c5.later l6)).mono fun e w7 ⟨tb, tc, he, l7, ho7⟩ => ⟨_, _, _, he, fun w8 e8 => ?_⟩
  have l8 : Later w7 w8 := e8 ▸ Later.alloc' w7 _
  have r8 : Has w8 w7.heap.size [u8v 32, u8v 0, u8v 0, u8v 0, i64v 0] := by rw [e8]; exact Has.new _ _ _
  refine (law05_Built_ok ja_ok (A := some ⟨w7.heap.size, 0, none⟩) (B := none) (C := none) ⟨ja_row r8, ERow.nil _ _, ERow.nil _ _⟩).mono fun e w9 ⟨y, mb2, S2, he, l9, c9, n9⟩ => ⟨_, _, he, ?_⟩
  refine ⟨_, ptr_nen (by kernel_rfl) _ _ _, cnd_true rfl ?_⟩
  refine (cpu_Run_ok c9 (init_keeps _) 100).mono fun e w10 ⟨he, b10, S3, g10, c10⟩ => ⟨_, he, ?_⟩
  have l69 : Later w5 w9 := ((l6.trans l7).trans l8).trans l9
  have z7 := Later.size (l6.trans l7)
  have z8 := Later.size l8
  have c10' := (c5.later l69).but b10 fun k h1 h2 => by
    have := (c5.new k h1).2
    have := n9 k h2
    omega
  have ho10 := OwnE.but (T := talT) (OwnS.later ho7 (l8.trans l9)) b10 fun k hk h2 => by
    have := (OwnS.lt ho7 hk).2
    have := n9 k h2
    omega
  rw [x2, x3, x4]
  rw [j1]
  refine cnd_true rfl (cnd_true (by decide) (cnd_true (by decide) ?_))
  have hrow := OwnE.row (T := talT) ho10
  rw [x5] at hrow ⊢
  obtain ⟨ad, rfl, h1, h2⟩ := tal_at hrow (k := 0) rfl
  rw [Nat.zero_mul, addr_add_zero] at h1 h2
  refine cnd_true (by decide) ⟨⟨Int.le_refl 0, by decide⟩, Deref_some rfl ⟨_, _, ⟨h1, h2, trivial⟩, _, tal_eq _ _ _ _ _ _, cnd_true (by decide) ?_⟩⟩
  refine (cpu_Trace_ok c10').mono fun e w11 ⟨b1, b2, he, l11, _⟩ => ⟨_, _, _, he, ?_⟩
  rw [x6]
  refine cnd_true (by decide) (cnd_true (by decide) ?_)
  refine (cpu_Trace_ok (c10.later l11)).mono fun e w12 ⟨b1, b2, he, l12, _⟩ => ⟨_, _, _, he, ?_⟩
  rw [j2]
  refine cnd_true (by decide) ?_
  refine (cpu_Step_ok (c10'.later (l11.trans l12)) (runS_keeps (init_keeps _) _)).mono fun e w13 ⟨he, b13, _⟩ => ⟨_, he, ?_⟩
  have : (stepS (runS (initS exU) 100).1).2 = 50 := by unfold stepS; rw [if_pos x2]
  rw [this]
  have q3 := Later.size T3.to
  have q4 := Later.size l4
  have q5 := b5.size
  have q9 := Later.size l9
  have u5 : Later w w5 := b5.later (T3.to.trans l4) fun k hk => by have := n4 k hk; omega
  have u10 : Later w w10 := b10.later (u5.trans l69) fun k hk => by have := n9 k hk; omega
  exact ⟨rfl, b13.later (u10.trans (l11.trans l12)) fun k hk => by
    rcases g5 k hk with hk | hk
    · have := n4 k hk; omega
    · omega⟩
end Go.Proofs.YtcnnnlhoiodeaaaGreat

/-
The plain law of words: unlike instructions have unlike words.
Conditions: each number is of its kind.
-/
namespace Go.Proofs.YtcnnnlhoiodeaaaGreat
open Go Go.Vc Go.RowKit
set_option maxRecDepth 100000

theorem fits_range (v k m : Int) (hm : (2 : Int) ^ (k.toNat - 1) = m) (h : fitsv v k = true) : -m ≤ v ∧ v < m := by
  unfold fitsv at h
  have h := of_decide_eq_true h
  rw [hm] at h
  exact ⟨h.2.2.1, h.2.2.2⟩
/-- A number with its sign, out of so many bits' worth. -/
def sx (M x : Int) : Int := if 2 * x < M then x else x - M
theorem sx_12 {v x : Int} (h : v % 4096 = x) (h1 : -2048 ≤ v) (h2 : v < 2048) : v = sx 4096 x := by unfold sx; split <;> omega
theorem sx_13 {v x : Int} (h : v % 8192 = x) (h1 : -4096 ≤ v) (h2 : v < 4096) : v = sx 8192 x := by unfold sx; split <;> omega
theorem sx_21 {v x : Int} (h : v % 2097152 = x) (h1 : -1048576 ≤ v) (h2 : v < 1048576) : v = sx 2097152 x := by unfold sx; split <;> omega
theorem sx_32 {v x : Int} (h : v % 4294967296 = x) (h1 : -2147483648 ≤ v) (h2 : v < 2147483648) : v = sx 4294967296 x := by unfold sx; split <;> omega
/-- A word's parts, by the form: each is a part of the word. -/
inductive Lin : Int × Int × Int × FD → Int → Int → Int → Int → Int → Prop where
  | two (f g d a b w : Int) (hc : w % 128 = 51) (hd : d = w / 128 % 32) (hf : f = w / 4096 % 8) (ha : a = w / 32768 % 32) (hb : b = w / 1048576 % 32) (hg : g = w / 33554432) : Lin (51, f, g, twoD) d a b 0 w
  | number (c f d a v w : Int) (hk : c = 3 ∨ c = 103 ∨ (c = 19 ∧ f ≠ 1 ∧ f ≠ 5)) (hc : w % 128 = c) (hd : d = w / 128 % 32) (hf : f = w / 4096 % 8) (ha : a = w / 32768 % 32) (hv : v = sx 4096 (w / 1048576)) : Lin (c, f, 0, numberD) d a 0 v w
  | shift (f g d a v w : Int) (hk : f = 1 ∨ f = 5) (hc : w % 128 = 19) (hd : d = w / 128 % 32) (hf : f = w / 4096 % 8) (ha : a = w / 32768 % 32) (hv : v = w / 1048576 % 64) (hg : g = w / 1073741824 * 32) : Lin (19, f, g, shiftD) d a 0 v w
  | large (d v w : Int) (hc : w % 128 = 55) (hd : d = w / 128 % 32) (hv : v = sx 4294967296 (w / 4096 * 4096)) : Lin (55, 0, 0, largeD) d 0 0 v w
  | jump (d v w : Int) (hc : w % 128 = 111) (hd : d = w / 128 % 32) (hv : v = sx 2097152 (2 * (w / 2097152 % 1024) + 2048 * (w / 1048576 % 2) + 4096 * (w / 4096 % 256) + 1048576 * (w / 2147483648))) : Lin (111, 0, 0, jumpD) d 0 0 v w
  | store (f a b v w : Int) (hc : w % 128 = 35) (hf : f = w / 4096 % 8) (ha : a = w / 32768 % 32) (hb : b = w / 1048576 % 32) (hv : v = sx 4096 (w / 128 % 32 + 32 * (w / 33554432))) : Lin (35, f, 0, storeD) 0 a b v w
  | branch (f a b v w : Int) (hc : w % 128 = 99) (hf : f = w / 4096 % 8) (ha : a = w / 32768 % 32) (hb : b = w / 1048576 % 32) (hv : v = sx 8192 (2 * (w / 256 % 16) + 32 * (w / 33554432 % 64) + 2048 * (w / 128 % 2) + 4096 * (w / 2147483648))) : Lin (99, f, 0, branchD) 0 a b v w
  | bare : Lin (115, 0, 0, bareD) 0 0 0 0 115
theorem field {w x : Int} (lo hi P Q : Int) (hP : 0 < P) (hl : 0 ≤ lo ∧ lo < P) (hx : 0 ≤ x ∧ x < Q) (h : w = lo + (x + hi * Q) * P) : x = w / P % Q := by
  rw [h, Int.add_mul_ediv_right _ _ (Int.ne_of_gt hP), Int.ediv_eq_zero_of_lt hl.1 hl.2, Int.zero_add, Int.add_mul_emod_self_right, Int.emod_eq_of_lt hx.1 hx.2]
theorem fieldTop {w x : Int} (lo P : Int) (hP : 0 < P) (hl : 0 ≤ lo ∧ lo < P) (h : w = lo + x * P) : x = w / P := by
  rw [h, Int.add_mul_ediv_right _ _ (Int.ne_of_gt hP), Int.ediv_eq_zero_of_lt hl.1 hl.2, Int.zero_add]
/-- What a word says. -/
def dec (w : Int) : Int × Int × Int × Int × Int × Int × Int :=
  if w % 128 = 51 then (51, w / 4096 % 8, w / 33554432, w / 128 % 32, w / 32768 % 32, w / 1048576 % 32, 0)
  else if w % 128 = 19 ∧ (w / 4096 % 8 = 1 ∨ w / 4096 % 8 = 5) then (19, w / 4096 % 8, w / 1073741824 * 32, w / 128 % 32, w / 32768 % 32, 0, w / 1048576 % 64)
  else if w % 128 = 3 ∨ w % 128 = 19 ∨ w % 128 = 103 then (w % 128, w / 4096 % 8, 0, w / 128 % 32, w / 32768 % 32, 0, sx 4096 (w / 1048576))
  else if w % 128 = 55 then (55, 0, 0, w / 128 % 32, 0, 0, sx 4294967296 (w / 4096 * 4096))
  else if w % 128 = 111 then (111, 0, 0, w / 128 % 32, 0, 0, sx 2097152 (2 * (w / 2097152 % 1024) + 2048 * (w / 1048576 % 2) + 4096 * (w / 4096 % 256) + 1048576 * (w / 2147483648)))
  else if w % 128 = 35 then (35, w / 4096 % 8, 0, 0, w / 32768 % 32, w / 1048576 % 32, sx 4096 (w / 128 % 32 + 32 * (w / 33554432)))
  else if w % 128 = 99 then (99, w / 4096 % 8, 0, 0, w / 32768 % 32, w / 1048576 % 32, sx 8192 (2 * (w / 256 % 16) + 32 * (w / 33554432 % 64) + 2048 * (w / 128 % 2) + 4096 * (w / 2147483648)))
  else (115, 0, 0, 0, 0, 0, 0)
theorem Lin.dec {x : Int × Int × Int × FD} {d a b v w : Int} (h : Lin x d a b v w) : dec w = (x.1, x.2.1, x.2.2.1, d, a, b, v) := by
  unfold Proofs.YtcnnnlhoiodeaaaGreat.dec
  cases h with
  | two f g d a b w hc hd hf ha hb hg => rw [if_pos hc, hd, hf, ha, hb, hg]
  | number c f d a v w hk hc hd hf ha hv =>
    rw [if_neg (by omega), if_neg (by omega), if_pos (by omega), hc, ← hd, ← hf, ← ha, ← hv]
  | shift f g d a v w hk hc hd hf ha hv hg =>
    rw [if_neg (by omega), if_pos (by omega), ← hd, ← hf, ← ha, ← hv, ← hg]
  | large d v w hc hd hv => rw [if_neg (by omega), if_neg (by omega), if_neg (by omega), if_pos hc, ← hd, ← hv]
  | jump d v w hc hd hv => rw [if_neg (by omega), if_neg (by omega), if_neg (by omega), if_neg (by omega), if_pos hc, ← hd, ← hv]
  | store f a b v w hc hf ha hb hv => rw [if_neg (by omega), if_neg (by omega), if_neg (by omega), if_neg (by omega), if_neg (by omega), if_pos hc, ← hf, ← ha, ← hb, ← hv]
  | branch f a b v w hc hf ha hb hv => rw [if_neg (by omega), if_neg (by omega), if_neg (by omega), if_neg (by omega), if_neg (by omega), if_neg (by omega), if_pos hc, ← hf, ← ha, ← hb, ← hv]
  | bare => rfl
theorem Lin.inj {x x' : Int × Int × Int × FD} {d a b v d' a' b' v' w : Int} (h : Lin x d a b v w) (h' : Lin x' d' a' b' v' w) :
    (x.1 = x'.1 ∧ x.2.1 = x'.2.1 ∧ x.2.2.1 = x'.2.2.1) ∧ d = d' ∧ a = a' ∧ b = b' ∧ v = v' := by
  have e := h.dec.symm.trans h'.dec
  simp only [Prod.mk.injEq] at e
  exact ⟨⟨e.1, e.2.1, e.2.2.1⟩, e.2.2.2.1, e.2.2.2.2.1, e.2.2.2.2.2.1, e.2.2.2.2.2.2⟩
theorem tmod_zero {v k : Int} (hk : 0 < k) (h : (v.tmod k == 0) = true) : v % k = 0 := by
  have h : v.tmod k = 0 := by simpa using h
  have := Int.dvd_of_tmod_eq_zero h
  exact Int.emod_eq_zero_of_dvd this
theorem fits_two {v : Int} (h : fitsF 0 0 v = true) : v = 0 := by
  have h : (v == 0) = true := h
  simpa using h
theorem fits_num {v nb : Int} (hn : 0 < nb) (h : fitsF nb 0 v = true) : fitsv v nb = true := by
  unfold fitsF at h
  rw [if_neg (by omega), if_neg (by omega), Bool.and_eq_true] at h
  exact h.1
theorem fits_step {v nb step : Int} (hn : 0 < nb) (hs : 0 < step) (h : fitsF nb step v = true) : fitsv v nb = true ∧ v % step = 0 := by
  unfold fitsF at h
  rw [if_neg (by omega), if_neg (by omega), Bool.and_eq_true, Bool.or_eq_true] at h
  refine ⟨h.1, ?_⟩
  rcases h.2 with h | h
  · have : step = 0 := by simpa using h
    omega
  · exact tmod_zero hs h
theorem lin_two (f g d a b v : Int) (hf : 0 ≤ f ∧ f < 8) (hg : 0 ≤ g ∧ g < 128) (hd : 0 ≤ d) (ha : 0 ≤ a) (hb : 0 ≤ b) (h : mayF twoD d a b v = true) : Lin (51, f, g, twoD) d a b v (baseS (51, f, g, twoD) d a b + laidv v twoD.spans) := by
  obtain ⟨h1, h2, h3, -, -, -, h7⟩ := may_regs h
  obtain rfl := fits_two h7
  have e : baseS (51, f, g, twoD) d a b + laidv 0 twoD.spans = 51 + d * 128 + f * 4096 + a * 32768 + b * 1048576 + g * 33554432 := by
    show 51 + d * 128 + f * 4096 + a * 32768 + b * 1048576 + g * 33554432 + 0 = _
    omega
  rw [e]
  exact .two f g d a b _ (by omega) (by omega) (by omega) (by omega) (by omega) (by omega)
theorem lin_number (c f d a b v : Int) (hc : c = 3 ∨ c = 103 ∨ (c = 19 ∧ f ≠ 1 ∧ f ≠ 5)) (hf : 0 ≤ f ∧ f < 8) (hd : 0 ≤ d) (ha : 0 ≤ a) (hb : 0 ≤ b) (h : mayF numberD d a b v = true) : Lin (c, f, 0, numberD) d a b v (baseS (c, f, 0, numberD) d a b + laidv v numberD.spans) := by
  obtain ⟨h1, h2, h3, -, -, h6, h7⟩ := may_regs h
  obtain rfl := h6 rfl
  have hv := fits_range v 12 2048 (by decide) (fits_num (by decide) h7)
  have e : baseS (c, f, 0, numberD) d a 0 + laidv v numberD.spans = c + d * 128 + f * 4096 + a * 32768 + v % 4096 * 1048576 := by
    show c + d * 128 + f * 4096 + a * 32768 + 0 * 1048576 + 0 * 33554432 + (v % 18446744073709551616 / 1 % 4096 * 1048576 + 0) = _
    omega
  rw [e]
  exact .number c f d a v _ hc (by omega) (by omega) (by omega) (by omega) (sx_12 (by omega) hv.1 hv.2)
theorem lin_shift (f g d a b v : Int) (hf : f = 1 ∨ f = 5) (hg : g = 0 ∨ g = 32) (hd : 0 ≤ d) (ha : 0 ≤ a) (hb : 0 ≤ b) (h : mayF shiftD d a b v = true) : Lin (19, f, g, shiftD) d a b v (baseS (19, f, g, shiftD) d a b + laidv v shiftD.spans) := by
  obtain ⟨h1, h2, h3, -, -, h6, h7⟩ := may_regs h
  obtain rfl := h6 rfl
  have h7 : (decide (0 ≤ v) && decide (v < 64)) = true := h7
  have hv : 0 ≤ v ∧ v < 64 := by simpa using h7
  have e : baseS (19, f, g, shiftD) d a 0 + laidv v shiftD.spans = 19 + d * 128 + f * 4096 + a * 32768 + v * 1048576 + g * 33554432 := by
    show 19 + d * 128 + f * 4096 + a * 32768 + 0 * 1048576 + g * 33554432 + (v % 18446744073709551616 / 1 % 64 * 1048576 + 0) = _
    omega
  rw [e]
  exact .shift f g d a v _ hf (by omega) (by omega) (by omega) (by omega) (by omega) (by omega)
theorem lin_large (d a b v : Int) (hd : 0 ≤ d) (ha : 0 ≤ a) (hb : 0 ≤ b) (h : mayF largeD d a b v = true) : Lin (55, 0, 0, largeD) d a b v (baseS (55, 0, 0, largeD) d a b + laidv v largeD.spans) := by
  obtain ⟨h1, h2, h3, -, h5, h6, h7⟩ := may_regs h
  obtain rfl := h5 rfl
  obtain rfl := h6 rfl
  obtain ⟨h7, h8⟩ := fits_step (by decide) (by decide) h7
  have hv := fits_range v 32 2147483648 (by decide) h7
  have e : baseS (55, 0, 0, largeD) d 0 0 + laidv v largeD.spans = 55 + d * 128 + v / 4096 % 1048576 * 4096 := by
    show 55 + d * 128 + 0 * 4096 + 0 * 32768 + 0 * 1048576 + 0 * 33554432 + (v % 18446744073709551616 / 4096 % 1048576 * 4096 + 0) = _
    omega
  rw [e]
  have h8 : v % 4096 = 0 := h8
  obtain ⟨q, hq⟩ : ∃ q, q = v / 4096 % 1048576 := ⟨_, rfl⟩
  rw [← hq]
  have hv2 : v % 4294967296 = q * 4096 := by omega
  exact .large d v _ (by omega) (by omega) (sx_32 (by rw [hv2]; clear hv2; omega) hv.1 hv.2)
theorem lin_jump (d a b v : Int) (hd : 0 ≤ d) (ha : 0 ≤ a) (hb : 0 ≤ b) (h : mayF jumpD d a b v = true) : Lin (111, 0, 0, jumpD) d a b v (baseS (111, 0, 0, jumpD) d a b + laidv v jumpD.spans) := by
  obtain ⟨h1, h2, h3, -, h5, h6, h7⟩ := may_regs h
  obtain rfl := h5 rfl
  obtain rfl := h6 rfl
  obtain ⟨h7, h8⟩ := fits_step (by decide) (by decide) h7
  have hv := fits_range v 21 1048576 (by decide) h7
  have h8 : v % 2 = 0 := h8
  obtain ⟨q, hq⟩ : ∃ q, q = v / 4096 % 256 := ⟨_, rfl⟩
  obtain ⟨r, hr⟩ : ∃ r, r = v / 2048 % 2 := ⟨_, rfl⟩
  obtain ⟨s, hs⟩ : ∃ s, s = v / 2 % 1024 := ⟨_, rfl⟩
  obtain ⟨t, ht⟩ : ∃ t, t = v / 1048576 % 2 := ⟨_, rfl⟩
  have e : baseS (111, 0, 0, jumpD) d 0 0 + laidv v jumpD.spans = 111 + d * 128 + q * 4096 + r * 1048576 + s * 2097152 + t * 2147483648 := by
    show 111 + d * 128 + 0 * 4096 + 0 * 32768 + 0 * 1048576 + 0 * 33554432 + (v % 18446744073709551616 / 4096 % 256 * 4096 + (v % 18446744073709551616 / 2048 % 2 * 1048576 + (v % 18446744073709551616 / 2 % 1024 * 2097152 + (v % 18446744073709551616 / 1048576 % 2 * 2147483648 + 0)))) = _
    rw [hq, hr, hs, ht]
    omega
  rw [e]
  have hv2 : v % 2097152 = 2 * s + 2048 * r + 4096 * q + 1048576 * t := by omega
  have b1 : 0 ≤ q ∧ q < 256 := by omega
  have b2 : 0 ≤ r ∧ r < 2 := by omega
  have b3 : 0 ≤ s ∧ s < 1024 := by omega
  have b4 : 0 ≤ t ∧ t < 2 := by omega
  clear e hq hr hs ht
  exact .jump d v _ (by omega) (by omega) (sx_21 (by rw [hv2]; clear hv2; omega) hv.1 hv.2)
theorem lin_store (f d a b v : Int) (hf : 0 ≤ f ∧ f < 8) (hd : 0 ≤ d) (ha : 0 ≤ a) (hb : 0 ≤ b) (h : mayF storeD d a b v = true) : Lin (35, f, 0, storeD) d a b v (baseS (35, f, 0, storeD) d a b + laidv v storeD.spans) := by
  obtain ⟨h1, h2, h3, h4, -, -, h7⟩ := may_regs h
  obtain rfl := h4 rfl
  have hv := fits_range v 12 2048 (by decide) (fits_num (by decide) h7)
  obtain ⟨q, hq⟩ : ∃ q, q = v % 32 := ⟨_, rfl⟩
  obtain ⟨r, hr⟩ : ∃ r, r = v / 32 % 128 := ⟨_, rfl⟩
  have e : baseS (35, f, 0, storeD) 0 a b + laidv v storeD.spans = 35 + q * 128 + f * 4096 + a * 32768 + b * 1048576 + r * 33554432 := by
    show 35 + 0 * 128 + f * 4096 + a * 32768 + b * 1048576 + 0 * 33554432 + (v % 18446744073709551616 / 1 % 32 * 128 + (v % 18446744073709551616 / 32 % 128 * 33554432 + 0)) = _
    rw [hq, hr]
    omega
  rw [e]
  have hv2 : v % 4096 = q + 32 * r := by omega
  have b1 : 0 ≤ q ∧ q < 32 := by omega
  have b2 : 0 ≤ r ∧ r < 128 := by omega
  clear e hq hr
  refine .store f a b v _ (by omega) (field (35 + q * 128) (a + b * 32 + r * 1024) 4096 8 (by omega) (by omega) hf (by omega)) (field (35 + q * 128 + f * 4096) (b + r * 32) 32768 32 (by omega) (by omega) (by omega) (by omega))
    (field (35 + q * 128 + f * 4096 + a * 32768) r 1048576 32 (by omega) (by omega) (by omega) (by omega)) (sx_12 ?_ hv.1 hv.2)
  rw [hv2, ← field (w := 35 + q * 128 + f * 4096 + a * 32768 + b * 1048576 + r * 33554432) (x := q) 35 (f + a * 8 + b * 256 + r * 8192) 128 32 (by omega) (by omega) b1 (by omega),
    ← fieldTop (w := 35 + q * 128 + f * 4096 + a * 32768 + b * 1048576 + r * 33554432) (x := r) (35 + q * 128 + f * 4096 + a * 32768 + b * 1048576) 33554432 (by omega) (by omega) (by omega)]
theorem lin_branch (f d a b v : Int) (hf : 0 ≤ f ∧ f < 8) (hd : 0 ≤ d) (ha : 0 ≤ a) (hb : 0 ≤ b) (h : mayF branchD d a b v = true) : Lin (99, f, 0, branchD) d a b v (baseS (99, f, 0, branchD) d a b + laidv v branchD.spans) := by
  obtain ⟨h1, h2, h3, h4, -, -, h7⟩ := may_regs h
  obtain rfl := h4 rfl
  obtain ⟨h7, h8⟩ := fits_step (by decide) (by decide) h7
  have hv := fits_range v 13 4096 (by decide) h7
  have h8 : v % 2 = 0 := h8
  obtain ⟨q, hq⟩ : ∃ q, q = v / 2048 % 2 := ⟨_, rfl⟩
  obtain ⟨r, hr⟩ : ∃ r, r = v / 2 % 16 := ⟨_, rfl⟩
  obtain ⟨s, hs⟩ : ∃ s, s = v / 32 % 64 := ⟨_, rfl⟩
  obtain ⟨t, ht⟩ : ∃ t, t = v / 4096 % 2 := ⟨_, rfl⟩
  have e : baseS (99, f, 0, branchD) 0 a b + laidv v branchD.spans = 99 + q * 128 + r * 256 + f * 4096 + a * 32768 + b * 1048576 + s * 33554432 + t * 2147483648 := by
    show 99 + 0 * 128 + f * 4096 + a * 32768 + b * 1048576 + 0 * 33554432 + (v % 18446744073709551616 / 2048 % 2 * 128 + (v % 18446744073709551616 / 2 % 16 * 256 + (v % 18446744073709551616 / 32 % 64 * 33554432 + (v % 18446744073709551616 / 4096 % 2 * 2147483648 + 0)))) = _
    rw [hq, hr, hs, ht]
    omega
  rw [e]
  have hv2 : v % 8192 = 2 * r + 32 * s + 2048 * q + 4096 * t := by omega
  have b1 : 0 ≤ q ∧ q < 2 := by omega
  have b2 : 0 ≤ r ∧ r < 16 := by omega
  have b3 : 0 ≤ s ∧ s < 64 := by omega
  have b4 : 0 ≤ t ∧ t < 2 := by omega
  clear e hq hr hs ht
  refine .branch f a b v _ (by omega) (field (99 + q * 128 + r * 256) (a + b * 32 + s * 1024 + t * 65536) 4096 8 (by omega) (by omega) hf (by omega)) (field (99 + q * 128 + r * 256 + f * 4096) (b + s * 32 + t * 2048) 32768 32 (by omega) (by omega) (by omega) (by omega))
    (field (99 + q * 128 + r * 256 + f * 4096 + a * 32768) (s + t * 64) 1048576 32 (by omega) (by omega) (by omega) (by omega)) (sx_13 ?_ hv.1 hv.2)
  rw [hv2, ← field (w := 99 + q * 128 + r * 256 + f * 4096 + a * 32768 + b * 1048576 + s * 33554432 + t * 2147483648) (x := r) (99 + q * 128) (f + a * 8 + b * 256 + s * 8192 + t * 524288) 256 16 (by omega) (by omega) b2 (by omega),
    ← field (w := 99 + q * 128 + r * 256 + f * 4096 + a * 32768 + b * 1048576 + s * 33554432 + t * 2147483648) (x := s) (99 + q * 128 + r * 256 + f * 4096 + a * 32768 + b * 1048576) t 33554432 64 (by omega) (by omega) b3 (by omega),
    ← field (w := 99 + q * 128 + r * 256 + f * 4096 + a * 32768 + b * 1048576 + s * 33554432 + t * 2147483648) (x := q) 99 (r + f * 16 + a * 128 + b * 4096 + s * 131072 + t * 8388608) 128 2 (by omega) (by omega) b1 (by omega),
    ← fieldTop (w := 99 + q * 128 + r * 256 + f * 4096 + a * 32768 + b * 1048576 + s * 33554432 + t * 2147483648) (x := t) (99 + q * 128 + r * 256 + f * 4096 + a * 32768 + b * 1048576 + s * 33554432) 2147483648 (by omega) (by omega) (by omega)]
theorem lin_bare (d a b v : Int) (h : mayF bareD d a b v = true) : Lin (115, 0, 0, bareD) d a b v (baseS (115, 0, 0, bareD) d a b + laidv v bareD.spans) := by
  obtain ⟨h1, h2, h3, h4, h5, h6, h7⟩ := may_regs h
  obtain rfl := h4 rfl
  obtain rfl := h5 rfl
  obtain rfl := h6 rfl
  obtain rfl := fits_two h7
  exact .bare
theorem tab_lin (x : Int × Int × Int × FD) (hx : x ∈ tabL) (d a b v : Int) (hd : 0 ≤ d) (ha : 0 ≤ a) (hb : 0 ≤ b) (h : mayF x.2.2.2 d a b v = true) : Lin x d a b v (baseS x d a b + laidv v x.2.2.2.spans) := by
  simp only [tabL, List.mem_cons, List.not_mem_nil, or_false] at hx
  rcases hx with rfl | rfl | rfl | rfl | rfl | rfl | rfl | rfl | rfl | rfl | rfl | rfl | rfl | rfl | rfl | rfl | rfl | rfl | rfl | rfl | rfl | rfl | rfl | rfl | rfl | rfl | rfl | rfl | rfl | rfl | rfl | rfl | rfl | rfl
  all_goals first
    | exact lin_two _ _ d a b v (by decide) (by decide) hd ha hb h
    | exact lin_number _ _ d a b v (by decide) (by decide) hd ha hb h
    | exact lin_shift _ _ d a b v (by decide) (by decide) hd ha hb h
    | exact lin_large d a b v hd ha hb h
    | exact lin_jump d a b v hd ha hb h
    | exact lin_store _ d a b v (by decide) hd ha hb h
    | exact lin_branch _ d a b v (by decide) hd ha hb h
    | exact lin_bare d a b v h
theorem tab_nodup : (tabL.map fun x => (x.1, x.2.1, x.2.2.1)).Nodup := by decide
theorem enc_inj {o d a b v o' d' a' b' v' w : Int} (hd : U8 d) (ha : U8 a) (hb : U8 b) (hd' : U8 d') (ha' : U8 a') (hb' : U8 b') (h : encv o d a b v = some w) (h' : encv o' d' a' b' v' = some w) :
    o = o' ∧ d = d' ∧ a = a' ∧ b = b' ∧ v = v' := by
  have open_ : ∀ {o d a b v : Int}, U8 d → U8 a → U8 b → encv o d a b v = some w → 1 ≤ o ∧ ∃ x, tabL[(o - 1).toNat]? = some x ∧ Lin x d a b v w := by
    intro o d a b v hd ha hb h
    unfold encv at h
    split at h
    · rename_i x hx
      split at h
      · rename_i hm
        have hw := Option.some.inj h
        unfold rowOf at hx
        split at hx
        · rename_i h1
          refine ⟨h1, x, hx, ?_⟩
          rw [← hw]
          exact tab_lin x (List.mem_of_getElem? hx) d a b v hd.1 ha.1 hb.1 hm
        · cases hx
      · cases h
    · cases h
  obtain ⟨h1, x, hx, hl⟩ := open_ hd ha hb h
  obtain ⟨h1', x', hx', hl'⟩ := open_ hd' ha' hb' h'
  obtain ⟨⟨e1, e2, e3⟩, e4⟩ := hl.inj hl'
  refine ⟨?_, e4⟩
  have g1 : (tabL.map fun x => (x.1, x.2.1, x.2.2.1))[(o - 1).toNat]? = some (x.1, x.2.1, x.2.2.1) := by rw [List.getElem?_map, hx]; rfl
  have g2 : (tabL.map fun x => (x.1, x.2.1, x.2.2.1))[(o' - 1).toNat]? = some (x.1, x.2.1, x.2.2.1) := by rw [List.getElem?_map, hx', e1, e2, e3]; rfl
  have hlt := (List.getElem?_eq_some_iff.1 g1).1
  have := (List.getElem?_inj hlt tab_nodup).1 (g1.trans g2.symm)
  omega
end Go.Proofs.YtcnnnlhoiodeaaaGreat

/-
CpuOps, the plain part: what the code's bytes are read as.
Conditions: each theorem's hypotheses.
-/
namespace Go.Proofs.YtcnnnlhoiodeaaaGreat
open Go Go.Vc Go.RowKit
set_option maxRecDepth 100000

theorem code_at (F : Nat → Nat → Int) : ∀ (n j : Nat), j < n → ((codeL F n).drop (4 * j)).take 4 = bytes4 (codeI F j)
  | 0, j, h => absurd h (Nat.not_lt_zero j)
  | n + 1, j, h => by
    rw [codeL]
    by_cases hj : j < n
    · rw [List.drop_append_of_le_length (by rw [codeL_len]; omega), List.take_append_of_le_length (by rw [List.length_drop, codeL_len]; omega)]
      exact code_at F n j hj
    · obtain rfl : j = n := by omega
      rw [List.drop_append, List.drop_of_length_le (by rw [codeL_len]; omega), codeL_len, List.nil_append, Nat.sub_self, List.drop_zero]
      exact List.take_of_length_le (by rw [bytes4_length]; omega)
theorem val_bytes4 {w : Int} (h : W32 w) : valB ((bytes4 w).map fun b => (b.toNat : Int)) = w := by
  obtain ⟨h0, h1⟩ := h
  have hb : ∀ k : Nat, 0 ≤ bytev w k ∧ bytev w k < 256 := fun k => by unfold bytev; omega
  have e : (bytes4 w).map (fun b => (b.toNat : Int)) = (List.range 4).map (bytev w) := by
    have : strB (bytesOf w 4) = (List.range 4).map (bytev w) := by
      unfold bytesOf
      exact strB_strOf fun b hb' => by
        obtain ⟨k, _, rfl⟩ := List.mem_map.1 hb'
        exact hb k
    exact this
  rw [e]
  simp only [List.range, List.range.loop, List.map_cons, List.map_nil, valB, bytev]
  omega
theorem code_range {F : Nat → Nat → Int} {i : Nat} (h : U8 (F i 0) ∧ U8 (F i 1) ∧ U8 (F i 2) ∧ U8 (F i 3) ∧ I64 (F i 4)) : W32 (codeI F i) := by
  unfold codeI
  cases he : encF F i with
  | none =>
    show 0 ≤ IntKind.u32.wrap (F i 4) ∧ IntKind.u32.wrap (F i 4) < 4294967296
    rw [wrap_u32]
    exact ⟨by omega, by omega⟩
  | some w => exact encv_range h.1 h.2.1 h.2.2.1 h.2.2.2.1 he
theorem fetch_code {u : Su} (ok : SuOk u) {j : Nat} (hj : j < u.n) : fetchM (memI u 0) (4096 + 4 * j) = (codeI u.F j, 0) := by
  have hn := ok.n
  have hlen : (strB (codeS u.F u.n)).length = 4 * u.n := by rw [strB_len, codeS_size]
  have h0 : (newM (regsOf u.n))[0]? = some ⟨⟨4096, 4 * u.n + 4, 1⟩, List.replicate ((4 * u.n + 4 : Int)).toNat 0, List.replicate ((4 * u.n + 4 : Int)).toNat false⟩ := rfl
  have hsep := sep_of (n := u.n) (by omega) (new_r u.n)
  have e1 : memI u 0 = layM (newM (regsOf u.n)) 0 ⟨⟨4096, 4 * u.n + 4, 1⟩, List.replicate ((4 * u.n + 4 : Int)).toNat 0, List.replicate ((4 * u.n + 4 : Int)).toNat false⟩ (offR ⟨⟨4096, 4 * u.n + 4, 1⟩, List.replicate ((4 * u.n + 4 : Int)).toNat 0, List.replicate ((4 * u.n + 4 : Int)).toNat false⟩ 4096) (strB (codeS u.F u.n)) false := by
    unfold memI setM
    rw [find_at hsep h0 (by rw [hlen]; exact code_has)]
  generalize hp : (⟨⟨4096, 4 * u.n + 4, 1⟩, List.replicate ((4 * u.n + 4 : Int)).toNat 0, List.replicate ((4 * u.n + 4 : Int)).toNat false⟩ : Pt) = p at h0 e1
  have hbs : p.bs.length = 4 * u.n + 4 := by rw [← hp]; show (List.replicate _ _).length = _; rw [List.length_replicate]; omega
  have hr : p.r = ⟨4096, 4 * u.n + 4, 1⟩ := by rw [← hp]
  have ho : offR p 4096 = 0 := by unfold offR; rw [hr]; rfl
  rw [ho] at e1
  have hmr := (mem_facts ok 0).1
  have hget : (memI u 0)[0]? = some (layP p 0 (strB (codeS u.F u.n)) false) := by
    rw [e1]; unfold layM; rw [List.getElem?_set_self (List.getElem?_eq_some_iff.1 h0).1]
  unfold fetchM
  rw [if_pos (by omega), find_at (sep_of (n := u.n) (by omega) hmr) hget (by
    show hasR p.r _ _ = true
    rw [hr]; unfold hasR
    simp only [Bool.and_eq_true, decide_eq_true_eq]
    refine ⟨by omega, by omega, by omega⟩)]
  show (if p.r.k = 1 then (valB (((putL p.bs 0 (strB (codeS u.F u.n))).drop (offR (layP p 0 (strB (codeS u.F u.n)) false) (4096 + 4 * j))).take 4), (0 : Int)) else (0, 40)) = _
  rw [if_pos (by rw [hr])]
  have ho2 : offR (layP p 0 (strB (codeS u.F u.n)) false) (4096 + 4 * j) = 4 * j := by
    show (4096 + 4 * (j : Int) - p.r.f).toNat = _
    rw [hr]; show (4096 + 4 * (j : Int) - 4096).toNat = _
    omega
  rw [ho2]
  have e2 : ((putL p.bs 0 (strB (codeS u.F u.n))).drop (4 * j)).take 4 = (bytes4 (codeI u.F j)).map fun b => (b.toNat : Int) := by
    unfold putL
    rw [List.take_zero, List.nil_append, List.drop_append_of_le_length (by rw [hlen]; omega), List.take_append_of_le_length (by rw [List.length_drop, hlen]; omega)]
    have : strB (codeS u.F u.n) = (codeL u.F u.n).map fun b => (b.toNat : Int) := rfl
    rw [this, ← List.map_drop, ← List.map_take, code_at u.F u.n j hj]
  rw [e2, val_bytes4 (code_range (ok.F j hj))]
/-- Is an instruction encoded, and read as it was? -/
def chk (o d a b v : Int) : Bool := match encv o d a b v with
  | some w => decE w == 0 && (decF w 0 == o && (decF w 1 == d && (decF w 2 == a && (decF w 3 == b && decF w 4 == v))))
  | none => false
theorem chk_spec {o d a b v : Int} (h : chk o d a b v = true) : ∃ w, encv o d a b v = some w ∧ decE w = 0 ∧ decF w 0 = o ∧ decF w 1 = d ∧ decF w 2 = a ∧ decF w 3 = b ∧ decF w 4 = v := by
  unfold chk at h
  cases he : encv o d a b v with
  | none => rw [he] at h; cases h
  | some w =>
    rw [he] at h
    simp only [Bool.and_eq_true, beq_iff_eq] at h
    exact ⟨w, rfl, h.1, h.2.1, h.2.2.1, h.2.2.2.1, h.2.2.2.2.1, h.2.2.2.2.2⟩
theorem chk_alu : ((List.range 14).all fun o => (List.range 32).all fun d => chk ((o : Int) + 1) d 5 6 0) = true := by kernel_rfl
theorem xori_enc : ((List.range 4096).all fun k => encv 17 7 5 0 ((k : Int) - 2048) == some (181139 + (((k : Int) - 2048) % 4096) * 1048576)) = true := by kernel_rfl
theorem sgn_12 : ((List.range 4096).all fun k => sgn ((k : Int)) 12 == if k < 2048 then (k : Int) else (k : Int) - 4096) = true := by kernel_rfl
theorem xori_dec {v : Int} (h0 : -2048 ≤ v) (h1 : v < 2048) : ∃ w, encv 17 7 5 0 v = some w ∧ decE w = 0 ∧ decF w 0 = 17 ∧ decF w 1 = 7 ∧ decF w 2 = 5 ∧ decF w 3 = 0 ∧ decF w 4 = v := by
  have he : encv 17 7 5 0 v = some (181139 + (v % 4096) * 1048576) := by
    have := List.all_eq_true.1 xori_enc (v + 2048).toNat (List.mem_range.2 (by omega))
    rw [show (((v + 2048).toNat : Nat) : Int) - 2048 = v by omega] at this
    exact eq_of_beq this
  have hs : sgn (v % 4096) 12 = v := by
    have := List.all_eq_true.1 sgn_12 (v % 4096).toNat (List.mem_range.2 (by omega))
    rw [show (((v % 4096).toNat : Nat) : Int) = v % 4096 by omega] at this
    rw [eq_of_beq this]
    split <;> omega
  generalize hw : 181139 + (v % 4096) * 1048576 = w at he
  have g1 : gRd 17 w = 7 := by unfold gRd fldI; rw [if_pos (by decide)]; omega
  have g2 : gR1 17 w = 5 := by unfold gR1 fldI; rw [if_pos (by decide)]; omega
  have g3 : gR2 17 w = 0 := by unfold gR2; rw [if_neg (by decide)]
  have g4 : numS 17 w = v := by
    unfold numS fldI
    rw [if_pos (by decide), show w / 2 ^ 20 % 2 ^ 12 = v % 4096 by omega, hs]
  have hfit : fitG w ⟨16, by decide⟩ = true := by
    unfold fitG encG
    show decide (encv 17 (gRd 17 w) (gR1 17 w) (gR2 17 w) (numS 17 w) = some w) = true
    rw [g1, g2, g3, g4, he]
    exact decide_eq_true rfl
  have hE : decE w = 0 ∧ encv (decF w 0) (decF w 1) (decF w 2) (decF w 3) (decF w 4) = some w := by
    unfold decE decF decK
    cases hk : (List.finRange 34).find? (fitG w) with
    | none => exact absurd hfit (List.find?_eq_none.1 hk _ (List.mem_finRange _))
    | some k =>
      have hf := List.find?_some hk
      unfold fitG at hf
      exact ⟨rfl, of_decide_eq_true hf⟩
  obtain ⟨r0, r1, r2, r3, r4⟩ := decF_range w
  have := enc_inj r1 r2 r3 (⟨by decide, by decide⟩ : U8 7) (⟨by decide, by decide⟩ : U8 5) (⟨by decide, by decide⟩ : U8 0) hE.2 he
  exact ⟨w, he, hE.1, this.1, this.2.1, this.2.2.1, this.2.2.2.1, this.2.2.2.2⟩
theorem chk_addi : chk 15 0 0 0 5 = true := by kernel_rfl
end Go.Proofs.YtcnnnlhoiodeaaaGreat

/-
The explicit conditions of some functions of the program, printed by this repo's own program over VcTop: what is proved is that each is the condition.
Conditions: none.
-/
namespace Go.Proofs.YtcnnnlhoiodeaaaGreat
open Go Go.Vc Go.RowKit
set_option maxRecDepth 100000

/- function 3: sacristy/sacristylaw05.CpuOps -/
abbrev law05_CpuOps.N : FuncId := 3
def law05_CpuOps.H : Hints := {  }
def law05_CpuOps.vc (fn' a' : Int) (b' rd' i' : Int) (w : World) (R : Ending → World → Prop) : Prop := ∀ w', w' = w.alloc (Obj.cells #[.int .u8 (IntKind.u8.wrap (1 + fn'.tmod 14)), .int .u8 (rd'.tmod 32),
Value.int .u8 5, .int .u8 6, .int .i64 0, .int .u8 17,
Value.int .u8 7, .int .u8 5, .int .u8 0,
Value.int .i64 (IntKind.i64.wrap (i'.tmod 2048)), .int .u8 15, .int .u8 0,
Value.int .u8 0, .int .u8 0, .int .i64 5] 25) →
∀ w'_1, w'_1 = w'.alloc (Obj.cells #[.int .u8 5, .int .u64 a', .bool false, .int .u8 6,
Value.int .u64 b', .bool true] 28) →
∀ w'_2, w'_2 = w'_1.alloc (Obj.cells #[.slice none 0 0, .slice none 0 0, .slice none 0 0] 31) →
SetsAt w'_2 (Addr.mk w'_1.heap.size 0 none) 0 [.slice (some (Addr.mk w.heap.size 0 none)) 3 3,
Value.slice (some (Addr.mk w'.heap.size 0 none)) 2 2, .slice none 0 0] ∧
∀ w'_3, w'_3 = setCellsAt w'_2 (Addr.mk w'_1.heap.size 0 none) 0 [.slice (some (Addr.mk w.heap.size 0 none)) 3 3,
Value.slice (some (Addr.mk w'.heap.size 0 none)) 2 2, .slice none 0 0] →
∃ (p : Option Addr) (n c : Nat) (p_1 : Option Addr) (n_1 c_1 : Nat) (p_2 : Option Addr) (n_2 c_2 : Nat),
(w'_3.cell? (Addr.mk w'_1.heap.size 0 none) = some (.slice p n c) ∧
w'_3.cell? (Addr.mk w'_1.heap.size 1 none) = some (.slice p_1 n_1 c_1) ∧
w'_3.cell? (Addr.mk w'_1.heap.size 2 none) = some (.slice p_2 n_2 c_2) ∧
True) ∧
Calls Tryz.prog 8 #[.agg #[.slice p n c, .slice p_1 n_1 c_1, .slice p_2 n_2 c_2]] w'_3 fun e w' =>
∃ (p p_3 : Option Addr),
e = .returned (.tuple #[.pointer p, .pointer p_3]) ∧
∃ (b : Bool),
EqRuns Tryz.prog BinOp.eql 32 (Operand.tmp 59) (Operand.const (.pointer none)) (.pointer p) (.pointer none) b ∧
cnd b (R (.returned (.bool false)) w') (Calls Tryz.prog 9 #[.pointer p] w' fun e w' =>
∃ (n : Int),
e = .returned (.int .i64 n) ∧
cnd (n != 0) (R (.returned (.bool false)) w') (Calls Tryz.prog 10 #[.pointer p,
Value.int .i64 (IntKind.i64.wrap (rd'.tmod 32))] w' fun e w' =>
∃ (n : Int) (b : Bool) (n_3 : Int),
e = .returned (.tuple #[.int .u64 n, .bool b,
Value.int .i64 n_3]) ∧
Calls Tryz.prog 11 #[.int .u8 (IntKind.u8.wrap (1 + fn'.tmod 14)),
Value.int .u64 a',
Value.int .u64 b'] w' fun e w' =>
∃ (n_4 n_5 : Int),
e = .returned (.tuple #[.int .u64 n_4,
Value.int .i64 n_5]) ∧
cnd (rd'.tmod 32 == 0) (cnd (n != 0) (R (.returned (.bool false)) w') (cnd (!b == (rd'.tmod 32 != 0)) (R (.returned (.bool false)) w') (cnd (n_3 != 0) (R (.returned (.bool false)) w') (cnd (n_5 != 0) (R (.returned (.bool false)) w') (Calls Tryz.prog 12 #[.pointer p] w' fun e w' =>
∃ (n : Int),
e = .returned (.int .u64 n) ∧
cnd (n != 4100) (R (.returned (.bool false)) w') (∃ (p_4 : Option Addr) (n c : Nat),
w'.cell? (Addr.mk w'_1.heap.size 0 none) = some (.slice p_4 n c) ∧
(Int.le 0 1 ∧
1 < (↑n : Int)) ∧
Deref p_4 fun a =>
∃ (n n_6 : Int) (n_7 n_8 n_9 : Int),
(w'.cell? (a.add 5) = some (.int .u8 n) ∧
w'.cell? ((a.add 5).add 1) = some (.int .u8 n_6) ∧
w'.cell? ((a.add 5).add 2) = some (.int .u8 n_7) ∧
w'.cell? ((a.add 5).add 3) = some (.int .u8 n_8) ∧
w'.cell? ((a.add 5).add 4) = some (.int .i64 n_9) ∧
True) ∧
Calls Tryz.prog 13 #[.agg #[.int .u8 n,
Value.int .u8 n_6,
Value.int .u8 n_7,
Value.int .u8 n_8,
Value.int .i64 n_9]] w' fun e w' =>
∃ (n n_10 : Int),
e = .returned (.tuple #[.int .u32 n,
Value.int .i64 n_10]) ∧
Calls Tryz.prog 9 #[.pointer p] w' fun e w' =>
∃ (n : Int),
e = .returned (.int .i64 n) ∧
Calls Tryz.prog 10 #[.pointer p,
Value.int .i64 7] w' fun e w' =>
∃ (n_11 : Int) (b : Bool) (n_12 : Int),
e = .returned (.tuple #[.int .u64 n_11,
Value.bool b,
Value.int .i64 n_12]) ∧
Calls Tryz.prog 10 #[.pointer p,
Value.int .i64 5] w' fun e w' =>
∃ (n_13 : Int) (b_1 : Bool) (n_14 : Int),
e = .returned (.tuple #[.int .u64 n_13,
Value.bool b_1,
Value.int .i64 n_14]) ∧
cnd (n_10 != 0) (R (.returned (.bool false)) w') (cnd (n != 0) (R (.returned (.bool false)) w') (cnd (rd'.tmod 32 != 5) (cnd (n_11 != bits BinOp.xor .u64 a' (IntKind.u64.wrap (IntKind.i64.wrap (i'.tmod 2048)))) (R (.returned (.bool false)) w') (cnd (n_11 != bits BinOp.xor .u64 n_13 (IntKind.u64.wrap (IntKind.i64.wrap (i'.tmod 2048)))) (R (.returned (.bool false)) w') (cnd (!b == (rd'.tmod 32 == 5)) (R (.returned (.bool false)) w') (Calls Tryz.prog 9 #[.pointer p] w' fun e w' =>
∃ (n : Int),
e = .returned (.int .i64 n) ∧
Calls Tryz.prog 10 #[.pointer p,
Value.int .i64 0] w' fun e w' =>
∃ (n_15 : Int) (b : Bool) (n_16 : Int),
e = .returned (.tuple #[.int .u64 n_15,
Value.bool b,
Value.int .i64 n_16]) ∧
cnd (n == 0) (cnd (n_15 == 0) (cnd (!b) (Calls Tryz.prog 14 #[] w' fun e w' =>
∃ (b : Bool),
e = .returned (.bool b) ∧
R (.returned (.bool b)) w') (R (.returned (.bool false)) w')) (R (.returned (.bool false)) w')) (R (.returned (.bool false)) w'))))) (cnd (n_11 != bits BinOp.xor .u64 n_13 (IntKind.u64.wrap (IntKind.i64.wrap (i'.tmod 2048)))) (R (.returned (.bool false)) w') (cnd (!b == (rd'.tmod 32 == 5)) (R (.returned (.bool false)) w') (Calls Tryz.prog 9 #[.pointer p] w' fun e w' =>
∃ (n : Int),
e = .returned (.int .i64 n) ∧
Calls Tryz.prog 10 #[.pointer p,
Value.int .i64 0] w' fun e w' =>
∃ (n_15 : Int) (b : Bool) (n_16 : Int),
e = .returned (.tuple #[.int .u64 n_15,
Value.bool b,
Value.int .i64 n_16]) ∧
cnd (n == 0) (cnd (n_15 == 0) (cnd (!b) (Calls Tryz.prog 14 #[] w' fun e w' =>
∃ (b : Bool),
e = .returned (.bool b) ∧
R (.returned (.bool b)) w') (R (.returned (.bool false)) w')) (R (.returned (.bool false)) w')) (R (.returned (.bool false)) w')))))))))))) (cnd (n != n_4) (R (.returned (.bool false)) w') (cnd (!b == (rd'.tmod 32 != 0)) (R (.returned (.bool false)) w') (cnd (n_3 != 0) (R (.returned (.bool false)) w') (cnd (n_5 != 0) (R (.returned (.bool false)) w') (Calls Tryz.prog 12 #[.pointer p] w' fun e w' =>
∃ (n : Int),
e = .returned (.int .u64 n) ∧
cnd (n != 4100) (R (.returned (.bool false)) w') (∃ (p_4 : Option Addr) (n c : Nat),
w'.cell? (Addr.mk w'_1.heap.size 0 none) = some (.slice p_4 n c) ∧
(Int.le 0 1 ∧
1 < (↑n : Int)) ∧
Deref p_4 fun a =>
∃ (n n_6 : Int) (n_7 n_8 n_9 : Int),
(w'.cell? (a.add 5) = some (.int .u8 n) ∧
w'.cell? ((a.add 5).add 1) = some (.int .u8 n_6) ∧
w'.cell? ((a.add 5).add 2) = some (.int .u8 n_7) ∧
w'.cell? ((a.add 5).add 3) = some (.int .u8 n_8) ∧
w'.cell? ((a.add 5).add 4) = some (.int .i64 n_9) ∧
True) ∧
Calls Tryz.prog 13 #[.agg #[.int .u8 n,
Value.int .u8 n_6,
Value.int .u8 n_7,
Value.int .u8 n_8,
Value.int .i64 n_9]] w' fun e w' =>
∃ (n n_10 : Int),
e = .returned (.tuple #[.int .u32 n,
Value.int .i64 n_10]) ∧
Calls Tryz.prog 9 #[.pointer p] w' fun e w' =>
∃ (n : Int),
e = .returned (.int .i64 n) ∧
Calls Tryz.prog 10 #[.pointer p,
Value.int .i64 7] w' fun e w' =>
∃ (n_11 : Int) (b : Bool) (n_12 : Int),
e = .returned (.tuple #[.int .u64 n_11,
Value.bool b,
Value.int .i64 n_12]) ∧
Calls Tryz.prog 10 #[.pointer p,
Value.int .i64 5] w' fun e w' =>
∃ (n_13 : Int) (b_1 : Bool) (n_14 : Int),
e = .returned (.tuple #[.int .u64 n_13,
Value.bool b_1,
Value.int .i64 n_14]) ∧
cnd (n_10 != 0) (R (.returned (.bool false)) w') (cnd (n != 0) (R (.returned (.bool false)) w') (cnd (rd'.tmod 32 != 5) (cnd (n_11 != bits BinOp.xor .u64 a' (IntKind.u64.wrap (IntKind.i64.wrap (i'.tmod 2048)))) (R (.returned (.bool false)) w') (cnd (n_11 != bits BinOp.xor .u64 n_13 (IntKind.u64.wrap (IntKind.i64.wrap (i'.tmod 2048)))) (R (.returned (.bool false)) w') (cnd (!b == (rd'.tmod 32 == 5)) (R (.returned (.bool false)) w') (Calls Tryz.prog 9 #[.pointer p] w' fun e w' =>
∃ (n : Int),
e = .returned (.int .i64 n) ∧
Calls Tryz.prog 10 #[.pointer p,
Value.int .i64 0] w' fun e w' =>
∃ (n_15 : Int) (b : Bool) (n_16 : Int),
e = .returned (.tuple #[.int .u64 n_15,
Value.bool b,
Value.int .i64 n_16]) ∧
cnd (n == 0) (cnd (n_15 == 0) (cnd (!b) (Calls Tryz.prog 14 #[] w' fun e w' =>
∃ (b : Bool),
e = .returned (.bool b) ∧
R (.returned (.bool b)) w') (R (.returned (.bool false)) w')) (R (.returned (.bool false)) w')) (R (.returned (.bool false)) w'))))) (cnd (n_11 != bits BinOp.xor .u64 n_13 (IntKind.u64.wrap (IntKind.i64.wrap (i'.tmod 2048)))) (R (.returned (.bool false)) w') (cnd (!b == (rd'.tmod 32 == 5)) (R (.returned (.bool false)) w') (Calls Tryz.prog 9 #[.pointer p] w' fun e w' =>
∃ (n : Int),
e = .returned (.int .i64 n) ∧
Calls Tryz.prog 10 #[.pointer p,
Value.int .i64 0] w' fun e w' =>
∃ (n_15 : Int) (b : Bool) (n_16 : Int),
e = .returned (.tuple #[.int .u64 n_15,
Value.bool b,
Value.int .i64 n_16]) ∧
cnd (n == 0) (cnd (n_15 == 0) (cnd (!b) (Calls Tryz.prog 14 #[] w' fun e w' =>
∃ (b : Bool),
e = .returned (.bool b) ∧
R (.returned (.bool b)) w') (R (.returned (.bool false)) w')) (R (.returned (.bool false)) w')) (R (.returned (.bool false)) w'))))))))))))))
theorem law05_CpuOps.vc_eq (fn' a' : Int) (b' rd' i' : Int) (w : World) (R : Ending → World → Prop) : fnV Tryz.prog law05_CpuOps.H 3 [.int .u8 fn', .int .u64 a', .int .u64 b', .int .u8 rd',
Value.int .i16 i'] w R = law05_CpuOps.vc fn' a' b' rd' i' w R := by kernel_rfl
theorem law05_CpuOps.calls {fn' a' : Int} {b' rd' i' : Int} {w : World} {R : Ending → World → Prop} (h : law05_CpuOps.vc fn' a' b' rd' i' w R) : Calls Tryz.prog 3 ([.int .u8 fn', .int .u64 a', .int .u64 b', .int .u8 rd',
Value.int .i16 i'] : List Value).toArray w R := calls_of_eq (law05_CpuOps.vc_eq fn' a' b' rd' i' w R) h

end Go.Proofs.YtcnnnlhoiodeaaaGreat

/-
CpuOps.
Conditions: each theorem's hypotheses.
-/
namespace Go.Proofs.YtcnnnlhoiodeaaaGreat
open Go Go.Vc Go.RowKit
set_option maxRecDepth 100000

theorem erow_of {α : Type} {T : ElT α} {w : World} {b : Nat} {l : List α} (h : Has w b (rowC T l)) : ERow T w (some ⟨b, 0, none⟩) l := by
  intro i m hi
  refine ⟨_, rfl, fun j v hv => ?_⟩
  have hj : j < T.sz := by rw [← T.len m]; exact (List.getElem?_eq_some_iff.1 hv).1
  rw [adr2]
  exact h.cell (by rw [rowC_get T l i j m hi hj]; exact hv)
theorem stepS_go {s : Cst} {w : Int} (ho : s.over = false) (ht : s.tr.length < 1048576) (hf : fetchM s.M s.pc = (w, 0)) (hd : decE w = 0) (he : (insS s w).2.2 = 0) : stepS s = ({ (insS s w).1 with tr := (insS s w).1.tr ++ [(insS s w).2.1] }, 0) := by
  unfold stepS
  rw [if_neg (by rw [ho]; decide), if_neg (by omega), hf]
  simp only
  rw [if_neg (by decide), if_neg (by rw [hd]; decide), if_neg (by rw [he]; decide)]
def opsF (op to v : Int) (i j : Nat) : Int := (([op, to, 5, 6, 0, 17, 7, 5, 0, v, 15, 0, 0, 0, 5] : List Int)[5 * i + j]?).getD 0
def opsU (op to v a b : Int) : Su := ⟨3, opsF op to v, [⟨5, a, false⟩, ⟨6, b, true⟩], []⟩
theorem ops_ok {op to v a b : Int} (ho : U8 op) (ht : U8 to) (hv : I64 v) (ha : U64 a) (hb : U64 b) : SuOk (opsU op to v a b) := by
  refine ⟨(by decide : 3 ≤ 200), fun i hi => ?_, (by decide : 2 ≤ 100), (by decide : 0 ≤ 600), fun k c h => ?_, fun k c h => by simp [opsU] at h⟩
  · have hi : i < 3 := hi
    have d : ∀ n : Int, 0 ≤ n ∧ n < 256 → U8 n := fun n h => h
    rcases i with _ | _ | _ | i
    · exact ⟨ho, ht, d 5 (by decide), d 6 (by decide), ⟨by show (-9223372036854775808 : Int) ≤ 0; decide, by show (0 : Int) < 9223372036854775808; decide⟩⟩
    · exact ⟨d 17 (by decide), d 7 (by decide), d 5 (by decide), d 0 (by decide), hv⟩
    · exact ⟨d 15 (by decide), d 0 (by decide), d 0 (by decide), d 0 (by decide), ⟨by show (-9223372036854775808 : Int) ≤ 5; decide, by show (5 : Int) < 9223372036854775808; decide⟩⟩
    · omega
  · rcases k with _ | _ | k
    · obtain rfl := Option.some.inj h; exact ⟨⟨(by decide : (0 : Int) ≤ 5), (by decide : (5 : Int) < 256)⟩, ha⟩
    · obtain rfl := Option.some.inj h; exact ⟨⟨(by decide : (0 : Int) ≤ 6), (by decide : (6 : Int) < 256)⟩, hb⟩
    · simp [opsU] at h
/-- The machine, step by step. -/
theorem ops_run {op to v a b : Int} (ho : 1 ≤ op ∧ op ≤ 14) (ht : 0 ≤ to ∧ to < 32) (hv : -2048 ≤ v ∧ v < 2048) (ha : U64 a) (hb : U64 b) :
    ∃ s1 s2 s3, stepS (initS (opsU op to v a b)) = (s1, 0) ∧ stepS s1 = (s2, 0) ∧ stepS s2 = (s3, 0) ∧ s1.pc = 4100 ∧
      s1.R to.toNat = (if to = 0 then 0 else opv op a b) ∧ s1.T to.toNat = decide (to ≠ 0) ∧ (to ≠ 5 → s1.R 5 = a) ∧ s2.R 7 = bits .xor .u64 (s2.R 5) (uw v) ∧ s2.R 5 = s1.R 5 ∧ s2.T 7 = decide (to = 5) ∧ s3.R 0 = 0 ∧ s3.T 0 = false := by
  have ok := ops_ok (op := op) (to := to) (v := v) (a := a) (b := b) ⟨by omega, by omega⟩ ⟨by omega, by omega⟩ ⟨by omega, by omega⟩ ha hb
  obtain ⟨w0, e0, d0, f00, f01, f02, f03, f04⟩ := chk_spec (o := op) (d := to) (a := 5) (b := 6) (v := 0) (by
    have h1 := List.all_eq_true.1 chk_alu (op - 1).toNat (List.mem_range.2 (by omega))
    have h2 := List.all_eq_true.1 h1 to.toNat (List.mem_range.2 (by omega))
    rw [show (((op - 1).toNat : Nat) : Int) + 1 = op by omega, show ((to.toNat : Nat) : Int) = to by omega] at h2
    exact h2)
  obtain ⟨w1, e1, d1, f10, f11, f12, f13, f14⟩ := xori_dec hv.1 hv.2
  obtain ⟨w2, e2, d2, f20, f21, f22, f23, f24⟩ := chk_spec chk_addi
  have M0 := fetch_code ok (j := 0) (show 0 < 3 by decide)
  have M1 := fetch_code ok (j := 1) (show 1 < 3 by decide)
  have M2 := fetch_code ok (j := 2) (show 2 < 3 by decide)
  rw [show codeI (opsU op to v a b).F 0 = w0 by unfold codeI; rw [show encF (opsU op to v a b).F 0 = encv op to 5 6 0 from rfl, e0]] at M0
  rw [show codeI (opsU op to v a b).F 1 = w1 by unfold codeI; rw [show encF (opsU op to v a b).F 1 = encv 17 7 5 0 v from rfl, e1]] at M1
  rw [show codeI (opsU op to v a b).F 2 = w2 by unfold codeI; rw [show encF (opsU op to v a b).F 2 = encv 15 0 0 0 5 from rfl, e2]] at M2
  generalize hM : memI (opsU op to v a b) 0 = M at M0 M1 M2
  have hs0 : initS (opsU op to v a b) = ⟨4096, upd (upd (fun _ => 0) 5 a) 6 b, upd (upd (fun _ => false) 5 false) 6 true, false, 0, 0, [], [], M⟩ := by rw [← hM]; rfl
  generalize initS (opsU op to v a b) = s0 at hs0
  have k1 : insS s0 w0 = (setS { s0 with pc := 4100 } to (opv op a b) true, if isDiv op = true then ⟨4096, 4, a, b, true⟩ else ⟨4096, 1, 0, 0, false⟩, 0) := by
    unfold insS doS
    rw [f00, f01, f02, f03, f04, if_pos ho.2, hs0]
    rfl
  have g1 := stepS_go (s := s0) (w := w0) (by rw [hs0]) (by rw [hs0]; exact (by decide : 0 < 1048576)) (by rw [hs0]; exact M0) d0 (by rw [k1])
  obtain ⟨q1, q2, q3, q4, q5, q6, q7⟩ := setS_M { s0 with pc := 4100 } to (opv op a b) true
  rw [k1] at g1
  generalize hs1 : ({ (setS { s0 with pc := 4100 } to (opv op a b) true) with tr := (setS { s0 with pc := 4100 } to (opv op a b) true).tr ++ [if isDiv op = true then ⟨4096, 4, a, b, true⟩ else ⟨4096, 1, 0, 0, false⟩] } : Cst) = s1 at g1
  have r1 : s1.R = (setS { s0 with pc := 4100 } to (opv op a b) true).R := by rw [← hs1]
  have t1 : s1.T = (setS { s0 with pc := 4100 } to (opv op a b) true).T := by rw [← hs1]
  have p1 : s1.pc = 4100 := by rw [← hs1]; exact q4
  have m1 : s1.M = M := by rw [← hs1]; show (setS _ _ _ _).M = M; rw [q1, hs0]
  have o1 : s1.over = false := by rw [← hs1]; show (setS _ _ _ _).over = false; rw [q6, hs0]
  have l1 : s1.tr.length = 1 := by rw [← hs1]; show ((setS _ _ _ _).tr ++ _).length = 1; rw [q2, hs0]; rfl
  clear hs1 k1
  have k2 : insS s1 w1 = (setS { s1 with pc := 4104 } 7 (bits .xor .u64 (s1.R 5) (uw v)) (s1.T 5), ⟨4100, 1, 0, 0, false⟩, 0) := by
    unfold insS doS
    rw [f10, f11, f12, f13, f14, if_neg (by decide), if_pos (by decide), p1]
    rfl
  have g2 := stepS_go (s := s1) (w := w1) o1 (by rw [l1]; decide) (by rw [m1, p1]; exact M1) d1 (by rw [k2])
  rw [k2] at g2
  obtain ⟨u1, u2, u3, u4, u5, u6, u7⟩ := setS_M { s1 with pc := 4104 } 7 (bits .xor .u64 (s1.R 5) (uw v)) (s1.T 5)
  generalize hs2 : ({ (setS { s1 with pc := 4104 } 7 (bits .xor .u64 (s1.R 5) (uw v)) (s1.T 5)) with tr := (setS { s1 with pc := 4104 } 7 (bits .xor .u64 (s1.R 5) (uw v)) (s1.T 5)).tr ++ [⟨4100, 1, 0, 0, false⟩] } : Cst) = s2 at g2
  have r2 : s2.R = upd s1.R 7 (bits .xor .u64 (s1.R 5) (uw v)) := by rw [← hs2]; rfl
  have t2 : s2.T = upd s1.T 7 (s1.T 5) := by rw [← hs2]; rfl
  have p2 : s2.pc = 4104 := by rw [← hs2]; exact u4
  have m2 : s2.M = M := by rw [← hs2]; show (setS _ _ _ _).M = M; rw [u1]; exact m1
  have o2 : s2.over = false := by rw [← hs2]; show (setS _ _ _ _).over = false; rw [u6]; exact o1
  have l2 : s2.tr.length = 2 := by rw [← hs2]; show ((setS _ _ _ _).tr ++ _).length = 2; rw [u2, List.length_append]; show s1.tr.length + 1 = 2; rw [l1]
  clear hs2 k2
  have k3 : insS s2 w2 = ({ s2 with pc := 4108 }, ⟨4104, 1, 0, 0, false⟩, 0) := by
    unfold insS doS
    rw [f20, f21, f22, f23, f24, if_neg (by decide), if_pos (by decide), p2]
    rfl
  have g3 := stepS_go (s := s2) (w := w2) o2 (by rw [l2]; decide) (by rw [m2, p2]; exact M2) d2 (by rw [k3])
  rw [k3] at g3
  refine ⟨s1, s2, _, g1, g2, g3, p1, ?_, ?_, ?_, ?_, ?_, ?_, ?_, ?_⟩
  · rw [r1]; unfold setS
    by_cases h0 : to > 0
    · rw [if_pos h0, if_neg (by omega)]; exact upd_same _ _ _
    · obtain rfl : to = 0 := by omega
      rw [if_neg h0, if_pos rfl]
      show s0.R 0 = 0
      rw [hs0]; rfl
  · rw [t1]; unfold setS
    by_cases h0 : to > 0
    · rw [if_pos h0, decide_eq_true (by omega)]; exact upd_same _ _ _
    · obtain rfl : to = 0 := by omega
      rw [if_neg h0]
      show s0.T 0 = _
      rw [hs0]; rfl
  · intro h5
    rw [r1]; unfold setS
    by_cases h0 : to > 0
    · rw [if_pos h0]
      show upd s0.R to.toNat _ 5 = a
      rw [upd_other _ _ (by omega), hs0]; rfl
    · rw [if_neg h0]
      show s0.R 5 = a
      rw [hs0]; rfl
  · rw [r2, upd_same, upd_other _ _ (by decide)]
  · rw [r2, upd_other _ _ (by decide)]
  · rw [t2, upd_same, t1]; unfold setS
    by_cases h0 : to > 0
    · rw [if_pos h0]
      show upd s0.T to.toNat true 5 = _
      by_cases h5 : to = 5
      · subst h5; exact upd_same _ _ _
      · rw [upd_other _ _ (by omega), decide_eq_false h5, hs0]; rfl
    · rw [if_neg h0, decide_eq_false (by omega)]
      show s0.T 5 = _
      rw [hs0]; rfl
  · show s2.R 0 = 0
    rw [r2, upd_other _ _ (by decide), r1]; unfold setS
    split
    · show upd s0.R to.toNat _ 0 = 0
      rw [upd_other _ _ (by omega), hs0]; rfl
    · show s0.R 0 = 0
      rw [hs0]; rfl
  · show s2.T 0 = false
    rw [t2, upd_other _ _ (by decide), t1]; unfold setS
    split
    · show upd s0.T to.toNat _ 0 = false
      rw [upd_other _ _ (by omega), hs0]; rfl
    · show s0.T 0 = false
      rw [hs0]; rfl
end Go.Proofs.YtcnnnlhoiodeaaaGreat

/-
CpuOps, the walk.
Conditions: each theorem's hypotheses.
-/
namespace Go.Proofs.YtcnnnlhoiodeaaaGreat
open Go Go.Vc Go.RowKit
set_option maxRecDepth 100000

set_option maxHeartbeats 6400000 in
theorem law05_CpuOps_ok {fn a b rd i : Int} (hfn : 0 ≤ fn ∧ fn < 256) (ha : U64 a) (hb : U64 b) (hrd : 0 ≤ rd ∧ rd < 256) (hi : -32768 ≤ i ∧ i < 32768) (w : World) :
    Calls Tryz.prog law05_CpuOps.N #[u8v fn, u64v a, u64v b, u8v rd, .int .i16 i] w (Gives (.bool true) w) := by
  refine law05_CpuOps.calls ?_
  unfold law05_CpuOps.vc
  have fin : ∀ W : World, Later w W → Calls Tryz.prog law05_alive.N #[] W fun e w' => ∃ b, e = .returned (.bool b) ∧ Gives (.bool true) w (.returned (.bool b)) w' := fun W l => (law05_alive_ok W).mono fun e w'' ⟨he, l'⟩ => ⟨_, he, rfl, l.trans l'⟩
  have bop : 1 ≤ IntKind.u8.wrap (1 + fn.tmod 14) ∧ IntKind.u8.wrap (1 + fn.tmod 14) ≤ 14 := by
    rw [Int.tmod_eq_emod_of_nonneg hfn.1, wrap_u8]; omega
  have bto : 0 ≤ rd.tmod 32 ∧ rd.tmod 32 < 32 := by
    rw [Int.tmod_eq_emod_of_nonneg hrd.1]; omega
  have bv : -2048 ≤ IntKind.i64.wrap (i.tmod 2048) ∧ IntKind.i64.wrap (i.tmod 2048) < 2048 := by
    have h1 : i.tmod 2048 < 2048 := Int.tmod_lt_of_pos _ (by decide)
    have h2 : -2048 < i.tmod 2048 := by
      have := Int.lt_tmod_of_pos i (show (0 : Int) < 2048 by decide)
      omega
    rw [i64_in (by omega) (by omega)]
    omega
  generalize IntKind.u8.wrap (1 + fn.tmod 14) = op at bop
  generalize rd.tmod 32 = to at bto
  generalize IntKind.i64.wrap (i.tmod 2048) = v at bv
  intro w1 e1 w2 e2 w3 e3
  have T := (((Trk.start w).alloc e1).alloc e2).alloc e3
  refine T.setAll 2 rfl (by rfl) (ones rfl) fun w4 T4 => ?_
  have q1 : w1.heap.size = w.heap.size + 1 := by rw [e1]; exact Array.size_push ..
  have q2 : w2.heap.size = w1.heap.size + 1 := by rw [e2]; exact Array.size_push ..
  clear e1 e2 e3
  rw [i64_in (x := to) (by omega) (by omega)]
  obtain ⟨s1, s2, s3, g1, g2, g3, p1, r1, t1, r5, r7, r75, t7, r0, t0⟩ := ops_run bop bto bv ha hb
  have ok := ops_ok (op := op) (to := to) (v := v) (a := a) (b := b) ⟨by omega, by omega⟩ ⟨by omega, by omega⟩ ⟨by omega, by omega⟩ ha hb
  have hcode := T4.has 0 rfl
  have hregs := T4.has 1 rfl
  have hrow : IntRow w4 (some ⟨w.heap.size, 0, none⟩) 3 insK (opsF op to v) := by
    refine introw_of hcode fun i hi j k hk => ?_
    have hj : j < 5 := (List.getElem?_eq_some_iff.1 hk).1
    have u8k : ∀ n : Int, 0 ≤ n ∧ n < 256 → (Lit.int .u8 n).wf = true := fun n h => by
      simp only [Lit.wf, Bool.and_eq_true, decide_eq_true_eq]
      exact ⟨h.1, by show n ≤ 255; omega⟩
    have i64k : ∀ n : Int, I64 n → (Lit.int .i64 n).wf = true := fun n h => by
      simp only [Lit.wf, Bool.and_eq_true, decide_eq_true_eq]
      exact ⟨h.1, by show n ≤ 9223372036854775807; have := h.2; omega⟩
    refine ⟨?_, ?_⟩
    · rcases i with _ | _ | _ | i <;> first | omega | (rcases j with _ | _ | _ | _ | _ | j <;> first | omega | (cases hk; rfl))
    · have f := ok.F i hi
      rcases j with _ | _ | _ | _ | _ | j
      · cases hk; exact u8k _ f.1
      · cases hk; exact u8k _ f.2.1
      · cases hk; exact u8k _ f.2.2.1
      · cases hk; exact u8k _ f.2.2.2.1
      · cases hk; exact i64k _ f.2.2.2.2
      · omega
  refine ⟨_, _, _, _, _, _, _, _, _, ⟨T4.cell 2 rfl rfl, T4.cell 2 rfl rfl, T4.cell 2 rfl rfl, trivial⟩, ?_⟩
  refine (law05_Built_ok (u := opsU op to v a b) ok ⟨hrow, erow_of (T := cellT) (l := [⟨5, a, false⟩, ⟨6, b, true⟩]) hregs, ERow.nil _ _⟩).mono fun e w5 ⟨x, mb, S, he, l5, c5, n5⟩ => ⟨_, _, he, _, ptr_nil (by kernel_rfl) _ _ _, cnd_false rfl ?_⟩
  have k0 := init_keeps (opsU op to v a b)
  have k1 : s1.told.length ≤ s1.tr.length := by have := (stepS_keeps k0).1; rw [g1] at this; exact this
  have k2 : s2.told.length ≤ s2.tr.length := by have := (stepS_keeps k1).1; rw [g2] at this; exact this
  let K : World → Cst → Prop := fun W s => ∃ S, CA (mProg mb) w4 W S x s ∧ Trk w W [(w.heap.size, [u8v op, u8v to, u8v 5, u8v 6, i64v 0, u8v 17, u8v 7, u8v 5, u8v 0, i64v v, u8v 15, u8v 0, u8v 0, u8v 0, i64v 5]), (w2.heap.size, [.slice (some ⟨w.heap.size, 0, none⟩) 3 3, .slice (some ⟨w1.heap.size, 0, none⟩) 2 2, .slice none 0 0])]
  have T5 := T4.later l5
  have hK5 : K w5 (initS (opsU op to v a b)) := ⟨S, c5, T5.to, fun y hy => by
    simp only [List.mem_cons, List.not_mem_nil, or_false] at hy
    rcases hy with rfl | rfl
    · exact T5.2.1 _ (List.mem_of_getElem? (i := 0) rfl)
    · exact T5.2.1 _ (List.mem_of_getElem? (i := 2) rfl), by
    show (List.map Prod.fst _).Nodup
    simp only [List.map_cons, List.map_nil, List.nodup_cons, List.mem_cons, List.not_mem_nil, or_false, List.nodup_nil, and_true, not_false_eq_true]
    omega⟩
  have kL : ∀ {W W' : World} {s : Cst}, K W s → Later W W' → K W' s := fun ⟨S, h1, h2⟩ l => ⟨S, h1.later l, h2.later l⟩
  have kS : ∀ {W : World} {s t : Cst}, K W s → s.told.length ≤ s.tr.length → stepS s = (t, 0) → Calls Tryz.prog sacristy_cpu_Cpu_Step.N #[.pointer (some ⟨x, 0, none⟩)] W fun e W' => e = .returned (i64v 0) ∧ K W' t := fun {W s t} ⟨S, h1, h2⟩ hk hg => by
    refine (cpu_Step_ok h1 hk).mono fun e W' ⟨he, hb, S', hgr, hc⟩ => ?_
    rw [hg] at he hc
    refine ⟨he, S', hc, hb.later h2.to fun k hk => Nat.le_trans (Later.size T4.to) (h1.new k hk).1, fun y hy => ?_, h2.2.2⟩
    obtain ⟨y1, y2⟩ := h2.2.1 y hy
    refine ⟨y1, hb.has y2 fun hS => ?_⟩
    have := (h1.new _ hS).1
    simp only [List.mem_cons, List.not_mem_nil, or_false] at hy
    rcases hy with rfl | rfl
    · exact absurd (T4.has 0 rfl).lt (Nat.not_lt.2 this)
    · exact absurd (T4.has 2 rfl).lt (Nat.not_lt.2 this)
  have kR : ∀ {W : World} {s : Cst}, K W s → ∀ i : Int, 0 ≤ i → i < 32 → Calls Tryz.prog sacristy_cpu_Cpu_Reg.N #[.pointer (some ⟨x, 0, none⟩), i64v i] W (Gives (.tuple #[u64v (s.R i.toNat), .bool (s.T i.toNat), i64v 0]) W) := fun {W s} ⟨S, h1, h2⟩ i h0 h3 => by
    have := cpu_Reg_ok h1 i
    unfold regV5 at this
    rwa [if_pos ⟨h0, h3⟩] at this
  have kP : ∀ {W : World} {s : Cst}, K W s → Calls Tryz.prog sacristy_cpu_Cpu_Pc.N #[.pointer (some ⟨x, 0, none⟩)] W (Gives (u64v s.pc) W) := fun ⟨S, h1, h2⟩ => cpu_Pc_ok h1
  have kT : ∀ {W : World} {s : Cst}, K W s → Trk w W [(w.heap.size, [u8v op, u8v to, u8v 5, u8v 6, i64v 0, u8v 17, u8v 7, u8v 5, u8v 0, i64v v, u8v 15, u8v 0, u8v 0, u8v 0, i64v 5]), (w2.heap.size, [.slice (some ⟨w.heap.size, 0, none⟩) 3 3, .slice (some ⟨w1.heap.size, 0, none⟩) 2 2, .slice none 0 0])] := fun ⟨S, h1, h2⟩ => h2
  clear_value K
  refine (kS hK5 k0 g1).mono fun e w6 ⟨he, K6⟩ => ⟨_, he, cnd_false (by decide) ?_⟩
  refine (kR K6 to bto.1 bto.2).mono fun e w7 ⟨he, l7⟩ => ⟨_, _, _, he, ?_⟩
  refine (word_Op_ok op a b (by omega) (by omega) ha.1 ha.2 hb.1 hb.2 w7).mono fun e w8 ⟨he, l8⟩ => ⟨_, _, he, ?_⟩
  have K8 := kL (kL K6 l7) l8
  have hope : ope op = 0 := by unfold ope; rw [if_pos bop]
  obtain ⟨we, xe, xd⟩ := xori_dec bv.1 bv.2
  have ht1 : (!(s1.T to.toNat) == (to != 0)) = false := by
    rw [t1]
    by_cases h : to = 0 <;> simp [h]
  have ht7 : (!(s2.T 7) == (to == 5)) = false := by
    rw [t7]
    by_cases h : to = 5 <;> simp [h]
  refine cnd_of (fun h => cnd_false (by rw [r1, if_pos (by simpa using h)]; decide) ?_) fun h => cnd_false (by rw [r1, if_neg (by simpa using h)]; simp) ?_
  all_goals
    refine cnd_false ht1 (cnd_false (by decide) (cnd_false (by rw [hope]; decide) ?_))
    refine (kP K8).mono fun e w9 ⟨he, l9⟩ => ⟨_, he, cnd_false (by rw [p1]; decide) ?_⟩
    have K9 := kL K8 l9
    have T9 := kT K9
    have hc9 := T9.has 0 rfl
    refine ⟨_, _, _, T9.cell 1 rfl rfl, ⟨(by decide : (0 : Int) ≤ 1), by decide⟩, Deref_some rfl ⟨_, _, _, _, _, ⟨hat hc9 (j := 5) rfl, hat2 hc9 (i := 5) (j := 1) rfl, hat2 hc9 (i := 5) (j := 2) rfl, hat2 hc9 (i := 5) (j := 3) rfl, hat2 hc9 (i := 5) (j := 4) rfl, trivial⟩, ?_⟩⟩
    refine (insn_Encode_ok 17 7 5 0 v ⟨by decide, by decide⟩ ⟨by decide, by decide⟩ ⟨by decide, by decide⟩ ⟨by decide, by decide⟩ ⟨by omega, by omega⟩ w9).mono fun e w10 ⟨he, l10⟩ => ?_
    rw [xe] at he
    refine ⟨_, _, he, ?_⟩
    refine (kS (kL K9 l10) k1 g2).mono fun e w11 ⟨he, K11⟩ => ⟨_, he, ?_⟩
    refine (kR K11 7 (by decide) (by decide)).mono fun e w12 ⟨he, l12⟩ => ⟨_, _, _, he, ?_⟩
    have K12 := kL K11 l12
    refine (kR K12 5 (by decide) (by decide)).mono fun e w13 ⟨he, l13⟩ => ⟨_, _, _, he, ?_⟩
    have K13 := kL K12 l13
    have hx : (s2.R (Int.toNat 7) != bits .xor .u64 (s2.R (Int.toNat 5)) (IntKind.u64.wrap v)) = false := by
      rw [show s2.R (Int.toNat 7) = _ from r7]
      exact bne_self_eq_false _
    refine cnd_false (by decide) (cnd_false (by decide) (cnd_of (fun h5 => cnd_false ?_ ?_) fun h5 => ?_))
    · rw [show s2.R (Int.toNat 7) = _ from r7, r75, r5 (by simpa using h5)]
      exact bne_self_eq_false _
    all_goals
      refine cnd_false hx (cnd_false ht7 ?_)
      refine (kS K13 k2 g3).mono fun e w14 ⟨he, K14⟩ => ⟨_, he, ?_⟩
      refine (kR K14 0 (by decide) (by decide)).mono fun e w15 ⟨he, l15⟩ => ⟨_, _, _, he, ?_⟩
      exact cnd_true (by decide) (cnd_true (by rw [show s3.R (Int.toNat 0) = 0 from r0]; decide) (cnd_true (by rw [show s3.T (Int.toNat 0) = false from t0]; decide) (fin _ (kT (kL K14 l15)).to)))
end Go.Proofs.YtcnnnlhoiodeaaaGreat

/-
A setup that is handed in.
Conditions: each theorem's hypotheses.
-/
namespace Go.Proofs.YtcnnnlhoiodeaaaGreat
open Go Go.Vc Go.RowKit Go.ChangeShapes Go.WideShapes
set_option maxRecDepth 100000

theorem wf_i16 {n : Int} (h : (Lit.int .i16 n).wf = true) : -32768 ≤ n ∧ n < 32768 := by
  have := wf_bound h
  rw [show IntKind.i16.min = -32768 from rfl, show IntKind.i16.max = 32767 from rfl] at this
  omega
section
variable {H : Type} {enc : TypeId × Value → H} {w : World} {base : Nat} {spare : Nat → Bool} {held : Bool} {P : Program}
instance : Inhabited Cl := ⟨⟨0, 0, false⟩⟩
end
end Go.Proofs.YtcnnnlhoiodeaaaGreat
