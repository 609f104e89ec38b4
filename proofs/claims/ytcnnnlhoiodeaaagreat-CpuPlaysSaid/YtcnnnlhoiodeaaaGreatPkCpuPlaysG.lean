/-
Texts of this claim, merged: Ref5C, Ref5D, Law5B, Law5C, Vcpuc, VcEq, Law5D, Law5E, Law5F, Law5G, Vlaw05p, Law5H, VcRead, Law5R.
Conditions: each theorem's own.
-/
import Derived.Test.YtcnnnlhoiodeaaaGreatPkCpuPlaysF
import Derived.Test.YtcnnnlhoiodeaaaGreatProg
import Derived.Laws.StructEq
set_option linter.unusedSimpArgs false
set_option linter.unnecessarySimpa false
set_option linter.unusedVariables false
set_option linter.unusedSectionVars false

/-
The document's machine, third part: what it asks for, any instruction, a step.
Conditions: each theorem's hypotheses.
-/
namespace Go.Proofs.YtcnnnlhoiodeaaaGreat
open Go Go.Vc Go.RowKit
set_option maxRecDepth 100000
variable {m0 : Nat}

theorem doS_call {s : Cst} {o d v pc ra : Int} {ta : Bool} {rb : Int} {tb : Bool} (ho : 34 ≤ o) : doS s o d v pc ra ta rb tb = if s.R 17 > 5 then (s, ⟨pc, 5, s.R 17, 0, s.T 17⟩, 51)
      else if s.R 17 = 4 then ({ s with told := s.told ++ [(s.R 10, s.T 10)], T := upd s.T 10 false }, ⟨pc, 5, s.R 17, 0, s.T 17⟩, 0)
      else if s.R 17 < 4 then ({ s with over := true, code := IntKind.u8.wrap (s.R 17), pc := pc }, ⟨pc, 5, s.R 17, 0, s.T 17⟩, 0)
      else (s, ⟨pc, 5, s.R 17, 0, s.T 17⟩, 0) := by
  unfold doS
  rw [if_neg (by omega), if_neg (by omega), if_neg (by omega), if_neg (by omega), if_neg (by omega), if_neg (by omega), if_neg (by omega), if_neg (by omega)]
theorem uw_back {pc : Int} (h : U64 pc) : uw (uw (pc + 4) - 4) = pc := by
  obtain ⟨h1, h2⟩ := h
  rw [uw_eq, uw_eq]
  omega
set_option maxHeartbeats 6400000 in
theorem ref_call_ok {w0 w : World} {S : Nat → Prop} {cb : Nat} {s : Cst} (h : CA (mRef m0) w0 w S cb s) {o d v pc ra rb' : Int} {ta tb : Bool} (ho : 34 ≤ o) (hpc : U64 pc) (hsp : s.pc = uw (pc + 4)) (htl : s.told.length ≤ s.tr.length) :
    Calls Tryz.prog sacristy_ref05_Cpu_call.N #[.pointer (some ⟨cb, 0, none⟩), snV ⟨pc, 1, 0, 0, false⟩] w (RQ m0 w0 w S cb s (doS s o d v pc ra ta rb' tb) (.tuple #[snV (doS s o d v pc ra ta rb' tb).2.1, i64v (doS s o d v pc ra ta rb' tb).2.2])) := by
  have hC := h
  rw [doS_call ho]
  obtain ⟨a, b, mb, pt, pr, ct, cr, cs, hx⟩ := h
  refine sacristy_ref05_Cpu_call.calls ?_
  unfold sacristy_ref05_Cpu_call.vc
  intro w1 e1 w2 e2
  have T := ((Trk.start w).alloc e1).alloc e2
  have s1 : w1.heap.size = w.heap.size + 1 := by rw [e1]; exact Array.size_push ..
  have ncb := hx.lt
  have ltS : ∀ k, S k → k < w.heap.size := fun k hk => (hx.new k hk).2
  refine T.set1 0 rfl (by simp) fun w3 T3 => Deref_some rfl ⟨⟨(by decide : (0 : Int) ≤ 17), (by decide : (17 : Int) < 32)⟩, _, hat2 (hx.later T3.to).has (hx.cc.rv 17 (by decide)), ?_⟩
  refine T3.set1 0 rfl (by simp) fun w4 T4 => Deref_some rfl ⟨⟨(by decide : (0 : Int) ≤ 17), (by decide : (17 : Int) < 32)⟩, _, hat2 (hx.later T4.to).has (hx.cc.rt 17 (by decide)), ?_⟩
  refine T4.set1 0 rfl (by simp) fun w5 T5 => ⟨_, T5.cell 0 rfl rfl, ?_⟩
  have S5 : Has w5 w.heap.size (snC ⟨pc, 5, s.R 17, 0, s.T 17⟩) := T5.has 0 rfl
  have R5 : Has w5 w1.heap.size [u64v 0, u8v 0, u64v 0, u64v 0, .bool false] := T5.has 1 rfl
  have hx5 := hx.later T5.to
  have b5 : But S w w5 := T5.to.but _
  refine cnd_of (fun q => ?_) fun q => ?_
  · have q := of_decide_eq_true q
    rw [if_pos q]
    refine ret_sn S5 R5 rfl fun w6 b6 h6 => ⟨rfl, b5.step b6 fun k hk hk2 => by omega, .inr ⟨(by decide : (51 : Int) ≠ 0), ?_⟩⟩
    exact (hC.later T5.to).but b6 fun k hk e => by have := ltS k hk; omega
  have q := of_decide_eq_false q
  rw [if_neg q]
  refine ⟨_, S5.cell rfl, cnd_of (fun q4 => ?_) fun q4 => ?_⟩
  · have q4 : s.R 17 = 4 := eq_of_beq q4
    rw [if_pos q4]
    refine ⟨fun w' => Has w' cb cs, fun w' l => hx5.has.later l, fun w6 l6 => Deref_some rfl ⟨_, _, _, fun w' h' => hat h' hx5.cc.tl, Deref_some rfl ⟨⟨(by decide : (0 : Int) ≤ 10), (by decide : (10 : Int) < 32)⟩, _, fun w' h' => hat2 h' (hx5.cc.rv 10 (by decide)), Deref_some rfl ⟨⟨(by decide : (0 : Int) ≤ 10), (by decide : (10 : Int) < 32)⟩, _, fun w' h' => hat2 h' (hx5.cc.rt 10 (by decide)), fun w7 e7 => ?_⟩⟩⟩⟩
    have hx6 := hx5.later l6
    have l7 : Later w6 w7 := e7 ▸ Later.alloc' w6 _
    refine ⟨hx6.has.later l7, ?_⟩
    have htr := hx.ok.tr
    refine OwnE.pushG (T := talT) 52 talRow (s.R 10, s.T 10) hx6.told (by have := hx6.new cb hx6.scb; omega) (by simp only [maxLen]; omega) (by omega) e7 rfl fun p c w8 ho8 hb8 hnw => ?_
    have h8 : Has w8 cb cs := hb8.has hx6.has fun e => (hx6.npt _ e).2 rfl
    have nold : ∀ k, w.heap.size ≤ k → ¬ rowB pt = some k := fun k hk e => by have := ltS k (hx.spt k e); omega
    have S8 := hb8.has (S5.later l6) (nold _ (Nat.le_refl _))
    have R8 := hb8.has (R5.later l6) (nold _ (by omega))
    refine ⟨_, _, _, rfl, h8, Deref_some rfl ⟨⟨?_, ?_⟩, fun w9 e9 => ?_⟩⟩
    · rw [adr1, h8.cell hx6.cc.tl]; rfl
    · rw [adr1]; exact h8.frozen 69
    rw [adr1] at e9
    obtain ⟨h9, b9⟩ := hx6.toldPush hb8 ho8 hnw e9 htl
    have S9 : Has w9 w.heap.size _ := e9 ▸ S8.set_other (show w.heap.size ≠ cb by omega) 69 _
    have R9 : Has w9 w1.heap.size _ := e9 ▸ R8.set_other (show w1.heap.size ≠ cb by omega) 69 _
    refine Deref_some rfl ⟨⟨(by decide : (0 : Int) ≤ 10), (by decide : (10 : Int) < 32)⟩, ?_⟩
    refine h9.put (i := 44) (adr2 _ _ _) (by decide) (h9.cc.setTt (d := 10) (by decide) false) rfl rfl rfl ⟨h9.ok.pc, h9.ok.R, h9.ok.code, h9.ok.told, h9.ok.tr, h9.ok.ne, h9.ok.M⟩ fun w10 b10 h10 => ?_
    have S10 := b10.has S9 (show w.heap.size ≠ cb by omega)
    have R10 := b10.has R9 (show w1.heap.size ≠ cb by omega)
    refine ⟨_, S10.cell rfl, cnd_false (decide_eq_false (show ¬ (s.R 17 < 4) by omega)) ?_⟩
    refine ret_sn S10 R10 rfl fun w11 b11 h11 => ⟨rfl, ?_, .inl ⟨rfl, fun k => S k ∨ rowB p = some k, fun k hk => ?_, ?_⟩⟩
    · exact (((b5.trans (l6.but _)).trans b9).trans (b10.wide fun k _ hk => hk ▸ hx.scb)).step b11 fun k hk hk2 => by omega
    · rcases hk with hk | hk
      · exact .inl hk
      · by_cases hlt : k < w.heap.size
        · have hlt6 : k < w6.heap.size := Nat.lt_of_lt_of_le hlt (b5.trans (l6.but _)).size
          have : rowB pt = some k := Classical.byContradiction fun hne => hnw k hlt6 hne hk
          exact .inl (hx.spt k this)
        · exact .inr (by omega)
    · refine ⟨_, _, _, _, _, _, _, _, h10.but b11 ?_⟩
      rintro k (hk | hk) (e : k = w1.heap.size)
      · have := ltS k hk; omega
      · have hlt6 : k < w6.heap.size := by rw [e]; exact Nat.lt_of_lt_of_le R5.lt l6.size
        exact hnw k hlt6 (nold k (by omega)) hk
  have q4 : s.R 17 ≠ 4 := beq_eq_false_iff_ne.1 q4
  rw [if_neg q4]
  refine ⟨_, S5.cell rfl, cnd_of (fun q3 => ?_) fun q3 => ?_⟩
  · have q3 := of_decide_eq_true q3
    rw [if_pos q3]
    refine Deref_some rfl ?_
    refine hx5.put (adr1 _ _) (by decide) (hx5.cc.setOv true) rfl rfl rfl ⟨hx5.ok.pc, hx5.ok.R, hx5.ok.code, hx5.ok.told, hx5.ok.tr, hx5.ok.ne, hx5.ok.M⟩ fun w6 b6 hx6 => ⟨_, (b6.has S5 (by omega)).cell rfl, Deref_some rfl ?_⟩
    refine hx6.put (adr1 _ _) (by decide) (hx6.cc.setCd (IntKind.u8.wrap (s.R 17))) rfl rfl rfl ⟨hx6.ok.pc, hx6.ok.R, u8wr _, hx6.ok.told, hx6.ok.tr, hx6.ok.ne, hx6.ok.M⟩ fun w7 b7 hx7 => Deref_some rfl ⟨s.pc, hat hx7.has hx7.cc.pc, Deref_some rfl ?_⟩
    have epc : IntKind.u64.wrap (s.pc - 4) = pc := by
      rw [hsp]; exact uw_back hpc
    rw [epc]
    refine hx7.put (adr1 _ _) (by decide) (hx7.cc.setPc pc) rfl rfl rfl ⟨hpc, hx7.ok.R, hx7.ok.code, hx7.ok.told, hx7.ok.tr, hx7.ok.ne, hx7.ok.M⟩ fun w8 b8 hx8 => ?_
    have b58 := (b6.trans b7).trans b8
    refine ret_sn (b58.has S5 (by omega)) (b58.has R5 (by omega)) rfl fun w9 b9 h9 => ?_
    refine rq_ok ((b5.trans (b58.wide fun k _ hk => hk ▸ hx.scb)).step b9 fun k hk hk2 => by omega) ⟨_, _, _, _, _, _, _, _, hx8.but b9 fun k hk e => by have := ltS k hk; omega⟩ rfl rfl
  · have q3 := of_decide_eq_false q3
    rw [if_neg q3]
    refine ret_sn S5 R5 rfl fun w9 b9 h9 => rq_ok (b5.step b9 fun k hk hk2 => by omega) ((hC.later T5.to).but b9 fun k hk e => by have := ltS k hk; omega) rfl rfl
theorem doS_rest {s : Cst} {o d v pc ra : Int} {ta : Bool} {rb : Int} {tb : Bool} : (o = 23 → doS s o d v pc ra ta rb tb = (setS s d (uw v) false, ⟨pc, 1, 0, 0, false⟩, 0)) ∧
    (28 ≤ o → o ≤ 31 → doS s o d v pc ra ta rb tb = (if goesS o ra rb = true then { s with pc := uw (pc + uw v) } else s, ⟨pc, 1, 0, 0, ta || tb⟩, 0)) ∧
    (o = 32 → doS s o d v pc ra ta rb tb = ({ setS s d (uw (pc + 4)) false with pc := uw (pc + uw v) }, ⟨pc, 1, 0, 0, false⟩, 0)) ∧
    (o = 33 → doS s o d v pc ra ta rb tb = ({ setS s d (uw (pc + 4)) false with pc := clr (uw (ra + uw v)) }, ⟨pc, 1, 0, 0, ta⟩, 0)) := by
  refine ⟨fun h => ?_, fun h1 h2 => ?_, fun h => ?_, fun h => ?_⟩
  · unfold doS
    rw [if_neg (by omega), if_neg (by omega), if_pos (by omega)]
  · unfold doS
    rw [if_neg (by omega), if_neg (by omega), if_neg (by omega), if_neg (by omega), if_neg (by omega), if_pos (by omega)]
  · unfold doS
    rw [if_neg (by omega), if_neg (by omega), if_neg (by omega), if_neg (by omega), if_neg (by omega), if_neg (by omega), if_pos (by omega)]
  · unfold doS
    rw [if_neg (by omega), if_neg (by omega), if_neg (by omega), if_neg (by omega), if_neg (by omega), if_neg (by omega), if_neg (by omega), if_pos (by omega)]
theorem rq_step {w0 w w1 w' w'' : World} {S : Nat → Prop} {cb rb : Nat} {s : Cst} {r : Cst × Sn × Int} {v v2 : Value} {e : Ending} (hb : But S w w1) (h : RQ m0 w0 w1 S cb s r v e w') (h2 : But (fun k => k = rb) w' w'') (hS : ∀ k, S k → k < w.heap.size) (hr : w.heap.size ≤ rb) (hr1 : rb < w1.heap.size) : RQ m0 w0 w S cb s r v2 (.returned v2) w'' := by
  obtain ⟨_, h3, h4⟩ := h
  refine ⟨rfl, (hb.step h3 fun k _ hk => hk).step h2 fun k hk hk2 => by omega, ?_⟩
  rcases h4 with ⟨q, S', g, c⟩ | ⟨q, c⟩
  · refine .inl ⟨q, S', fun k hk => ?_, c.but h2 fun k hk e => ?_⟩
    · rcases g k hk with g | g
      · exact .inl g
      · exact .inr (Nat.le_trans hb.size g)
    · rcases g k hk with g | g
      · have := hS k g; omega
      · omega
  · exact .inr ⟨q, c.but h2 fun k hk e => by have := hS k hk; omega⟩
set_option maxHeartbeats 6400000 in
theorem ref_does_ok {w0 w : World} {S : Nat → Prop} {cb : Nat} {s : Cst} (h : CA (mRef m0) w0 w S cb s) {o d ra' rb' v pc : Int} (ho : 1 ≤ o ∧ o ≤ 34) (hd : 0 ≤ d ∧ d < 32) (ha : 0 ≤ ra' ∧ ra' < 32) (hb : 0 ≤ rb' ∧ rb' < 32) (hpc : U64 pc) (hsp : s.pc = uw (pc + 4)) (htl : s.told.length ≤ s.tr.length) :
    Calls Tryz.prog sacristy_ref05_Cpu_does.N #[.pointer (some ⟨cb, 0, none⟩), .agg #[u8v o, u8v d, u8v ra', u8v rb', i64v v], snV ⟨pc, 1, 0, 0, false⟩] w
      (RQ m0 w0 w S cb s (doS s o d v pc (s.R ra'.toNat) (s.T ra'.toNat) (s.R rb'.toNat) (s.T rb'.toNat)) (.tuple #[snV (doS s o d v pc (s.R ra'.toNat) (s.T ra'.toNat) (s.R rb'.toNat) (s.T rb'.toNat)).2.1, i64v (doS s o d v pc (s.R ra'.toNat) (s.T ra'.toNat) (s.R rb'.toNat) (s.T rb'.toNat)).2.2])) := by
  have hC := h
  obtain ⟨dr1, dr2, dr3, dr4⟩ := doS_rest (s := s) (o := o) (d := d) (v := v) (pc := pc) (ra := s.R ra'.toNat) (ta := s.T ra'.toNat) (rb := s.R rb'.toNat) (tb := s.T rb'.toNat)
  obtain ⟨a, b, mb, pt, pr, ct, cr, cs, hx⟩ := h
  refine sacristy_ref05_Cpu_does.calls ?_
  unfold sacristy_ref05_Cpu_does.vc
  intro w1 e1 w2 e2 w3 e3
  have T := (((Trk.start w).alloc e1).alloc e2).alloc e3
  have s1 : w1.heap.size = w.heap.size + 1 := by rw [e1]; exact Array.size_push ..
  have s2 : w2.heap.size = w1.heap.size + 1 := by rw [e2]; exact Array.size_push ..
  have ncb := hx.lt
  have ltS : ∀ k, S k → k < w.heap.size := fun k hk => (hx.new k hk).2
  refine ⟨_, fun w' h' => (T.later h').cell 0 rfl rfl, Deref_some rfl ⟨⟨by omega, by omega⟩, _, fun w' h' => rvR (hx.later (T.to.trans h')) (by omega), _, fun w' h' => (T.later h').cell 0 rfl rfl, Deref_some rfl ⟨⟨by omega, by omega⟩, _, fun w' h' => rvR (hx.later (T.to.trans h')) (by omega), fun w4 l4 => ?_⟩⟩⟩
  have T4 := T.later l4
  have X4 : Has w4 w.heap.size [u8v o, u8v d, u8v ra', u8v rb', i64v v] := T4.has 0 rfl
  have S4 : Has w4 w1.heap.size (snC ⟨pc, 1, 0, 0, false⟩) := T4.has 1 rfl
  have R4 : Has w4 w2.heap.size [u64v 0, u8v 0, u64v 0, u64v 0, .bool false] := T4.has 2 rfl
  have hx4 := hx.later T4.to
  have h4 := hC.later T4.to
  have b4 : But S w w4 := T4.to.but _
  have R' : ∀ (W : World) (r : Cst × Sn × Int) (v : Value) (e : Ending), RQ m0 w0 w4 S cb s r v e W → Has W w2.heap.size [u64v 0, u8v 0, u64v 0, u64v 0, .bool false] := fun W r v e hq => hq.2.1.has R4 fun hk => by have := ltS _ hk; omega
  refine ⟨_, X4.cell rfl, cnd_of (fun q => ?_) fun q => ?_⟩
  · have q := of_decide_eq_true q
    refine ⟨_, _, _, _, _, ⟨X4.cell rfl, X4.cell rfl, X4.cell rfl, X4.cell rfl, X4.cell rfl, trivial⟩, _, _, _, _, _, ⟨S4.cell rfl, S4.cell rfl, S4.cell rfl, S4.cell rfl, S4.cell rfl, trivial⟩, ?_⟩
    refine (ref_alu_ok (pc := pc) (v := v) h4 ⟨ho.1, q⟩ hd ha hb).mono fun e w5 h5 => ⟨_, _, _, _, _, h5.1, ?_⟩
    refine ret2_sn (R' _ _ _ _ h5) rfl (doS s o d v pc (s.R ra'.toNat) (s.T ra'.toNat) (s.R rb'.toNat) (s.T rb'.toNat)).2.1 fun w6 b6 h6 => ?_
    have h0 : (doS s o d v pc (s.R ra'.toNat) (s.T ra'.toNat) (s.R rb'.toNat) (s.T rb'.toNat)).2.2 = 0 := by rw [doS_alu _ _ _ _ _ _ _ _ _ q]
    have := rq_step (v2 := (.tuple #[snV (doS s o d v pc (s.R ra'.toNat) (s.T ra'.toNat) (s.R rb'.toNat) (s.T rb'.toNat)).2.1, i64v (doS s o d v pc (s.R ra'.toNat) (s.T ra'.toNat) (s.R rb'.toNat) (s.T rb'.toNat)).2.2])) b4 h5 b6 ltS (by omega) R4.lt
    rw [h0] at this ⊢
    exact this
  have q := of_decide_eq_false q
  refine ⟨_, X4.cell rfl, cnd_of (fun q2 => ?_) fun q2 => ?_⟩
  · have q2 : o = 23 := eq_of_beq q2
    rw [dr1 q2]
    refine ⟨_, X4.cell rfl, _, X4.cell rfl, ?_⟩
    rw [i64_in (by omega) (by omega)]
    refine (ref_Set_ok5 hx4 hd (uw_in v)).mono fun e w5 ⟨he, b5, cs', h5⟩ => ⟨he, ?_⟩
    refine ret_sn (b5.has S4 (by omega)) (b5.has R4 (by omega)) rfl fun w6 b6 h6 => ?_
    exact rq_ok ((b4.trans (b5.wide fun k _ hk => hk ▸ hx.scb)).step b6 fun k hk hk2 => by omega) ⟨_, _, _, _, _, _, _, _, h5.but b6 fun k hk e => by have := ltS k hk; omega⟩ rfl rfl
  have q2 : o ≠ 23 := beq_eq_false_iff_ne.1 q2
  refine ⟨_, X4.cell rfl, cnd_of (fun q3 => ?_) fun q3 => ?_⟩
  · have q3 := of_decide_eq_true q3
    refine ⟨_, _, _, _, _, ⟨X4.cell rfl, X4.cell rfl, X4.cell rfl, X4.cell rfl, X4.cell rfl, trivial⟩, _, _, _, _, _, ⟨S4.cell rfl, S4.cell rfl, S4.cell rfl, S4.cell rfl, S4.cell rfl, trivial⟩, ?_⟩
    refine (ref_memory_ok (pc := pc) (v := v) h4 ⟨by omega, q3⟩ hd ha hb).mono fun e w5 h5 => ⟨_, _, _, _, _, _, h5.1, ?_⟩
    refine ret2_sn (R' _ _ _ _ h5) rfl (doS s o d v pc (s.R ra'.toNat) (s.T ra'.toNat) (s.R rb'.toNat) (s.T rb'.toNat)).2.1 fun w6 b6 h6 => ?_
    exact rq_step b4 h5 b6 ltS (by omega) R4.lt
  have q3 := of_decide_eq_false q3
  refine ⟨_, X4.cell rfl, cnd_of (fun q4 => ?_) fun q4 => ?_⟩
  · have q4 := of_decide_eq_true q4
    rw [dr2 (by omega) q4]
    refine ⟨fun vs w' => But S w w' ∧ CA (mRef m0) w0 w' S cb s ∧ Has w' w.heap.size [u8v o, u8v d, u8v ra', u8v rb', i64v v] ∧ Has w' w1.heap.size (snC ⟨pc, 1, 0, 0, s.T ra'.toNat || s.T rb'.toNat⟩) ∧ Has w' w2.heap.size [u64v 0, u8v 0, u64v 0, u64v 0, .bool false], ?_, ?_⟩
    · refine ⟨_, fun w' h' => (X4.later h').cell rfl, Deref_some rfl ⟨⟨by omega, by omega⟩, _, fun w' h' => rtR (hx4.later h') (by omega), ?_⟩⟩
      have put : ∀ (t : Bool) (W : World), Later w4 W → t = (s.T ra'.toNat || s.T rb'.toNat) → ((W.cell? ⟨w1.heap.size, 4, none⟩).isSome = true ∧ W.frozen? ⟨w1.heap.size, 4, none⟩ = false) ∧ ∀ w', w' = W.setCell ⟨w1.heap.size, 4, none⟩ (.bool t) →
          But S w w' ∧ CA (mRef m0) w0 w' S cb s ∧ Has w' w.heap.size [u8v o, u8v d, u8v ra', u8v rb', i64v v] ∧ Has w' w1.heap.size (snC ⟨pc, 1, 0, 0, s.T ra'.toNat || s.T rb'.toNat⟩) ∧ Has w' w2.heap.size [u64v 0, u8v 0, u64v 0, u64v 0, .bool false] := by
        rintro t W lW rfl
        exact (T4.later lW).set1 1 rfl (by simp) fun w5 T5 => ⟨T5.to.but _, hC.later T5.to, T5.has 0 rfl, T5.has 1 rfl, T5.has 2 rfl⟩
      refine cnd_of (fun q5 => ?_) fun q5 => ?_
      · exact fun w5 l5 => put true w5 l5 (by rw [q5, Bool.true_or])
      · exact ⟨_, fun w' h' => (X4.later h').cell rfl, Deref_some rfl ⟨⟨by omega, by omega⟩, _, fun w' h' => rtR (hx4.later h') (by omega), fun w5 l5 => put _ w5 l5 (by rw [q5, Bool.false_or])⟩⟩
    rintro g w5 ⟨b5, c5, X5, S5, R5⟩
    refine ⟨_, X5.cell rfl, (ref_goes_ok _ _ _ w5).mono fun e w6 ⟨he, l6⟩ => ⟨_, he, cnd_of (fun q5 => ?_) fun q5 => ?_⟩⟩
    · refine ⟨_, (S5.later l6).cell rfl, _, (X5.later l6).cell rfl, Deref_some rfl ?_⟩
      obtain ⟨a6, b6', mb6, pt6, pr6, ct6, cr6, cs6, h6⟩ := c5.later l6
      refine h6.put (adr1 _ _) (by decide) (h6.cc.setPc (uw (pc + uw v))) rfl rfl rfl ⟨uw_in (pc + uw v), h6.ok.R, h6.ok.code, h6.ok.told, h6.ok.tr, h6.ok.ne, h6.ok.M⟩ fun w7 b7 h7 => ?_
      refine ret_sn (b7.has (S5.later l6) (by omega)) (b7.has (R5.later l6) (by omega)) rfl fun w8 b8 h8 => ?_
      refine rq_ok (((b5.trans (l6.but _)).trans (b7.wide fun k _ hk => hk ▸ hx.scb)).step b8 fun k hk hk2 => by omega) ⟨_, _, _, _, _, _, _, _, h7.but b8 fun k hk e => by have := ltS k hk; omega⟩ (by rw [if_pos q5]) rfl
    · refine ret_sn (S5.later l6) (R5.later l6) rfl fun w8 b8 h8 => ?_
      exact rq_ok ((b5.trans (l6.but _)).step b8 fun k hk hk2 => by omega) ((c5.later l6).but b8 fun k hk e => by have := ltS k hk; omega) (by rw [if_neg (by rw [q5]; simp)]) rfl
  have q4 := of_decide_eq_false q4
  refine ⟨_, X4.cell rfl, cnd_of (fun q5 => ?_) fun q5 => ?_⟩
  · have q5 : o = 32 := eq_of_beq q5
    rw [dr3 q5]
    refine ⟨_, X4.cell rfl, _, S4.cell rfl, ?_⟩
    rw [i64_in (by omega) (by omega)]
    refine (ref_Set_ok5 hx4 hd (uw_in (pc + 4))).mono fun e w5 ⟨he, b5, cs', h5⟩ => ⟨he, ?_⟩
    have S5 := b5.has S4 (show w1.heap.size ≠ cb by omega)
    refine ⟨_, S5.cell rfl, _, (b5.has X4 (show w.heap.size ≠ cb by omega)).cell rfl, Deref_some rfl ?_⟩
    refine h5.put (adr1 _ _) (by decide) (h5.cc.setPc (uw (pc + uw v))) rfl rfl rfl ⟨uw_in (pc + uw v), h5.ok.R, h5.ok.code, h5.ok.told, h5.ok.tr, h5.ok.ne, h5.ok.M⟩ fun w7 b7 h7 => ?_
    refine ret_sn (b7.has S5 (by omega)) (b7.has (b5.has R4 (show w2.heap.size ≠ cb by omega)) (by omega)) rfl fun w8 b8 h8 => ?_
    exact rq_ok ((b4.trans ((b5.trans b7).wide fun k _ hk => hk ▸ hx.scb)).step b8 fun k hk hk2 => by omega) ⟨_, _, _, _, _, _, _, _, h7.but b8 fun k hk e => by have := ltS k hk; omega⟩ rfl rfl
  have q5 : o ≠ 32 := beq_eq_false_iff_ne.1 q5
  refine ⟨_, X4.cell rfl, cnd_of (fun q6 => ?_) fun q6 => ?_⟩
  · have q6 : o = 33 := eq_of_beq q6
    rw [dr4 q6]
    refine ⟨_, fun w' h' => (X4.later h').cell rfl, Deref_some rfl ⟨⟨by omega, by omega⟩, _, fun w' h' => rtR (hx4.later h') (by omega), fun w5 l5 => ?_⟩⟩
    refine (T4.later l5).set1 1 rfl (by simp) fun w6 T6 => ?_
    have S6 : Has w6 w1.heap.size (snC ⟨pc, 1, 0, 0, s.T ra'.toNat⟩) := T6.has 1 rfl
    have X6 : Has w6 w.heap.size [u8v o, u8v d, u8v ra', u8v rb', i64v v] := T6.has 0 rfl
    refine ⟨_, X6.cell rfl, _, S6.cell rfl, ?_⟩
    rw [i64_in (by omega) (by omega)]
    refine (ref_Set_ok5 (hx.later T6.to) hd (uw_in (pc + 4))).mono fun e w7 ⟨he, b7, cs', h7⟩ => ⟨he, ?_⟩
    refine ⟨_, (b7.has X6 (show w.heap.size ≠ cb by omega)).cell rfl, Deref_some rfl ?_⟩
    refine h7.put (adr1 _ _) (by decide) (h7.cc.setPc (clr (uw (s.R ra'.toNat + uw v)))) rfl rfl rfl ⟨clr_in _, h7.ok.R, h7.ok.code, h7.ok.told, h7.ok.tr, h7.ok.ne, h7.ok.M⟩ fun w8 b8 h8 => ?_
    refine ret_sn (b8.has (b7.has S6 (show w1.heap.size ≠ cb by omega)) (by omega)) (b8.has (b7.has (T6.has 2 rfl) (show w2.heap.size ≠ cb by omega)) (by omega)) rfl fun w9 b9 h9 => ?_
    exact rq_ok (((T6.to.but _).trans ((b7.trans b8).wide fun k _ hk => hk ▸ hx.scb)).step b9 fun k hk hk2 => by omega) ⟨_, _, _, _, _, _, _, _, h8.but b9 fun k hk e => by have := ltS k hk; omega⟩ rfl rfl
  have q6 : o ≠ 33 := beq_eq_false_iff_ne.1 q6
  refine ⟨_, _, _, _, _, ⟨S4.cell rfl, S4.cell rfl, S4.cell rfl, S4.cell rfl, S4.cell rfl, trivial⟩, ?_⟩
  refine (ref_call_ok (o := o) (d := d) (v := v) (ra := s.R ra'.toNat) (ta := s.T ra'.toNat) (rb' := s.R rb'.toNat) (tb := s.T rb'.toNat) h4 (by omega) hpc hsp htl).mono fun e w5 h5 => ⟨_, _, _, _, _, _, h5.1, ?_⟩
  refine ret2_sn (R' _ _ _ _ h5) rfl (doS s o d v pc (s.R ra'.toNat) (s.T ra'.toNat) (s.R rb'.toNat) (s.T rb'.toNat)).2.1 fun w6 b6 h6 => ?_
  exact rq_step b4 h5 b6 ltS (by omega) R4.lt
end Go.Proofs.YtcnnnlhoiodeaaaGreat

/-
The document's machine, fourth part: a step.
Conditions: the machine stands in the world as its predicate says.
-/
namespace Go.Proofs.YtcnnnlhoiodeaaaGreat
open Go Go.Vc Go.RowKit
set_option maxRecDepth 100000
variable {m0 : Nat}

set_option maxHeartbeats 6400000 in
theorem ref_Step_ok {w0 w : World} {S : Nat → Prop} {cb : Nat} {s : Cst} (h : CA (mRef m0) w0 w S cb s) (htl : s.told.length ≤ s.tr.length) : Calls Tryz.prog sacristy_ref05_Cpu_Step.N #[.pointer (some ⟨cb, 0, none⟩)] w (StepR (mRef m0) w0 w S cb s) := by
  have hC := h
  obtain ⟨a, b, mb, pt, pr, ct, cr, cs, hx⟩ := h
  refine sacristy_ref05_Cpu_Step.calls ?_
  unfold sacristy_ref05_Cpu_Step.vc
  have ncb := hx.lt
  have ltS : ∀ k, S k → k < w.heap.size := fun k hk => (hx.new k hk).2
  refine Deref_some rfl ⟨_, hat hx.has hx.cc.ov, cnd_of (fun q => ?_) fun q => ?_⟩
  · have es : stepS s = (s, 50) := by unfold stepS; rw [if_pos q]
    refine ⟨by rw [es], But.refl _ _, S, Grow.refl _ _, ?_⟩
    rw [es]
    exact hC
  refine Deref_some rfl ⟨_, _, _, hat hx.has hx.cc.tr, cnd_of (fun q2 => ?_) fun q2 => ?_⟩
  · have q2 := of_decide_eq_true q2
    have es : stepS s = (s, 4) := by unfold stepS; rw [if_neg (by rw [q]; simp), if_pos (by omega)]
    refine ⟨by rw [es], But.refl _ _, S, Grow.refl _ _, ?_⟩
    rw [es]
    exact hC
  have q2 := of_decide_eq_false q2
  have es0 : stepS s = if (fetchM s.M s.pc).2 ≠ 0 then failS s (fetchM s.M s.pc).2
      else if decE (fetchM s.M s.pc).1 ≠ 0 then failS s (decE (fetchM s.M s.pc).1)
      else if (insS s (fetchM s.M s.pc).1).2.2 ≠ 0 then failS s (insS s (fetchM s.M s.pc).1).2.2
      else ({ (insS s (fetchM s.M s.pc).1).1 with tr := (insS s (fetchM s.M s.pc).1).1.tr ++ [(insS s (fetchM s.M s.pc).1).2.1] }, 0) := by
    unfold stepS; rw [if_neg (by rw [q]; simp), if_neg (by omega)]
  have hpc := hx.ok.pc
  -- a step that goes wrong
  have die : ∀ (W : World) (s' : Cst) (er : Int), But S w W → CA (mRef m0) w0 W S cb s' → stepS s = failS s er → ({ s' with over := true, e := er } : Cst) = { s with over := true, e := er } →
      Calls Tryz.prog sacristy_ref05_Cpu_wrong.N #[.pointer (some ⟨cb, 0, none⟩), i64v er] W fun e w' => ∃ n, e = .returned (i64v n) ∧ StepR (mRef m0) w0 w S cb s (.returned (i64v n)) w' := by
    intro W s' er bW cW hs hs'
    obtain ⟨a2, b2, mb2, pt2, pr2, ct2, cr2, cs2, h2⟩ := cW
    refine (ref_wrong_ok h2 er).mono fun e w' ⟨he, b', c'⟩ => ⟨_, he, by rw [hs]; rfl, bW.trans (b'.wide fun k _ hk => hk ▸ hx.scb), S, Grow.refl _ _, ?_⟩
    rw [hs]
    show CA (mRef m0) w0 w' S cb { s with over := true, e := er }
    rw [← hs']
    exact c'
  refine Deref_some rfl ⟨_, fun w' h' => (hx.later h').has.cell hx.cc.m, Deref_some rfl ⟨_, fun w' h' => hat (hx.later h').has hx.cc.pc, _, _, fun w' h' => ref_Fetch_ok hpc (hx.later h').mem.1, fun w1 l1 => ?_⟩⟩
  have h1 := hC.later l1
  refine cnd_of (fun f0 => ?_) fun f0 => ?_
  · have f0 : (fetchM s.M s.pc).2 ≠ 0 := by simpa using f0
    exact die w1 s _ (l1.but _) h1 (by rw [es0, if_pos f0]) rfl
  have f0 : (fetchM s.M s.pc).2 = 0 := by simpa using f0
  rw [if_neg (by rw [f0]; simp)] at es0
  have hW := fetch_range hx.ok.M s.pc
  generalize (fetchM s.M s.pc).1 = wd at es0 hW
  refine (ref03_Decode_ok hW w1).mono fun e w2 ⟨he, l2⟩ => ?_
  rw [decI_eq] at he
  refine ⟨_, _, _, _, _, _, he, fun w3 e3 => ?_⟩
  refine ((Trk.start w2).alloc e3).setAll 0 rfl (by rfl) (ones rfl) fun w4 T4 => ?_
  have l04 := (l1.trans l2).trans T4.to
  have D4 : Has w4 w2.heap.size [u8v (decF wd 0), u8v (decF wd 1), u8v (decF wd 2), u8v (decF wd 3), i64v (decF wd 4)] := T4.has 0 rfl
  have z2 : w.heap.size ≤ w2.heap.size := (l1.trans l2).size
  refine cnd_of (fun d0 => ?_) fun d0 => ?_
  · have d0 : decE wd ≠ 0 := by simpa using d0
    exact die w4 s _ (l04.but _) (hC.later l04) (by rw [es0, if_pos d0]) rfl
  have d0 : decE wd = 0 := by simpa using d0
  rw [if_neg (by rw [d0]; simp)] at es0
  obtain ⟨o0, o1, o2, o3⟩ := dec_small d0
  have hx4 := hx.later l04
  refine Deref_some rfl ⟨s.pc, hat hx4.has hx4.cc.pc, Deref_some rfl ?_⟩
  refine hx4.put (adr1 _ _) (by decide) (hx4.cc.setPc (uw (s.pc + 4))) rfl rfl rfl ⟨uw_in _, hx4.ok.R, hx4.ok.code, hx4.ok.told, hx4.ok.tr, hx4.ok.ne, hx4.ok.M⟩ fun w5 b5 hx5 => ?_
  have b05 : But S w w5 := (l04.but _).trans (b5.wide fun k _ hk => hk ▸ hx.scb)
  have D5 := b5.has D4 (show w2.heap.size ≠ cb by omega)
  refine ⟨_, _, _, _, _, ⟨D5.cell rfl, D5.cell rfl, D5.cell rfl, D5.cell rfl, D5.cell rfl, trivial⟩, ?_⟩
  refine (ref_does_ok (s := { s with pc := uw (s.pc + 4) }) (d := decF wd 1) (v := decF wd 4) ⟨_, _, _, _, _, _, _, _, hx5⟩ o0 o1 o2 o3 hpc rfl htl).mono fun e w6 h6 => ⟨_, _, _, _, _, _, h6.1, fun w7 e7 => ?_⟩
  have ei : doS { s with pc := uw (s.pc + 4) } (decF wd 0) (decF wd 1) (decF wd 4) s.pc (s.R (decF wd 2).toNat) (s.T (decF wd 2).toNat) (s.R (decF wd 3).toNat) (s.T (decF wd 3).toNat) = insS s wd := rfl
  obtain ⟨_, b6, h6⟩ := h6
  rw [ei] at h6
  have b06 : But S w w6 := b05.trans b6
  have z6 : w.heap.size ≤ w6.heap.size := b06.size
  have l7 : Later w6 w7 := e7 ▸ Later.alloc' w6 _
  have N7 : Has w7 w6.heap.size [u64v 0, u8v 0, u64v 0, u64v 0, .bool false] := by rw [e7]; exact Has.new _ _ _
  refine hsetAll N7 (by rfl) (sn_one (insS s wd).2.1) fun w8 b8 N8 => ?_
  have lt6 : ∀ {S' : Nat → Prop} {s' : Cst}, CA (mRef m0) w0 w6 S' cb s' → ∀ k, S' k → k ≠ w6.heap.size := fun hc k hk e => by have := (hc.new k hk).2; omega
  have b08 : But S w w8 := (b06.trans (l7.but _)).step b8 fun k hk hk2 => by omega
  refine cnd_of (fun r0 => ?_) fun r0 => ?_
  · have r0 : (insS s wd).2.2 ≠ 0 := by simpa [ei] using r0
    rcases h6 with ⟨q0, _⟩ | ⟨_, c6⟩
    · exact absurd q0 r0
    have c8 := (c6.later l7).but b8 fun k hk e => lt6 c6 k hk e
    obtain ⟨a8, b8', mb8, pt8, pr8, ct8, cr8, cs8, h8⟩ := c8
    refine Deref_some rfl ?_
    refine h8.put (adr1 _ _) (by decide) (h8.cc.setPc s.pc) rfl rfl rfl ⟨hpc, h8.ok.R, h8.ok.code, h8.ok.told, h8.ok.tr, h8.ok.ne, h8.ok.M⟩ fun w9 b9 h9 => ?_
    exact die w9 _ _ (b08.trans (b9.wide fun k _ hk => hk ▸ hx.scb)) ⟨_, _, _, _, _, _, _, _, h9⟩ (by rw [es0, if_pos r0]; rfl) rfl
  have r0 : (insS s wd).2.2 = 0 := by simpa [ei] using r0
  rw [if_neg (by rw [r0]; simp)] at es0
  rcases h6 with ⟨_, S1, g1, c6⟩ | ⟨q0, _⟩
  rotate_left
  · exact absurd r0 q0
  have c8 := (c6.later l7).but b8 fun k hk e => lt6 c6 k hk e
  have itr : (insS s wd).1.tr = s.tr := by
    show (doS _ _ _ _ _ _ _ _ _).1.tr = s.tr
    exact doS_tr _ _ _ _ _ _ _ _ _
  have new6 := c6.new
  obtain ⟨a8, b8', mb8, pt8, pr8, ct8, cr8, cs8, h8⟩ := c8
  refine ⟨fun w' => Has w' cb cs8 ∧ Has w' w6.heap.size (snC (insS s wd).2.1), fun w' l => ⟨h8.has.later l, N8.later l⟩, fun w9 l9 => Deref_some rfl ⟨_, _, _, fun w' h' => hat h'.1 h8.cc.tr, _, _, _, _, _, fun w' h' => ⟨h'.2.cell rfl, h'.2.cell rfl, h'.2.cell rfl, h'.2.cell rfl, h'.2.cell rfl, trivial⟩, fun w10 e10 => ?_⟩⟩
  have h9 := h8.later l9
  have l10 : Later w9 w10 := e10 ▸ Later.alloc' w9 _
  refine ⟨⟨h9.has.later l10, (N8.later l9).later l10⟩, ?_⟩
  have htr : (insS s wd).1.tr.length < 1048576 := by rw [itr]; omega
  refine OwnE.pushG (T := snT) 54 snRow (insS s wd).2.1 h9.tr (by have := h9.new cb h9.scb; omega) (by simp only [maxLen]; omega) (by omega) e10 rfl fun p c w11 ho hb hnw => ?_
  have h11 : Has w11 cb cs8 := hb.has h9.has fun e => (h9.npr _ e).1.2 rfl
  refine ⟨_, _, _, rfl, ⟨h11, hb.has (N8.later l9) fun e => by have := (new6 _ (h9.spr _ e)).2; omega⟩, Deref_some rfl ⟨⟨?_, ?_⟩, fun w12 e12 => ?_⟩⟩
  · rw [adr1, h11.cell h9.cc.tr]; rfl
  · rw [adr1]; exact h11.frozen 70
  rw [adr1] at e12
  obtain ⟨h12, b12⟩ := h9.trPush hb ho hnw e12 htr
  have b09 : But S w w9 := b08.trans (l9.but _)
  refine ⟨by rw [es0], b09.step b12 fun k hk hk2 => ?_, fun k => S1 k ∨ rowB p = some k, fun k hk => ?_, ?_⟩
  · rcases g1 k hk2 with g | g
    · exact g
    · have := b05.size; omega
  · rcases hk with hk | hk
    · rcases g1 k hk with g | g
      · exact .inl g
      · exact .inr (Nat.le_trans b05.size g)
    · by_cases hlt : k < w.heap.size
      · have hlt9 : k < w9.heap.size := Nat.lt_of_lt_of_le hlt b09.size
        have : rowB pr8 = some k := Classical.byContradiction fun hne => hnw k hlt9 hne hk
        rcases g1 k (h9.spr k this) with g | g
        · exact .inl g
        · exact .inr (Nat.le_trans b05.size g)
      · exact .inr (by omega)
  · rw [es0]
    exact ⟨_, _, _, _, _, _, _, _, h12⟩
end Go.Proofs.YtcnnnlhoiodeaaaGreat

/-
The laws of chapter 05, second part: the machines of a setup, the program's and the document's.
Conditions: each theorem's hypotheses.
-/
namespace Go.Proofs.YtcnnnlhoiodeaaaGreat
open Go Go.Vc Go.RowKit
set_option maxRecDepth 100000

theorem ca_new {X : Mach} {w0 W w' : World} {a b mb : Nat} {s : Cst} {cs : List Value} {t : TypeId} (e : w' = W.alloc (.cells cs.toArray t)) (hm : X.MP W a b mb s.M) (ha : w0.heap.size ≤ a) (hb : b ≤ W.heap.size) (hw : w0.heap.size ≤ W.heap.size)
    (hc : CC X cs mb none none 0 0 s) (ht : s.told = []) (hr : s.tr = []) (ok : CstOk s) : CA X w0 w' (fun k => (a ≤ k ∧ k < b) ∨ k = W.heap.size) W.heap.size s := by
  have l : Later W w' := e ▸ Later.alloc' W _
  have hsz : w'.heap.size = W.heap.size + 1 := by rw [e]; exact Array.size_push ..
  refine ⟨a, b, mb, none, none, 0, 0, cs, by rw [e]; exact Has.new _ _ _, hc, X.kept hm fun k _ _ hk => l.block hk, by rw [ht]; exact OwnE.nil _ _ _, by rw [hr]; exact OwnE.nil _ _ _, ok, fun k h1 h2 => .inl ⟨h1, h2⟩, .inr rfl, fun k hk => (by cases hk), fun k hk => (by cases hk), by omega, fun k hk => (by cases hk), fun k hk => (by cases hk), fun k hk => ?_⟩
  rcases hk with hk | hk <;> exact ⟨by omega, by omega⟩
def st0 (M : List Pt) : Cst := ⟨4096, fun _ => 0, fun _ => false, false, 0, 0, [], [], M⟩
theorem st0_ok {M : List Pt} (h1 : 0 < M.length) (h2 : StOk M) : CstOk (st0 M) := ⟨⟨(by decide : (0:Int) ≤ 4096), (by decide : (4096:Int) < 2^64)⟩, fun i _ => ⟨(by decide : (0:Int) ≤ 0), (by decide : (0:Int) < 2^64)⟩, ⟨(by decide : (0:Int) ≤ 0), (by decide : (0:Int) < 256)⟩, Nat.zero_le _, Nat.zero_le _, h1, h2⟩
def csP (mb : Nat) : List Value := [.pointer (some ⟨mb, 0, none⟩), u64v 4096, u64v 0, .bool false, u64v 0, .bool false, u64v 0, .bool false, u64v 0, .bool false, u64v 0, .bool false, u64v 0, .bool false, u64v 0, .bool false, u64v 0, .bool false, u64v 0, .bool false, u64v 0, .bool false, u64v 0, .bool false, u64v 0, .bool false, u64v 0, .bool false, u64v 0, .bool false, u64v 0, .bool false, u64v 0, .bool false, u64v 0, .bool false, u64v 0, .bool false, u64v 0, .bool false, u64v 0, .bool false, u64v 0, .bool false, u64v 0, .bool false, u64v 0, .bool false, u64v 0, .bool false, u64v 0, .bool false, u64v 0, .bool false, u64v 0, .bool false, u64v 0, .bool false, u64v 0, .bool false, u64v 0, .bool false, u64v 0, .bool false, u64v 0, .bool false, .bool false, u8v 0, i64v 0, .slice none 0 0, .slice none 0 0]
def csR (mb : Nat) : List Value := [.pointer (some ⟨mb, 0, none⟩), u64v 4096, u64v 0, u64v 0, u64v 0, u64v 0, u64v 0, u64v 0, u64v 0, u64v 0, u64v 0, u64v 0, u64v 0, u64v 0, u64v 0, u64v 0, u64v 0, u64v 0, u64v 0, u64v 0, u64v 0, u64v 0, u64v 0, u64v 0, u64v 0, u64v 0, u64v 0, u64v 0, u64v 0, u64v 0, u64v 0, u64v 0, u64v 0, u64v 0, .bool false, .bool false, .bool false, .bool false, .bool false, .bool false, .bool false, .bool false, .bool false, .bool false, .bool false, .bool false, .bool false, .bool false, .bool false, .bool false, .bool false, .bool false, .bool false, .bool false, .bool false, .bool false, .bool false, .bool false, .bool false, .bool false, .bool false, .bool false, .bool false, .bool false, .bool false, .bool false, .bool false, u8v 0, i64v 0, .slice none 0 0, .slice none 0 0]
theorem ccP (m0 mb : Nat) (M : List Pt) : CC (mProg m0) (csP mb) mb none none 0 0 (st0 M) := by
  refine ⟨rfl, rfl, rfl, fun i hi => ?_, fun i hi => ?_, rfl, rfl, rfl, rfl, rfl⟩
  · iterate 32 (rcases i with _ | i; · rfl)
    omega
  · iterate 32 (rcases i with _ | i; · rfl)
    omega
theorem ccR (m0 mb : Nat) (M : List Pt) : CC (mRef m0) (csR mb) mb none none 0 0 (st0 M) := by
  refine ⟨rfl, rfl, rfl, fun i hi => ?_, fun i hi => ?_, rfl, rfl, rfl, rfl, rfl⟩
  · iterate 32 (rcases i with _ | i; · rfl)
    omega
  · iterate 32 (rcases i with _ | i; · rfl)
    omega
theorem one_byte {W w1 w2 : World} {v : Int} (l : Later W w1) (e : w2 = w1.alloc (.cells #[u8v (IntKind.u8.wrap v)] 5)) (w3 : World) (l3 : Later w2 w3) {K : Value → World → Prop} (hK : ∀ s : ByteArray, strB s = [v % 256] → K (.string s) w3) :
    RunsV Tryz.prog (convert 90 9 (.slice (some ⟨w1.heap.size, 0, none⟩) 1 1)) w3 K := by
  have ho : OwnS w1 w2 5 1 (.slice (some ⟨w1.heap.size, 0, none⟩) 1 1) 1 ([IntKind.u8.wrap v].map (Value.int .u8)) :=
    ⟨by simp, .inr ⟨w1.heap.size, 1, _, rfl, Nat.le_refl _, by rw [e]; exact heap_alloc_new w1 _, by omega, by simp [maxLen], by simp, by simp⟩⟩
  refine RunsV_own_string (by kernel_rfl) (by kernel_rfl) (by kernel_rfl) (ho.later l3) (by omega) (hK _ ?_)
  rw [strB_strOf (fun b hb => ?_), wrap_u8]
  simp only [List.mem_singleton] at hb
  subst hb
  rw [wrap_u8]
  exact ⟨by omega, by omega⟩
theorem byte_orders {W : World} {C : World → Prop} (hC : ∀ w', Later W w' → C w') {f : FuncId} {p : Option Addr} {i : Int} {cv : Value} {pl v : Int} {t : Bool} {Q : Ending → World → Prop}
    (hP : ∀ w1, Later W w1 → Calls Tryz.prog law05_place.N #[i64v i, cv] w1 (Gives (u64v pl) w1)) (hS : ∀ w1 s, Later W w1 → strB s = [v % 256] → Calls Tryz.prog f #[.pointer p, u64v pl, .string s, .bool t] w1 Q) (w1 : World) (l1 : Later W w1) :
    (Calls Tryz.prog law05_place.N #[i64v i, cv] w1 fun e w2 => ∃ n, e = .returned (u64v n) ∧ C w2 ∧ (∀ w3, w3 = w2.alloc (.cells #[u8v (IntKind.u8.wrap v)] 5) → C w3 ∧ (RunsV Tryz.prog (convert 90 9 (.slice (some ⟨w2.heap.size, 0, none⟩) 1 1)) w3 fun vv w4 => ∃ s, vv = .string s ∧ C w4 ∧ (Calls Tryz.prog f #[.pointer p, u64v n, .string s, .bool t] w4 Q) ∧ True) ∧ True) ∧ True) ∧
    (∀ w2, w2 = w1.alloc (.cells #[u8v (IntKind.u8.wrap v)] 5) → C w2 ∧ (Calls Tryz.prog law05_place.N #[i64v i, cv] w2 fun e w3 => ∃ n, e = .returned (u64v n) ∧ C w3 ∧ (RunsV Tryz.prog (convert 90 9 (.slice (some ⟨w1.heap.size, 0, none⟩) 1 1)) w3 fun vv w4 => ∃ s, vv = .string s ∧ C w4 ∧ (Calls Tryz.prog f #[.pointer p, u64v n, .string s, .bool t] w4 Q) ∧ True) ∧ True) ∧
      (RunsV Tryz.prog (convert 90 9 (.slice (some ⟨w1.heap.size, 0, none⟩) 1 1)) w2 fun vv w3 => ∃ s, vv = .string s ∧ C w3 ∧ (Calls Tryz.prog law05_place.N #[i64v i, cv] w3 fun e w4 => ∃ n, e = .returned (u64v n) ∧ C w4 ∧ (Calls Tryz.prog f #[.pointer p, u64v n, .string s, .bool t] w4 Q) ∧ True) ∧ True) ∧ True) ∧ True := by
  refine ⟨(hP w1 l1).mono fun e w2 ⟨he, l2⟩ => ⟨_, he, hC _ (l1.trans l2), fun w3 e3 => ?_, trivial⟩, fun w2 e2 => ?_, trivial⟩
  · have l3 : Later W w3 := e3 ▸ (l1.trans l2).alloc _
    exact ⟨hC _ l3, one_byte (l1.trans l2) e3 w3 (Later.refl _) fun s hs => ⟨_, rfl, hC _ l3, hS w3 s l3 hs, trivial⟩, trivial⟩
  · have l2 : Later W w2 := e2 ▸ l1.alloc _
    refine ⟨hC _ l2, (hP w2 l2).mono fun e w3 ⟨he, l3⟩ => ⟨_, he, hC _ (l2.trans l3), one_byte l1 e2 w3 l3 fun s hs => ⟨_, rfl, hC _ (l2.trans l3), hS w3 s (l2.trans l3) hs, trivial⟩, trivial⟩, one_byte l1 e2 w2 (Later.refl _) fun s hs => ⟨_, rfl, hC _ l2, (hP w2 l2).mono fun e w3 ⟨he, l3⟩ => ⟨_, he, hC _ (l2.trans l3), hS w3 s (l2.trans l3) hs, trivial⟩, trivial⟩, trivial⟩
theorem cell_at {w : World} {B : Option Addr} {l : List Cl} (h : ERow cellT w B l) {k : Nat} {c : Cl} (hk : l[k]? = some c) : ∃ ad, B = some ad ∧ w.cell? (ad.add (k * 3)) = some (u8v c.a) ∧ w.cell? ((ad.add (k * 3)).add 1) = some (u64v c.v) ∧ w.cell? ((ad.add (k * 3)).add 2) = some (.bool c.t) := by
  obtain ⟨ad, e, hc⟩ := h k c hk
  have h0 := hc 0 _ rfl
  rw [addr_add_zero] at h0
  exact ⟨ad, e, h0, hc 1 _ rfl, hc 2 _ rfl⟩
theorem memI_succ {u : Su} {k : Nat} {c : Cl} (h : u.bys[k]? = some c) : memI u (k + 1) = (setM (memI u k) (placeV k c.a) [c.v % 256] c.t).1 := by
  rw [memI, h]
theorem regI_succ {u : Su} {k : Nat} {c : Cl} (h : u.regs[k]? = some c) : regI u (k + 1) = setS (regI u k) (c.a % 32) c.v c.t := by
  rw [regI, h]
set_option maxHeartbeats 6400000 in
theorem law05_Built_ok {u : Su} (ok : SuOk u) {A B C : Option Addr} {ca cb cc : Nat} {w : World} (hu : SuAt w u A B C) : Calls Tryz.prog law05_Built.N #[suV u A B C ca cb cc] w fun e w' => ∃ x mb S, e = .returned (.tuple #[.pointer (some ⟨x, 0, none⟩), .pointer (some ⟨mb, 0, none⟩)]) ∧ Later w w' ∧ CA (mProg mb) w w' S x (initS u) ∧ ∀ k, S k → w.heap.size ≤ k := by
  have hn := ok.n
  refine law05_Built.calls ?_
  unfold law05_Built.vc
  intro w1 e1
  have T := (Trk.start w).alloc e1
  refine ⟨_, _, _, _, _, _, _, _, _, ⟨T.cell 0 rfl rfl, T.cell 0 rfl rfl, T.cell 0 rfl rfl, trivial⟩, ?_⟩
  refine (law05_regions_ok ok A B C ca cb cc w1).mono fun e w2 ⟨rb, he, hr, l2⟩ => ⟨_, _, _, he, ?_⟩
  refine (mem_New_ok (regs_in (by omega)) (A := some ⟨rb, 0, none⟩) (c := 3) (show 3 ≤ 3 by decide) (by decide) hr).mono fun e w3 ⟨l3, h3⟩ => ?_
  rcases h3 with ⟨_, mb, he, hM⟩ | ⟨hno, _⟩
  rotate_left
  · rw [regs_may (by omega)] at hno; cases hno
  refine ⟨_, _, he, cnd_false (by decide) ⟨_, ptr_nil (by kernel_rfl) _ _ _, cnd_false rfl ?_⟩⟩
  have T3 := (T.later l2).later l3
  have z2 : w.heap.size < w2.heap.size := Nat.lt_of_lt_of_le (T.has 0 rfl).lt l2.size
  have zab := l3.size
  generalize ha : w2.heap.size = a at hM z2 zab
  generalize hbz : w3.heap.size = b at hM zab
  refine ⟨_, _, _, T3.cell 0 rfl rfl, (law05_code_ok ok (hu.later T3.to).code).mono fun e w4 ⟨he, l4⟩ => ⟨_, he, ?_⟩⟩
  have T4 := T3.later l4
  refine (mem_Set_ok (show 0 < (newM (regsOf u.n)).length from Nat.zero_lt_succ _) (by rw [codeS_size]; omega) ⟨by decide, by decide⟩ (hM.later l4)).mono fun e w5 ⟨he, k5, m5⟩ => ⟨_, he, ?_⟩
  rw [code_set ok]
  refine cnd_false (by decide) ?_
  have l5 : Later w w5 := k5.later T4.to (by omega)
  have x5 : Has w5 w.heap.size [.slice A u.n ca, .slice B u.regs.length cb, .slice C u.bys.length cc] := k5.has (T4.has 0 rfl) (.inl z2)
  have m5 : MemAt w5 a b mb (memI u 0) := m5
  have sb : b ≤ w5.heap.size := by rw [← hbz]; exact Nat.le_trans l4.size k5.size
  refine ⟨fun vs W => ∃ k : Nat, vs = [.int .i64 k] ∧ k ≤ u.bys.length ∧ Later w W ∧ b ≤ W.heap.size ∧ Has W w.heap.size [.slice A u.n ca, .slice B u.regs.length cb, .slice C u.bys.length cc] ∧ MemAt W a b mb (memI u k), fun vs _ => match vs with | [.int _ k] => (u.bys.length - k.toNat) | _ => 0, ⟨0, rfl, Nat.zero_le _, l5, sb, x5, m5⟩, ?_⟩
  rintro g i W ⟨k, hs, hk, lW, sW, xW, mW⟩
  simp only [List.cons.injEq, Value.int.injEq, true_and, and_true] at hs
  subst hs
  have hlb := ok.lb
  refine ⟨_, _, _, xW.cell rfl, cnd_of (fun q => ?_) fun q => ?_⟩
  · have q := of_decide_eq_true q
    have hkl : k < u.bys.length := by omega
    obtain ⟨c, hc⟩ : ∃ c, u.bys[k]? = some c := ⟨_, List.getElem?_eq_getElem hkl⟩
    obtain ⟨c0, c1⟩ := ok.bys k c hc
    have clC : ∀ W', Later W W' → Later w W' ∧ Has W' w.heap.size [.slice A u.n ca, .slice B u.regs.length cb, .slice C u.bys.length cc] := fun W' l => ⟨lW.trans l, xW.later l⟩
    refine ⟨fun W' => Later w W' ∧ Has W' w.heap.size [.slice A u.n ca, .slice B u.regs.length cb, .slice C u.bys.length cc], clC, fun w6 l6 => ?_⟩
    obtain ⟨ad, rfl, -⟩ := cell_at (hu.later lW).bys hc
    have cells : ∀ W', Later w W' → W'.cell? (ad.add (k * 3)) = some (u8v c.a) ∧ W'.cell? ((ad.add (k * 3)).add 1) = some (u64v c.v) ∧ W'.cell? ((ad.add (k * 3)).add 2) = some (.bool c.t) := fun W' l => by
      obtain ⟨ad', e, h⟩ := cell_at (hu.later l).bys hc
      obtain rfl := Option.some.inj e
      exact h
    refine ⟨_, _, _, fun W' l => l.2.cell rfl, ⟨by omega, by omega⟩, Deref_some rfl ⟨_, _, _, fun W' l => ⟨(cells W' l.1).1, (cells W' l.1).2.1, (cells W' l.1).2.2, trivial⟩, _, _, _, fun W' l => l.2.cell rfl, ⟨by omega, by omega⟩, Deref_some rfl ⟨_, fun W' l => (cells W' l.1).2.1, _, _, _, fun W' l => l.2.cell rfl, ⟨by omega, by omega⟩, Deref_some rfl ⟨_, fun W' l => (cells W' l.1).2.2, ?_⟩⟩⟩⟩
    refine byte_orders clC (fun W' l => law05_place_ok (by omega) c0 W') (fun W' s l hs => ?_) w6 l6
    refine (mem_Set_ok (mem_ne ok k) (by have := strB_len s; rw [hs] at this; simp at this; omega) (place_in k) (mW.later l)).mono fun e w7 ⟨he, k7, m7⟩ => ⟨_, he, ?_⟩
    have sl := l.size
    have lw7 : Later w w7 := k7.later (lW.trans l) (by omega)
    have hx7 := k7.has (xW.later l) (.inl z2)
    have s7 := k7.size
    rw [hs] at m7
    rw [hs, byte_set ok c]
    have ei : IntKind.i64.wrap ((k : Int) + 1) = ((k + 1 : Nat) : Int) := by rw [i64_in (by omega) (by omega)]; rfl
    rw [ei]
    refine ⟨⟨lw7, hx7⟩, cnd_false (by decide) (⟨⟨k + 1, rfl, by omega, lw7, by omega, hx7, by rw [memI_succ hc]; exact m7⟩, by show u.bys.length - (k + 1) < u.bys.length - k; omega⟩)⟩
  · have q := of_decide_eq_false q
    obtain rfl : k = u.bys.length := by omega
    have hst : CstOk (st0 (memI u u.bys.length)) := st0_ok (mem_ne ok _) (mem_facts ok _).2
    refine cpu_New.calls ?_
    unfold cpu_New.vc
    refine ⟨_, ptr_nil (by kernel_rfl) _ _ _, cnd_false rfl fun w8 e8 => ?_⟩
    have C8 : CA (mProg mb) w w8 (fun k => (a ≤ k ∧ k < b) ∨ k = W.heap.size) W.heap.size (st0 (memI u u.bys.length)) := ca_new (cs := csP mb) e8 ⟨mW, rfl⟩ (by omega) sW lW.size (ccP mb mb _) rfl rfl hst
    have l8 : Later W w8 := e8 ▸ Later.alloc' W _
    have s8 : w8.heap.size = W.heap.size + 1 := by rw [e8]; exact Array.size_push ..
    clear e8
    have hx8 := xW.later l8
    generalize hSS : (fun k => (a ≤ k ∧ k < b) ∨ k = W.heap.size) = SS at C8
    generalize hx : W.heap.size = x at C8 s8
    have lx : w.heap.size < x := by omega
    have l08 : Later w w8 := lW.trans l8
    clear mW xW l8
    have hlr := ok.lr
    refine ⟨_, _, rfl, cnd_false (by decide) ⟨_, ptr_nil (by kernel_rfl) _ _ _, cnd_false rfl ?_⟩⟩
    refine ⟨fun vs V => ∃ k : Nat, vs = [.int .i64 k] ∧ k ≤ u.regs.length ∧ Later w V ∧ Has V w.heap.size [.slice A u.n ca, .slice B u.regs.length cb, .slice C u.bys.length cc] ∧ CA (mProg mb) w V SS x (regI u k), fun vs _ => match vs with | [.int _ k] => (u.regs.length - k.toNat) | _ => 0, ⟨0, rfl, Nat.zero_le _, l08, hx8, C8⟩, ?_⟩
    rintro g i V ⟨k, hs, hk, lV, xV, cV⟩
    simp only [List.cons.injEq, Value.int.injEq, true_and, and_true] at hs
    subst hs
    refine ⟨_, _, _, xV.cell rfl, cnd_of (fun q => ?_) fun q => ?_⟩
    · have q := of_decide_eq_true q
      have hkl : k < u.regs.length := by omega
      obtain ⟨c, hc⟩ : ∃ c, u.regs[k]? = some c := ⟨_, List.getElem?_eq_getElem hkl⟩
      obtain ⟨c0, c1⟩ := ok.regs k c hc
      have clC : ∀ W', Later V W' → Later w W' ∧ Has W' w.heap.size [.slice A u.n ca, .slice B u.regs.length cb, .slice C u.bys.length cc] := fun W' l => ⟨lV.trans l, xV.later l⟩
      refine ⟨fun W' => Later w W' ∧ Has W' w.heap.size [.slice A u.n ca, .slice B u.regs.length cb, .slice C u.bys.length cc], clC, fun w6 l6 => ?_⟩
      obtain ⟨ad, rfl, -⟩ := cell_at (hu.later lV).regs hc
      have cells : ∀ W', Later w W' → W'.cell? (ad.add (k * 3)) = some (u8v c.a) ∧ W'.cell? ((ad.add (k * 3)).add 1) = some (u64v c.v) ∧ W'.cell? ((ad.add (k * 3)).add 2) = some (.bool c.t) := fun W' l => by
        obtain ⟨ad', e, h⟩ := cell_at (hu.later l).regs hc
        obtain rfl := Option.some.inj e
        exact h
      refine ⟨_, _, _, fun W' l => l.2.cell rfl, ⟨by omega, by omega⟩, Deref_some rfl ⟨_, fun W' l => (cells W' l.1).1, _, _, _, fun W' l => l.2.cell rfl, ⟨by omega, by omega⟩, Deref_some rfl ⟨_, fun W' l => (cells W' l.1).2.1, _, _, _, fun W' l => l.2.cell rfl, ⟨by omega, by omega⟩, Deref_some rfl ⟨_, fun W' l => (cells W' l.1).2.2, ?_⟩⟩⟩⟩
      obtain ⟨c00, c01⟩ := c0
      have em : IntKind.i64.wrap (c.a.tmod 32) = c.a % 32 := by rw [Int.tmod_eq_emod_of_nonneg c00, i64_in (by omega) (by omega)]
      rw [em]
      refine (cpu_SetReg_ok (cV.later l6) (c.a % 32) (t := c.t) c1).mono fun e w7 h7 => ?_
      rcases h7 with ⟨_, _, he, b7, C7⟩ | ⟨hno, _⟩
      rotate_left
      · exact absurd ⟨by omega, by omega⟩ hno
      have lw7 : Later w w7 := b7.later (lV.trans l6) (fun k hk => by omega)
      have hx7 := b7.has (xV.later l6) (show ¬ w.heap.size = x by omega)
      have ei : IntKind.i64.wrap ((k : Int) + 1) = ((k + 1 : Nat) : Int) := by rw [i64_in (by omega) (by omega)]; rfl
      rw [ei]
      refine ⟨_, he, ⟨lw7, hx7⟩, cnd_false (by decide) (⟨⟨k + 1, rfl, by omega, lw7, hx7, by rw [regI_succ hc]; exact C7⟩, by show u.regs.length - (k + 1) < u.regs.length - k; omega⟩)⟩
    · have q := of_decide_eq_false q
      obtain rfl : k = u.regs.length := by omega
      exact ⟨x, mb, SS, rfl, lV, cV, fun k hk => by
        rw [← hSS] at hk
        rcases hk with hk | hk <;> omega⟩
end Go.Proofs.YtcnnnlhoiodeaaaGreat

/-
The laws of chapter 05: the document's machine of a setup.
Conditions: each theorem's hypotheses.
-/
namespace Go.Proofs.YtcnnnlhoiodeaaaGreat
open Go Go.Vc Go.RowKit
set_option maxRecDepth 100000

set_option maxHeartbeats 6400000 in
theorem law05_built_ok {u : Su} (ok : SuOk u) {A B C : Option Addr} {ca cb cc : Nat} {w : World} (hu : SuAt w u A B C) : Calls Tryz.prog law05_built.N #[suV u A B C ca cb cc] w fun e w' => ∃ x mb S, e = .returned (.pointer (some ⟨x, 0, none⟩)) ∧ Later w w' ∧ CA (mRef mb) w w' S x (initS u) ∧ ∀ k, S k → w.heap.size ≤ k := by
  have hn := ok.n
  refine law05_built.calls ?_
  unfold law05_built.vc
  intro w1 e1
  have T := (Trk.start w).alloc e1
  refine ⟨_, _, _, _, _, _, _, _, _, ⟨T.cell 0 rfl rfl, T.cell 0 rfl rfl, T.cell 0 rfl rfl, trivial⟩, ?_⟩
  refine (law05_regions_ok ok A B C ca cb cc w1).mono fun e w2 ⟨rb, he, hr, l2⟩ => ⟨_, _, _, he, ?_⟩
  refine (ref_New_ok (regs_in (by omega)) (A := some ⟨rb, 0, none⟩) (c := 3) (show 3 < 9223372036854775808 by decide) hr).mono fun e w3 ⟨l3, h3⟩ => ?_
  rcases h3 with ⟨_, mb, he, hM⟩ | ⟨hno, _⟩
  rotate_left
  · rw [regs_may (by omega)] at hno; cases hno
  refine ⟨_, _, he, ?_⟩
  have T3 := (T.later l2).later l3
  have z2 : w.heap.size < w2.heap.size := Nat.lt_of_lt_of_le (T.has 0 rfl).lt l2.size
  have zab := l3.size
  generalize ha : w2.heap.size = a at hM z2 zab
  generalize hbz : w3.heap.size = b at hM zab
  refine ⟨_, _, _, T3.cell 0 rfl rfl, (law05_code_ok ok (hu.later T3.to).code).mono fun e w4 ⟨he, l4⟩ => ⟨_, he, ?_⟩⟩
  have T4 := T3.later l4
  refine (ref_Set_ok (by rw [codeS_size]; omega) ⟨by decide, by decide⟩ (hM.later l4)).mono fun e w5 ⟨he, k5, m5⟩ => ⟨_, he, ?_⟩
  have l5 : Later w w5 := k5.later T4.to (by omega)
  have x5 : Has w5 w.heap.size [.slice A u.n ca, .slice B u.regs.length cb, .slice C u.bys.length cc] := k5.has (T4.has 0 rfl) (.inl z2)
  have m5 : RefAt w5 a b mb (memI u 0) := m5
  have sb : b ≤ w5.heap.size := by rw [← hbz]; exact Nat.le_trans l4.size k5.size
  refine ⟨fun vs W => ∃ k : Nat, vs = [.int .i64 k] ∧ k ≤ u.bys.length ∧ Later w W ∧ b ≤ W.heap.size ∧ Has W w.heap.size [.slice A u.n ca, .slice B u.regs.length cb, .slice C u.bys.length cc] ∧ RefAt W a b mb (memI u k), fun vs _ => match vs with | [.int _ k] => (u.bys.length - k.toNat) | _ => 0, ⟨0, rfl, Nat.zero_le _, l5, sb, x5, m5⟩, ?_⟩
  rintro g i W ⟨k, hs, hk, lW, sW, xW, mW⟩
  simp only [List.cons.injEq, Value.int.injEq, true_and, and_true] at hs
  subst hs
  have hlb := ok.lb
  refine ⟨_, _, _, xW.cell rfl, cnd_of (fun q => ?_) fun q => ?_⟩
  · have q := of_decide_eq_true q
    have hkl : k < u.bys.length := by omega
    obtain ⟨c, hc⟩ : ∃ c, u.bys[k]? = some c := ⟨_, List.getElem?_eq_getElem hkl⟩
    obtain ⟨c0, c1⟩ := ok.bys k c hc
    have clC : ∀ W', Later W W' → Later w W' ∧ Has W' w.heap.size [.slice A u.n ca, .slice B u.regs.length cb, .slice C u.bys.length cc] := fun W' l => ⟨lW.trans l, xW.later l⟩
    refine ⟨fun W' => Later w W' ∧ Has W' w.heap.size [.slice A u.n ca, .slice B u.regs.length cb, .slice C u.bys.length cc], clC, fun w6 l6 => ?_⟩
    obtain ⟨ad, rfl, -⟩ := cell_at (hu.later lW).bys hc
    have cells : ∀ W', Later w W' → W'.cell? (ad.add (k * 3)) = some (u8v c.a) ∧ W'.cell? ((ad.add (k * 3)).add 1) = some (u64v c.v) ∧ W'.cell? ((ad.add (k * 3)).add 2) = some (.bool c.t) := fun W' l => by
      obtain ⟨ad', e, h⟩ := cell_at (hu.later l).bys hc
      obtain rfl := Option.some.inj e
      exact h
    refine ⟨_, _, _, fun W' l => l.2.cell rfl, ⟨by omega, by omega⟩, Deref_some rfl ⟨_, _, _, fun W' l => ⟨(cells W' l.1).1, (cells W' l.1).2.1, (cells W' l.1).2.2, trivial⟩, _, _, _, fun W' l => l.2.cell rfl, ⟨by omega, by omega⟩, Deref_some rfl ⟨_, fun W' l => (cells W' l.1).2.1, _, _, _, fun W' l => l.2.cell rfl, ⟨by omega, by omega⟩, Deref_some rfl ⟨_, fun W' l => (cells W' l.1).2.2, ?_⟩⟩⟩⟩
    refine byte_orders clC (fun W' l => law05_place_ok (by omega) c0 W') (fun W' s l hs => ?_) w6 l6
    refine (ref_Set_ok (by have := strB_len s; rw [hs] at this; simp at this; omega) (place_in k) (mW.later l)).mono fun e w7 ⟨he, k7, m7⟩ => ⟨_, he, ?_⟩
    have sl := l.size
    have lw7 : Later w w7 := k7.later (lW.trans l) (by omega)
    have hx7 := k7.has (xW.later l) (.inl z2)
    have s7 := k7.size
    rw [hs] at m7
    have ei : IntKind.i64.wrap ((k : Int) + 1) = ((k + 1 : Nat) : Int) := by rw [i64_in (by omega) (by omega)]; rfl
    rw [ei]
    refine ⟨⟨lw7, hx7⟩, (⟨⟨k + 1, rfl, by omega, lw7, by omega, hx7, by rw [memI_succ hc]; exact m7⟩, by show u.bys.length - (k + 1) < u.bys.length - k; omega⟩)⟩
  · have q := of_decide_eq_false q
    obtain rfl : k = u.bys.length := by omega
    have hst : CstOk (st0 (memI u u.bys.length)) := st0_ok (mem_ne ok _) (mem_facts ok _).2
    refine fun w8 e8 => ?_
    have C8 : CA (mRef mb) w w8 (fun k => (a ≤ k ∧ k < b) ∨ k = W.heap.size) W.heap.size (st0 (memI u u.bys.length)) := ca_new (cs := csR mb) e8 ⟨mW, rfl⟩ (by omega) sW lW.size (ccR mb mb _) rfl rfl hst
    have l8 : Later W w8 := e8 ▸ Later.alloc' W _
    have s8 : w8.heap.size = W.heap.size + 1 := by rw [e8]; exact Array.size_push ..
    clear e8
    have hx8 := xW.later l8
    generalize hSS : (fun k => (a ≤ k ∧ k < b) ∨ k = W.heap.size) = SS at C8
    generalize hx : W.heap.size = x at C8 s8
    have lx : w.heap.size < x := by omega
    have l08 : Later w w8 := lW.trans l8
    clear mW xW l8
    have hlr := ok.lr
    refine ⟨fun vs V => ∃ k : Nat, vs = [.int .i64 k] ∧ k ≤ u.regs.length ∧ Later w V ∧ Has V w.heap.size [.slice A u.n ca, .slice B u.regs.length cb, .slice C u.bys.length cc] ∧ CA (mRef mb) w V SS x (regI u k), fun vs _ => match vs with | [.int _ k] => (u.regs.length - k.toNat) | _ => 0, ⟨0, rfl, Nat.zero_le _, l08, hx8, C8⟩, ?_⟩
    rintro g i V ⟨k, hs, hk, lV, xV, cV⟩
    simp only [List.cons.injEq, Value.int.injEq, true_and, and_true] at hs
    subst hs
    refine ⟨_, _, _, xV.cell rfl, cnd_of (fun q => ?_) fun q => ?_⟩
    · have q := of_decide_eq_true q
      have hkl : k < u.regs.length := by omega
      obtain ⟨c, hc⟩ : ∃ c, u.regs[k]? = some c := ⟨_, List.getElem?_eq_getElem hkl⟩
      obtain ⟨c0, c1⟩ := ok.regs k c hc
      have clC : ∀ W', Later V W' → Later w W' ∧ Has W' w.heap.size [.slice A u.n ca, .slice B u.regs.length cb, .slice C u.bys.length cc] := fun W' l => ⟨lV.trans l, xV.later l⟩
      refine ⟨fun W' => Later w W' ∧ Has W' w.heap.size [.slice A u.n ca, .slice B u.regs.length cb, .slice C u.bys.length cc], clC, fun w6 l6 => ?_⟩
      obtain ⟨ad, rfl, -⟩ := cell_at (hu.later lV).regs hc
      have cells : ∀ W', Later w W' → W'.cell? (ad.add (k * 3)) = some (u8v c.a) ∧ W'.cell? ((ad.add (k * 3)).add 1) = some (u64v c.v) ∧ W'.cell? ((ad.add (k * 3)).add 2) = some (.bool c.t) := fun W' l => by
        obtain ⟨ad', e, h⟩ := cell_at (hu.later l).regs hc
        obtain rfl := Option.some.inj e
        exact h
      refine ⟨_, _, _, fun W' l => l.2.cell rfl, ⟨by omega, by omega⟩, Deref_some rfl ⟨_, fun W' l => (cells W' l.1).1, _, _, _, fun W' l => l.2.cell rfl, ⟨by omega, by omega⟩, Deref_some rfl ⟨_, fun W' l => (cells W' l.1).2.1, _, _, _, fun W' l => l.2.cell rfl, ⟨by omega, by omega⟩, Deref_some rfl ⟨_, fun W' l => (cells W' l.1).2.2, ?_⟩⟩⟩⟩
      obtain ⟨c00, c01⟩ := c0
      have em : IntKind.i64.wrap (c.a.tmod 32) = c.a % 32 := by rw [Int.tmod_eq_emod_of_nonneg c00, i64_in (by omega) (by omega)]
      rw [em]
      obtain ⟨a', b', mb', pt, pr, ct, cr, cs, C6⟩ := cV.later l6
      refine (ref_Set_ok5 C6 (d := c.a % 32) (t := c.t) ⟨by omega, by omega⟩ c1).mono fun e w7 ⟨he, b7, cs', C7⟩ => ?_
      have C7 : CA (mRef mb) w w7 SS x (setS (regI u k) (c.a % 32) c.v c.t) := ⟨_, _, _, _, _, _, _, _, C7⟩
      have lw7 : Later w w7 := b7.later (lV.trans l6) (fun k hk => by omega)
      have hx7 := b7.has (xV.later l6) (show ¬ w.heap.size = x by omega)
      have ei : IntKind.i64.wrap ((k : Int) + 1) = ((k + 1 : Nat) : Int) := by rw [i64_in (by omega) (by omega)]; rfl
      rw [ei]
      refine ⟨he, ⟨lw7, hx7⟩, ⟨⟨k + 1, rfl, by omega, lw7, hx7, by rw [regI_succ hc]; exact C7⟩, by show u.regs.length - (k + 1) < u.regs.length - k; omega⟩⟩
    · have q := of_decide_eq_false q
      obtain rfl : k = u.regs.length := by omega
      exact ⟨x, mb, SS, rfl, lV, cV, fun k hk => by
        rw [← hSS] at hk
        rcases hk with hk | hk <;> omega⟩
end Go.Proofs.YtcnnnlhoiodeaaaGreat

/-
The explicit conditions of some functions of the program, printed by this repo's own program over VcTop: what is proved is that each is the condition.
Conditions: none.
-/
namespace Go.Proofs.YtcnnnlhoiodeaaaGreat
open Go Go.Vc Go.RowKit
set_option maxRecDepth 100000

/- function 18: (*sacristy/cpu.Cpu).Told -/
abbrev sacristy_cpu_Cpu_Told.N : FuncId := 18
def sacristy_cpu_Cpu_Told.H : Hints := {  }
def sacristy_cpu_Cpu_Told.vc (c' : Option Addr) (w : World) (R : Ending → World → Prop) : Prop := ∃ (b : Bool),
EqRuns Tryz.prog BinOp.eql 32 (Operand.tmp 3) (Operand.const (.pointer none)) (.pointer c') (.pointer none) b ∧
cnd b (R (.returned (.slice none 0 0)) w) (Deref c' fun a =>
∃ (p : Option Addr) (n c : Nat),
w.cell? (a.add 69) = some (.slice p n c) ∧
Calls Tryz.prog 48 #[.slice p n c] w fun e w' =>
∃ (p : Option Addr) (n c : Nat), e = .returned (.slice p n c) ∧ R (.returned (.slice p n c)) w')
theorem sacristy_cpu_Cpu_Told.calls {c' : Option Addr} {w : World} {R : Ending → World → Prop} (h : sacristy_cpu_Cpu_Told.vc c' w R) : Calls Tryz.prog 18 ([.pointer c'] : List Value).toArray w R := calls_of_eq (show fnV Tryz.prog sacristy_cpu_Cpu_Told.H 18 [.pointer c'] w R = _ from by kernel_rfl) h

/- function 19: (*sacristy/cpu.Cpu).Trace -/
abbrev sacristy_cpu_Cpu_Trace.N : FuncId := 19
def sacristy_cpu_Cpu_Trace.H : Hints := {  }
def sacristy_cpu_Cpu_Trace.vc (c' : Option Addr) (w : World) (R : Ending → World → Prop) : Prop := ∃ (b : Bool),
EqRuns Tryz.prog BinOp.eql 32 (Operand.tmp 3) (Operand.const (.pointer none)) (.pointer c') (.pointer none) b ∧
cnd b (R (.returned (.slice none 0 0)) w) (Deref c' fun a =>
∃ (p : Option Addr) (n c : Nat),
w.cell? (a.add 70) = some (.slice p n c) ∧
Calls Tryz.prog 49 #[.slice p n c] w fun e w' =>
∃ (p : Option Addr) (n c : Nat), e = .returned (.slice p n c) ∧ R (.returned (.slice p n c)) w')
theorem sacristy_cpu_Cpu_Trace.calls {c' : Option Addr} {w : World} {R : Ending → World → Prop} (h : sacristy_cpu_Cpu_Trace.vc c' w R) : Calls Tryz.prog 19 ([.pointer c'] : List Value).toArray w R := calls_of_eq (show fnV Tryz.prog sacristy_cpu_Cpu_Trace.H 19 [.pointer c'] w R = _ from by kernel_rfl) h

/- function 48: slices.Clone[[]sacristy/api.Tale,sacristy/api.Tale] -/
abbrev clone_Tale.N : FuncId := 48
def clone_Tale.H : Hints := {  }
def clone_Tale.vc (s' : Option Addr) (s'n s'c : Nat) (w : World) (R : Ending → World → Prop) : Prop := ∃ (b : Bool),
EqRuns Tryz.prog BinOp.eql 52 (Operand.tmp 3) (Operand.const (.slice none 0 0)) (.slice s' s'n s'c) (.slice none 0 0) b ∧
cnd b (R (.returned (.slice none 0 0)) w) (∀ w', w' = w.alloc (Obj.cells #[] 120) →
RunsV Tryz.prog (Builtin.append_ #[52, 52] 52 #[.slice (some (Addr.mk w.heap.size 0 none)) 0 0, .slice s' s'n s'c]) w' fun v w' =>
∃ (p : Option Addr) (n : Nat), ∃ (c : Nat), v = .slice p n c ∧ R (.returned (.slice p n c)) w')
theorem clone_Tale.calls {s' : Option Addr} {s'n s'c : Nat} {w : World} {R : Ending → World → Prop} (h : clone_Tale.vc s' s'n s'c w R) : Calls Tryz.prog 48 ([.slice s' s'n s'c] : List Value).toArray w R := calls_of_eq (show fnV Tryz.prog clone_Tale.H 48 [.slice s' s'n s'c] w R = _ from by kernel_rfl) h

/- function 49: slices.Clone[[]sacristy/api.Seen,sacristy/api.Seen] -/
abbrev clone_Seen.N : FuncId := 49
def clone_Seen.H : Hints := {  }
def clone_Seen.vc (s' : Option Addr) (s'n s'c : Nat) (w : World) (R : Ending → World → Prop) : Prop := ∃ (b : Bool),
EqRuns Tryz.prog BinOp.eql 54 (Operand.tmp 3) (Operand.const (.slice none 0 0)) (.slice s' s'n s'c) (.slice none 0 0) b ∧
cnd b (R (.returned (.slice none 0 0)) w) (∀ w', w' = w.alloc (Obj.cells #[] 80) →
RunsV Tryz.prog (Builtin.append_ #[54, 54] 54 #[.slice (some (Addr.mk w.heap.size 0 none)) 0 0, .slice s' s'n s'c]) w' fun v w' =>
∃ (p : Option Addr) (n : Nat), ∃ (c : Nat), v = .slice p n c ∧ R (.returned (.slice p n c)) w')
theorem clone_Seen.calls {s' : Option Addr} {s'n s'c : Nat} {w : World} {R : Ending → World → Prop} (h : clone_Seen.vc s' s'n s'c w R) : Calls Tryz.prog 49 ([.slice s' s'n s'c] : List Value).toArray w R := calls_of_eq (show fnV Tryz.prog clone_Seen.H 49 [.slice s' s'n s'c] w R = _ from by kernel_rfl) h

end Go.Proofs.YtcnnnlhoiodeaaaGreat

/-
'==' of two structs whose fields are numbers, bools or texts, of one cell each.
Conditions: closed facts of the struct's type; the cells are of the fields' kinds.
-/
namespace Go.Vc
open Go.RowKit

def eq1 : Value → Value → Bool
  | .int _ a, .int _ b => a == b
  | .bool a, .bool b => a == b
  | .string a, .string b => a.toList == b.toList
  | _, _ => false
def eqL : List Value → List Value → Bool
  | v :: vs, u :: us => eq1 v u && eqL vs us
  | _, _ => true
/-- Two cells of a type: numbers of its kind, bools, texts. -/
def ty2 (P : Program) (t : TypeId) (v u : Value) : Bool :=
  match P.underlying t, v, u with
  | some (.int k), .int k1 _, .int k2 _ => decide (k = k1) && decide (k = k2)
  | some .bool, .bool _, .bool _ => true
  | some .string, .string _, .string _ => true
  | _, _, _ => false
def flatL (P : Program) : Nat → List Field → List Value → List Value → Bool
  | _, [], [], [] => true
  | k, f :: fs, v :: vs, u :: us => !(f.name == "_") && Nat.beq f.offset k && ty2 P f.type v u && flatL P (k + 1) fs vs us
  | _, _, _, _ => false
theorem ty2_run {P : Program} {t : TypeId} {v u : Value} (h : ty2 P t v u = true) (d : Nat) (w : World) : (isAgg t).run P w = .ok false w ∧ (Op.equalIn (d + 1) t v u).run P w = .ok (eq1 v u) w := by
  unfold ty2 at h
  split at h
  · rename_i k k1 a k2 b hu
    simp only [Bool.and_eq_true, decide_eq_true_eq] at h
    obtain ⟨rfl, rfl⟩ := h
    exact ⟨by rw [run_isAgg hu]; simp [isAggT, hu], run_equalIn_int w d t _ _ a b hu⟩
  · rename_i a b hu
    exact ⟨by rw [run_isAgg hu]; simp [isAggT, hu], run_equalIn_bool' w d t a b hu⟩
  · rename_i a b hu
    exact ⟨by rw [run_isAgg hu]; simp [isAggT, hu], run_equalIn_string w d t a b hu⟩
  · cases h
theorem flat_run {P : Program} (d : Nat) (w : World) (xs ys : Array Value) : ∀ (fs : List Field) (k : Nat) (vs us : List Value), (∀ i, xs[k + i]? = vs[i]?) → (∀ i, ys[k + i]? = us[i]?) → flatL P k fs vs us = true →
    (Op.eqFields (d + 1) xs ys fs).run P w = .ok (eqL vs us) w := by
  intro fs
  induction fs with
  | nil =>
    intro k vs us _ _ h
    cases vs <;> cases us <;> first | (simp [Op.eqFields, eqL]; done) | (simp [flatL] at h)
  | cons f fs ih =>
    intro k vs us hx hy h
    cases vs with
    | nil => simp [flatL] at h
    | cons v vs =>
      cases us with
      | nil => simp [flatL] at h
      | cons u us =>
        simp only [flatL, Bool.and_eq_true, Bool.not_eq_true'] at h
        obtain ⟨⟨⟨hn, ho⟩, ht⟩, hr⟩ := h
        have ho : f.offset = k := Nat.eq_of_beq_eq_true ho
        obtain ⟨h1, h2⟩ := ty2_run ht d w
        have hv : xs[f.offset]? = some v := by have := hx 0; rw [ho]; simpa using this
        have hu : ys[f.offset]? = some u := by have := hy 0; rw [ho]; simpa using this
        have hn' : f.name ≠ "_" := by simpa using hn
        have := ih (k + 1) vs us (fun i => by have := hx (i + 1); simpa [Nat.add_assoc, Nat.add_comm 1 i] using this) (fun i => by have := hy (i + 1); simpa [Nat.add_assoc, Nat.add_comm 1 i] using this) hr
        simp only [Op.eqFields, if_pos hn', Sem.run_bind, part, h1, Result.andThen_ok, Bool.false_eq_true, if_false, hv, hu, Sem.run_pure, h2, Sem.run_ite, this, eqL]
        cases eq1 v u <;> simp
theorem eq_flat {P : Program} {t : TypeId} {fs : Array Field} {vs us : List Value} (xo yo : Operand) (hu : P.underlying t = some (.struct fs)) (hp : P.stoodInHeld t = false) (hm : P.eqGuardType P.depth t = false) (h : flatL P 0 fs.toList vs us = true) :
    EqRuns P .eql t xo yo (.agg vs.toArray) (.agg us.toArray) (eqL vs us) ∧ EqRuns P .neq t xo yo (.agg vs.toArray) (.agg us.toArray) (!eqL vs us) := by
  have hf : P.fieldsOf t = fs := by simp [Program.fieldsOf, hu]
  have main : ∀ w : World, (Op.equalIn 10000 t (.agg vs.toArray) (.agg us.toArray)).run P w = .ok (eqL vs us) w := fun w => by
    rw [show (10000 : Nat) = 9998 + 1 + 1 from rfl, run_equalIn_struct w (9998 + 1) t _ _ (by rw [hf]; exact hu) hp, hf]
    exact flat_run 9998 w _ _ _ 0 vs us (by simp) (by simp) h
  constructor
  · intro w
    simp only [Sem.run_bind, run_eqGuard_agg w .eql t xo yo _ _ hm, Result.andThen_ok, run_eql_struct, main w]
  · intro w
    simp only [Sem.run_bind, run_eqGuard_agg w .neq t xo yo _ _ hm, Result.andThen_ok, run_neq_struct, main w]
end Go.Vc

/-
What was told and seen: copied, compared.
Conditions: each theorem's hypotheses.
-/
namespace Go.Proofs.YtcnnnlhoiodeaaaGreat
open Go Go.Vc Go.RowKit
set_option maxRecDepth 100000

theorem clone_any {α : Type} {T : ElT α} {t e : TypeId} {bytes : Nat} (hT : RowTy Tryz.prog t e T.sz bytes) {ad : Addr} {c : Nat} {l : List α} {w w1 : World} (h1 : w1 = w.alloc (.cells #[] e)) (hr : ERow T w (some ad) l) (hn : l.length ≤ 2000000) (hby : bytes ≤ 100) {K : Value → World → Prop}
    (hK : ∀ b c' w', Later w w' → OwnE T w w' e b c' l → K (.slice b l.length c') w') : RunsV Tryz.prog (Builtin.append_ #[t, t] t #[.slice (some ⟨w.heap.size, 0, none⟩) 0 0, .slice (some ad) l.length c]) w1 K := by
  have L := (Trk.start w).alloc h1
  cases hl : l with
  | nil =>
    obtain ⟨i, z, hi, hz, hs, hby, hzs⟩ := hT.info
    refine RunsV_of (v := .slice (some ⟨w.heap.size, 0, none⟩) 0 0) (w' := w1) ?_ ?_
    · exact run_append_nothing w1 _ _ _ _ i hT.under hi _ 0 0 (Nat.le_refl 0) (.slice (some ad) 0 c) ⟨.inl ⟨_, hT.under⟩, fun w' => by simp [Builtin.lenOf], by simp [Builtin.firstCells, loadCells, loadCellsFrom], by simp [Builtin.firstCells, loadCells, loadCellsFrom], by simp, by simp⟩
    · have := hK (some ⟨w.heap.size, 0, none⟩) 0 w1 L.to (by rw [hl]; exact OwnE.new (T := T) (l := []) (Later.refl w) h1 rfl (Nat.zero_le _))
      rw [hl] at this
      exact this
  | cons x r =>
    rw [← hl]
    have hpos : 0 < l.length := by rw [hl]; simp
    refine OwnE.grow (T := T) (w0 := w1) (l := []) (news := l) t hT (Later.refl w1) (show CellsAt w1 _ 0 [] from trivial) (hr.later L.to).all (by simpa using hpos) (by simp [maxLen]; omega) (by
      simp only [List.length_nil, Nat.zero_add]
      exact Nat.le_trans (Nat.mul_le_mul hn hby) (by decide)) fun b c' w' ho hl' => ?_
    rw [List.nil_append] at ho ⊢
    exact hK _ _ _ (L.to.trans hl') (ho.weak (Later.size L.to))
/-- A copy of a row. -/
def Copy {α : Type} (T : ElT α) (e : TypeId) (l : List α) (w : World) (en : Ending) (w' : World) : Prop := ∃ b c, en = .returned (.slice b l.length c) ∧ Later w w' ∧ OwnE T w w' e b c l
theorem clone_Tale_ok {A : Option Addr} {c : Nat} {l : List (Int × Bool)} {w : World} (hr : ERow talT w A l) (hn : l.length ≤ 2000000) : Calls Tryz.prog clone_Tale.N #[.slice A l.length c] w (Copy talT 120 l w) := by
  refine clone_Tale.calls ?_
  unfold clone_Tale.vc
  refine ⟨_, slice_nil (e := 120) (by kernel_rfl) _ _ _ _ _, ?_⟩
  cases A with
  | none =>
    obtain rfl : l = [] := by
      cases l with
      | nil => rfl
      | cons m l => obtain ⟨ad, he, _⟩ := hr 0 m rfl; cases he
    exact cnd_true rfl ⟨none, 0, rfl, Later.refl _, OwnE.nil _ _ _⟩
  | some ad => exact cnd_false rfl fun w1 h1 => clone_any talRow h1 hr hn (by decide) fun b c' w' l' ho => ⟨_, _, _, rfl, _, _, rfl, l', ho⟩
theorem clone_Seen_ok {A : Option Addr} {c : Nat} {l : List Sn} {w : World} (hr : ERow snT w A l) (hn : l.length ≤ 2000000) : Calls Tryz.prog clone_Seen.N #[.slice A l.length c] w (Copy snT 80 l w) := by
  refine clone_Seen.calls ?_
  unfold clone_Seen.vc
  refine ⟨_, slice_nil (e := 80) (by kernel_rfl) _ _ _ _ _, ?_⟩
  cases A with
  | none =>
    obtain rfl : l = [] := by
      cases l with
      | nil => rfl
      | cons m l => obtain ⟨ad, he, _⟩ := hr 0 m rfl; cases he
    exact cnd_true rfl ⟨none, 0, rfl, Later.refl _, OwnE.nil _ _ _⟩
  | some ad => exact cnd_false rfl fun w1 h1 => clone_any snRow h1 hr hn (by decide) fun b c' w' l' ho => ⟨_, _, _, rfl, _, _, rfl, l', ho⟩
theorem cpu_Told_ok {m0 : Nat} {w0 w : World} {S : Nat → Prop} {cb : Nat} {s : Cst} (h : CA (mProg m0) w0 w S cb s) : Calls Tryz.prog sacristy_cpu_Cpu_Told.N #[.pointer (some ⟨cb, 0, none⟩)] w (Copy talT 120 s.told w) := by
  obtain ⟨a, b, mb, pt, pr, ct, cr, cs, h⟩ := h
  have h1 := h.ok.told
  have h2 := h.ok.tr
  refine sacristy_cpu_Cpu_Told.calls ?_
  unfold sacristy_cpu_Cpu_Told.vc
  refine ⟨_, ptr_nil (by kernel_rfl) _ _ _, cnd_false rfl (Deref_some rfl ⟨_, _, _, hat h.has h.cc.tl, ?_⟩)⟩
  exact (clone_Tale_ok h.told.row (by omega)).mono fun e w1 ⟨b, c, he, l1, ho⟩ => ⟨_, _, _, he, b, c, rfl, l1, ho⟩
theorem cpu_Trace_ok {m0 : Nat} {w0 w : World} {S : Nat → Prop} {cb : Nat} {s : Cst} (h : CA (mProg m0) w0 w S cb s) : Calls Tryz.prog sacristy_cpu_Cpu_Trace.N #[.pointer (some ⟨cb, 0, none⟩)] w (Copy snT 80 s.tr w) := by
  obtain ⟨a, b, mb, pt, pr, ct, cr, cs, h⟩ := h
  have h1 := h.ok.told
  have h2 := h.ok.tr
  refine sacristy_cpu_Cpu_Trace.calls ?_
  unfold sacristy_cpu_Cpu_Trace.vc
  refine ⟨_, ptr_nil (by kernel_rfl) _ _ _, cnd_false rfl (Deref_some rfl ⟨_, _, _, hat h.has h.cc.tr, ?_⟩)⟩
  exact (clone_Seen_ok h.tr.row (by omega)).mono fun e w1 ⟨b, c, he, l1, ho⟩ => ⟨_, _, _, he, b, c, rfl, l1, ho⟩
theorem sn_neq (a k c d : Int) (t : Bool) (a' k' c' d' : Int) (t' : Bool) (xo yo : Operand) : EqRuns Tryz.prog .neq 80 xo yo (.agg #[u64v a, u8v k, u64v c, u64v d, .bool t]) (.agg #[u64v a', u8v k', u64v c', u64v d', .bool t']) (!(a == a' && (k == k' && (c == c' && (d == d' && t == t'))))) := by
  have := (eq_flat (P := Tryz.prog) (vs := [u64v a, u8v k, u64v c, u64v d, .bool t]) (us := [u64v a', u8v k', u64v c', u64v d', .bool t']) xo yo Tryz.underlying80 (by kernel_rfl) (by kernel_rfl) (by kernel_rfl)).2
  simpa [eqL, eq1] using this
theorem tal_neq (a : Int) (t : Bool) (a' : Int) (t' : Bool) (xo yo : Operand) : EqRuns Tryz.prog .neq 120 xo yo (.agg #[u64v a, .bool t]) (.agg #[u64v a', .bool t']) (!(a == a' && t == t')) := by
  have := (eq_flat (P := Tryz.prog) (vs := [u64v a, .bool t]) (us := [u64v a', .bool t']) xo yo Tryz.underlying120 (by kernel_rfl) (by kernel_rfl) (by kernel_rfl)).2
  simpa [eqL, eq1] using this
theorem sn_at {w : World} {B : Option Addr} {l : List Sn} (h : ERow snT w B l) {k : Nat} {x : Sn} (hk : l[k]? = some x) : ∃ ad, B = some ad ∧ w.cell? (ad.add (k * 5)) = some (u64v x.pc) ∧ w.cell? ((ad.add (k * 5)).add 1) = some (u8v x.k) ∧ w.cell? ((ad.add (k * 5)).add 2) = some (u64v x.a) ∧ w.cell? ((ad.add (k * 5)).add 3) = some (u64v x.b) ∧ w.cell? ((ad.add (k * 5)).add 4) = some (.bool x.t) := by
  obtain ⟨ad, e, hc⟩ := h k x hk
  have h0 := hc 0 _ rfl
  rw [addr_add_zero] at h0
  exact ⟨ad, e, h0, hc 1 _ rfl, hc 2 _ rfl, hc 3 _ rfl, hc 4 _ rfl⟩
theorem sn_cells {w : World} {ad : Addr} {l : List Sn} (h : ERow snT w (some ad) l) {k : Nat} {x : Sn} (hk : l[k]? = some x) : w.cell? (ad.add (k * 5)) = some (u64v x.pc) ∧ w.cell? ((ad.add (k * 5)).add 1) = some (u8v x.k) ∧ w.cell? ((ad.add (k * 5)).add 2) = some (u64v x.a) ∧ w.cell? ((ad.add (k * 5)).add 3) = some (u64v x.b) ∧ w.cell? ((ad.add (k * 5)).add 4) = some (.bool x.t) := by
  obtain ⟨ad', e, h⟩ := sn_at h hk
  obtain rfl := Option.some.inj e
  exact h
theorem tal_at {w : World} {B : Option Addr} {l : List (Int × Bool)} (h : ERow talT w B l) {k : Nat} {x : Int × Bool} (hk : l[k]? = some x) : ∃ ad, B = some ad ∧ w.cell? (ad.add (k * 2)) = some (u64v x.1) ∧ w.cell? ((ad.add (k * 2)).add 1) = some (.bool x.2) := by
  obtain ⟨ad, e, hc⟩ := h k x hk
  have h0 := hc 0 _ rfl
  rw [addr_add_zero] at h0
  exact ⟨ad, e, h0, hc 1 _ rfl⟩
theorem tal_cells {w : World} {ad : Addr} {l : List (Int × Bool)} (h : ERow talT w (some ad) l) {k : Nat} {x : (Int × Bool)} (hk : l[k]? = some x) : w.cell? (ad.add (k * 2)) = some (u64v x.1) ∧ w.cell? ((ad.add (k * 2)).add 1) = some (.bool x.2) := by
  obtain ⟨ad', e, h⟩ := tal_at h hk
  obtain rfl := Option.some.inj e
  exact h
theorem ref_SameTrace_ok {A B : Option Addr} {ca cb : Nat} {l : List Sn} (w : World) (hA : ERow snT w A l) (hB : ERow snT w B l) (hl : l.length ≤ 2000000) : Calls Tryz.prog ref05_SameTrace.N #[.slice A l.length ca, .slice B l.length cb] w (Gives (.bool true) w) := by
  refine ref05_SameTrace.calls ?_
  unfold ref05_SameTrace.vc
  refine cnd_false (by simp) ⟨fun vs W => ∃ k : Nat, vs = [.int .i64 k] ∧ k ≤ l.length ∧ Later w W, fun vs _ => match vs with | [.int _ k] => (l.length - k.toNat) | _ => 0, ⟨0, rfl, Nat.zero_le _, Later.refl _⟩, ?_⟩
  rintro g i W ⟨k, hs, hk, lW⟩
  simp only [List.cons.injEq, Value.int.injEq, true_and, and_true] at hs
  subst hs
  refine cnd_of (fun q => ?_) fun q => ⟨rfl, lW⟩
  have q := of_decide_eq_true q
  have hkl : k < l.length := by omega
  obtain ⟨x, hx⟩ : ∃ x, l[k]? = some x := ⟨_, List.getElem?_eq_getElem hkl⟩
  obtain ⟨ad, rfl, -⟩ := sn_at hA hx
  obtain ⟨bd, rfl, -⟩ := sn_at hB hx
  have cA := fun W' (l' : Later W W') => sn_cells (hA.later (lW.trans l')) hx
  have cB := fun W' (l' : Later W W') => sn_cells (hB.later (lW.trans l')) hx
  refine ⟨⟨by omega, by omega⟩, Deref_some rfl ⟨_, _, _, _, _, fun W' l' => ⟨(cA W' l').1, (cA W' l').2.1, (cA W' l').2.2.1, (cA W' l').2.2.2.1, (cA W' l').2.2.2.2, trivial⟩, ⟨by omega, by omega⟩, Deref_some rfl ⟨_, _, _, _, _, fun W' l' => ⟨(cB W' l').1, (cB W' l').2.1, (cB W' l').2.2.1, (cB W' l').2.2.2.1, (cB W' l').2.2.2.2, trivial⟩, _, sn_neq _ _ _ _ _ _ _ _ _ _ _ _, fun W' l' => cnd_false (by simp) ⟨⟨k + 1, ?_, by omega, lW.trans l'⟩, ?_⟩⟩⟩⟩
  · rw [i64_in (by omega) (by omega)]; rfl
  · show l.length - (IntKind.i64.wrap ((k : Int) + 1)).toNat < l.length - k
    rw [i64_in (by omega) (by omega)]; omega
theorem ref_SameTold_ok {A B : Option Addr} {ca cb : Nat} {l : List (Int × Bool)} (w : World) (hA : ERow talT w A l) (hB : ERow talT w B l) (hl : l.length ≤ 2000000) : Calls Tryz.prog ref05_SameTold.N #[.slice A l.length ca, .slice B l.length cb] w (Gives (.bool true) w) := by
  refine ref05_SameTold.calls ?_
  unfold ref05_SameTold.vc
  refine cnd_false (by simp) ⟨fun vs W => ∃ k : Nat, vs = [.int .i64 k] ∧ k ≤ l.length ∧ Later w W, fun vs _ => match vs with | [.int _ k] => (l.length - k.toNat) | _ => 0, ⟨0, rfl, Nat.zero_le _, Later.refl _⟩, ?_⟩
  rintro g i W ⟨k, hs, hk, lW⟩
  simp only [List.cons.injEq, Value.int.injEq, true_and, and_true] at hs
  subst hs
  refine cnd_of (fun q => ?_) fun q => ⟨rfl, lW⟩
  have q := of_decide_eq_true q
  have hkl : k < l.length := by omega
  obtain ⟨x, hx⟩ : ∃ x, l[k]? = some x := ⟨_, List.getElem?_eq_getElem hkl⟩
  obtain ⟨ad, rfl, -⟩ := tal_at hA hx
  obtain ⟨bd, rfl, -⟩ := tal_at hB hx
  have cA := fun W' (l' : Later W W') => tal_cells (hA.later (lW.trans l')) hx
  have cB := fun W' (l' : Later W W') => tal_cells (hB.later (lW.trans l')) hx
  refine ⟨⟨by omega, by omega⟩, Deref_some rfl ⟨_, _, fun W' l' => ⟨(cA W' l').1, (cA W' l').2, trivial⟩, ⟨by omega, by omega⟩, Deref_some rfl ⟨_, _, fun W' l' => ⟨(cB W' l').1, (cB W' l').2, trivial⟩, _, tal_neq _ _ _ _ _ _, fun W' l' => cnd_false (by simp) ⟨⟨k + 1, ?_, by omega, lW.trans l'⟩, ?_⟩⟩⟩⟩
  · rw [i64_in (by omega) (by omega)]; rfl
  · show l.length - (IntKind.i64.wrap ((k : Int) + 1)).toNat < l.length - k
    rw [i64_in (by omega) (by omega)]; omega
end Go.Proofs.YtcnnnlhoiodeaaaGreat

/-
Runs: what stays of a state, Run, the examples of the chapter.
Conditions: each theorem's hypotheses.
-/
namespace Go.Proofs.YtcnnnlhoiodeaaaGreat
open Go Go.Vc Go.RowKit
set_option maxRecDepth 100000

theorem find_get : ∀ {st : List Pt} {a n : Int} {i : Nat} {p : Pt}, findM st a n = some (i, p) → st[i]? = some p ∧ hasR p.r a n = true
  | [], a, n, i, p, h => by simp [findM] at h
  | q :: st, a, n, i, p, h => by
    rw [findM] at h
    split at h
    · rename_i hq
      obtain ⟨rfl, rfl⟩ := Prod.mk.inj (Option.some.inj h)
      exact ⟨rfl, hq⟩
    · cases hf : findM st a n with
      | none => rw [hf] at h; cases h
      | some x =>
        rw [hf] at h
        obtain ⟨rfl, rfl⟩ := Prod.mk.inj (Option.some.inj h)
        exact find_get (st := st) hf
theorem storeM_r (st : List Pt) (a n v : Int) (t : Bool) : (storeM st a n v t).1.map (·.r) = st.map (·.r) := by
  unfold storeM
  split
  · rfl
  · split
    · rfl
    · rename_i i p hf
      split
      · exact layM_r (find_get hf).1 _ _ _
      · rfl
/-- What a step leaves of what was told, and of the memory's parts. -/
theorem doS_told (s : Cst) (o d v pc ra : Int) (ta : Bool) (rb : Int) (tb : Bool) : (doS s o d v pc ra ta rb tb).1.told.length ≤ s.told.length + 1 ∧ (doS s o d v pc ra ta rb tb).1.M.map (·.r) = s.M.map (·.r) := by
  have hS : ∀ (d v : Int) (t : Bool), (setS s d v t).told.length ≤ s.told.length + 1 ∧ (setS s d v t).M.map (·.r) = s.M.map (·.r) := fun d v t => by
    obtain ⟨h1, -, h3, -⟩ := setS_M s d v t
    rw [h1, h3]; exact ⟨Nat.le_succ _, rfl⟩
  have hI : s.told.length ≤ s.told.length + 1 ∧ s.M.map (·.r) = s.M.map (·.r) := ⟨Nat.le_succ _, rfl⟩
  unfold doS
  by_cases h1 : o ≤ 14
  · rw [if_pos h1]; exact hS _ _ _
  rw [if_neg h1]
  by_cases h2 : o ≤ 22
  · rw [if_pos h2]; exact hS _ _ _
  rw [if_neg h2]
  by_cases h3 : o ≤ 23
  · rw [if_pos h3]; exact hS _ _ _
  rw [if_neg h3]
  by_cases h4 : o ≤ 25
  · rw [if_pos h4]; exact hS _ _ _
  rw [if_neg h4]
  by_cases h5 : o ≤ 27
  · rw [if_pos h5]; exact ⟨Nat.le_succ _, storeM_r _ _ _ _ _⟩
  rw [if_neg h5]
  by_cases h6 : o ≤ 31
  · rw [if_pos h6]; show (if goesS o ra rb = true then _ else _ : Cst).told.length ≤ _ ∧ (if goesS o ra rb = true then _ else _ : Cst).M.map (·.r) = _; split <;> exact hI
  rw [if_neg h6]
  by_cases h7 : o ≤ 32
  · rw [if_pos h7]; exact hS _ _ _
  rw [if_neg h7]
  by_cases h8 : o ≤ 33
  · rw [if_pos h8]; exact hS _ _ _
  rw [if_neg h8]
  by_cases h9 : s.R 17 > 5
  · rw [if_pos h9]; exact hI
  rw [if_neg h9]
  by_cases h10 : s.R 17 = 4
  · rw [if_pos h10]; exact ⟨by simp, rfl⟩
  rw [if_neg h10]
  by_cases h11 : s.R 17 < 4
  · rw [if_pos h11]; exact hI
  rw [if_neg h11]; exact hI
theorem stepS_keeps {s : Cst} (h : s.told.length ≤ s.tr.length) : (stepS s).1.told.length ≤ (stepS s).1.tr.length ∧ (stepS s).1.M.map (·.r) = s.M.map (·.r) := by
  unfold stepS
  by_cases h1 : s.over = true
  · rw [if_pos h1]; exact ⟨h, rfl⟩
  rw [if_neg h1]
  by_cases h2 : 1048576 ≤ s.tr.length
  · rw [if_pos h2]; exact ⟨h, rfl⟩
  rw [if_neg h2]
  by_cases h3 : (fetchM s.M s.pc).2 ≠ 0
  · rw [if_pos h3]; exact ⟨h, rfl⟩
  rw [if_neg h3]
  by_cases h4 : decE (fetchM s.M s.pc).1 ≠ 0
  · rw [if_pos h4]; exact ⟨h, rfl⟩
  rw [if_neg h4]
  by_cases h5 : (insS s (fetchM s.M s.pc).1).2.2 ≠ 0
  · rw [if_pos h5]; exact ⟨h, rfl⟩
  rw [if_neg h5]
  have hd := doS_told { s with pc := uw (s.pc + 4) } (decF (fetchM s.M s.pc).1 0) (decF (fetchM s.M s.pc).1 1) (decF (fetchM s.M s.pc).1 4) s.pc (s.R (decF (fetchM s.M s.pc).1 2).toNat) (s.T (decF (fetchM s.M s.pc).1 2).toNat) (s.R (decF (fetchM s.M s.pc).1 3).toNat) (s.T (decF (fetchM s.M s.pc).1 3).toNat)
  have ht := doS_tr { s with pc := uw (s.pc + 4) } (decF (fetchM s.M s.pc).1 0) (decF (fetchM s.M s.pc).1 1) (decF (fetchM s.M s.pc).1 4) s.pc (s.R (decF (fetchM s.M s.pc).1 2).toNat) (s.T (decF (fetchM s.M s.pc).1 2).toNat) (s.R (decF (fetchM s.M s.pc).1 3).toNat) (s.T (decF (fetchM s.M s.pc).1 3).toNat)
  refine ⟨?_, hd.2⟩
  show (insS s _).1.told.length ≤ ((insS s _).1.tr ++ _).length
  have e1 : (insS s (fetchM s.M s.pc).1).1.tr = s.tr := ht
  have e2 : (insS s (fetchM s.M s.pc).1).1.told.length ≤ s.told.length + 1 := hd.1
  rw [e1, List.length_append]
  simp only [List.length_cons, List.length_nil]
  omega
/-! ### runs -/
def runL (s : Cst) : Nat → Cst × Int
  | 0 => (s, 52)
  | k + 1 => if (stepS s).2 ≠ 0 then stepS s else if (stepS s).1.over = true then stepS s else runL (stepS s).1 k
def runS (s : Cst) (fuel : Int) : Cst × Int := if s.over = true then (s, 50) else if fuel < 0 then (s, 2) else if fuel > 1048576 then (s, 2) else runL s fuel.toNat
/-- What comes of a machine: the state, the answer. -/
def MoveR (X : Mach) (w0 w : World) (S : Nat → Prop) (cb : Nat) (r : Cst × Int) (e : Ending) (w' : World) : Prop :=
  e = .returned (i64v r.2) ∧ But S w w' ∧ ∃ S', Grow S S' w ∧ CA X w0 w' S' cb r.1
theorem MoveR.trans {X : Mach} {w0 w w1 w2 : World} {S S1 : Nat → Prop} {cb : Nat} {r : Cst × Int} {e : Ending} (hb : But S w w1) (hg : Grow S S1 w) (h : MoveR X w0 w1 S1 cb r e w2) : MoveR X w0 w S cb r e w2 := by
  obtain ⟨he, b2, S2, g2, c2⟩ := h
  exact ⟨he, hb.step b2 fun k hk h1 => (hg k h1).elim id fun h2 => absurd hk (by omega), S2, hg.trans g2 hb.size, c2⟩
theorem over_at {X : Mach} {w0 w : World} {S : Nat → Prop} {cb : Nat} {s : Cst} (h : CA X w0 w S cb s) : w.cell? ⟨cb, 66, none⟩ = some (.bool s.over) := by
  obtain ⟨a, b, mb, pt, pr, ct, cr, cs, h⟩ := h
  exact h.cell h.cc.ov
set_option maxHeartbeats 3200000 in
theorem cpu_Run_ok {m0 : Nat} {w0 w : World} {S : Nat → Prop} {cb : Nat} {s : Cst} (h : CA (mProg m0) w0 w S cb s) (htl : s.told.length ≤ s.tr.length) (fuel : Int) :
    Calls Tryz.prog sacristy_cpu_Cpu_Run.N #[.pointer (some ⟨cb, 0, none⟩), i64v fuel] w (MoveR (mProg m0) w0 w S cb (runS s fuel)) := by
  refine sacristy_cpu_Cpu_Run.calls ?_
  unfold sacristy_cpu_Cpu_Run.vc
  refine ⟨_, ptr_nil (by kernel_rfl) _ _ _, cnd_false rfl (Deref_some rfl ⟨_, over_at h, ?_⟩)⟩
  have stay : ∀ k : Int, runS s fuel = (s, k) → MoveR (mProg m0) w0 w S cb (runS s fuel) (.returned (i64v k)) w := fun k hk => by
    rw [hk]; exact ⟨rfl, But.refl _ _, S, Grow.refl _ _, h⟩
  refine cnd_of (fun h1 => stay _ (by unfold runS; rw [if_pos h1])) fun h1 => cnd_of (fun h2 => stay _ (by unfold runS; rw [if_neg (by rw [h1]; decide), if_pos (of_decide_eq_true h2)])) fun h2 => cnd_of (fun h3 => stay _ (by unfold runS; rw [if_neg (by rw [h1]; decide), if_neg (of_decide_eq_false h2), if_pos (of_decide_eq_true h3)])) fun h3 => ?_
  have h2 := of_decide_eq_false h2
  have h3 := of_decide_eq_false h3
  have hr : runS s fuel = runL s fuel.toNat := by unfold runS; rw [if_neg (by rw [h1]; decide), if_neg h2, if_neg h3]
  rw [hr]
  refine ⟨fun vs W => ∃ (k : Nat) (q : Cst), vs = [.int .i64 k] ∧ k ≤ fuel.toNat ∧ runL s fuel.toNat = runL q (fuel.toNat - k) ∧ q.told.length ≤ q.tr.length ∧ But S w W ∧ ∃ S1, Grow S S1 w ∧ CA (mProg m0) w0 W S1 cb q, fun vs _ => match vs with | [.int _ k] => (fuel.toNat - k.toNat) | _ => 0, ⟨0, s, rfl, Nat.zero_le _, rfl, htl, But.refl _ _, S, Grow.refl _ _, h⟩, ?_⟩
  rintro g i W ⟨k, q, hs, hk, he, hq, hb, S1, hg, hc⟩
  simp only [List.cons.injEq, Value.int.injEq, true_and, and_true] at hs
  subst hs
  refine cnd_of (fun hlt => ?_) fun hlt => ?_
  · have hlt := of_decide_eq_true hlt
    have e1 : fuel.toNat - k = (fuel.toNat - (k + 1)) + 1 := by omega
    rw [e1, runL] at he
    refine (cpu_Step_ok hc hq).mono fun e W1 hst => ?_
    obtain ⟨he1, hb1, S2, hg2, hc2⟩ := hst
    refine ⟨_, he1, cnd_of (fun hn => ?_) fun hn => ?_⟩
    · have hn : (stepS q).2 ≠ 0 := by simpa using hn
      rw [he, if_pos hn]
      exact MoveR.trans hb hg ⟨rfl, hb1, S2, hg2, hc2⟩
    · have hn : (stepS q).2 = 0 := by simpa using hn
      rw [if_neg (by rw [hn]; decide)] at he
      refine Deref_some rfl ⟨_, over_at hc2, cnd_of (fun ho => ?_) fun ho => ?_⟩
      · rw [he, if_pos ho]
        exact MoveR.trans hb hg ⟨rfl, hb1, S2, hg2, hc2⟩
      · rw [if_neg (by rw [ho]; decide)] at he
        have hm := MoveR.trans (e := .returned (i64v (stepS q).2)) hb hg ⟨rfl, hb1, S2, hg2, hc2⟩
        obtain ⟨-, hb3, S3, hg3, hc3⟩ := hm
        have ei : IntKind.i64.wrap ((k : Int) + 1) = ((k + 1 : Nat) : Int) := by rw [i64_in (by omega) (by omega)]; rfl
        rw [ei]
        exact ⟨⟨k + 1, (stepS q).1, rfl, by omega, he, (stepS_keeps hq).1, hb3, S3, hg3, hc3⟩, by show fuel.toNat - (k + 1) < fuel.toNat - k; omega⟩
  · have hlt := of_decide_eq_false hlt
    have e0 : fuel.toNat - k = 0 := by omega
    rw [e0, runL] at he
    rw [he]
    exact ⟨rfl, hb, S1, hg, hc⟩
end Go.Proofs.YtcnnnlhoiodeaaaGreat

/-
The examples of chapter 05.
Conditions: each theorem's hypotheses.
-/
namespace Go.Proofs.YtcnnnlhoiodeaaaGreat
open Go Go.Vc Go.RowKit
set_option maxRecDepth 100000

def exF (i j : Nat) : Int := (([15, 10, 0, 0, 7, 15, 17, 0, 0, 4, 34, 0, 0, 0, 0, 15, 17, 0, 0, 0, 34, 0, 0, 0, 0] : List Int)[5 * i + j]?).getD 0
def exU : Su := ⟨5, exF, [], []⟩
def jaF (i j : Nat) : Int := (([32, 0, 0, 0, 0] : List Int)[5 * i + j]?).getD 0
def jaU : Su := ⟨1, jaF, [], []⟩
theorem ex_run : let r := runS (initS exU) 100; r.2 = 0 ∧ r.1.over = true ∧ r.1.code = 0 ∧ r.1.e = 0 ∧ r.1.told = [(7, false)] ∧ r.1.tr.length = 5 := by
  refine ⟨?_, ?_, ?_, ?_, ?_, ?_⟩ <;> kernel_rfl
theorem ja_run : let r := runS (initS jaU) 100; r.2 = 52 ∧ r.1.tr.length = 100 := by
  refine ⟨?_, ?_⟩ <;> kernel_rfl
theorem introw_of {w : World} {b n : Nat} {cs : List Value} {F : Nat → Nat → Int} (h : Has w b cs) (hc : ∀ i, i < n → ∀ j k, insK[j]? = some k → cs[i * 5 + j]? = some (.int k (F i j)) ∧ (Lit.int k (F i j)).wf = true) : IntRow w (some ⟨b, 0, none⟩) n insK F := by
  intro i hi
  refine ⟨_, rfl, fun j k hk => ?_⟩
  obtain ⟨h1, h2⟩ := hc i hi j k hk
  refine ⟨?_, h2⟩
  have := h.cell h1
  show w.cell? (((⟨b, 0, none⟩ : Addr).add (i * 5)).add j) = _
  rw [add_block, add_block, Nat.zero_add]
  exact this
theorem ex_row {w : World} {b : Nat} (h : Has w b [u8v 15, u8v 10, u8v 0, u8v 0, i64v 7, u8v 15, u8v 17, u8v 0, u8v 0, i64v 4, u8v 34, u8v 0, u8v 0, u8v 0, i64v 0, u8v 15, u8v 17, u8v 0, u8v 0, i64v 0, u8v 34, u8v 0, u8v 0, u8v 0, i64v 0]) : IntRow w (some ⟨b, 0, none⟩) 5 insK exF := by
  refine introw_of h fun i hi j k hk => ?_
  have hj : j < 5 := (List.getElem?_eq_some_iff.1 hk).1
  rcases i with _ | _ | _ | _ | _ | i <;> first | omega | (rcases j with _ | _ | _ | _ | _ | j <;> first | omega | (cases hk; exact ⟨rfl, by decide⟩))
theorem ja_row {w : World} {b : Nat} (h : Has w b [u8v 32, u8v 0, u8v 0, u8v 0, i64v 0]) : IntRow w (some ⟨b, 0, none⟩) 1 insK jaF := by
  refine introw_of h fun i hi j k hk => ?_
  have hj : j < 5 := (List.getElem?_eq_some_iff.1 hk).1
  rcases i with _ | i <;> first | omega | (rcases j with _ | _ | _ | _ | _ | j <;> first | omega | (cases hk; exact ⟨rfl, by decide⟩))
theorem ex_ok : SuOk exU := ⟨by decide, by decide, by decide, by decide, fun k c h => by simp [exU] at h, fun k c h => by simp [exU] at h⟩
theorem ja_ok : SuOk jaU := ⟨by decide, by decide, by decide, by decide, fun k c h => by simp [jaU] at h, fun k c h => by simp [jaU] at h⟩
theorem ptr_nen {t : TypeId} (h : Tryz.prog.underlying t = some (.pointer (Tryz.prog.pointee t))) (p : Option Addr) (xo yo : Operand) : EqRuns Tryz.prog .neq t xo yo (.pointer p) (.pointer none) (!p.isNone) := by
  intro w
  rw [eqGuard_at_pointer]
  simp only [Sem.run_bind, Sem.run_pure, Result.andThen_ok]
  exact run_neq_pointer_nil w _ p h
theorem tal_eq (a : Int) (t : Bool) (a' : Int) (t' : Bool) (xo yo : Operand) : EqRuns Tryz.prog .eql 120 xo yo (.agg #[u64v a, .bool t]) (.agg #[u64v a', .bool t']) (a == a' && t == t') := by
  have := (eq_flat (P := Tryz.prog) (vs := [u64v a, .bool t]) (us := [u64v a', .bool t']) xo yo Tryz.underlying120 (by kernel_rfl) (by kernel_rfl) (by kernel_rfl)).1
  simpa [eqL, eq1] using this
theorem init_told (u : Su) : ∀ k, (regI u k).told = [] ∧ (regI u k).tr = [] ∧ (regI u k).over = false ∧ (regI u k).M = memI u u.bys.length
  | 0 => ⟨rfl, rfl, rfl, rfl⟩
  | k + 1 => by
    have ih := init_told u k
    unfold regI
    split
    · rename_i c _
      obtain ⟨h1, h2, h3, -, -, h6, -⟩ := setS_M (regI u k) (c.a % 32) c.v c.t
      rw [h1, h2, h3, h6]; exact ih
    · exact ih
theorem init_keeps (u : Su) : (initS u).told.length ≤ (initS u).tr.length := by
  rw [show (initS u).told = [] from (init_told u _).1]
  exact Nat.zero_le _
theorem runL_keeps : ∀ (k : Nat) {s : Cst}, s.told.length ≤ s.tr.length → (runL s k).1.told.length ≤ (runL s k).1.tr.length
  | 0, s, h => h
  | k + 1, s, h => by
    have h' := (stepS_keeps h).1
    unfold runL
    split
    · exact h'
    · split
      · exact h'
      · exact runL_keeps k h'
theorem runS_keeps {s : Cst} (h : s.told.length ≤ s.tr.length) (f : Int) : (runS s f).1.told.length ≤ (runS s f).1.tr.length := by
  unfold runS
  split
  · exact h
  · split
    · exact h
    · split
      · exact h
      · exact runL_keeps _ h
set_option maxHeartbeats 3200000 in
theorem law05_alive_ok (w : World) : Calls Tryz.prog law05_alive.N #[] w (Gives (.bool true) w) := by
  obtain ⟨x1, x2, x3, x4, x5, x6⟩ := ex_run
  obtain ⟨j1, j2⟩ := ja_run
  refine law05_alive.calls ?_
  unfold law05_alive.vc
  intro w1 e1 w2 e2
  have T := ((Trk.start w).alloc e1).alloc e2
  refine T.setAll 1 rfl (by rfl) (ones rfl) fun w3 T3 => ?_
  refine ⟨_, _, _, _, _, _, _, _, _, ⟨T3.cell 1 rfl rfl, T3.cell 1 rfl rfl, T3.cell 1 rfl rfl, trivial⟩, ?_⟩
  refine (law05_Built_ok ex_ok (A := some ⟨w.heap.size, 0, none⟩) (B := none) (C := none) ⟨ex_row (T3.has 0 rfl), ERow.nil _ _, ERow.nil _ _⟩).mono fun e w4 ⟨x, mb, S, he, l4, c4, n4⟩ => ⟨_, _, he, ?_⟩
  refine ⟨_, ptr_nil (by kernel_rfl) _ _ _, cnd_false rfl ?_⟩
  refine (cpu_Run_ok c4 (init_keeps _) 100).mono fun e w5 ⟨he, b5, S1, g5, c5⟩ => ⟨_, he, ?_⟩
  rw [x1]
  refine cnd_false (by decide) ?_
  refine (cpu_Over_ok c5).mono fun e w6 ⟨he, l6⟩ => ⟨_, _, _, he, ?_⟩
  refine (cpu_Told_ok (c5.later l6)).mono fun e w7 ⟨tb, tc, he, l7, ho7⟩ => ⟨_, _, _, he, fun w8 e8 => ?_⟩
  have l8 : Later w7 w8 := e8 ▸ Later.alloc' w7 _
  have r8 : Has w8 w7.heap.size [u8v 32, u8v 0, u8v 0, u8v 0, i64v 0] := by rw [e8]; exact Has.new _ _ _
  refine (law05_Built_ok ja_ok (A := some ⟨w7.heap.size, 0, none⟩) (B := none) (C := none) ⟨ja_row r8, ERow.nil _ _, ERow.nil _ _⟩).mono fun e w9 ⟨y, mb2, S2, he, l9, c9, n9⟩ => ⟨_, _, he, ?_⟩
  refine ⟨_, ptr_nen (by kernel_rfl) _ _ _, cnd_true rfl ?_⟩
  refine (cpu_Run_ok c9 (init_keeps _) 100).mono fun e w10 ⟨he, b10, S3, g10, c10⟩ => ⟨_, he, ?_⟩
  have l69 : Later w5 w9 := ((l6.trans l7).trans l8).trans l9
  have z7 := Later.size (l6.trans l7)
  have z8 := Later.size l8
  have c10' := (c5.later l69).but b10 fun k h1 h2 => by
    have := (c5.new k h1).2
    have := n9 k h2
    omega
  have ho10 := OwnE.but (T := talT) (OwnS.later ho7 (l8.trans l9)) b10 fun k hk h2 => by
    have := (OwnS.lt ho7 hk).2
    have := n9 k h2
    omega
  rw [x2, x3, x4]
  rw [j1]
  refine cnd_true rfl (cnd_true (by decide) (cnd_true (by decide) ?_))
  have hrow := OwnE.row (T := talT) ho10
  rw [x5] at hrow ⊢
  obtain ⟨ad, rfl, h1, h2⟩ := tal_at hrow (k := 0) rfl
  rw [Nat.zero_mul, addr_add_zero] at h1 h2
  refine cnd_true (by decide) ⟨⟨Int.le_refl 0, by decide⟩, Deref_some rfl ⟨_, _, ⟨h1, h2, trivial⟩, _, tal_eq _ _ _ _ _ _, cnd_true (by decide) ?_⟩⟩
  refine (cpu_Trace_ok c10').mono fun e w11 ⟨b1, b2, he, l11, _⟩ => ⟨_, _, _, he, ?_⟩
  rw [x6]
  refine cnd_true (by decide) (cnd_true (by decide) ?_)
  refine (cpu_Trace_ok (c10.later l11)).mono fun e w12 ⟨b1, b2, he, l12, _⟩ => ⟨_, _, _, he, ?_⟩
  rw [j2]
  refine cnd_true (by decide) ?_
  refine (cpu_Step_ok (c10'.later (l11.trans l12)) (runS_keeps (init_keeps _) _)).mono fun e w13 ⟨he, b13, _⟩ => ⟨_, he, ?_⟩
  have : (stepS (runS (initS exU) 100).1).2 = 50 := by unfold stepS; rw [if_pos x2]
  rw [this]
  have q3 := Later.size T3.to
  have q4 := Later.size l4
  have q5 := b5.size
  have q9 := Later.size l9
  have u5 : Later w w5 := b5.later (T3.to.trans l4) fun k hk => by have := n4 k hk; omega
  have u10 : Later w w10 := b10.later (u5.trans l69) fun k hk => by have := n9 k hk; omega
  exact ⟨rfl, b13.later (u10.trans (l11.trans l12)) fun k hk => by
    rcases g5 k hk with hk | hk
    · have := n4 k hk; omega
    · omega⟩
end Go.Proofs.YtcnnnlhoiodeaaaGreat

/-
Are a machine and the document's the same?
Conditions: each theorem's hypotheses.
-/
namespace Go.Proofs.YtcnnnlhoiodeaaaGreat
open Go Go.Vc Go.RowKit
set_option maxRecDepth 100000

/-- A whole part. -/
theorem bytes_all5 {st : List Pt} (hs : StOk st) (hd : Sep st) {i : Nat} {p : Pt} (hi : st[i]? = some p) : bytesM st p.r.f p.r.s = (p.bs, p.ts, 0) := by
  have hp := hs.2 i p hi
  have m := mayR_facts hp.may
  have hh : hasR p.r p.r.f p.r.s = true := by
    simp only [hasR, Bool.and_eq_true, decide_eq_true_eq]
    omega
  unfold bytesM
  rw [if_neg (by omega), find_at hd hi hh]
  have e : offR p p.r.f = 0 := by unfold offR; omega
  show ((p.bs.drop (offR p p.r.f)).take p.r.s.toNat, (p.ts.drop (offR p p.r.f)).take p.r.s.toNat, (0 : Int)) = _
  rw [e, List.drop_zero, List.drop_zero, List.take_of_length_le (by rw [hp.bl]; exact Nat.le_refl _), List.take_of_length_le (by rw [hp.tl]; exact Nat.le_refl _)]
theorem reg_i {st : List Pt} {n : Nat} (hr : st.map (·.r) = regsOf n) {k : Nat} (hk : 1 ≤ k) (hk3 : k < 3) : ∃ p, st[k]? = some p ∧ p.r.s = 256 ∧ 0 ≤ p.r.f ∧ p.r.f < 18446744073709551616 := by
  have hl : st.length = 3 := by have := congrArg List.length hr; simpa [regsOf] using this
  obtain ⟨p, hp⟩ : ∃ p, st[k]? = some p := ⟨_, List.getElem?_eq_getElem (by omega)⟩
  have := congrArg (fun l => l[k]?) hr
  simp only [List.getElem?_map, hp, Option.map_some, regsOf] at this
  refine ⟨p, hp, ?_⟩
  rcases k with _ | _ | _ | k
  · omega
  · obtain rfl' := Option.some.inj this
    rw [rfl']; exact ⟨rfl, by decide, by decide⟩
  · obtain rfl' := Option.some.inj this
    rw [rfl']; exact ⟨rfl, by decide, by decide⟩
  · omega
set_option maxHeartbeats 6400000 in
theorem law05_same_ok {mb rb : Nat} {w0 w1 w : World} {S S' : Nat → Prop} {x y n : Nat} {s : Cst} (hP : CA (mProg mb) w0 w S x s) (hR : CA (mRef rb) w1 w S' y s) (hn : n ≤ 1000) (hr : s.M.map (·.r) = regsOf n) :
    Calls Tryz.prog law05_same.N #[.pointer (some ⟨x, 0, none⟩), .pointer (some ⟨mb, 0, none⟩), .pointer (some ⟨y, 0, none⟩)] w (Gives (.bool true) w) := by
  refine law05_same.calls ?_
  unfold law05_same.vc
  obtain ⟨a, b, mb', pt, pr, ct, cr, cs, hR'⟩ := hR
  have hcc := hR'.cc
  refine ⟨fun vs W => ∃ k : Nat, vs = [.int .i64 k] ∧ k ≤ 32 ∧ Later w W, fun vs _ => match vs with | [.int _ k] => (32 - k.toNat) | _ => 0, ⟨0, rfl, by decide, Later.refl _⟩, ?_⟩
  rintro g i W ⟨k, hs, hk, lW⟩
  simp only [List.cons.injEq, Value.int.injEq, true_and, and_true] at hs
  subst hs
  refine cnd_of (fun q => ?_) fun q => ?_
  · have q := of_decide_eq_true q
    have hk32 : k < 32 := by omega
    refine (cpu_Reg_ok (hP.later lW) k).mono fun e W1 ⟨he, l1⟩ => ?_
    unfold regV5 at he
    rw [if_pos (by omega), Int.toNat_natCast] at he
    have h1 := (hR'.later (lW.trans l1)).has
    refine ⟨_, _, _, he, Deref_some rfl ⟨by omega, _, hat2 h1 (i := 2) (by rw [Int.toNat_natCast, Nat.mul_one]; exact hcc.rv k hk32), cnd_false (by simp) (Deref_some rfl ⟨by omega, _, hat2 h1 (i := 34) (by rw [Int.toNat_natCast, Nat.mul_one]; exact hcc.rt k hk32), cnd_false (by simp) (cnd_false (by decide) ?_)⟩)⟩⟩
    have ei : IntKind.i64.wrap ((k : Int) + 1) = ((k + 1 : Nat) : Int) := by rw [i64_in (by omega) (by omega)]; rfl
    rw [ei]
    exact ⟨⟨k + 1, rfl, by omega, lW.trans l1⟩, by show 32 - (k + 1) < 32 - k; omega⟩
  · clear q hk
    refine (cpu_Over_ok (hP.later lW)).mono fun e W1 ⟨he, l1⟩ => ⟨_, _, _, he, ?_⟩
    have L1 := lW.trans l1
    have cell : ∀ {j : Nat} {v : Value}, cs[j]? = some v → ∀ W', Later W1 W' → W'.cell? ((⟨y, 0, none⟩ : Addr).add j) = some v := fun hv W' l => hat (hR'.later (L1.trans l)).has hv
    refine ⟨fun W' => Later W1 W', fun W' l => l, fun W2 l2 => ?_⟩
    refine Deref_some rfl ⟨_, cell hcc.pc, ?_⟩
    refine (cpu_Pc_ok (hP.later (L1.trans l2))).mono fun e W3 ⟨he, l3⟩ => ⟨_, he, l2.trans l3, cnd_false (by simp) ?_⟩
    have l13 := l2.trans l3
    refine Deref_some rfl ⟨_, cell hcc.ov, cnd_false (by simp) (Deref_some rfl ⟨_, cell hcc.cd, cnd_false (by simp) (Deref_some rfl ⟨_, cell hcc.er, cnd_false (by simp) ?_⟩)⟩)⟩
    refine Deref_some rfl ⟨_, _, _, cell hcc.tl, ?_⟩
    have htl := hP.ok.told
    have htr := hP.ok.tr
    refine (cpu_Told_ok (hP.later (L1.trans l13))).mono fun e W4 ⟨b4, c4, he, l4, o4⟩ => ⟨_, _, _, he, l13.trans l4, ?_⟩
    have l14 := l13.trans l4
    refine (ref_SameTold_ok W4 (OwnE.row (T := talT) o4) (OwnE.row (T := talT) (hR'.later (L1.trans l14)).told) (by omega)).mono fun e W5 ⟨he, l5⟩ => ⟨_, he, l14.trans l5, cnd_false rfl ?_⟩
    have l15 := l14.trans l5
    refine Deref_some rfl ⟨_, _, _, cell hcc.tr, ?_⟩
    refine (cpu_Trace_ok (hP.later (L1.trans l15))).mono fun e W6 ⟨b6, c6, he, l6, o6⟩ => ⟨_, _, _, he, l15.trans l6, ?_⟩
    have l16 := l15.trans l6
    refine (ref_SameTrace_ok W6 (OwnE.row (T := snT) o6) (OwnE.row (T := snT) (hR'.later (L1.trans l16)).tr) (by omega)).mono fun e W7 ⟨he, l7⟩ => ⟨_, he, l16.trans l7, cnd_false rfl ?_⟩
    have L7 : Later w W7 := L1.trans (l16.trans l7)
    clear l1 l2 l3 l13 l4 l14 l5 l15 l6 l16 l7 o4 o6 cell L1
    have hP7 := hP.later L7
    refine ⟨fun vs V => ∃ k : Nat, vs = [.int .i64 k] ∧ 1 ≤ k ∧ k ≤ 3 ∧ Later w V, fun vs _ => match vs with | [.int _ k] => (3 - k.toNat) | _ => 0, ⟨1, rfl, by decide, by decide, L7⟩, ?_⟩
    rintro g' i V ⟨k, hs, hk1, hk3, lV⟩
    simp only [List.cons.injEq, Value.int.injEq, true_and, and_true] at hs
    subst hs
    refine cnd_of (fun q => ?_) fun q => ⟨rfl, lV⟩
    have q := of_decide_eq_true q
    have hk3 : k < 3 := by omega
    have hl : s.M.length = 3 := by have := congrArg List.length hr; simpa [regsOf] using this
    obtain ⟨p, hp, hsz, hf0, hf1⟩ := reg_i hr hk1 hk3
    have hV := hR'.later lV
    obtain ⟨lb, Bb, Tb, bi, ti, hA⟩ := hV.mem.1
    obtain ⟨c1, c2, c3, hh⟩ := hA.hr
    obtain ⟨ad, hAd, d0, d1, d2, -⟩ := reg_cells hA.L (map_get hp)
    obtain rfl := Option.some.inj hAd
    have hm := hV.cc.m
    have pcell : ∀ W', Later V W' → W'.cell? (⟨y, 0, none⟩ : Addr) = some (.pointer (some ⟨mb', 0, none⟩)) := fun W' l => (hV.later l).has.cell hm
    have hcellL := hh.cell (i := 0) rfl
    refine Deref_some rfl ⟨_, pcell V (Later.refl _), Deref_some rfl ⟨_, _, _, hcellL, ⟨by omega, by omega⟩, Deref_some rfl ⟨_, d0, ?_⟩⟩⟩
    have hPV := hP.later lV
    obtain ⟨aP, bP, mbP, ptP, prP, ctP, crP, csP', hPx⟩ := hPV
    obtain ⟨hMA, rfl⟩ := hPx.mem
    have hs' := hPx.ok.M
    have hsep := sep_of hn hr
    refine (mem_Bytes_ok hPx.ok.ne (x := p.r.f) (n := 256) ⟨hf0, hf1⟩ hMA).mono fun e W3 ⟨g3, Q, cQ, he, oQ⟩ => ⟨_, _, _, _, _, he, ?_⟩
    have eb := bytes_all5 hs' hsep hp
    rw [hsz] at eb
    rw [eb] at oQ ⊢
    have h3 := hA.later g3
    have hh3 := hh.later g3
    refine cnd_false rfl (Deref_some rfl ⟨_, pcell W3 g3, Deref_some rfl ⟨_, _, _, hh3.cell (i := 1) rfl, ⟨by omega, by omega⟩, Deref_some rfl ?_⟩⟩)
    rw [Int.toNat_natCast, Nat.mul_one, adr1]
    refine ⟨_, _, _, h3.B k p hp, ?_⟩
    have hcells : CellsAt W3 ⟨bi k, 0, none⟩ 0 (p.bs.map (Value.int .u8)) := (h3.hB k p hp).cellsAt (u8c p.bs) 0 (fun j v hj => by rw [Nat.zero_add]; exact hj)
    refine runs_bytes_string (P := Tryz.prog) (w := W3) (src := 90) (dst := 9) (e := 5) (l := p.bs.length) (c := p.bs.length) (by kernel_rfl) (by kernel_rfl) (by kernel_rfl) rfl hcells ⟨_, rfl, cnd_false (by simp) ?_⟩
    refine Deref_some rfl ⟨_, pcell W3 g3, Deref_some rfl ⟨_, _, _, hh3.cell (i := 2) rfl, ⟨by omega, by omega⟩, Deref_some rfl ?_⟩⟩
    rw [adr1]
    have hrt : ERow boT W3 (some ⟨ti k, 0, none⟩) p.ts := by
      have hh := h3.hT k p hp
      intro j m' hj
      refine ⟨_, rfl, fun y v hv => ?_⟩
      have hy : y < 1 := (List.getElem?_eq_some_iff.1 hv).1
      obtain rfl : y = 0 := by omega
      have hv : v = .bool m' := by simpa [boT] using hv.symm
      rw [hv, addr_add_add, add_block, show 0 + (j * boT.sz + 0) = j by show 0 + (j * 1 + 0) = j; omega]
      exact hh.cell (boc_get hj)
    refine ⟨_, _, _, h3.T k p hp, ?_⟩
    have htsl := (hs'.2 k p hp).tl
    refine (ref_Same_ok (by rw [htsl, hsz]; decide) oQ.row hrt).mono fun e w' ⟨he, hl'⟩ => ⟨_, he, ?_⟩
    have ei : IntKind.i64.wrap ((k : Int) + 1) = ((k + 1 : Nat) : Int) := by rw [i64_in (by omega) (by omega)]; rfl
    rw [ei]
    exact cnd_false (by simp) ⟨⟨k + 1, rfl, by omega, by omega, lV.trans (g3.trans hl')⟩, by show 3 - (k + 1) < 3 - k; omega⟩
end Go.Proofs.YtcnnnlhoiodeaaaGreat

/-
The explicit conditions of some functions of the program, printed by this repo's own program over VcTop: what is proved is that each is the condition.
Conditions: none.
-/
namespace Go.Proofs.YtcnnnlhoiodeaaaGreat
open Go Go.Vc Go.RowKit
set_option maxRecDepth 100000

/- function 6: sacristy/sacristylaw05.CpuPlays -/
abbrev law05_CpuPlays.N : FuncId := 6
def law05_CpuPlays.H : Hints := { loops := [(9, [(8, .one (.int .i64))])] }
def law05_CpuPlays.vc (x'_0 : Option Addr) (x'_0n x'_0c : Nat) (x'_1 : Option Addr) (x'_1n x'_1c : Nat) (x'_2 : Option Addr) (x'_2n x'_2c : Nat) (steps' : Int) (w : World) (R : Ending → World → Prop) : Prop := ∀ w', w' = w.alloc (Obj.cells #[.slice x'_0 x'_0n x'_0c, .slice x'_1 x'_1n x'_1c, .slice x'_2 x'_2n x'_2c] 31) →
∃ (p : Option Addr) (n c : Nat) (p_1 : Option Addr) (n_1 c_1 : Nat) (p_2 : Option Addr) (n_2 c_2 : Nat),
(w'.cell? (Addr.mk w.heap.size 0 none) = some (.slice p n c) ∧
w'.cell? (Addr.mk w.heap.size 1 none) = some (.slice p_1 n_1 c_1) ∧
w'.cell? (Addr.mk w.heap.size 2 none) = some (.slice p_2 n_2 c_2) ∧ True) ∧
Calls Tryz.prog 21 #[.agg #[.slice p n c, .slice p_1 n_1 c_1, .slice p_2 n_2 c_2]] w' fun e w' =>
∃ (b : Bool),
e = .returned (.bool b) ∧
cnd b (Calls Tryz.prog 14 #[] w' fun e w' =>
∃ (b : Bool),
e = .returned (.bool b) ∧ R (.returned (.bool b)) w') (∃ (p : Option Addr) (n c : Nat) (p_3 : Option Addr) (n_3 c_3 : Nat) (p_4 : Option Addr) (n_4 c_4 : Nat),
(w'.cell? (Addr.mk w.heap.size 0 none) = some (.slice p n c) ∧
w'.cell? (Addr.mk w.heap.size 1 none) = some (.slice p_3 n_3 c_3) ∧
w'.cell? (Addr.mk w.heap.size 2 none) = some (.slice p_4 n_4 c_4) ∧
True) ∧
Calls Tryz.prog 8 #[.agg #[.slice p n c, .slice p_3 n_3 c_3,
Value.slice p_4 n_4 c_4]] w' fun e w' =>
∃ (p p_5 : Option Addr),
e = .returned (.tuple #[.pointer p, .pointer p_5]) ∧
∃ (b : Bool),
EqRuns Tryz.prog BinOp.eql 32 (Operand.tmp 17) (Operand.const (.pointer none)) (.pointer p) (.pointer none) b ∧
cnd b (R (.returned (.bool false)) w') (∃ (p_6 : Option Addr) (n c : Nat) (p_7 : Option Addr) (n_5 c_5 : Nat) (p_8 : Option Addr) (n_6 c_6 : Nat),
(w'.cell? (Addr.mk w.heap.size 0 none) = some (.slice p_6 n c) ∧
w'.cell? (Addr.mk w.heap.size 1 none) = some (.slice p_7 n_5 c_5) ∧
w'.cell? (Addr.mk w.heap.size 2 none) = some (.slice p_8 n_6 c_6) ∧
True) ∧
Calls Tryz.prog 26 #[.agg #[.slice p_6 n c,
Value.slice p_7 n_5 c_5,
Value.slice p_8 n_6 c_6]] w' fun e w' =>
∃ (p_9 : Option Addr),
e = .returned (.pointer p_9) ∧
∃ (I : List Value →
World → Prop) (μ : List Value →
World → Nat),
I [.int .i64 0] w' ∧
∀ (g : Nat → Value) (i : Int) (w' : World),
I [.int .i64 i] w' →
cnd (decide (i < IntKind.i64.wrap (steps'.tmod 300))) (Calls Tryz.prog 9 #[.pointer p] w' fun e w'_1 =>
∃ (n : Int),
e = .returned (.int .i64 n) ∧
Calls Tryz.prog 27 #[.pointer p_9] w'_1 fun e w'_2 =>
∃ (n_7 : Int),
e = .returned (.int .i64 n_7) ∧
cnd (n != n_7) (R (.returned (.bool false)) w'_2) (cnd (i.tmod 16 == 0) (Calls Tryz.prog 28 #[.pointer p,
Value.pointer p_5,
Value.pointer p_9] w'_2 fun e w'_3 =>
∃ (b : Bool),
e = .returned (.bool b) ∧
cnd (!b) (R (.returned (.bool false)) w'_3) (Deref p_9 fun a =>
∃ (b : Bool),
w'_3.cell? (a.add 66) = some (.bool b) ∧
cnd b (Calls Tryz.prog 28 #[.pointer p,
Value.pointer p_5,
Value.pointer p_9] w'_3 fun e w' =>
∃ (b : Bool),
e = .returned (.bool b) ∧
cnd b (Calls Tryz.prog 14 #[] w' fun e w' =>
∃ (b : Bool),
e = .returned (.bool b) ∧
R (.returned (.bool b)) w') (R (.returned (.bool false)) w')) (Goes I μ [.int .i64 i] w' [.int .i64 (IntKind.i64.wrap (i + 1))] w'_3))) (Deref p_9 fun a =>
∃ (b : Bool),
w'_2.cell? (a.add 66) = some (.bool b) ∧
cnd b (Calls Tryz.prog 28 #[.pointer p,
Value.pointer p_5,
Value.pointer p_9] w'_2 fun e w' =>
∃ (b : Bool),
e = .returned (.bool b) ∧
cnd b (Calls Tryz.prog 14 #[] w' fun e w' =>
∃ (b : Bool),
e = .returned (.bool b) ∧
R (.returned (.bool b)) w') (R (.returned (.bool false)) w')) (Goes I μ [.int .i64 i] w' [.int .i64 (IntKind.i64.wrap (i + 1))] w'_2)))) (Calls Tryz.prog 28 #[.pointer p,
Value.pointer p_5,
Value.pointer p_9] w' fun e w' =>
∃ (b : Bool),
e = .returned (.bool b) ∧
cnd b (Calls Tryz.prog 14 #[] w' fun e w' =>
∃ (b : Bool),
e = .returned (.bool b) ∧
R (.returned (.bool b)) w') (R (.returned (.bool false)) w'))))
theorem law05_CpuPlays.vc_eq (x'_0 : Option Addr) (x'_0n x'_0c : Nat) (x'_1 : Option Addr) (x'_1n x'_1c : Nat) (x'_2 : Option Addr) (x'_2n x'_2c : Nat) (steps' : Int) (w : World) (R : Ending → World → Prop) : fnV Tryz.prog law05_CpuPlays.H 6 [.agg #[.slice x'_0 x'_0n x'_0c, .slice x'_1 x'_1n x'_1c, .slice x'_2 x'_2n x'_2c],
Value.int .u16 steps'] w R = law05_CpuPlays.vc x'_0 x'_0n x'_0c x'_1 x'_1n x'_1c x'_2 x'_2n x'_2c steps' w R := by kernel_rfl
theorem law05_CpuPlays.calls {x'_0 : Option Addr} {x'_0n x'_0c : Nat} {x'_1 : Option Addr} {x'_1n x'_1c : Nat} {x'_2 : Option Addr} {x'_2n x'_2c : Nat} {steps' : Int} {w : World} {R : Ending → World → Prop} (h : law05_CpuPlays.vc x'_0 x'_0n x'_0c x'_1 x'_1n x'_1c x'_2 x'_2n x'_2c steps' w R) : Calls Tryz.prog 6 ([.agg #[.slice x'_0 x'_0n x'_0c, .slice x'_1 x'_1n x'_1c, .slice x'_2 x'_2n x'_2c],
Value.int .u16 steps'] : List Value).toArray w R := calls_of_eq (law05_CpuPlays.vc_eq x'_0 x'_0n x'_0c x'_1 x'_1n x'_1c x'_2 x'_2n x'_2c steps' w R) h

end Go.Proofs.YtcnnnlhoiodeaaaGreat

/-
CpuPlays.
Conditions: each theorem's hypotheses.
-/
namespace Go.Proofs.YtcnnnlhoiodeaaaGreat
open Go Go.Vc Go.RowKit
set_option maxRecDepth 100000

theorem init_M {u : Su} (ok : SuOk u) : (initS u).M.map (·.r) = regsOf u.n := by
  rw [show (initS u).M = memI u u.bys.length from (init_told u _).2.2.2]
  exact (mem_facts ok _).1
/-- Two machines side by side. -/
structure Two (X Y : Mach) (w1 w2 W : World) (S T : Nat → Prop) (x y : Nat) (s t : Cst) : Prop where
  a : CA X w1 W S x s
  b : CA Y w2 W T y t
  d : ∀ k, S k → ¬ T k
theorem Two.later {X Y : Mach} {w1 w2 W W' : World} {S T : Nat → Prop} {x y : Nat} {s t : Cst} (h : Two X Y w1 w2 W S T x y s t) (l : Later W W') : Two X Y w1 w2 W' S T x y s t := ⟨h.a.later l, h.b.later l, h.d⟩
theorem Two.left {X Y : Mach} {w1 w2 W W' : World} {S T : Nat → Prop} {x y : Nat} {s t : Cst} (h : Two X Y w1 w2 W S T x y s t) {r : Cst × Int} {e : Ending} (m : MoveR X w1 W S x r e W') : e = .returned (i64v r.2) ∧ (∀ w, Later w W → w.heap.size ≤ w1.heap.size → Later w W') ∧ ∃ S', Two X Y w1 w2 W' S' T x y r.1 t := by
  obtain ⟨he, hb, S', hg, hc⟩ := m
  refine ⟨he, fun w l hl => hb.later l fun k hk => Nat.le_trans hl (h.a.new k hk).1, S', hc, h.b.but hb fun k hk h2 => h.d k h2 hk, fun k h1 h2 => ?_⟩
  rcases hg k h1 with h3 | h3
  · exact h.d k h3 h2
  · have := (h.b.new k h2).2; omega
theorem Two.right {X Y : Mach} {w1 w2 W W' : World} {S T : Nat → Prop} {x y : Nat} {s t : Cst} (h : Two X Y w1 w2 W S T x y s t) {r : Cst × Int} {e : Ending} (m : MoveR Y w2 W T y r e W') : e = .returned (i64v r.2) ∧ (∀ w, Later w W → w.heap.size ≤ w2.heap.size → Later w W') ∧ ∃ T', Two X Y w1 w2 W' S T' x y s r.1 := by
  obtain ⟨he, hb, T', hg, hc⟩ := m
  refine ⟨he, fun w l hl => hb.later l fun k hk => Nat.le_trans hl (h.b.new k hk).1, T', h.a.but hb fun k hk h2 => h.d k hk h2, hc, fun k h1 h2 => ?_⟩
  rcases hg k h2 with h3 | h3
  · exact h.d k h1 h3
  · have := (h.a.new k h1).2; omega
set_option maxHeartbeats 6400000 in
theorem law05_CpuPlays_ok {u : Su} {A B C : Option Addr} {ca cb cc : Nat} (hF : ∀ i, i < u.n → U8 (u.F i 0) ∧ U8 (u.F i 1) ∧ U8 (u.F i 2) ∧ U8 (u.F i 3) ∧ I64 (u.F i 4)) (hrg : ∀ (k : Nat) (c : Cl), u.regs[k]? = some c → U8 c.a ∧ U64 c.v) (hby : ∀ (k : Nat) (c : Cl), u.bys[k]? = some c → U8 c.a ∧ U64 c.v)
    {n : Int} (hn : 0 ≤ n ∧ n < 65536) (w : World) (hu : SuAt w u A B C) : Calls Tryz.prog law05_CpuPlays.N #[suV u A B C ca cb cc, .int .u16 n] w (Gives (.bool true) w) := by
  refine law05_CpuPlays.calls ?_
  unfold law05_CpuPlays.vc
  intro w1 e1
  have T := (Trk.start w).alloc e1
  have fin : ∀ W : World, Later w W → Calls Tryz.prog law05_alive.N #[] W fun e w' => ∃ b, e = .returned (.bool b) ∧ Gives (.bool true) w (.returned (.bool b)) w' := fun W l => (law05_alive_ok W).mono fun e w'' ⟨he, l'⟩ => ⟨_, he, rfl, l.trans l'⟩
  refine ⟨_, _, _, _, _, _, _, _, _, ⟨T.cell 0 rfl rfl, T.cell 0 rfl rfl, T.cell 0 rfl rfl, trivial⟩, ?_⟩
  refine (law05_heavy_ok A B C ca cb cc w1).mono fun e w2 ⟨he, l2⟩ => ⟨_, he, cnd_of (fun _ => fin _ (T.to.trans l2)) fun hh => ?_⟩
  have T2 := T.later l2
  have ok : SuOk u := by
    simp only [Bool.or_eq_false_iff, decide_eq_false_iff_not] at hh
    exact ⟨by omega, hF, by omega, by omega, hrg, hby⟩
  have hN : ∃ N : Nat, IntKind.i64.wrap (n.tmod 300) = N ∧ N < 300 := by
    refine ⟨(n % 300).toNat, ?_, by omega⟩
    rw [Int.tmod_eq_emod_of_nonneg hn.1, i64_in (by omega) (by omega)]
    omega
  obtain ⟨N, hN, hN3⟩ := hN
  rw [hN]
  refine ⟨_, _, _, _, _, _, _, _, _, ⟨T2.cell 0 rfl rfl, T2.cell 0 rfl rfl, T2.cell 0 rfl rfl, trivial⟩, ?_⟩
  refine (law05_Built_ok ok (hu.later T2.to)).mono fun e w3 ⟨x, mb, S, he, l3, c3, n3⟩ => ⟨_, _, he, _, ptr_nil (by kernel_rfl) _ _ _, cnd_false rfl ?_⟩
  have T3 := T2.later l3
  refine ⟨_, _, _, _, _, _, _, _, _, ⟨T3.cell 0 rfl rfl, T3.cell 0 rfl rfl, T3.cell 0 rfl rfl, trivial⟩, ?_⟩
  refine (law05_built_ok ok (hu.later T3.to)).mono fun e w4 ⟨y, rb, S', he, l4, c4, n4⟩ => ⟨_, he, ?_⟩
  have z2 := Later.size T2.to
  have z3 := Later.size T3.to
  have two : Two (mProg mb) (mRef rb) w2 w3 w4 S S' x y (initS u) (initS u) := ⟨c3.later l4, c4, fun k h1 h2 => by
    have := (c3.new k h1).2
    have := n4 k h2
    omega⟩
  have hn := ok.n
  -- the end
  have ends : ∀ (W : World) (s : Cst) (S1 S2 : Nat → Prop), Later w W → Two (mProg mb) (mRef rb) w2 w3 W S1 S2 x y s s → s.M.map (·.r) = regsOf u.n →
      Calls Tryz.prog law05_same.N #[.pointer (some ⟨x, 0, none⟩), .pointer (some ⟨mb, 0, none⟩), .pointer (some ⟨y, 0, none⟩)] W fun e w' => ∃ b, e = .returned (.bool b) ∧ cnd b (Calls Tryz.prog law05_alive.N #[] w' fun e w' => ∃ b, e = .returned (.bool b) ∧ Gives (.bool true) w (.returned (.bool b)) w') (Gives (.bool true) w (.returned (.bool false)) w') := fun W s S1 S2 l h hr =>
    (law05_same_ok h.a h.b (by omega) hr).mono fun e w' ⟨he, l'⟩ => ⟨_, he, cnd_true rfl (fin _ (l.trans l'))⟩
  refine ⟨fun vs W => ∃ (k : Nat) (s : Cst) (S1 S2 : Nat → Prop), vs = [.int .i64 k] ∧ k ≤ N ∧ Later w W ∧ Two (mProg mb) (mRef rb) w2 w3 W S1 S2 x y s s ∧ s.M.map (·.r) = regsOf u.n ∧ s.told.length ≤ s.tr.length, fun vs _ => match vs with | [.int _ k] => (N - k.toNat) | _ => 0, ⟨0, initS u, S, S', rfl, Nat.zero_le _, T3.to.trans l4, two, init_M ok, init_keeps u⟩, ?_⟩
  rintro g i W ⟨k, s, S1, S2, hs, hk, lW, hT, hr, htl⟩
  simp only [List.cons.injEq, Value.int.injEq, true_and, and_true] at hs
  subst hs
  refine cnd_of (fun q => ?_) fun q => ends W s S1 S2 lW hT hr
  have q := of_decide_eq_true q
  refine (cpu_Step_ok hT.a htl).mono fun e W1 h1 => ?_
  obtain ⟨he1, L1, S1', hT1⟩ := hT.left (r := stepS s) h1
  refine ⟨_, he1, (ref_Step_ok hT1.b htl).mono fun e W2 h2 => ?_⟩
  obtain ⟨he2, L2, S2', hT2⟩ := hT1.right (r := stepS s) h2
  have lW1 := L1 w lW z2
  have lW2 := L2 w lW1 z3
  obtain ⟨k1, k2⟩ := stepS_keeps htl
  have hr2 : (stepS s).1.M.map (·.r) = regsOf u.n := k2.trans hr
  have ei : IntKind.i64.wrap ((k : Int) + 1) = ((k + 1 : Nat) : Int) := by rw [i64_in (by omega) (by omega)]; rfl
  rw [ei]
  have go : ∀ W3, Later W2 W3 → Deref (some (⟨y, 0, none⟩ : Addr)) fun a => ∃ b, W3.cell? (a.add 66) = some (.bool b) ∧ cnd b (Calls Tryz.prog law05_same.N #[.pointer (some ⟨x, 0, none⟩), .pointer (some ⟨mb, 0, none⟩), .pointer (some ⟨y, 0, none⟩)] W3 fun e w' => ∃ b, e = .returned (.bool b) ∧ cnd b (Calls Tryz.prog law05_alive.N #[] w' fun e w' => ∃ b, e = .returned (.bool b) ∧ Gives (.bool true) w (.returned (.bool b)) w') (Gives (.bool true) w (.returned (.bool false)) w'))
      (Goes (fun vs W => ∃ (k : Nat) (s : Cst) (S1 S2 : Nat → Prop), vs = [.int .i64 k] ∧ k ≤ N ∧ Later w W ∧ Two (mProg mb) (mRef rb) w2 w3 W S1 S2 x y s s ∧ s.M.map (·.r) = regsOf u.n ∧ s.told.length ≤ s.tr.length) (fun vs _ => match vs with | [.int _ k] => (N - k.toNat) | _ => 0) [.int .i64 k] W [.int .i64 ((k + 1 : Nat) : Int)] W3) := fun W3 l3 => by
    have hT3 := hT2.later l3
    refine Deref_some rfl ⟨_, over_at hT3.b, cnd_of (fun _ => ends W3 _ _ _ (lW2.trans l3) hT3 hr2) fun _ => ⟨⟨k + 1, _, _, _, rfl, by omega, lW2.trans l3, hT3, hr2, k1⟩, by show N - (k + 1) < N - k; omega⟩⟩
  refine ⟨_, he2, cnd_false (by simp) (cnd_of (fun _ => ?_) fun _ => go W2 (Later.refl _))⟩
  refine (law05_same_ok hT2.a hT2.b (by omega) hr2).mono fun e W3 ⟨he, l3⟩ => ⟨_, he, cnd_false rfl (go W3 l3)⟩
end Go.Proofs.YtcnnnlhoiodeaaaGreat

/-
What is handed in: values, and elements of slices, that are numbers, bools, texts, and structs of them, however deep.
Conditions: each theorem's hypotheses; nothing is asked of a program.
-/
namespace Go.Vc
open Go.RowKit Go.ChangeShapes Go.WideShapes

inductive CK where
  | int (k : IntKind) | bool | str
def CK.fits : CK → Value → Prop
  | .int k, v => ∃ n, v = .int k n ∧ (Lit.int k n).wf = true
  | .bool, v => ∃ b, v = .bool b
  | .str, v => ∃ s : ByteArray, v = .string s ∧ s.size ≤ maxLen
/-- The kinds of the cells of a struct's fields. -/
def kindsFs (P : Program) (g : TypeId → Option (List CK)) : List Field → Nat → Option (List CK)
  | [], _ => some []
  | f :: fs, o => (match g f.type with
    | some ks => (match Nat.beq f.offset o && Nat.beq (P.cellsOf f.type) ks.length with
      | true => (match kindsFs P g fs (o + ks.length) with | some l => some (ks ++ l) | none => none)
      | false => none)
    | none => none)
def kindsT (P : Program) : Nat → TypeId → Option (List CK)
  | 0, _ => none
  | n + 1, t => (match P.underlying t with
    | some .bool => some [.bool]
    | some (.int k) => some [.int k]
    | some .string => some [.str]
    | some (.struct fs) => kindsFs P (kindsT P n) fs.toList 0
    | _ => none)
section
variable {H : Type} {enc : TypeId × Value → H} {P : Program} {w : World} {base : Nat} {spare : Nat → Bool} {held : Bool}
theorem kindsFs_read {g : TypeId → Option (List CK)} {cs : List Value} (hg : ∀ (t : TypeId) (ks : List CK) (m : Nat) (cs' : List Value) (x : DataW H × List MemPlace), g t = some ks → DataW.trod enc P w base spare held m t cs' = some x → ∀ (j : Nat) (k : CK), ks[j]? = some k → ∃ v, cs'[j]? = some v ∧ k.fits v) :
    ∀ (fs : List Field) (o : Nat) (ks : List CK), kindsFs P g fs o = some ks → (∀ f ∈ fs, ∃ m y, DataW.trod enc P w base spare held m f.type ((cs.drop f.offset).take (P.cellsOf f.type)) = some y) → ∀ (j : Nat) (k : CK), ks[j]? = some k → ∃ v, cs[o + j]? = some v ∧ k.fits v := by
  intro fs
  induction fs with
  | nil =>
    intro o ks h _ j k hj
    simp only [kindsFs, Option.some.injEq] at h
    subst h
    simp at hj
  | cons f fs ih =>
    intro o ks h hT j k hj
    unfold kindsFs at h
    split at h
    case h_2 => cases h
    rename_i ks1 hk1
    split at h
    case h_2 => cases h
    rename_i hb
    simp only [Bool.and_eq_true] at hb
    have ho := Nat.eq_of_beq_eq_true hb.1
    have hc := Nat.eq_of_beq_eq_true hb.2
    split at h
    case h_2 => cases h
    rename_i l hl
    obtain rfl := Option.some.inj h
    by_cases hjl : j < ks1.length
    · rw [List.getElem?_append_left hjl] at hj
      obtain ⟨m, y, hy⟩ := hT f List.mem_cons_self
      obtain ⟨v, hv, hf⟩ := hg _ _ _ _ _ hk1 hy j k hj
      refine ⟨v, ?_, hf⟩
      rw [List.getElem?_take, hc, if_pos hjl, List.getElem?_drop, ho] at hv
      exact hv
    · rw [List.getElem?_append_right (by omega)] at hj
      obtain ⟨v, hv, hf⟩ := ih _ _ hl (fun g hg => hT g (List.mem_cons_of_mem f hg)) _ _ hj
      exact ⟨v, by rwa [show o + ks1.length + (j - ks1.length) = o + j by omega] at hv, hf⟩
theorem kindsT_read : ∀ (n : Nat) (t : TypeId) (ks : List CK) (m : Nat) (cs : List Value) (x : DataW H × List MemPlace), kindsT P n t = some ks → DataW.trod enc P w base spare held m t cs = some x → ∀ (j : Nat) (k : CK), ks[j]? = some k → ∃ v, cs[j]? = some v ∧ k.fits v
  | 0, t, ks, m, cs, x, h, _ => by simp [kindsT] at h
  | n + 1, t, ks, m, cs, x, h, hx => by
    intro j k hj
    unfold kindsT at h
    split at h
    · rename_i hu
      obtain rfl := Option.some.inj h
      obtain ⟨b, rfl, _⟩ := DataW.trod_bool hu hx
      cases j with
      | zero => obtain rfl : CK.bool = k := by simpa using hj
                exact ⟨_, rfl, b, rfl⟩
      | succ j => simp at hj
    · rename_i k' hu
      obtain rfl := Option.some.inj h
      obtain ⟨q, rfl, _, hw⟩ := DataW.trod_int hu hx
      cases j with
      | zero => obtain rfl : CK.int k' = k := by simpa using hj
                exact ⟨_, rfl, q, rfl, hw⟩
      | succ j => simp at hj
    · rename_i hu
      obtain rfl := Option.some.inj h
      obtain ⟨s, rfl, _, hs⟩ := DataW.trod_string hu hx
      cases j with
      | zero => obtain rfl : CK.str = k := by simpa using hj
                exact ⟨_, rfl, s, rfl, hs⟩
      | succ j => simp at hj
    · rename_i fs hu
      obtain ⟨xs, n', _, _, hlen, hxs, hf⟩ := DataW.trod_struct hu hx
      have := kindsFs_read (cs := cs) (fun t ks m cs x => kindsT_read n t ks m cs x) fs.toList 0 ks h (fun f hf' => by
        obtain ⟨i, hi⟩ := List.getElem?_of_mem hf'
        have h1 := hf i f (by simpa using hi)
        have hil : i < xs.length := by
          have := (List.getElem?_eq_some_iff.1 hi).1
          rw [hxs]; simpa using this
        rw [List.getElem?_eq_getElem hil] at h1
        exact ⟨n', _, h1⟩) j k hj
      rwa [Nat.zero_add] at this
    · cases h
end
end Go.Vc

/-
A setup that is handed in.
Conditions: each theorem's hypotheses.
-/
namespace Go.Proofs.YtcnnnlhoiodeaaaGreat
open Go Go.Vc Go.RowKit Go.ChangeShapes Go.WideShapes
set_option maxRecDepth 100000

theorem wf_u16 {n : Int} (h : (Lit.int .u16 n).wf = true) : 0 ≤ n ∧ n < 65536 := by
  have := wf_bound h
  rw [show IntKind.u16.min = 0 from rfl, show IntKind.u16.max = 65535 from rfl] at this
  omega
section
variable {H : Type} {enc : TypeId × Value → H} {w : World} {base : Nat} {spare : Nat → Bool} {held : Bool} {P : Program}
theorem row_read {t e : TypeId} {fuel : Nat} {cs : List Value} {x : DataW H × List MemPlace} (ht : P.underlying t = some (.slice e)) (h : DataW.trod enc P w base spare held fuel t cs = some x) :
    ∃ A n cap C, cs = [.slice A n cap] ∧ n ≤ cap ∧ cap ≤ maxLen ∧ ArgRow w A n (P.cellsOf e) C ∧ ∀ i, i < n → ∃ m x, DataW.trod enc P w base spare held m e (C i) = some x := by
  rcases Deep.open_slice ht h with ⟨hc, _⟩ | ⟨a, n, cap, m, q, D, Pl, hc, _, hl, hm, hmm, _, hx⟩
  · exact ⟨none, 0, 0, fun _ => [], hc, Nat.le_refl _, by decide, fun i hi => absurd hi (Nat.not_lt_zero i), fun i hi => absurd hi (Nat.not_lt_zero i)⟩
  · have hnm : n ≤ m := by rw [hmm]; split <;> omega
    obtain ⟨C, hC⟩ := Deep.choose_lt (fun i hi => hx i (Nat.lt_of_lt_of_le hi hnm) : ∀ i, i < n → _)
    refine ⟨some a, n, cap, C, hc, hl, hm, fun i hi => ?_, fun i hi => ⟨q, _, (hC i hi).2⟩⟩
    obtain ⟨_, h2, h3⟩ := World.cells?_some (hC i hi).1
    refine ⟨a, rfl, h2, fun j v hj => ?_⟩
    have hlt := (List.getElem?_eq_some_iff.1 hj).1
    rw [h3 j (by omega)]
    exact hj
theorem field_read {cs : List Value} {fs : Array Field} {n' : Nat} {xs : List (DataW H × List MemPlace)} (hlen : xs.length = fs.size) (hf : ∀ (i : Nat) (f : Field), fs[i]? = some f → DataW.trod enc P w base spare held n' f.type ((cs.drop f.offset).take (P.cellsOf f.type)) = xs[i]?)
    (i : Nat) (f : Field) (hi : fs[i]? = some f) (t o n : Nat) (ht : f.type = t) (ho : f.offset = o) (hn : P.cellsOf t = n) : ∃ m y, DataW.trod enc P w base spare held m t ((cs.drop o).take n) = some y := by
  subst ht; subst ho; subst hn
  have hil : i < xs.length := by rw [hlen]; exact (Array.getElem?_eq_some_iff.1 hi).1
  exact ⟨n', _, (hf i f hi).trans (List.getElem?_eq_getElem hil)⟩
/-- What a setup holds that was handed in. -/
structure SuIn (u : Su) : Prop where
  F : ∀ i, i < u.n → U8 (u.F i 0) ∧ U8 (u.F i 1) ∧ U8 (u.F i 2) ∧ U8 (u.F i 3) ∧ I64 (u.F i 4)
  regs : ∀ (k : Nat) (c : Cl), u.regs[k]? = some c → U8 c.a ∧ U64 c.v
  bys : ∀ (k : Nat) (c : Cl), u.bys[k]? = some c → U8 c.a ∧ U64 c.v
instance : Inhabited Cl := ⟨⟨0, 0, false⟩⟩
theorem cells_read {A : Option Addr} {n : Nat} {C : Nat → List Value} {e : TypeId} (he : ∀ (m : Nat) (x : DataW H × List MemPlace) (l : List Value), DataW.trod enc P w base spare held m e l = some x → ∃ a v t, l[0]? = some (u8v a) ∧ l[1]? = some (u64v v) ∧ l[2]? = some (.bool t) ∧ U8 a ∧ U64 v) (hc : P.cellsOf e = 3)
    (R : ArgRow w A n (P.cellsOf e) C) (T : ∀ i, i < n → ∃ m x, DataW.trod enc P w base spare held m e (C i) = some x) : ∃ l : List Cl, l.length = n ∧ ERow cellT w A l ∧ ∀ (k : Nat) (c : Cl), l[k]? = some c → U8 c.a ∧ U64 c.v := by
  obtain ⟨F, hF⟩ := Deep.choose_lt (p := fun i (m : Cl) => ((C i)[0]? = some (u8v m.a) ∧ (C i)[1]? = some (u64v m.v) ∧ (C i)[2]? = some (.bool m.t)) ∧ U8 m.a ∧ U64 m.v) (n := n) (fun i hi => by
    obtain ⟨m, x, hx⟩ := T i hi
    obtain ⟨a, v, t, h0, h1, h2, h3, h4⟩ := he m x _ hx
    exact ⟨⟨a, v, t⟩, ⟨h0, h1, h2⟩, h3, h4⟩)
  have hn : ((List.range n).map F).length = n := by simp
  refine ⟨(List.range n).map F, hn, fun i m hi => ?_, fun i m hi => ?_⟩
  · have hil : i < n := by have := (List.getElem?_eq_some_iff.1 hi).1; rwa [hn] at this
    obtain rfl : F i = m := by simpa [hil] using hi
    obtain ⟨ad, g1, _, g3⟩ := R i hil
    rw [hc] at g3
    obtain ⟨⟨c0, c1, c2⟩, -⟩ := hF i hil
    refine ⟨ad, g1, fun j v hv => ?_⟩
    have hj : j < 3 := (List.getElem?_eq_some_iff.1 hv).1
    match j, hj, hv with
    | 0, _, hv => obtain rfl := Option.some.inj hv; exact g3 0 _ c0
    | 1, _, hv => obtain rfl := Option.some.inj hv; exact g3 1 _ c1
    | 2, _, hv => obtain rfl := Option.some.inj hv; exact g3 2 _ c2
  · have hil : i < n := by have := (List.getElem?_eq_some_iff.1 hi).1; rwa [hn] at this
    obtain rfl : F i = m := by simpa [hil] using hi
    exact (hF i hil).2
theorem arg_setup {r : Reach} {b0 : Nat} {v : Value} {d : DataW H} {ps : List MemPlace} (hval : Value.okWide Tryz.prog w r b0 31 v) (h : DataW.Trod enc Tryz.prog w base spare held 31 v d ps) :
    ∃ A ca B cb C cc u, v = suV u A B C ca cb cc ∧ SuIn u ∧ SuAt w u A B C := by
  obtain ⟨cs, rfl, hsz⟩ := okWide_struct Tryz.underlying31 hval
  obtain ⟨fuel, h⟩ := h
  obtain ⟨xs, n', _, _, hlen, hxs, hf⟩ := DataW.trod_struct Tryz.underlying31 h
  have hsz : cs.size = 3 := hsz.trans (by kernel_rfl)
  obtain ⟨m0, y0, h0⟩ := field_read hxs hf 0 _ rfl 26 0 1 rfl rfl (by kernel_rfl)
  obtain ⟨m1, y1, h1⟩ := field_read hxs hf 1 _ rfl 29 1 1 rfl rfl (by kernel_rfl)
  obtain ⟨m2, y2, h2⟩ := field_read hxs hf 2 _ rfl 29 2 1 rfl rfl (by kernel_rfl)
  obtain ⟨l, rfl⟩ : ∃ l : List Value, cs = l.toArray := ⟨cs.toList, by simp⟩
  match l, hsz with
  | [v0, v1, v2], _ =>
  simp only [Value.cells, List.drop_zero, List.drop_succ_cons, List.take_succ_cons, List.take_zero] at h0 h1 h2
  obtain ⟨A0, l0, c0, C0, e0, hl0, hm0, R0, T0⟩ := row_read Tryz.underlying26 h0
  obtain ⟨A1, l1, c1, C1, e1, hl1, hm1, R1, T1⟩ := row_read Tryz.underlying29 h1
  obtain ⟨A2, l2, c2, C2, e2, hl2, hm2, R2, T2⟩ := row_read Tryz.underlying29 h2
  have hcell : ∀ (m : Nat) (x : DataW H × List MemPlace) (l : List Value), DataW.trod enc Tryz.prog w base spare held m 28 l = some x → ∃ a v t, l[0]? = some (u8v a) ∧ l[1]? = some (u64v v) ∧ l[2]? = some (.bool t) ∧ U8 a ∧ U64 v := fun m x l hx => by
    have hc := kindsT_read 2 _ [.int .u8, .int .u64, .bool] _ _ _ (by kernel_rfl) hx
    obtain ⟨u0, g0, n0, rfl, f0⟩ := hc 0 _ rfl
    obtain ⟨u1, g1, n1, rfl, f1⟩ := hc 1 _ rfl
    obtain ⟨u2, g2, b2, rfl⟩ := hc 2 _ rfl
    exact ⟨n0, n1, b2, g0, g1, g2, wf_u8 f0, wf_u64 f1⟩
  obtain ⟨lr, hr1, hr2, hr3⟩ := cells_read hcell (by kernel_rfl) R1 T1
  obtain ⟨lb, hb1, hb2, hb3⟩ := cells_read hcell (by kernel_rfl) R2 T2
  obtain ⟨F, hF⟩ := Deep.choose_lt (p := fun i (f : Nat → Int) => ∀ j k, insK[j]? = some k → (C0 i)[j]? = some (.int k (f j)) ∧ (Lit.int k (f j)).wf = true) (n := l0) (fun i hi => by
    obtain ⟨m, x, hx⟩ := T0 i hi
    have hc := kindsT_read 2 _ [.int .u8, .int .u8, .int .u8, .int .u8, .int .i64] _ _ _ (by kernel_rfl) hx
    obtain ⟨u0, g0, n0, rfl, f0⟩ := hc 0 _ rfl
    obtain ⟨u1, g1, n1, rfl, f1⟩ := hc 1 _ rfl
    obtain ⟨u2, g2, n2, rfl, f2⟩ := hc 2 _ rfl
    obtain ⟨u3, g3, n3, rfl, f3⟩ := hc 3 _ rfl
    obtain ⟨u4, g4, n4, rfl, f4⟩ := hc 4 _ rfl
    refine ⟨fun j => match j with | 0 => n0 | 1 => n1 | 2 => n2 | 3 => n3 | _ => n4, fun j k hk => ?_⟩
    have hj : j < 5 := (List.getElem?_eq_some_iff.1 hk).1
    match j, hj, hk with
    | 0, _, hk => obtain rfl := Option.some.inj hk; exact ⟨g0, f0⟩
    | 1, _, hk => obtain rfl := Option.some.inj hk; exact ⟨g1, f1⟩
    | 2, _, hk => obtain rfl := Option.some.inj hk; exact ⟨g2, f2⟩
    | 3, _, hk => obtain rfl := Option.some.inj hk; exact ⟨g3, f3⟩
    | 4, _, hk => obtain rfl := Option.some.inj hk; exact ⟨g4, f4⟩)
  obtain rfl : v0 = _ := by simpa using e0
  obtain rfl : v1 = _ := by simpa using e1
  obtain rfl : v2 = _ := by simpa using e2
  refine ⟨A0, c0, A1, c1, A2, c2, ⟨l0, F, lr, lb⟩, ?_, ⟨fun i hi => ?_, hr3, hb3⟩, ⟨fun i hi => ?_, hr2, hb2⟩⟩
  · simp [suV, hr1, hb1]
  · have := hF i hi
    exact ⟨wf_u8 (this 0 _ rfl).2, wf_u8 (this 1 _ rfl).2, wf_u8 (this 2 _ rfl).2, wf_u8 (this 3 _ rfl).2, wf_i64 (this 4 _ rfl).2⟩
  · obtain ⟨ad, g1, _, g3⟩ := R0 i hi
    exact ⟨ad, g1, fun j k hk => ⟨g3 j _ (hF i hi j k hk).1, (hF i hi j k hk).2⟩⟩
end
end Go.Proofs.YtcnnnlhoiodeaaaGreat
