/-
What the chapter's laws come to, once called: true, and nothing old is turned. Second part: unlike instructions, all instructions.
Conditions: each number is of its kind.
-/
import Derived.Test.YtgdbgbphbkefcaaLaw02
import Derived.Test.YtgdbgbphbkefcaaInsnJ
import Derived.Test.YtgdbgbphbkefcaaVcEq
import Derived.Test.YtgdbgbphbkefcaaVcOwn
import Derived.Deep.Upon
namespace Go.Proofs.Ytgdbgbphbkefcaa
open Go Go.Vc Go.RowKit
set_option linter.unusedVariables false
set_option linter.unusedSimpArgs false
set_option maxRecDepth 100000

theorem eq_ins (o d a b v o' d' a' b' v' : Int) (xo yo : Operand) : EqRuns Try.prog .eql 23 xo yo (insv o d a b v) (insv o' d' a' b' v') (o == o' && (d == d' && (a == a' && (b == b' && v == v')))) ∧
    EqRuns Try.prog .neq 23 xo yo (insv o d a b v) (insv o' d' a' b' v') (!(o == o' && (d == d' && (a == a' && (b == b' && v == v'))))) := by
  have := eq_flat (P := Try.prog) (vs := [u8v o, u8v d, u8v a, u8v b, i64v v]) (us := [u8v o', u8v d', u8v a', u8v b', i64v v']) xo yo Try.underlying23 (by kernel_rfl) (by kernel_rfl) (by kernel_rfl)
  simpa [eqL, eq1] using this
set_option maxHeartbeats 1600000 in
theorem law02_InsnApart_ok (o d a b v o' d' a' b' v' : Int) (ho : U8 o) (hd : U8 d) (ha : U8 a) (hb : U8 b) (hv : I64 v) (ho' : U8 o') (hd' : U8 d') (ha' : U8 a') (hb' : U8 b') (hv' : I64 v') (w : World) :
    Calls Try.prog law02_InsnApart.N #[insv o d a b v, insv o' d' a' b' v'] w (Gives (.bool true) w) := by
  refine law02_InsnApart.calls ?_
  unfold law02_InsnApart.vc
  intro w1 e1 w2 e2
  have L := ((Trk.start w).alloc e1).alloc e2
  have E1 := fun w => insn_enc o d a b v ho hd ha hb hv w
  have E2 := fun w => insn_enc o' d' a' b' v' ho' hd' ha' hb' hv' w
  refine ⟨_, _, _, _, _, ⟨L.cell 0 rfl rfl, L.cell 0 rfl rfl, L.cell 0 rfl rfl, L.cell 0 rfl rfl, L.cell 0 rfl rfl, trivial⟩, (E1 _).mono fun e w3 ⟨he, l3⟩ => ⟨_, _, he, ?_⟩⟩
  have L3 := L.later l3
  refine ⟨_, _, _, _, _, ⟨L3.cell 1 rfl rfl, L3.cell 1 rfl rfl, L3.cell 1 rfl rfl, L3.cell 1 rfl rfl, L3.cell 1 rfl rfl, trivial⟩, (E2 _).mono fun e w4 ⟨he, l4⟩ => ⟨_, _, he, ?_⟩⟩
  have L4 := L3.later l4
  have fin := law02_done w _ L4.to
  cases hx : encv o d a b v with
  | none =>
    cases hy : encv o' d' a' b' v' with
    | none => exact cnd_true rfl (cnd_false rfl (cnd_true rfl (cnd_true rfl (cnd_false rfl (cnd_true rfl (cnd_true rfl fin))))))
    | some y => exact cnd_true rfl (cnd_false rfl (cnd_true rfl (cnd_true rfl (cnd_true rfl fin))))
  | some x =>
    cases hy : encv o' d' a' b' v' with
    | none => exact cnd_false rfl (cnd_true rfl (cnd_true rfl (cnd_false rfl (cnd_true rfl (cnd_true rfl fin)))))
    | some y =>
      refine cnd_false rfl (cnd_false rfl ?_)
      refine ⟨_, _, _, _, _, ⟨L4.cell 0 rfl rfl, L4.cell 0 rfl rfl, L4.cell 0 rfl rfl, L4.cell 0 rfl rfl, L4.cell 0 rfl rfl, trivial⟩, _, _, _, _, _, ⟨L4.cell 1 rfl rfl, L4.cell 1 rfl rfl, L4.cell 1 rfl rfl, L4.cell 1 rfl rfl, L4.cell 1 rfl rfl, trivial⟩, _, (eq_ins _ _ _ _ _ _ _ _ _ _ _ _).1, ?_⟩
      have m1 := enc_low hd ha hb hx
      have m2 := enc_low hd' ha' hb' hy
      refine cnd_true ?_ (cnd_true ?_ (cnd_true ?_ fin))
      · show ((x == y) == _) = true
        by_cases hxy : x = y
        · subst hxy
          obtain ⟨rfl, rfl, rfl, rfl, rfl⟩ := enc_inj hd ha hb hd' ha' hb' hx hy
          simp
        · have : (o == o' && (d == d' && (a == a' && (b == b' && v == v')))) = false := by
            rw [Bool.eq_false_iff]
            intro h
            simp only [Bool.and_eq_true, beq_iff_eq] at h
            obtain ⟨rfl, rfl, rfl, rfl, rfl⟩ := h
            rw [hx] at hy
            exact hxy (Option.some.inj hy)
          rw [this, show (x == y) = false from by simpa using hxy]
          rfl
      · show (x.tmod 4 == 3) = true
        rw [tmod_nn 4 m1.2, m1.1]
        rfl
      · show (y.tmod 4 == 3) = true
        rw [tmod_nn 4 m2.2, m2.1]
        rfl
set_option maxHeartbeats 1600000 in
theorem law02_InsnTurned_ok (o d a b v what by_ : Int) (ho : U8 o) (hd : U8 d) (ha : U8 a) (hb : U8 b) (hv : I64 v) (w : World) :
    Calls Try.prog law02_InsnTurned.N #[insv o d a b v, u8v what, .int .i16 by_] w (Gives (.bool true) w) := by
  refine law02_InsnTurned.calls ?_
  unfold law02_InsnTurned.vc
  intro w1 e1
  have L := (Trk.start w).alloc e1
  refine ⟨_, _, _, _, _, ⟨L.cell 0 rfl rfl, L.cell 0 rfl rfl, L.cell 0 rfl rfl, L.cell 0 rfl rfl, L.cell 0 rfl rfl, trivial⟩, fun w2 e2 => ?_⟩
  refine (L.alloc e2).setAll 1 rfl (by rfl) (ones rfl) fun w3 L3 => ?_
  have u8w : ∀ x : Int, U8 (IntKind.u8.wrap x) := fun x => by rw [wrap_u8]; exact ⟨by omega, by omega⟩
  have i64w : ∀ x : Int, I64 (IntKind.i64.wrap x) := fun x => by rw [wrap_i64]; constructor <;> split <;> omega
  refine ⟨fun vs w' => ∃ d' a' b' v', U8 d' ∧ U8 a' ∧ U8 b' ∧ I64 v' ∧ Trk w w' [(w.heap.size, [u8v o, u8v d, u8v a, u8v b, i64v v]), (w1.heap.size, [u8v o, u8v d', u8v a', u8v b', i64v v'])], ?_, ?_⟩
  · refine cnd_of (fun h => ?_) (fun h => cnd_of (fun h => ?_) (fun h => cnd_of (fun h => ?_) (fun h => ?_)))
    · exact ⟨_, L3.cell 1 rfl rfl, L3.set1 1 rfl (by simp) fun w4 L4 => ⟨_, a, b, v, u8w _, ha, hb, hv, L4⟩⟩
    · exact ⟨_, L3.cell 1 rfl rfl, L3.set1 1 rfl (by simp) fun w4 L4 => ⟨d, _, b, v, hd, u8w _, hb, hv, L4⟩⟩
    · exact ⟨_, L3.cell 1 rfl rfl, L3.set1 1 rfl (by simp) fun w4 L4 => ⟨d, a, _, v, hd, ha, u8w _, hv, L4⟩⟩
    · exact ⟨_, L3.cell 1 rfl rfl, L3.set1 1 rfl (by simp) fun w4 L4 => ⟨d, a, b, _, hd, ha, hb, i64w _, L4⟩⟩
  rintro g w4 ⟨d', a', b', v', hd', ha', hb', hv', L4⟩
  refine ⟨_, _, _, _, _, ⟨L4.cell 0 rfl rfl, L4.cell 0 rfl rfl, L4.cell 0 rfl rfl, L4.cell 0 rfl rfl, L4.cell 0 rfl rfl, trivial⟩, (insn_enc o d a b v ho hd ha hb hv _).mono fun e w5 ⟨he, l5⟩ => ⟨_, _, he, ?_⟩⟩
  have L5 := L4.later l5
  refine ⟨_, _, _, _, _, ⟨L5.cell 1 rfl rfl, L5.cell 1 rfl rfl, L5.cell 1 rfl rfl, L5.cell 1 rfl rfl, L5.cell 1 rfl rfl, trivial⟩, (insn_enc o d' a' b' v' ho hd' ha' hb' hv' _).mono fun e w6 ⟨he, l6⟩ => ⟨_, _, he, ?_⟩⟩
  have L6 := L5.later l6
  have fin := law02_done w _ L6.to
  cases hx : encv o d a b v with
  | none => exact cnd_true rfl fin
  | some x =>
    cases hy : encv o d' a' b' v' with
    | none => exact cnd_false rfl (cnd_true rfl fin)
    | some y =>
      refine cnd_false rfl (cnd_false rfl ?_)
      refine ⟨_, _, _, _, _, ⟨L6.cell 0 rfl rfl, L6.cell 0 rfl rfl, L6.cell 0 rfl rfl, L6.cell 0 rfl rfl, L6.cell 0 rfl rfl, trivial⟩, _, _, _, _, _, ⟨L6.cell 1 rfl rfl, L6.cell 1 rfl rfl, L6.cell 1 rfl rfl, L6.cell 1 rfl rfl, L6.cell 1 rfl rfl, trivial⟩, _, (eq_ins _ _ _ _ _ _ _ _ _ _ _ _).1, ?_⟩
      refine cnd_of (fun h => fin) (fun h => cnd_true ?_ fin)
      show (x != y) = true
      rw [bne_iff_ne]
      intro hxy
      subst hxy
      obtain ⟨-, rfl, rfl, rfl, rfl⟩ := enc_inj hd ha hb hd' ha' hb' hx hy
      simp at h
/-! ### all instructions -/
def insCells (F : Nat → Nat → Int) : Nat → List Value
  | 0 => []
  | n + 1 => insCells F n ++ [u8v (F n 0), u8v (F n 1), u8v (F n 2), u8v (F n 3), i64v (F n 4)]
theorem insCells_length (F : Nat → Nat → Int) : ∀ n, (insCells F n).length = n * 5
  | 0 => rfl
  | n + 1 => by rw [insCells, List.length_append, insCells_length F n]; simp; omega
theorem insCells_get (F : Nat → Nat → Int) : ∀ (n i j : Nat), i < n → j < 5 → (insCells F n)[i * 5 + j]? = [u8v (F i 0), u8v (F i 1), u8v (F i 2), u8v (F i 3), i64v (F i 4)][j]?
  | 0, i, j, h, _ => absurd h (Nat.not_lt_zero i)
  | n + 1, i, j, h, hj => by
    rw [insCells]
    have hl := insCells_length F n
    by_cases hi : i < n
    · rw [List.getElem?_append_left (by omega)]
      exact insCells_get F n i j hi hj
    · obtain rfl : i = n := by omega
      rw [List.getElem?_append_right (by omega), hl]
      congr 1
      omega
theorem insCells_one (F : Nat → Nat → Int) : ∀ n, ∀ u ∈ insCells F n, u.oneCell' = true
  | 0, u, h => by cases h
  | n + 1, u, h => by
    rw [insCells] at h
    rcases List.mem_append.1 h with h | h
    · exact insCells_one F n u h
    · exact ones (l := [u8v (F n 0), u8v (F n 1), u8v (F n 2), u8v (F n 3), i64v (F n 4)]) rfl u h
theorem insRow : RowTy Try.prog 30 23 5 16 := RowTy.of (.agg #[u8v 0, u8v 0, u8v 0, u8v 0, i64v 0]) (by kernel_rfl) (by kernel_rfl) rfl (by decide)
theorem row_at {w : World} {ad : Addr} {n : Nat} {F : Nat → Nat → Int} (h : IntRow w (some ad) n insK F) : CellsAt w ad 0 (insCells F n) := by
  refine CellsAt_of_get fun j u hj => ?_
  rw [Nat.zero_add]
  have hjl := (List.getElem?_eq_some_iff.1 hj).1
  rw [insCells_length] at hjl
  obtain ⟨ad', he, hc⟩ := h (j / 5) (by omega)
  obtain rfl := Option.some.inj he
  have hg := insCells_get F n (j / 5) (j % 5) (by omega) (by omega)
  rw [show j / 5 * 5 + j % 5 = j by omega, hj] at hg
  have e : (ad.add (j / 5 * 5)).add (j % 5) = ad.add j := by rw [Deep.add_add, show j / 5 * 5 + j % 5 = j by omega]
  rw [← e]
  have : j % 5 = 0 ∨ j % 5 = 1 ∨ j % 5 = 2 ∨ j % 5 = 3 ∨ j % 5 = 4 := by omega
  rcases this with h5 | h5 | h5 | h5 | h5 <;> rw [h5] at hg ⊢ <;> obtain rfl := Option.some.inj hg
  · exact (hc 0 .u8 rfl).1
  · exact (hc 1 .u8 rfl).1
  · exact (hc 2 .u8 rfl).1
  · exact (hc 3 .u8 rfl).1
  · exact (hc 4 .i64 rfl).1
theorem own_row {w0 w : World} {b : Option Addr} {bn c n : Nat} {F : Nat → Nat → Int} (h : OwnS w0 w 23 5 (.slice b bn c) n (insCells F n)) (hF : ∀ i, i < n → U8 (F i 0) ∧ U8 (F i 1) ∧ U8 (F i 2) ∧ U8 (F i 3) ∧ I64 (F i 4)) : IntRow w b n insK F := by
  intro i hi
  cases b with
  | none =>
    obtain ⟨_, h | ⟨g, cap, cur, h2, _⟩⟩ := h
    · omega
    · cases h2
  | some ad =>
    have hc := h.cells
    refine ⟨ad, rfl, fun j k hj => ?_⟩
    have hj5 : j < 5 := (List.getElem?_eq_some_iff.1 hj).1
    have hg := insCells_get F n i j hi hj5
    obtain ⟨f0, f1, f2, f3, f4⟩ := hF i hi
    have get : ∀ u, [u8v (F i 0), u8v (F i 1), u8v (F i 2), u8v (F i 3), i64v (F i 4)][j]? = some u → w.cell? ((ad.add (i * 5)).add j) = some u := by
      intro u hu
      rw [hu] at hg
      have := CellsAt_get hc (i * 5 + j) u hg
      rwa [Nat.zero_add, ← Deep.add_add] at this
    have wfu : ∀ x : Int, U8 x → (Lit.int .u8 x).wf = true := by
      intro x hx
      simp only [Lit.wf, decide_eq_true_eq, Bool.and_eq_true]
      exact ⟨by rw [show IntKind.u8.min = 0 from rfl]; exact hx.1, by rw [show IntKind.u8.max = 255 from rfl]; have := hx.2; omega⟩
    have wfi : ∀ x : Int, I64 x → (Lit.int .i64 x).wf = true := by
      intro x hx
      simp only [Lit.wf, decide_eq_true_eq, Bool.and_eq_true]
      exact ⟨by rw [show IntKind.i64.min = -9223372036854775808 from rfl]; exact hx.1, by rw [show IntKind.i64.max = 9223372036854775807 from rfl]; have := hx.2; omega⟩
    have : j = 0 ∨ j = 1 ∨ j = 2 ∨ j = 3 ∨ j = 4 := by omega
    rcases this with rfl | rfl | rfl | rfl | rfl <;> obtain rfl := Option.some.inj hj
    · exact ⟨get _ rfl, wfu _ f0⟩
    · exact ⟨get _ rfl, wfu _ f1⟩
    · exact ⟨get _ rfl, wfu _ f2⟩
    · exact ⟨get _ rfl, wfu _ f3⟩
    · exact ⟨get _ rfl, wfi _ f4⟩
/-- A copy of what was handed in. -/
theorem copy_ins {A : Option Addr} {n cap : Nat} {F : Nat → Nat → Int} {w : World} (hn : n ≤ 300) (hle : n ≤ cap) (hR : IntRow w A n insK F) {K : Value → World → Prop}
    (hK : ∀ b c w', IntRow w' b n insK F → Later w w' → K (.slice b n c) w') : RunsV Try.prog (Builtin.append_ #[30, 30] 30 #[.slice none 0 0, .slice A n cap]) w K := by
  have hF : ∀ i, i < n → U8 (F i 0) ∧ U8 (F i 1) ∧ U8 (F i 2) ∧ U8 (F i 3) ∧ I64 (F i 4) := by
    intro i hi
    obtain ⟨ad, _, _, u⟩ := row_cells hR hi
    exact u
  cases A with
  | none =>
    obtain rfl : n = 0 := by
      rcases Nat.eq_zero_or_pos n with h | h
      · exact h
      · obtain ⟨ad, he, _⟩ := hR 0 h
        cases he
    obtain ⟨i, z, hi, hz, hs, hby, hzs⟩ := insRow.info
    refine RunsV_of (v := .slice none 0 0) (w' := w) ?_ (hK none 0 w (fun i hi => absurd hi (Nat.not_lt_zero i)) (Below.refl _ _))
    exact run_append_nothing w _ _ _ _ i insRow.under hi none 0 0 (Nat.le_refl 0) (.slice none 0 cap) ⟨.inl ⟨_, insRow.under⟩, fun w' => by simp [Builtin.lenOf], by simp [Builtin.firstCells], by simp [Builtin.firstCells], by simp, by simp⟩
  | some ad =>
    refine RunsV_append 30 insRow (n := 0) (xs := []) (OwnS_nil w w _ _) (Below.refl _ _) (m := n) (news := insCells F n) (insCells_length F n) (row_at hR) (insCells_one F n) (by unfold maxLen; omega) (by omega) ?_
    intro b' bn' bc' w' ho hl _
    rw [Nat.zero_add, List.nil_append] at ho
    obtain rfl := ho.len
    exact hK _ _ _ (own_row ho hF) hl
theorem law02_InsnAll_ok (A : Option Addr) (n cap : Nat) (F : Nat → Nat → Int) (hle : n ≤ cap) (w : World) (hR : IntRow w A n insK F) :
    Calls Try.prog law02_InsnAll.N #[.slice A n cap] w (Gives (.bool true) w) := by
  refine law02_InsnAll.calls ?_
  unfold law02_InsnAll.vc
  refine cnd_of (fun h => law02_done w _ (Later.refl _)) (fun h => ?_)
  have h := of_decide_eq_false h
  refine copy_ins (by omega) hle hR fun b c w1 hb l1 => ⟨_, _, _, rfl, ?_⟩
  refine (insn_All_ok b n c F (by omega) w1 hb).mono fun e w2 ⟨he, l2⟩ => ?_
  have R := fun w' (h' : IntRow w' A n insK F) => ref02_All_ok A n cap F (by omega) w' h'
  obtain ⟨s, x, hsx⟩ : ∃ s x, allR (encF F) n = pairv (.string s) (i64v x) := by
    unfold allR
    split
    · exact ⟨_, _, rfl⟩
    · exact ⟨_, _, rfl⟩
  rw [hsx] at he R
  refine ⟨_, _, he, (R w2 (hR.later (l1.trans l2))).mono fun e w3 ⟨he, l3⟩ => ⟨_, _, he, ?_⟩⟩
  have l03 := l1.trans (l2.trans l3)
  refine ⟨fun vs w' => ∃ k : Nat, vs = [.int .i64 k] ∧ k ≤ n ∧ Later w3 w', fun vs _ => match vs with | [.int _ k] => (n - k.toNat) | _ => 0, ⟨0, rfl, Nat.zero_le _, Later.refl _⟩, ?_⟩
  rintro g _ w4 ⟨k, hs, hk, l4⟩
  simp only [List.cons.injEq, Value.int.injEq, true_and, and_true] at hs
  subst hs
  refine cnd_of (fun h => ?_) (fun h => ?_)
  · have h := of_decide_eq_true h
    have hkn : k < n := by omega
    obtain ⟨ad, rfl, hc, u0, u1, u2, u3, u4⟩ := row_cells ((hb.later (l2.trans l3)).later l4) hkn
    obtain ⟨ae, rfl, hd, -⟩ := row_cells ((hR.later l03).later l4) hkn
    obtain ⟨c0, c1, c2, c3, c4, -⟩ := hc
    obtain ⟨d0, d1, d2, d3, d4, -⟩ := hd
    refine ⟨⟨by omega, by omega⟩, Deref_some rfl ⟨_, _, _, _, _, fun w' h' => ⟨h'.cell_some c0, h'.cell_some c1, h'.cell_some c2, h'.cell_some c3, h'.cell_some c4, trivial⟩, ⟨by omega, by omega⟩, Deref_some rfl ⟨_, _, _, _, _, fun w' h' => ⟨h'.cell_some d0, h'.cell_some d1, h'.cell_some d2, h'.cell_some d3, h'.cell_some d4, trivial⟩, _, (eq_ins _ _ _ _ _ _ _ _ _ _ _ _).2, fun w5 h5 => cnd_false (by simp) ?_⟩⟩⟩
    rw [i64_in (by omega) (by omega)]
    refine ⟨⟨k + 1, rfl, by omega, l4.trans h5⟩, ?_⟩
    simp only
    omega
  · exact cnd_true (beq_self_eq_true _) (cnd_true (beq_self_eq_true _) (law02_done w _ (l03.trans l4)))
end Go.Proofs.Ytgdbgbphbkefcaa
