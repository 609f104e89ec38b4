/-
The table of package span's functions, and what it answers.
Conditions: each number is a word, as each theorem says.
-/
import Derived.Test.YtpfnjooddobohaaSpanB
import Derived.Test.YtpfnjooddobohaaVcMap
namespace Go.Proofs.Ytpfnjooddobohaa
open Go Go.Vc Go.RowKit
set_option linter.unusedVariables false
set_option linter.unusedSimpArgs false
set_option maxRecDepth 100000

abbrev aluL : List (Int × FuncId) := [(1, span_add.N), (2, span_sub.N), (11, span_mul.N), (12, span_mulhu.N), (13, span_divu.N), (14, span_remu.N), (10, span_and.N), (9, span_or.N), (6, span_xor.N), (4, span_slt.N), (5, span_sltu.N), (3, span_sll.N), (7, span_srl.N), (8, span_sra.N)]
def aluEs : List MapEntry := aluL.zipIdx.map fun (x, i) => { key := .int .u8 x.1, val := fnv x.2, born := i }
def AluMap (w : World) (e : Ending) (w' : World) : Prop := ∃ r, e = .returned (.map (some r)) ∧ w'.heap[r]? = some (.map aluEs.toArray 14) ∧ Later w w'
theorem span_alus_ok (w : World) : Calls Try.prog span_alus.N #[] w (AluMap w) := by
  refine span_alus.calls ?_
  unfold span_alus.vc
  refine RunsV_of (run_makeMap_plain w _) ⟨_, rfl, ?_⟩
  have hb0 : (w.alloc (.map #[] 0)).heap[w.heap.size]? = some (.map #[] 0) := heap_alloc_new w _
  have l0 : Later w (w.alloc (.map #[] 0)) := Later.alloc' _ _
  refine RunsV_mapNew Try.underlying45 Try.underlying5 hb0 (by kernel_rfl) fun w1 hb1 g1 => ?_
  have l1 := g1 w l0 (Nat.le_refl _)
  refine RunsV_mapNew Try.underlying45 Try.underlying5 hb1 (by kernel_rfl) fun w2 hb2 g2 => ?_
  have l2 := g2 w l1 (Nat.le_refl _)
  refine RunsV_mapNew Try.underlying45 Try.underlying5 hb2 (by kernel_rfl) fun w3 hb3 g3 => ?_
  have l3 := g3 w l2 (Nat.le_refl _)
  refine RunsV_mapNew Try.underlying45 Try.underlying5 hb3 (by kernel_rfl) fun w4 hb4 g4 => ?_
  have l4 := g4 w l3 (Nat.le_refl _)
  refine RunsV_mapNew Try.underlying45 Try.underlying5 hb4 (by kernel_rfl) fun w5 hb5 g5 => ?_
  have l5 := g5 w l4 (Nat.le_refl _)
  refine RunsV_mapNew Try.underlying45 Try.underlying5 hb5 (by kernel_rfl) fun w6 hb6 g6 => ?_
  have l6 := g6 w l5 (Nat.le_refl _)
  refine RunsV_mapNew Try.underlying45 Try.underlying5 hb6 (by kernel_rfl) fun w7 hb7 g7 => ?_
  have l7 := g7 w l6 (Nat.le_refl _)
  refine RunsV_mapNew Try.underlying45 Try.underlying5 hb7 (by kernel_rfl) fun w8 hb8 g8 => ?_
  have l8 := g8 w l7 (Nat.le_refl _)
  refine RunsV_mapNew Try.underlying45 Try.underlying5 hb8 (by kernel_rfl) fun w9 hb9 g9 => ?_
  have l9 := g9 w l8 (Nat.le_refl _)
  refine RunsV_mapNew Try.underlying45 Try.underlying5 hb9 (by kernel_rfl) fun w10 hb10 g10 => ?_
  have l10 := g10 w l9 (Nat.le_refl _)
  refine RunsV_mapNew Try.underlying45 Try.underlying5 hb10 (by kernel_rfl) fun w11 hb11 g11 => ?_
  have l11 := g11 w l10 (Nat.le_refl _)
  refine RunsV_mapNew Try.underlying45 Try.underlying5 hb11 (by kernel_rfl) fun w12 hb12 g12 => ?_
  have l12 := g12 w l11 (Nat.le_refl _)
  refine RunsV_mapNew Try.underlying45 Try.underlying5 hb12 (by kernel_rfl) fun w13 hb13 g13 => ?_
  have l13 := g13 w l12 (Nat.le_refl _)
  refine RunsV_mapNew Try.underlying45 Try.underlying5 hb13 (by kernel_rfl) fun w14 hb14 g14 => ?_
  have l14 := g14 w l13 (Nat.le_refl _)
  exact ⟨_, rfl, hb14, l14⟩
abbrev allp : Int × Int := (0, 18446744073709551615)
abbrev rvp (p : Int × Int) : Value := rv p.1 p.2
def srlp (a b c d : Int) : Int × Int := if c = d ∧ c < 64 then (a / 2 ^ c.toNat, b / 2 ^ c.toNat) else (0, b)
/-- What comes of two ranges. -/
def aluv (fn a b c d : Int) : Int × Int :=
  if fn = 1 then (if b + d ≥ 18446744073709551616 then allp else ((a + c) % 18446744073709551616, b + d))
  else if fn = 2 then (if a < d then allp else ((a - d) % 18446744073709551616, (b - c) % 18446744073709551616))
  else if fn = 3 then (if c = d ∧ c < 64 ∧ (lenN b.toNat : Int) + c ≤ 64 then (a * 2 ^ c.toNat % 18446744073709551616, b * 2 ^ c.toNat % 18446744073709551616) else allp)
  else if fn = 4 then (0, 1)
  else if fn = 5 then (if b < c then (1, 1) else if a ≥ d then (0, 0) else (0, 1))
  else if fn = 6 then (0, maskv (bits .or .u64 b d))
  else if fn = 7 then srlp a b c d
  else if fn = 8 then (if b ≥ 9223372036854775808 then allp else srlp a b c d)
  else if fn = 9 then (gomax a c, maskv (bits .or .u64 b d))
  else if fn = 10 then (0, gomin b d)
  else if fn = 11 then (if b * d ≥ 18446744073709551616 then allp else (a * c % 18446744073709551616, b * d))
  else if fn = 12 then (a * c / 18446744073709551616, b * d / 18446744073709551616)
  else if fn = 13 then (if c = 0 then allp else (a / d, b / c))
  else if fn = 14 then (if b < c then (a, b) else if c = 0 then (0, b) else (0, gomin b ((d - 1) % 18446744073709551616)))
  else (0, 0)
theorem rvp_if {p : Prop} [Decidable p] (x y : Int × Int) : rvp (if p then x else y) = if p then rvp x else rvp y := by split <;> rfl
/-- Each function of the table comes to its range. -/
theorem alu_one (fn : Nat) (h1 : 1 ≤ fn) (h2 : fn ≤ 14) (a b c d : Int) (ha : W64 a) (hb : W64 b) (hc : W64 c) (hd : W64 d) :
    ∃ i k, Instr.findNow (.int .u8) (.int .u8 fn) aluEs 0 = some (some (i, fnv k)) ∧ entersB Try.prog k = true ∧ (a ≤ b → c ≤ d → ∀ w, Calls Try.prog k #[rv a b, rv c d] w (Gives (rvp (aluv fn a b c d)) w)) := by
  have : fn = 1 ∨ fn = 2 ∨ fn = 3 ∨ fn = 4 ∨ fn = 5 ∨ fn = 6 ∨ fn = 7 ∨ fn = 8 ∨ fn = 9 ∨ fn = 10 ∨ fn = 11 ∨ fn = 12 ∨ fn = 13 ∨ fn = 14 := by omega
  rcases this with rfl | rfl | rfl | rfl | rfl | rfl | rfl | rfl | rfl | rfl | rfl | rfl | rfl | rfl
  · refine ⟨0, span_add.N, by kernel_rfl, by kernel_rfl, fun hab hcd w => ?_⟩
    have h := span_add_ok a b c d hb hd w
    simpa [aluv, rvp_if, srlR, srlp, sllR] using h
  · refine ⟨1, span_sub.N, by kernel_rfl, by kernel_rfl, fun hab hcd w => ?_⟩
    have h := span_sub_ok a b c d w
    simpa [aluv, rvp_if, srlR, srlp, sllR] using h
  · refine ⟨11, span_sll.N, by kernel_rfl, by kernel_rfl, fun hab hcd w => ?_⟩
    have h := span_sll_ok a b c d hb hc w
    simpa [aluv, rvp_if, srlR, srlp, sllR] using h
  · refine ⟨9, span_slt.N, by kernel_rfl, by kernel_rfl, fun hab hcd w => ?_⟩
    have h := span_slt_ok a b c d w
    simpa [aluv, rvp_if, srlR, srlp, sllR] using h
  · refine ⟨10, span_sltu.N, by kernel_rfl, by kernel_rfl, fun hab hcd w => ?_⟩
    have h := span_sltu_ok a b c d w
    simpa [aluv, rvp_if, srlR, srlp, sllR] using h
  · refine ⟨8, span_xor.N, by kernel_rfl, by kernel_rfl, fun hab hcd w => ?_⟩
    have h := span_xor_ok a b c d hb hd w
    simpa [aluv, rvp_if, srlR, srlp, sllR] using h
  · refine ⟨12, span_srl.N, by kernel_rfl, by kernel_rfl, fun hab hcd w => ?_⟩
    have h := span_srl_ok a b c d hc w
    simpa [aluv, rvp_if, srlR, srlp, sllR] using h
  · refine ⟨13, span_sra.N, by kernel_rfl, by kernel_rfl, fun hab hcd w => ?_⟩
    have h := span_sra_ok a b c d hc w
    simpa [aluv, rvp_if, srlR, srlp, sllR] using h
  · refine ⟨7, span_or.N, by kernel_rfl, by kernel_rfl, fun hab hcd w => ?_⟩
    have h := span_or_ok a b c d hb hd w
    simpa [aluv, rvp_if, srlR, srlp, sllR] using h
  · refine ⟨6, span_and.N, by kernel_rfl, by kernel_rfl, fun hab hcd w => ?_⟩
    have h := span_and_ok a b c d w
    simpa [aluv, rvp_if, srlR, srlp, sllR] using h
  · refine ⟨2, span_mul.N, by kernel_rfl, by kernel_rfl, fun hab hcd w => ?_⟩
    have h := span_mul_ok a b c d hb hd w
    simpa [aluv, rvp_if, srlR, srlp, sllR] using h
  · refine ⟨3, span_mulhu.N, by kernel_rfl, by kernel_rfl, fun hab hcd w => ?_⟩
    have h := span_mulhu_ok a b c d ha hb hc hd w
    simpa [aluv, rvp_if, srlR, srlp, sllR] using h
  · refine ⟨4, span_divu.N, by kernel_rfl, by kernel_rfl, fun hab hcd w => ?_⟩
    have h := span_divu_ok a b c d ha hb hc hd hcd w
    simpa [aluv, rvp_if, srlR, srlp, sllR] using h
  · refine ⟨5, span_remu.N, by kernel_rfl, by kernel_rfl, fun hab hcd w => ?_⟩
    have h := span_remu_ok a b c d w
    simpa [aluv, rvp_if, srlR, srlp, sllR] using h
theorem alu_none (fn : Int) (h : ¬ (1 ≤ fn ∧ fn ≤ 14)) : Instr.findNow (.int .u8) (.int .u8 fn) aluEs 0 = some none := by
  have n : ∀ k : Int, 1 ≤ k → k ≤ 14 → (fn == k) = false := fun k h1 h2 => beq_eq_false_iff_ne.2 fun e => h ⟨by omega, by omega⟩
  simp [aluEs, aluL, List.zipIdx, Instr.findNow, Instr.sameNow, n]
def aluOk (fn a b c d : Int) : Prop := 1 ≤ fn ∧ fn ≤ 14 ∧ a ≤ b ∧ c ≤ d
instance (fn a b c d : Int) : Decidable (aluOk fn a b c d) := by unfold aluOk; infer_instance
def aluR (fn a b c d : Int) : Value := if aluOk fn a b c d then pairv (rvp (aluv fn a b c d)) (i64v 0) else pairv (rv 0 0) (i64v 2)
theorem span_Alu_ok (fn a b c d : Int) (hf : 0 ≤ fn ∧ fn < 256) (ha : W64 a) (hb : W64 b) (hc : W64 c) (hd : W64 d) (w : World) :
    Calls Try.prog span_Alu.N #[.int .u8 fn, rv a b, rv c d] w (Gives (aluR fn a b c d) w) := by
  refine span_Alu.calls ?_
  unfold span_Alu.vc
  intro w1 h1 w2 h2 w3 h3
  have L := (((Trk.start w).alloc h1).alloc h2).alloc h3
  refine (span_alus_ok w3).mono fun e w4 ⟨r, he, hm, l4⟩ => ⟨some r, he, ?_⟩
  have L4 := L.later l4
  by_cases hfn : 1 ≤ fn ∧ fn ≤ 14
  · obtain ⟨n, rfl⟩ := Int.eq_ofNat_of_zero_le hf.1
    obtain ⟨i, k, h5, h6, h7⟩ := alu_one n (by omega) (by omega) a b c d ha hb hc hd
    refine RunsV_lookup Try.underlying45 Try.underlying5 hm h5 ⟨_, _, rfl, cnd_false rfl ?_⟩
    have T := span_two_ok a b c d _ _ k h6 h7 w4
    refine ⟨_, _, ⟨L4.cell 0 rfl rfl, L4.cell 0 rfl rfl, trivial⟩, _, _, ⟨L4.cell 1 rfl rfl, L4.cell 1 rfl rfl, trivial⟩, T.mono fun e' w5 ⟨h8, l5⟩ => ?_⟩
    have L5 := L4.later l5
    unfold aluR
    by_cases hv : a ≤ b ∧ c ≤ d
    · rw [if_pos hv] at h8
      rw [if_pos (show aluOk n a b c d from ⟨hfn.1, hfn.2, hv.1, hv.2⟩)]
      exact ⟨_, _, _, h8, ret2 L5 2 rfl rfl fun w' h' => ⟨rfl, h'.to⟩⟩
    · rw [if_neg hv] at h8
      rw [if_neg (show ¬ aluOk n a b c d from fun h => hv ⟨h.2.2.1, h.2.2.2⟩)]
      exact ⟨_, _, _, h8, ret2 L5 2 rfl rfl fun w' h' => ⟨rfl, h'.to⟩⟩
  · refine RunsV_lookup_none (z := .nilFunc) Try.underlying45 Try.underlying5 hm (alu_none fn hfn) (by kernel_rfl) ⟨_, _, rfl, cnd_true rfl ?_⟩
    unfold aluR
    rw [if_neg (show ¬ aluOk fn a b c d from fun h => hfn ⟨h.1, h.2.1⟩)]
    exact ret2 L4 2 rfl rfl fun w' h' => ⟨rfl, h'.to⟩
end Go.Proofs.Ytpfnjooddobohaa
