/-
The contracts of package par, first part: what is taken out of a row, the first that may be done, which moves may be.
Conditions: each theorem's hypotheses.
-/
import Derived.Test.YtngpkmpbhkbgoaaVpar
import Derived.Test.YtngpkmpbhkbgoaaMvP
import Derived.Test.YtngpkmpbhkbgoaaVcGrow
namespace Go.Proofs.Ytngpkmpbhkbgoaa
open Go Go.Vc Go.RowKit
set_option linter.unusedVariables false
set_option linter.unusedSimpArgs false
set_option maxRecDepth 100000

theorem mvZero (w : World) : (zeroValue mvTy).run Try.prog w = .ok (.agg #[.bool false, .int .i64 0, .bool false, .int .i64 0]) w := by kernel_rfl
/-- Where an element of a row is. -/
theorem row_add (g i : Nat) : (Addr.mk g 0 none).add (i * 4) = ⟨g, i * 4, none⟩ := by rw [add_block, Nat.zero_add]
/-- One is taken out of an own row. -/
theorem slices_Delete_ok {w0 : World} {b : Option Addr} {c : Nat} {l : List Mv} (w : World) (hown : OwnM w0 w b c l) (hl : Later w0 w) {i : Nat} (hi : i < l.length) :
    Calls Try.prog slices_Delete.N #[.slice b l.length c, i64v (i : Nat), i64v ((i : Nat) + 1 : Int)] w (fun e w' => e = .returned (.slice b (l.eraseIdx i).length c) ∧ OwnM w0 w' b c (l.eraseIdx i) ∧ Later w0 w' ∧ ∀ k, k < w.heap.size → rowB b ≠ some k → w'.heap[k]? = w.heap[k]?) := by
  obtain ⟨g, rfl, -, hnc, hcm, -⟩ := hown.split (by omega)
  have hle : (l.eraseIdx i).length = l.length - 1 := by rw [List.length_eraseIdx, if_pos hi]
  refine slices_Delete.calls ?_
  unfold slices_Delete.vc
  refine ⟨⟨by omega, by omega⟩, ⟨by omega, by omega⟩, ⟨by omega, by omega⟩, cnd_false (by simp; omega) ⟨⟨by omega, by omega⟩, ⟨by omega, by omega⟩, fun w1 l1 => ?_⟩⟩
  rw [show (((i : Nat) : Int) + 1).toNat = i + 1 by omega, show ((i : Nat) : Int).toNat - 0 = i by omega, Nat.sub_zero]
  have own1 := hown.later l1
  have hfront := own1.front i (by omega)
  rw [mvsC_take] at hfront
  have hsrc : ∃ a, reslice (some ⟨g, 0, none⟩) (i + 1) c 4 = some a ∧ CellsAt w1 a 0 (mvsC (l.drop (i + 1))) := by
    unfold reslice
    split
    · have : l.length = i + 1 := by omega
      rw [List.drop_of_length_le (by omega)]
      exact ⟨_, rfl, trivial⟩
    · refine ⟨_, rfl, CellsAt_of_get fun j u hj => ?_⟩
      have hjl : j < (mvsC (l.drop (i + 1))).length := (List.getElem?_eq_some_iff.1 hj).1
      rw [mvsC_length, List.length_drop] at hjl
      have := CellsAt_get own1.cells ((i + 1) * 4 + j) u (by rw [← mvsC_drop, List.getElem?_drop] at hj; exact hj)
      rw [add_block] at this
      show w1.cell? (((Addr.mk g 0 none).add ((i + 1) * 4)).add (0 + j)) = some u
      rw [add_block, add_block, show 0 + (i + 1) * 4 + (0 + j) = 0 + (0 + ((i + 1) * 4 + j)) by omega]
      exact this
  obtain ⟨a, ha, hcells⟩ := hsrc
  rw [ha, show reslice (some ⟨g, 0, none⟩) 0 c 4 = some ⟨g, 0, none⟩ by unfold reslice; split <;> simp [Addr.add]]
  obtain ⟨inf, z, hinf, hz, hs, hby, hzs⟩ := mvTyR.info
  obtain ⟨w2, hr, ho2, hg2⟩ := run_append_fits (P := Try.prog) w1 w0.heap.size 22 22 mvTy inf 4 mvTyR.under hinf hs g i c (mvsC (l.take i)) hfront a (l.length - (i + 1)) (c - (i + 1)) (mvsC (l.drop (i + 1))) (by rw [mvsC_length, List.length_drop]) (fun j u hj => by have := CellsAt_get hcells j u hj; rwa [Nat.zero_add] at this) (mvsC_one _) (by omega)
  rw [← mvsC_append, ← List.eraseIdx_eq_take_drop_succ, show i + (l.length - (i + 1)) = l.length - 1 by omega] at ho2
  rw [show i + (l.length - (i + 1)) = l.length - 1 by omega] at hr
  refine RunsV_of hr ⟨_, _, _, rfl, ⟨by omega, by omega⟩, ⟨by omega, by omega⟩, ?_⟩
  have l2 : Later w0 w2 := Below.grown (hl.trans l1) hg2 (hl.trans l1).size (fun k hk => by cases hk; exact (hown.lt rfl).1)
  have hk2 : reslice (some ⟨g, 0, none⟩) ((l.length - 1 : Nat) : Int).toNat c 4 = some ⟨g, (l.length - 1) * 4, none⟩ := by
    unfold reslice
    rw [show ((l.length - 1 : Nat) : Int).toNat = l.length - 1 by omega, if_neg (by omega)]
    simp only [Option.map_some, add_block, Nat.zero_add]
  rw [hk2]
  refine RunsV_clear_behind (n := l.length - 1) (k := l.length - 1) (cap := c) mvTyR.under mvZero rfl (by decide) (by decide) ho2 l2 (Nat.le_refl _) (by omega) fun w3 ho3 l3 hk3 hs3 => ⟨_, rfl, ?_⟩
  rw [hle]
  refine ⟨rfl, by unfold OwnM; rw [hle]; exact ho3, l3, fun k hk hne => ?_⟩
  have hne' : k ≠ g := fun e => hne (by rw [e]; rfl)
  rw [hk3 k hne', hg2.block k (Nat.lt_of_lt_of_le hk l1.size) (by simpa using hne'), l1.block hk]
end Go.Proofs.Ytngpkmpbhkbgoaa
