/-
Rows of instructions: their cells, when two are equal, rows that were made.
Conditions: each number is of its kind.
-/
import Derived.Test.YtglakmkedoklmaaInsnA
import Derived.Test.YtglakmkedoklmaaVcEq
import Derived.Test.YtglakmkedoklmaaVcOwn
import Derived.Deep.Upon
namespace Go.Proofs.Ytglakmkedoklmaa
open Go Go.Vc Go.RowKit
set_option linter.unusedVariables false
set_option linter.unusedSimpArgs false
set_option maxRecDepth 100000

theorem eq_ins (o d a b v o' d' a' b' v' : Int) (xo yo : Operand) : EqRuns Try.prog .eql 35 xo yo (insv o d a b v) (insv o' d' a' b' v') (o == o' && (d == d' && (a == a' && (b == b' && v == v')))) ∧
    EqRuns Try.prog .neq 35 xo yo (insv o d a b v) (insv o' d' a' b' v') (!(o == o' && (d == d' && (a == a' && (b == b' && v == v'))))) := by
  have := eq_flat (P := Try.prog) (vs := [u8v o, u8v d, u8v a, u8v b, i64v v]) (us := [u8v o', u8v d', u8v a', u8v b', i64v v']) xo yo Try.underlying35 (by kernel_rfl) (by kernel_rfl) (by kernel_rfl)
  simpa [eqL, eq1] using this
def insCells (F : Nat → Nat → Int) : Nat → List Value
  | 0 => []
  | n + 1 => insCells F n ++ [u8v (F n 0), u8v (F n 1), u8v (F n 2), u8v (F n 3), i64v (F n 4)]
theorem insCells_length (F : Nat → Nat → Int) : ∀ n, (insCells F n).length = n * 5
  | 0 => rfl
  | n + 1 => by rw [insCells, List.length_append, insCells_length F n]; simp; omega
theorem insCells_get (F : Nat → Nat → Int) : ∀ (n i j : Nat), i < n → j < 5 → (insCells F n)[i * 5 + j]? = [u8v (F i 0), u8v (F i 1), u8v (F i 2), u8v (F i 3), i64v (F i 4)][j]?
  | 0, i, j, h, _ => absurd h (Nat.not_lt_zero i)
  | n + 1, i, j, h, hj => by
    rw [insCells]
    have hl := insCells_length F n
    by_cases hi : i < n
    · rw [List.getElem?_append_left (by omega)]
      exact insCells_get F n i j hi hj
    · obtain rfl : i = n := by omega
      rw [List.getElem?_append_right (by omega), hl]
      congr 1
      omega
theorem insCells_one (F : Nat → Nat → Int) : ∀ n, ∀ u ∈ insCells F n, u.oneCell' = true
  | 0, u, h => by cases h
  | n + 1, u, h => by
    rw [insCells] at h
    rcases List.mem_append.1 h with h | h
    · exact insCells_one F n u h
    · exact ones (l := [u8v (F n 0), u8v (F n 1), u8v (F n 2), u8v (F n 3), i64v (F n 4)]) rfl u h
theorem insRow : RowTy Try.prog 25 35 5 16 := RowTy.of (.agg #[u8v 0, u8v 0, u8v 0, u8v 0, i64v 0]) (by kernel_rfl) (by kernel_rfl) rfl (by decide)
theorem row_at {w : World} {ad : Addr} {n : Nat} {F : Nat → Nat → Int} (h : IntRow w (some ad) n insK F) : CellsAt w ad 0 (insCells F n) := by
  refine CellsAt_of_get fun j u hj => ?_
  rw [Nat.zero_add]
  have hjl := (List.getElem?_eq_some_iff.1 hj).1
  rw [insCells_length] at hjl
  obtain ⟨ad', he, hc⟩ := h (j / 5) (by omega)
  obtain rfl := Option.some.inj he
  have hg := insCells_get F n (j / 5) (j % 5) (by omega) (by omega)
  rw [show j / 5 * 5 + j % 5 = j by omega, hj] at hg
  have e : (ad.add (j / 5 * 5)).add (j % 5) = ad.add j := by rw [Deep.add_add, show j / 5 * 5 + j % 5 = j by omega]
  rw [← e]
  have : j % 5 = 0 ∨ j % 5 = 1 ∨ j % 5 = 2 ∨ j % 5 = 3 ∨ j % 5 = 4 := by omega
  rcases this with h5 | h5 | h5 | h5 | h5 <;> rw [h5] at hg ⊢ <;> obtain rfl := Option.some.inj hg
  · exact (hc 0 .u8 rfl).1
  · exact (hc 1 .u8 rfl).1
  · exact (hc 2 .u8 rfl).1
  · exact (hc 3 .u8 rfl).1
  · exact (hc 4 .i64 rfl).1
theorem own_row {w0 w : World} {b : Option Addr} {bn c n : Nat} {F : Nat → Nat → Int} (h : OwnS w0 w 35 5 (.slice b bn c) n (insCells F n)) (hF : ∀ i, i < n → U8 (F i 0) ∧ U8 (F i 1) ∧ U8 (F i 2) ∧ U8 (F i 3) ∧ I64 (F i 4)) : IntRow w b n insK F := by
  intro i hi
  cases b with
  | none =>
    obtain ⟨_, h | ⟨g, cap, cur, h2, _⟩⟩ := h
    · omega
    · cases h2
  | some ad =>
    have hc := h.cells
    refine ⟨ad, rfl, fun j k hj => ?_⟩
    have hj5 : j < 5 := (List.getElem?_eq_some_iff.1 hj).1
    have hg := insCells_get F n i j hi hj5
    obtain ⟨f0, f1, f2, f3, f4⟩ := hF i hi
    have get : ∀ u, [u8v (F i 0), u8v (F i 1), u8v (F i 2), u8v (F i 3), i64v (F i 4)][j]? = some u → w.cell? ((ad.add (i * 5)).add j) = some u := by
      intro u hu
      rw [hu] at hg
      have := CellsAt_get hc (i * 5 + j) u hg
      rwa [Nat.zero_add, ← Deep.add_add] at this
    have wfu : ∀ x : Int, U8 x → (Lit.int .u8 x).wf = true := by
      intro x hx
      simp only [Lit.wf, decide_eq_true_eq, Bool.and_eq_true]
      exact ⟨by rw [show IntKind.u8.min = 0 from rfl]; exact hx.1, by rw [show IntKind.u8.max = 255 from rfl]; have := hx.2; omega⟩
    have wfi : ∀ x : Int, I64 x → (Lit.int .i64 x).wf = true := by
      intro x hx
      simp only [Lit.wf, decide_eq_true_eq, Bool.and_eq_true]
      exact ⟨by rw [show IntKind.i64.min = -9223372036854775808 from rfl]; exact hx.1, by rw [show IntKind.i64.max = 9223372036854775807 from rfl]; have := hx.2; omega⟩
    have : j = 0 ∨ j = 1 ∨ j = 2 ∨ j = 3 ∨ j = 4 := by omega
    rcases this with rfl | rfl | rfl | rfl | rfl <;> obtain rfl := Option.some.inj hj
    · exact ⟨get _ rfl, wfu _ f0⟩
    · exact ⟨get _ rfl, wfu _ f1⟩
    · exact ⟨get _ rfl, wfu _ f2⟩
    · exact ⟨get _ rfl, wfu _ f3⟩
    · exact ⟨get _ rfl, wfi _ f4⟩
end Go.Proofs.Ytglakmkedoklmaa
