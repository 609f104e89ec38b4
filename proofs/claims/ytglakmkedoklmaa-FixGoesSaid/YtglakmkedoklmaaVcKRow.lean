/-
Rows of structs of numbers that the call makes: their cells, copies.
Conditions: each theorem's hypotheses; nothing is asked of a program but closed facts of its types.
-/
import Derived.Test.YtglakmkedoklmaaVcArg
import Derived.Test.YtglakmkedoklmaaVcLoc
import Derived.Deep.Upon
namespace Go.Vc
open Go.RowKit
set_option linter.unusedVariables false
set_option linter.unusedSimpArgs false

def kOne (ks : List IntKind) (F : Nat → Nat → Int) (i : Nat) : List Value := ks.zipIdx.map fun x => .int x.1 (F i x.2)
def kC (ks : List IntKind) (F : Nat → Nat → Int) : Nat → List Value
  | 0 => []
  | n + 1 => kC ks F n ++ kOne ks F n
theorem kOne_length (ks : List IntKind) (F : Nat → Nat → Int) (i : Nat) : (kOne ks F i).length = ks.length := by simp [kOne]
theorem kOne_get {ks : List IntKind} {F : Nat → Nat → Int} {i j : Nat} {k : IntKind} (h : ks[j]? = some k) : (kOne ks F i)[j]? = some (.int k (F i j)) := by
  simp [kOne, List.getElem?_zipIdx, h]
theorem kC_length (ks : List IntKind) (F : Nat → Nat → Int) : ∀ n, (kC ks F n).length = n * ks.length
  | 0 => by simp [kC]
  | n + 1 => by rw [kC, List.length_append, kC_length ks F n, kOne_length, Nat.succ_mul]
theorem kC_get {ks : List IntKind} {F : Nat → Nat → Int} {j : Nat} {k : IntKind} (h : ks[j]? = some k) : ∀ (n i : Nat), i < n → (kC ks F n)[i * ks.length + j]? = some (.int k (F i j))
  | 0, i, hi => absurd hi (Nat.not_lt_zero i)
  | n + 1, i, hi => by
    have hj : j < ks.length := (List.getElem?_eq_some_iff.1 h).1
    rw [kC]
    have hl := kC_length ks F n
    by_cases hin : i < n
    · have : i * ks.length + j < n * ks.length := by
        have : (i + 1) * ks.length ≤ n * ks.length := Nat.mul_le_mul_right _ (by omega)
        rw [Nat.succ_mul] at this
        omega
      rw [List.getElem?_append_left (by omega)]
      exact kC_get h n i hin
    · obtain rfl : i = n := by omega
      rw [List.getElem?_append_right (by omega), hl, Nat.add_sub_cancel_left]
      exact kOne_get h
theorem kC_congr {ks : List IntKind} {F G : Nat → Nat → Int} : ∀ {n : Nat}, (∀ i, i < n → ∀ j, F i j = G i j) → kC ks F n = kC ks G n
  | 0, _ => rfl
  | n + 1, h => by
    rw [kC, kC, kC_congr (n := n) (fun i hi => h i (by omega))]
    congr 1
    unfold kOne
    exact List.map_congr_left fun x _ => by rw [h n (by omega)]
theorem kC_one (ks : List IntKind) (F : Nat → Nat → Int) : ∀ n, ∀ u ∈ kC ks F n, u.oneCell' = true
  | 0, u, h => by cases h
  | n + 1, u, h => by
    rw [kC] at h
    rcases List.mem_append.1 h with h | h
    · exact kC_one ks F n u h
    · obtain ⟨x, _, rfl⟩ := List.mem_map.1 h
      rfl
theorem krow_at {w : World} {ad : Addr} {n : Nat} {ks : List IntKind} {F : Nat → Nat → Int} (hp : 0 < ks.length) (h : IntRow w (some ad) n ks F) : CellsAt w ad 0 (kC ks F n) := by
  refine CellsAt_of_get fun j u hj => ?_
  rw [Nat.zero_add]
  have hjl := (List.getElem?_eq_some_iff.1 hj).1
  rw [kC_length] at hjl
  have hdm : j / ks.length * ks.length + j % ks.length = j := by rw [Nat.mul_comm]; exact Nat.div_add_mod _ _
  have hi : j / ks.length < n := Nat.div_lt_of_lt_mul (by rw [Nat.mul_comm]; exact hjl)
  obtain ⟨ad', he, hc⟩ := h (j / ks.length) hi
  obtain rfl := Option.some.inj he
  have hk : ks[j % ks.length]? = some (ks[j % ks.length]'(Nat.mod_lt _ hp)) := List.getElem?_eq_getElem (Nat.mod_lt _ hp)
  have hg := kC_get (F := F) hk n (j / ks.length) hi
  rw [hdm, hj] at hg
  obtain rfl := Option.some.inj hg
  have e : (ad.add (j / ks.length * ks.length)).add (j % ks.length) = ad.add j := by rw [Deep.add_add, hdm]
  rw [← e]
  exact (hc _ _ hk).1
theorem own_krow {w0 w : World} {e : TypeId} {b : Option Addr} {bn c n : Nat} {ks : List IntKind} {F : Nat → Nat → Int} (h : OwnS w0 w e ks.length (.slice b bn c) n (kC ks F n)) (hF : ∀ i, i < n → ∀ j k, ks[j]? = some k → (Lit.int k (F i j)).wf = true) : IntRow w b n ks F := by
  intro i hi
  cases b with
  | none =>
    obtain ⟨_, h | ⟨g, cap, cur, h2, _⟩⟩ := h
    · omega
    · cases h2
  | some ad =>
    have hc := h.cells
    refine ⟨ad, rfl, fun j k hj => ⟨?_, hF i hi j k hj⟩⟩
    have := CellsAt_get hc _ _ (kC_get (F := F) hj n i hi)
    rwa [Nat.zero_add, ← Deep.add_add] at this
/-- A copy of what is there. -/
theorem copy_krow {P : Program} {t e : TypeId} {bytes : Nat} {ks : List IntKind} (hT : RowTy P t e ks.length bytes) {A : Option Addr} {n cap : Nat} {F : Nat → Nat → Int} {w : World} (hn : n ≤ maxLen) (hb : n * bytes ≤ 140737488355328) (hR : IntRow w A n ks F) {K : Value → World → Prop}
    (hK : ∀ b c w', IntRow w' b n ks F → Later w w' → K (.slice b n c) w') : RunsV P (Builtin.append_ #[t, t] t #[.slice none 0 0, .slice A n cap]) w K := by
  have hF : ∀ i, i < n → ∀ j k, ks[j]? = some k → (Lit.int k (F i j)).wf = true := by
    intro i hi j k hj
    obtain ⟨ad, _, h⟩ := hR i hi
    exact (h j k hj).2
  cases A with
  | none =>
    obtain rfl : n = 0 := by
      rcases Nat.eq_zero_or_pos n with h | h
      · exact h
      · obtain ⟨ad, he, _⟩ := hR 0 h
        cases he
    obtain ⟨i, z, hi, hz, hs, hby, hzs⟩ := hT.info
    refine RunsV_of (v := .slice none 0 0) (w' := w) ?_ (hK none 0 w (fun i hi => absurd hi (Nat.not_lt_zero i)) (Below.refl _ _))
    exact run_append_nothing w _ _ _ _ i hT.under hi none 0 0 (Nat.le_refl 0) (.slice none 0 cap) ⟨.inl ⟨_, hT.under⟩, fun w' => by simp [Builtin.lenOf], by simp [Builtin.firstCells], by simp [Builtin.firstCells], by simp, by simp⟩
  | some ad =>
    refine RunsV_append t hT (n := 0) (xs := []) (OwnS_nil w w _ _) (Below.refl _ _) (m := n) (news := kC ks F n) (kC_length ks F n) (krow_at hT.pos hR) (kC_one ks F n) (by omega) (by rw [Nat.zero_add]; exact hb) ?_
    intro b' bn' bc' w' ho hl _
    rw [Nat.zero_add, List.nil_append] at ho
    obtain rfl := ho.len
    exact hK _ _ _ (own_krow ho hF) hl
/-- A slice of one, whose cells were laid as a block. -/
theorem own_made {w0 w w' : World} {e : TypeId} {cs : List Value} {size : Nat} (hl : Later w0 w) (e1 : w' = w.alloc (.cells cs.toArray e)) (hs : cs.length = size) : OwnS w0 w' e size (.slice (some ⟨w.heap.size, 0, none⟩) 1 1) 1 cs := by
  subst e1
  refine ⟨by rw [hs, Nat.one_mul], .inr ⟨w.heap.size, 1, cs.toArray, rfl, hl.size, heap_alloc_new w _, Nat.le_refl _, by decide, by simp [hs], by simp [← hs]⟩⟩
end Go.Vc
