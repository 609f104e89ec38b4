/-
The contracts of the document's answer for moves, second part: without, Same, Order.
Conditions: each theorem's hypotheses.
-/
import Derived.Test.YtngpkmpbhkbgoaaMvG
namespace Go.Proofs.Ytngpkmpbhkbgoaa
open Go Go.Vc Go.RowKit
set_option linter.unusedVariables false
set_option linter.unusedSimpArgs false
set_option maxRecDepth 100000

theorem mv_eq (xo yo : Operand) (a b : Mv) : EqRuns Try.prog .eql mvTy xo yo (mvv a) (mvv b) (decide (a = b)) ∧ EqRuns Try.prog .neq mvTy xo yo (mvv a) (mvv b) (!decide (a = b)) := by
  have h := eq_flat2 (P := Try.prog) (t := mvTy) (vs := mvC a) (us := mvC b) xo yo Try.underlying39 (by kernel_rfl) (by kernel_rfl) (by
    obtain ⟨⟨a0, a1⟩, a2, a3⟩ := a
    obtain ⟨⟨b0, b1⟩, b2, b3⟩ := b
    kernel_rfl)
  have e : eqL (mvC a) (mvC b) = decide (a = b) := by
    obtain ⟨⟨a0, a1⟩, a2, a3⟩ := a
    obtain ⟨⟨b0, b1⟩, b2, b3⟩ := b
    simp only [mvC, eqL, eq1, Bool.and_true, Prod.mk.injEq]
    rw [Bool.eq_iff_iff]
    simp [and_assoc]
  rw [e] at h
  exact h
/-- The cells of a row's first elements, and of those behind one. -/
theorem MRow.front {w : World} {ad : Addr} {l : List Mv} (h : MRow w (some ad) l) (k : Nat) : CellsAt w ad 0 (mvsC (l.take k)) := by
  refine CellsAt_of_get fun j u hj => ?_
  have hjl : j < (mvsC (l.take k)).length := (List.getElem?_eq_some_iff.1 hj).1
  rw [mvsC_length] at hjl
  have hq : j / 4 < (l.take k).length := by omega
  have e1 := List.getElem?_eq_getElem hq
  have e2 := mvsC_get (l.take k) (j / 4) (j % 4) _ e1 (Nat.mod_lt _ (by decide))
  rw [show j / 4 * 4 + j % 4 = j by omega, hj] at e2
  have e3 : l[j / 4]? = some (l.take k)[j / 4] := by
    rw [List.getElem?_take] at e1
    split at e1
    · exact e1
    · cases e1
  obtain ⟨ae, hae, hc⟩ := h _ _ e3
  obtain rfl := Option.some.inj hae
  have := hc (j % 4) u e2.symm
  rw [Zn_add, show j / 4 * 4 + j % 4 = j by omega] at this
  rw [Nat.zero_add]; exact this
theorem MRow.back {w : World} {ad : Addr} {l : List Mv} (h : MRow w (some ad) l) (k : Nat) : CellsAt w (ad.add (k * 4)) 0 (mvsC (l.drop k)) := by
  refine CellsAt_of_get fun j u hj => ?_
  have hjl : j < (mvsC (l.drop k)).length := (List.getElem?_eq_some_iff.1 hj).1
  rw [mvsC_length] at hjl
  have hq : j / 4 < (l.drop k).length := by omega
  have e1 := List.getElem?_eq_getElem hq
  have e2 := mvsC_get (l.drop k) (j / 4) (j % 4) _ e1 (Nat.mod_lt _ (by decide))
  rw [show j / 4 * 4 + j % 4 = j by omega, hj] at e2
  have e3 : l[k + j / 4]? = some (l.drop k)[j / 4] := by
    rw [List.getElem?_drop] at e1
    exact e1
  obtain ⟨ae, hae, hc⟩ := h _ _ e3
  obtain rfl := Option.some.inj hae
  have := hc (j % 4) u e2.symm
  rw [Zn_add, show (k + j / 4) * 4 + j % 4 = k * 4 + j by omega] at this
  rw [Nat.zero_add, Zn_add]; exact this
theorem mv_append {w0 w : World} {b : Option Addr} {c : Nat} {l news : List Mv} {a : Addr} {c2 : Nat} (hown : OwnM w0 w b c l) (hl : Later w0 w) (hb : l.length ≤ 10000) (hn : news.length ≤ 10000) (hc : CellsAt w a 0 (mvsC news)) {K : Value → World → Prop}
    (hK : ∀ b' c' w', OwnM w0 w' b' c' (l ++ news) → Later w0 w' → (∀ k, k < w.heap.size → rowB b ≠ some k → w'.heap[k]? = w.heap[k]? ∧ rowB b' ≠ some k) → K (.slice b' (l ++ news).length c') w') :
    RunsV Try.prog (Builtin.append_ #[22, 22] 22 #[.slice b l.length c, .slice (some a) news.length c2]) w K := by
  refine RunsV_append_apart 22 mvTyR hown hl (m := news.length) (news := mvsC news) (mvsC_length _) hc (mvsC_one _) (by unfold maxLen; omega) (by omega) ?_
  intro p pn pc w' ho hl' hk
  obtain rfl := ho.len
  rw [← mvsC_append, ← List.length_append] at ho
  rw [← List.length_append]
  exact hK _ _ _ ho hl' hk
theorem ref27_without_ok {A : Option Addr} {cap : Nat} {l : List Mv} (hn : l.length ≤ 10000) (hcap : l.length ≤ cap) (w : World) (hR : MRow w A l) {k : Nat} (hk : k < l.length) :
    Calls Try.prog ref27_without.N #[.slice A l.length cap, i64v (k : Nat)] w (fun e w' => Later w w' ∧ ∃ b c, e = .returned (.slice b (l.eraseIdx k).length c) ∧ OwnM w w' b c (l.eraseIdx k)) := by
  obtain ⟨ad, rfl, -⟩ := hR.at (List.getElem?_eq_getElem hk)
  refine ref27_without.calls ?_
  unfold ref27_without.vc
  refine ⟨⟨by omega, by omega⟩, ?_⟩
  have h1 := mv_append (w0 := w) (b := none) (c := 0) (l := []) (news := l.take k) (a := ad) (c2 := cap - 0) (OwnS_nil _ _ _ _) (Later.refl w) (by simp) (by rw [List.length_take]; omega) (hR.front k) (K := fun v w' => ∃ b c, v = .slice b k c ∧ OwnM w w' b c (l.take k) ∧ Later w w') (fun b c w' ho hl _ => by
    rw [List.nil_append] at ho ⊢
    rw [List.length_take, Nat.min_eq_left (Nat.le_of_lt hk)]
    exact ⟨b, c, rfl, ho, hl⟩)
  rw [List.length_take, Nat.min_eq_left (Nat.le_of_lt hk)] at h1
  have e0 : reslice (some ad) 0 cap 4 = some ad := by unfold reslice; split <;> simp [Addr.add]
  rw [e0, show ((k : Nat) : Int).toNat - 0 = k by omega]
  obtain ⟨v, w1, hr, b, c, rfl, ho, l1⟩ := RunsV_iff h1
  refine RunsV_of hr ⟨_, _, _, rfl, ?_⟩
  rw [i64_in (by omega) (by omega), show (((k : Nat) : Int) + 1).toNat = k + 1 by omega]
  refine ⟨⟨by omega, by omega⟩, ?_⟩
  have hsrc : ∃ a, reslice (some ad) (k + 1) cap 4 = some a ∧ CellsAt w1 a 0 (mvsC (l.drop (k + 1))) := by
    unfold reslice
    split
    · rw [List.drop_of_length_le (by omega)]
      exact ⟨_, rfl, trivial⟩
    · exact ⟨_, rfl, (hR.later l1).back (k + 1)⟩
  obtain ⟨a, ha, hc⟩ := hsrc
  rw [ha]
  have hkl : (l.take k).length = k := by rw [List.length_take]; omega
  have h2 := mv_append (news := l.drop (k + 1)) (a := a) (c2 := cap - (k + 1)) ho l1 (by omega) (by rw [List.length_drop]; omega) hc (K := fun v w' => ∃ b c, v = .slice b (l.eraseIdx k).length c ∧ OwnM w w' b c (l.eraseIdx k) ∧ Later w w') (fun b c w' ho hl _ => by
    rw [← List.eraseIdx_eq_take_drop_succ] at ho ⊢
    exact ⟨b, c, rfl, ho, hl⟩)
  rw [hkl, List.length_drop] at h2
  obtain ⟨v, w2, hr, b, c, rfl, ho, l2⟩ := RunsV_iff h2
  exact RunsV_of hr ⟨_, _, _, rfl, l2, b, c, rfl, ho⟩
theorem ref27_Same_ok {A B : Option Addr} {ca cb : Nat} {l k : List Mv} (hn : l.length ≤ 1000000) (w : World) (hA : MRow w A l) (hB : MRow w B k) : Calls Try.prog ref27_Same.N #[.slice A l.length ca, .slice B k.length cb] w (Gives (.bool (decide (l = k))) w) := by
  refine ref27_Same.calls ?_
  unfold ref27_Same.vc
  refine cnd_of (fun h => ?_) (fun h => ?_)
  · have h : ((l.length : Nat) : Int) ≠ k.length := by simpa using h
    rw [decide_eq_false (fun e : l = k => h (by rw [e]))]
    exact ⟨rfl, Later.refl _⟩
  have hlen : l.length = k.length := by
    have h : ((l.length : Nat) : Int) = k.length := by simpa using h
    omega
  refine ⟨fun vs w' => ∃ j : Nat, vs = [.int .i64 j] ∧ j ≤ l.length ∧ Later w w' ∧ (l.take j = k.take j), fun vs _ => match vs with | [.int _ j] => (l.length - j.toNat) | _ => 0,
    ⟨0, rfl, Nat.zero_le _, Later.refl _, by simp⟩, ?_⟩
  rintro g _ w2 ⟨j, hs, hj, l2, heq⟩
  simp only [List.cons.injEq, Value.int.injEq, true_and, and_true] at hs
  subst hs
  refine cnd_of (fun h => ?_) (fun h => ?_)
  case refine_2 =>
    have := of_decide_eq_false h
    obtain rfl : j = l.length := by omega
    rw [List.take_length, hlen, List.take_length] at heq
    rw [decide_eq_true heq]
    exact ⟨rfl, l2⟩
  have hjl : j < l.length := by have := of_decide_eq_true h; omega
  have hm := List.getElem?_eq_getElem hjl
  have hm' := List.getElem?_eq_getElem (show j < k.length by omega)
  generalize l[j] = m at hm
  generalize k[j] = m' at hm'
  obtain ⟨ad, rfl, hc⟩ := (hA.later l2).at hm
  obtain ⟨ae, rfl, hd⟩ := (hB.later l2).at hm'
  refine ⟨⟨by omega, by omega⟩, Deref_some rfl ⟨_, _, _, _, fun w' h' => ⟨h'.cell_some hc.1, h'.cell_some hc.2.1, h'.cell_some hc.2.2.1, h'.cell_some hc.2.2.2.1, trivial⟩, ⟨by omega, by omega⟩, Deref_some rfl ⟨_, _, _, _, fun w' h' => ⟨h'.cell_some hd.1, h'.cell_some hd.2.1, h'.cell_some hd.2.2.1, h'.cell_some hd.2.2.2.1, trivial⟩, _, (mv_eq _ _ m m').2, fun w3 l3 => cnd_of (fun h2 => ?_) (fun h2 => ?_)⟩⟩⟩
  · have h2 : m ≠ m' := by simpa using h2
    rw [decide_eq_false (fun e : l = k => h2 (by rw [e, hm'] at hm; exact (Option.some.inj hm).symm))]
    exact ⟨rfl, l2.trans l3⟩
  · have h2 : m = m' := by simpa using h2
    rw [i64_in (by omega) (by omega)]
    refine ⟨⟨j + 1, rfl, by omega, l2.trans l3, ?_⟩, by simp only; omega⟩
    rw [take_snoc hm, take_snoc hm', heq, h2]
end Go.Proofs.Ytngpkmpbhkbgoaa
