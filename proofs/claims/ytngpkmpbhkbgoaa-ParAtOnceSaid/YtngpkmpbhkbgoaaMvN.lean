/-
The contracts of the document's answer for what places have: Get, Set.
Conditions: each theorem's hypotheses.
-/
import Derived.Test.YtngpkmpbhkbgoaaVref27g
import Derived.Test.YtngpkmpbhkbgoaaVcRows
import Derived.Test.YtngpkmpbhkbgoaaMvM
import Derived.Test.YtngpkmpbhkbgoaaMvG
namespace Go.Proofs.Ytngpkmpbhkbgoaa
open Go Go.Vc Go.RowKit
set_option linter.unusedVariables false
set_option linter.unusedSimpArgs false
set_option maxRecDepth 100000

def clT : ElT Cl := ⟨3, by decide, fun c => [.bool c.1.1, i64v c.1.2, i64v c.2], fun _ => rfl, fun c => by simp [Value.oneCell']⟩
abbrev clTy : TypeId := 42
theorem clTyR : RowTy Try.prog 36 clTy clT.sz 24 := RowTy.of (.agg #[.bool false, .int .i64 0, .int .i64 0]) Try.underlying36 (by kernel_rfl) rfl (by decide)
theorem cl_at {w : World} {A : Option Addr} {l : List Cl} (h : ERow clT w A l) {i : Nat} {c : Cl} (hi : l[i]? = some c) : ∃ ad, A = some ad ∧ w.cell? (ad.add (i * 3)) = some (.bool c.1.1) ∧ w.cell? ((ad.add (i * 3)).add 1) = some (i64v c.1.2) ∧ w.cell? ((ad.add (i * 3)).add 2) = some (i64v c.2) := by
  obtain ⟨ad, h1, h2⟩ := h i c hi
  have h0 := h2 0 _ rfl
  rw [add_zero_nn] at h0
  exact ⟨ad, h1, h0, h2 1 _ rfl, h2 2 _ rfl⟩
theorem getC_skip {p : Pl} : ∀ {l : List Cl} {k : Nat}, (∀ c ∈ l.take k, c.1 ≠ p) → getC l p = getC (l.drop k) p
  | [], k, _ => by simp
  | c :: l, 0, _ => rfl
  | c :: l, k + 1, h => by
    rw [List.drop_succ_cons, ← getC_skip (l := l) (k := k) fun x hx => h x (by rw [List.take_succ_cons]; exact List.mem_cons_of_mem _ hx)]
    show (if c.1 = p then c.2 else getC l p) = _
    rw [if_neg (h c (by rw [List.take_succ_cons]; exact List.mem_cons_self))]
theorem ref27_Get_ok {A : Option Addr} {cap : Nat} {l : List Cl} {p : Pl} (hn : l.length ≤ 1000000) (w : World) (hR : ERow clT w A l) : Calls Try.prog ref27_Get.N #[.slice A l.length cap, plv p] w (Gives (i64v (getC l p)) w) := by
  refine ref27_Get.calls ?_
  unfold ref27_Get.vc
  intro w1 e1
  have T1 := (Trk.start w).alloc e1
  refine ⟨fun vs w' => ∃ k : Nat, vs = [.int .i64 k] ∧ k ≤ l.length ∧ Later w1 w' ∧ (∀ c ∈ l.take k, c.1 ≠ p), fun vs _ => match vs with | [.int _ k] => (l.length - k.toNat) | _ => 0,
    ⟨0, rfl, Nat.zero_le _, Later.refl _, by simp⟩, ?_⟩
  rintro g _ w2 ⟨k, hs, hk, l2, hno⟩
  simp only [List.cons.injEq, Value.int.injEq, true_and, and_true] at hs
  subst hs
  have T2 := T1.later l2
  refine cnd_of (fun h => ?_) (fun h => ?_)
  case refine_2 =>
    have := of_decide_eq_false h
    obtain rfl : k = l.length := by omega
    have e : getC l p = iniP p := by rw [getC_skip hno, List.drop_length]; rfl
    rw [e]
    refine ⟨_, T2.cell 0 rfl rfl, _, T2.cell 0 rfl rfl, cnd_of (fun hb => ?_) (fun hb => ?_)⟩
    · unfold iniP; rw [if_pos hb]; exact ⟨rfl, T2.to⟩
    · unfold iniP; rw [if_neg (by rw [hb]; decide)]; exact ⟨rfl, T2.to⟩
  have hkl : k < l.length := by have := of_decide_eq_true h; omega
  have hm := List.getElem?_eq_getElem hkl
  generalize hck : l[k] = c at hm
  obtain ⟨ad, rfl, h0, h1, h2⟩ := cl_at (hR.later T2.to) hm
  refine ⟨⟨by omega, by omega⟩, Deref_some rfl ⟨_, _, fun w' h' => ⟨h'.cell_some h0, h'.cell_some h1, trivial⟩, _, _, fun w' h' => ⟨(T2.later h').cell 0 rfl rfl, (T2.later h').cell 0 rfl rfl, trivial⟩, _, (pl_eq _ _ c.1 p).1, fun w3 l3 => cnd_of (fun hc => ?_) (fun hc => ?_)⟩⟩
  · have hc := of_decide_eq_true hc
    refine ⟨⟨by omega, by omega⟩, Deref_some rfl ⟨_, l3.cell_some h2, ?_⟩⟩
    have e : getC l p = c.2 := by
      rw [getC_skip hno, List.drop_eq_getElem_cons hkl, hck]
      show (if c.1 = p then c.2 else _) = _
      rw [if_pos hc]
    rw [e]
    exact ⟨rfl, T2.to.trans l3⟩
  · have hc := of_decide_eq_false hc
    rw [i64_in (by omega) (by omega)]
    refine ⟨⟨k + 1, rfl, by omega, l2.trans l3, ?_⟩, by simp only; omega⟩
    rw [take_snoc hm]
    intro y hy
    rcases List.mem_append.1 hy with hy | hy
    · exact hno y hy
    · obtain rfl := List.mem_singleton.1 hy
      exact hc
theorem ref27_Set_ok {A : Option Addr} {cap : Nat} {l : List Cl} {p : Pl} {v : Int} (hn : l.length ≤ 10000) (w : World) (hR : ERow clT w A l) :
    Calls Try.prog ref27_Set.N #[.slice A l.length cap, plv p, i64v v] w (fun e w' => Later w w' ∧ ∃ b c, e = .returned (.slice b (setC l p v).length c) ∧ OwnE clT w w' clTy b c (setC l p v)) := by
  refine ref27_Set.calls ?_
  unfold ref27_Set.vc
  intro w1 e1
  have T1 := (Trk.start w).alloc e1
  have hoff : ∀ k, (offC (l.take k) p).length ≤ l.length := fun k => by
    have h1 := List.length_filter_le (fun c : Cl => decide (c.1 ≠ p)) (l.take k)
    have h2 := List.length_take_le k l
    unfold offC
    have : (l.take k).length ≤ l.length := by rw [List.length_take]; omega
    omega
  refine ⟨fun vs w' => ∃ (k : Nat) (b : Option Addr) (c : Nat), vs = [.slice b (offC (l.take k) p).length c, .int .i64 k] ∧ k ≤ l.length ∧ Trk w w' [(w.heap.size, [.bool p.1, i64v p.2])] ∧ OwnE clT w w' clTy b c (offC (l.take k) p) ∧ rowB b ≠ some w.heap.size, fun vs _ => match vs with | [_, .int _ k] => (l.length - k.toNat) | _ => 0,
    ⟨0, none, 0, by simp [offC], Nat.zero_le _, T1, by simpa [offC] using OwnE.nil (T := clT) w w1 clTy, by simp⟩, ?_⟩
  rintro g b _ c _ w2 ⟨k, _, _, hs, hk, T2, o2, hne⟩
  simp only [List.cons.injEq, Value.int.injEq, Value.slice.injEq, true_and, and_true] at hs
  obtain ⟨⟨rfl, rfl, rfl⟩, rfl⟩ := hs
  have hok := hoff k
  refine cnd_of (fun h => ?_) (fun h => ?_)
  case refine_2 =>
    have := of_decide_eq_false h
    obtain rfl : k = l.length := by omega
    rw [List.take_length] at o2 hok ⊢
    refine ⟨_, _, ⟨T2.cell 0 rfl rfl, T2.cell 0 rfl rfl, trivial⟩, fun w3 e3 => ?_⟩
    exact OwnE.push _ clTyR ((p, v) : Cl) o2 T2.to (by unfold maxLen; omega) (by omega) e3 rfl fun b' c' w4 o4 l4 hk4 => ⟨_, _, _, rfl, l4, b', c', rfl, o4⟩
  have hkl : k < l.length := by have := of_decide_eq_true h; omega
  have hm := List.getElem?_eq_getElem hkl
  generalize l[k] = m at hm
  obtain ⟨ad, rfl, h0, h1, h2⟩ := cl_at (hR.later T2.to) hm
  refine ⟨⟨by omega, by omega⟩, Deref_some rfl ⟨_, _, fun w' h' => ⟨h'.cell_some h0, h'.cell_some h1, trivial⟩, _, _, fun w' h' => ⟨(T2.later h').cell 0 rfl rfl, (T2.later h').cell 0 rfl rfl, trivial⟩, _, (pl_eq _ _ m.1 p).2, fun w3 l3 => cnd_of (fun hc => ?_) (fun hc => ?_)⟩⟩
  · have hc : m.1 ≠ p := by simpa using hc
    have hoff1 : offC (l.take (k + 1)) p = offC (l.take k) p ++ [m] := by rw [take_snoc hm]; unfold offC; rw [List.filter_append]; simp [hc]
    refine ⟨⟨by omega, by omega⟩, Deref_some rfl ⟨_, _, _, ⟨l3.cell_some h0, l3.cell_some h1, l3.cell_some h2, trivial⟩, fun w4 e4 => ?_⟩⟩
    have T3 := T2.later l3
    refine OwnE.push _ clTyR m (OwnS.later o2 l3) T3.to (by unfold maxLen; omega) (by omega) e4 rfl fun b' c' w5 o5 l5 hk5 => ⟨_, _, _, rfl, ?_⟩
    have hx := hk5 w.heap.size (T3.has 0 rfl).lt hne
    rw [i64_in (by omega) (by omega)]
    refine ⟨⟨k + 1, b', c', by rw [hoff1]; rfl, by omega, ⟨l5, fun x hx' => ?_, by simp⟩, by rw [hoff1]; exact o5, hx.2⟩, by simp only; omega⟩
    obtain rfl := List.mem_singleton.1 hx'
    exact ⟨Nat.le_refl _, (T3.has 0 rfl).kept hx.1⟩
  · have hc : m.1 = p := by simpa using hc
    have hoff1 : offC (l.take (k + 1)) p = offC (l.take k) p := by rw [take_snoc hm]; unfold offC; rw [List.filter_append]; simp [hc]
    rw [i64_in (by omega) (by omega)]
    exact ⟨⟨k + 1, b, c, by rw [hoff1]; rfl, by omega, T2.later l3, by rw [hoff1]; exact OwnS.later o2 l3, hne⟩, by simp only; omega⟩
end Go.Proofs.Ytngpkmpbhkbgoaa
