/-
The contracts of package par, second part: the first that may be done, which moves may be.
Conditions: each theorem's hypotheses.
-/
import Derived.Test.YtngpkmpbhkbgoaaMvB
namespace Go.Proofs.Ytngpkmpbhkbgoaa
open Go Go.Vc Go.RowKit
set_option linter.unusedVariables false
set_option linter.unusedSimpArgs false
set_option maxRecDepth 100000

theorem slices_IndexFunc_ok {A : Option Addr} {cap f : Nat} {l : List Mv} {x : Value} {p : Mv → Bool} (hn : l.length ≤ 1000000) (w : World) (hR : MRow w A l) (he : entersB Try.prog f = true)
    (hf : ∀ m ∈ l, ∀ w', Later w w' → Calls Try.prog f #[mvv m, x] w' (Gives (.bool (p m)) w')) :
    Calls Try.prog slices_IndexFunc.N #[.slice A l.length cap, .func (.func f) #[] #[x]] w (Gives (i64v (if l.findIdx p < l.length then (l.findIdx p : Nat) else -1)) w) := by
  refine slices_IndexFunc.calls ?_
  unfold slices_IndexFunc.vc
  refine ⟨fun vs w' => ∃ k : Nat, vs = [.int .i64 k] ∧ k ≤ l.length ∧ k ≤ l.findIdx p ∧ Later w w', fun vs _ => match vs with | [.int _ k] => (l.length - k.toNat) | _ => 0, ⟨0, rfl, Nat.zero_le _, Nat.zero_le _, Later.refl _⟩, ?_⟩
  rintro g _ w1 ⟨k, hs, hk, hkf, l1⟩
  simp only [List.cons.injEq, Value.int.injEq, true_and, and_true] at hs
  subst hs
  refine cnd_of (fun h => ?_) (fun h => ?_)
  · have hkl : k < l.length := by have := of_decide_eq_true h; omega
    have hm := List.getElem?_eq_getElem hkl
    obtain ⟨ad, rfl, hc⟩ := (hR.later l1).at hm
    refine ⟨⟨by omega, by omega⟩, Deref_some rfl ⟨_, _, _, _, hc, cnd_true he ?_⟩⟩
    refine (hf l[k] (List.getElem_mem hkl) w1 l1).mono fun e w2 ⟨he, l2⟩ => ⟨_, he, cnd_of (fun hp => ?_) (fun hp => ?_)⟩
    · have hfi : l.findIdx p = k := by
        have : l.findIdx p ≤ k := Nat.le_of_not_lt fun h => by
          have := List.not_of_lt_findIdx h
          rw [hp] at this; cases this
        omega
      rw [hfi, if_pos hkl]
      exact ⟨rfl, l1.trans l2⟩
    · rw [i64_in (by omega) (by omega)]
      refine ⟨⟨k + 1, rfl, by omega, ?_, l1.trans l2⟩, by simp only; omega⟩
      rcases Nat.lt_or_eq_of_le hkf with h | h
      · omega
      · exfalso
        have hlt : l.findIdx p < l.length := by omega
        have := List.findIdx_getElem (w := hlt)
        simp only [← h] at this
        rw [hp] at this; cases this
  · have := of_decide_eq_false h
    have hfl : l.findIdx p ≤ l.length := List.findIdx_le_length
    rw [if_neg (by omega)]
    exact ⟨rfl, l1⟩
/-- Is a move's To asked for? (a closure over the map) -/
theorem par_order_1_ok {ab r : Nat} {c : Pl → Int} (m : Mv) (w : World) (ha : Has w ab [.map (some r)]) (hq : AskG w r c) :
    Calls Try.prog par_order_1.N #[mvv m, .pointer (some ⟨ab, 0, none⟩)] w (Gives (.bool (c m.2 == 0)) w) := by
  refine par_order_1.calls ?_
  unfold par_order_1.vc
  intro w1 e1
  have T1 := (Trk.start w).alloc e1
  refine Deref_some rfl ⟨_, (ha.later T1.to).cell rfl, _, _, ⟨T1.cell 0 rfl rfl, T1.cell 0 rfl rfl, trivial⟩, ?_⟩
  exact (hq.later T1.to).look _ _ ⟨_, rfl, rfl, T1.to⟩
/-- Is a move from, or to, a place? (a closure over the place) -/
theorem par_Order_1_ok {sb : Nat} {sp : Pl} (m : Mv) (w : World) (hs : Has w sb [.bool sp.1, i64v sp.2]) :
    Calls Try.prog par_Order_1.N #[mvv m, .pointer (some ⟨sb, 0, none⟩)] w (Gives (.bool (decide (m.1 = sp) || decide (m.2 = sp))) w) := by
  refine par_Order_1.calls ?_
  unfold par_Order_1.vc
  intro w1 e1
  have T1 := (Trk.start w).alloc e1
  have h0 : w1.cell? ⟨sb, 0, none⟩ = some (.bool sp.1) := (hs.later T1.to).cell rfl
  have h1 : w1.cell? ((Addr.mk sb 0 none).add 1) = some (i64v sp.2) := by rw [add_block]; exact (hs.later T1.to).cell rfl
  refine ⟨_, _, ⟨T1.cell 0 rfl rfl, T1.cell 0 rfl rfl, trivial⟩, Deref_some rfl ⟨_, _, ⟨h0, h1, trivial⟩, _, (pl_eq _ _ m.1 sp).1, cnd_of (fun h => ?_) (fun h => ?_)⟩⟩
  · rw [h]; exact ⟨rfl, T1.to⟩
  · refine ⟨_, _, ⟨T1.cell 0 rfl rfl, T1.cell 0 rfl rfl, trivial⟩, Deref_some rfl ⟨_, _, ⟨h0, h1, trivial⟩, _, (pl_eq _ _ m.2 sp).1, ?_⟩⟩
    rw [h]; exact ⟨rfl, T1.to⟩
theorem slices_ContainsFunc_ok {A : Option Addr} {cap f : Nat} {l : List Mv} {x : Value} {p : Mv → Bool} (hn : l.length ≤ 1000000) (w : World) (hR : MRow w A l) (he : entersB Try.prog f = true)
    (hf : ∀ m ∈ l, ∀ w', Later w w' → Calls Try.prog f #[mvv m, x] w' (Gives (.bool (p m)) w')) :
    Calls Try.prog slices_ContainsFunc.N #[.slice A l.length cap, .func (.func f) #[] #[x]] w (Gives (.bool (l.any p)) w) := by
  refine slices_ContainsFunc.calls ?_
  unfold slices_ContainsFunc.vc
  refine (slices_IndexFunc_ok hn w hR he hf).mono fun e w1 ⟨he, l1⟩ => ⟨_, he, ?_⟩
  have : decide ((if l.findIdx p < l.length then ((l.findIdx p : Nat) : Int) else -1) ≥ 0) = l.any p := by
    rw [Bool.eq_iff_iff, decide_eq_true_iff, List.any_eq_true, ← List.findIdx_lt_length]
    split <;> omega
  rw [this]
  exact ⟨rfl, l1⟩
/-- Which moves may be. -/
structure MayP (l : List Mv) : Prop where
  len : l.length ≤ 64
  pos : ∀ m ∈ l, 0 ≤ m.1.2 ∧ 0 ≤ m.2.2
  uniq : (l.map (·.2)).Nodup
instance (l : List Mv) : Decidable (MayP l) := decidable_of_iff (l.length ≤ 64 ∧ (∀ m ∈ l, 0 ≤ m.1.2 ∧ 0 ≤ m.2.2) ∧ (l.map (·.2)).Nodup) ⟨fun h => ⟨h.1, h.2.1, h.2.2⟩, fun h => ⟨h.1, h.2, h.3⟩⟩
theorem RunsV_makeMap {P : Program} {t : TypeId} {w : World} {K : Value → World → Prop} (hK : ∀ w', w' = w.alloc (.map #[] 0) → K (.map (some w.heap.size)) w') : RunsV P (Instr.makeMap t none) w K :=
  RunsV_of (v := .map (some w.heap.size)) (w' := w.alloc (.map #[] 0)) (by simp [Instr.makeMap, newObj]; rfl) (hK _ rfl)
theorem AskG.empty {w : World} {r : Nat} (h : w.heap[r]? = some (.map #[] 0)) : AskG w r fun _ => 0 := ⟨_, MapG.empty h, fun _ => rfl⟩
theorem take_snoc {α : Type} {l : List α} {k : Nat} {m : α} (h : l[k]? = some m) : l.take (k + 1) = l.take k ++ [m] := by rw [List.take_add_one, h]; rfl
set_option maxHeartbeats 1600000 in
theorem par_may_ok {A : Option Addr} {cap : Nat} {l : List Mv} (w : World) (hR : MRow w A l) : Calls Try.prog par_may.N #[.slice A l.length cap] w (Gives (.bool (decide (MayP l))) w) := by
  refine par_may.calls ?_
  unfold par_may.vc
  refine cnd_of (fun h => ?_) (fun h => ?_)
  · have h := of_decide_eq_true h
    rw [decide_eq_false (fun m : MayP l => by have := m.len; omega)]
    exact ⟨rfl, Later.refl _⟩
  have hlen : l.length ≤ 64 := by have := of_decide_eq_false h; omega
  refine RunsV_makeMap fun w1 e1 => ⟨_, rfl, ?_⟩
  have l1 : Later w w1 := e1 ▸ Later.alloc' w _
  have hb1 : w1.heap[w.heap.size]? = some (.map #[] 0) := by rw [e1]; exact heap_alloc_new w _
  generalize hr0 : w.heap.size = r at hb1
  refine ⟨fun vs w' => ∃ k : Nat, vs = [.int .i64 k] ∧ k ≤ l.length ∧ Later w w' ∧ AskG w' r (fun p => if p ∈ (l.take k).map (·.2) then 1 else 0) ∧ (∀ m ∈ l.take k, 0 ≤ m.1.2 ∧ 0 ≤ m.2.2) ∧ ((l.take k).map (·.2)).Nodup, fun vs _ => match vs with | [.int _ k] => (l.length - k.toNat) | _ => 0,
    ⟨0, rfl, Nat.zero_le _, l1, by simpa using AskG.empty hb1, by simp, by simp⟩, ?_⟩
  rintro g _ w2 ⟨k, hs, hk, l2, hq, hpos, hnd⟩
  simp only [List.cons.injEq, Value.int.injEq, true_and, and_true] at hs
  subst hs
  refine cnd_of (fun h => ?_) (fun h => ?_)
  case refine_2 =>
    have := of_decide_eq_false h
    obtain rfl : k = l.length := by omega
    rw [List.take_length] at hpos hnd
    rw [decide_eq_true (⟨hlen, hpos, hnd⟩ : MayP l)]
    exact ⟨rfl, l2⟩
  have hkl : k < l.length := by have := of_decide_eq_true h; omega
  have hm := List.getElem?_eq_getElem hkl
  generalize l[k] = m at hm
  have hmem := List.mem_of_getElem? hm
  obtain ⟨ad, rfl, hc⟩ := (hR.later l2).at hm
  refine ⟨⟨by omega, by omega⟩, Deref_some rfl ⟨_, _, _, _, hc, fun w3 e3 => ?_⟩⟩
  refine ((Trk.start w2).alloc e3).setAll 0 rfl (l := mvC m) (by rfl) (by simp [mvC, Value.oneCell']) fun w4 T4 => ?_
  have hx := T4.has 0 rfl
  have l4 := l2.trans T4.to
  refine ⟨_, T4.cell 0 rfl rfl, cnd_of (fun h => ?_) (fun h0 => ?_)⟩
  · have h := of_decide_eq_true h
    rw [decide_eq_false (fun q : MayP l => by have := (q.pos m hmem).1; omega)]
    exact ⟨rfl, l4⟩
  refine ⟨_, T4.cell 0 rfl rfl, cnd_of (fun h => ?_) (fun h1 => ?_)⟩
  · have h := of_decide_eq_true h
    rw [decide_eq_false (fun q : MayP l => by have := (q.pos m hmem).2; omega)]
    exact ⟨rfl, l4⟩
  have h0 := of_decide_eq_false h0
  have h1 := of_decide_eq_false h1
  have hq4 := hq.later T4.to
  refine ⟨_, _, ⟨T4.cell 0 rfl rfl, T4.cell 0 rfl rfl, trivial⟩, hq4.look _ _ ⟨_, rfl, cnd_of (fun h2 => ?_) (fun h2 => ?_)⟩⟩
  · have h2 := of_decide_eq_true h2
    rw [decide_eq_false (fun q : MayP l => by
      have hin : m.2 ∈ (l.take k).map (·.2) := by
        have h2 : (if m.2 ∈ (l.take k).map (·.2) then (1 : Int) else 0) > 0 := h2
        by_cases hin : m.2 ∈ (l.take k).map (·.2)
        · exact hin
        · rw [if_neg hin] at h2; omega
      have hq := q.uniq
      rw [← List.take_append_drop (k + 1) l, take_snoc hm, List.map_append, List.map_append, List.nodup_append, List.nodup_append] at hq
      exact hq.1.2.2 m.2 hin m.2 (by simp) rfl)]
    exact ⟨rfl, l4⟩
  have h2 := of_decide_eq_false h2
  have hnin : m.2 ∉ (l.take k).map (·.2) := by
    intro hin
    have h2 : ¬ (if m.2 ∈ (l.take k).map (·.2) then (1 : Int) else 0) > 0 := h2
    rw [if_pos hin] at h2; omega
  have hrlt : r < w2.heap.size := hq.lt
  have hne : w2.heap.size ≠ r := by omega
  obtain ⟨C, x, st, hC, hkept, hsays, hent, hst, hC2, -, -⟩ := hq4.turn m.2 m.2 1 1
  have hk01 : ∀ w', PhC C 0 0 w' → KeptBut w4 r w' := fun w' ⟨p, _, _, hp⟩ => hkept p w' hp
  refine ⟨C, hC, _, _, fun w' hw' => ⟨(hk01 w' hw').cell hne hx rfl, (hk01 w' hw').cell hne hx rfl, trivial⟩, _, fun w' hw' => (hsays w' hw').run _ _, x, st, hent, ?_⟩
  have hv : IntKind.i64.wrap ((if ((m.2.1, m.2.2) : Pl) ∈ (l.take k).map (·.2) then (1 : Int) else 0) + 1) = 1 := by
    rw [if_neg (show ¬ ((m.2.1, m.2.2) : Pl) ∈ (l.take k).map (·.2) from hnin)]; rfl
  rw [hv]
  refine ⟨hst, fun w5 h5 => ?_⟩
  have k5 := hkept 2 w5 h5
  rw [i64_in (by omega) (by omega)]
  refine ⟨⟨k + 1, rfl, by omega, k5.later w l4 (by omega), (hC2 w5 h5).congr fun p => ?_, ?_, ?_⟩, by simp only; omega⟩
  · unfold upd
    rw [take_snoc hm, List.map_append]
    by_cases hp : p = m.2
    · subst hp; simp
    · rw [if_neg hp]
      simp [hp]
  · rw [take_snoc hm]
    intro y hy
    rcases List.mem_append.1 hy with hy | hy
    · exact hpos y hy
    · obtain rfl := List.mem_singleton.1 hy
      omega
  · rw [take_snoc hm, List.map_append, List.nodup_append]
    refine ⟨hnd, by simp, ?_⟩
    intro a ha b hb hab
    simp only [List.map_cons, List.map_nil, List.mem_singleton] at hb
    rw [hab, hb] at ha
    exact hnin ha
end Go.Proofs.Ytngpkmpbhkbgoaa
