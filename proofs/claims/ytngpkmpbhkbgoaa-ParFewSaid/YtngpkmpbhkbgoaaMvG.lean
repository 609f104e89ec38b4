/-
The contracts of the document's answer for moves, first part: which may be, what is asked, what is left, what is the same.
Conditions: each theorem's hypotheses.
-/
import Derived.Test.YtngpkmpbhkbgoaaVref27
import Derived.Test.YtngpkmpbhkbgoaaMvF
namespace Go.Proofs.Ytngpkmpbhkbgoaa
open Go Go.Vc Go.RowKit
set_option linter.unusedVariables false
set_option linter.unusedSimpArgs false
set_option maxRecDepth 100000

theorem Zn_add (a : Addr) (i j : Nat) : (a.add i).add j = a.add (i + j) := by
  unfold Addr.add
  by_cases hi : i = 0
  · subst hi; simp
  · by_cases hj : j = 0
    · subst hj; simp
    · rw [if_neg hi, if_neg hj, if_neg (by omega)]
      simp only [Nat.add_assoc]
theorem ref27_May_ok {A : Option Addr} {cap : Nat} {l : List Mv} (hn : l.length ≤ 1000000) (w : World) (hR : MRow w A l) : Calls Try.prog ref27_May.N #[.slice A l.length cap] w (Gives (.bool (decide (MayP l))) w) := by
  refine ref27_May.calls ?_
  unfold ref27_May.vc
  refine ⟨fun vs w' => ∃ k : Nat, vs = [.int .i64 k] ∧ k ≤ l.length ∧ Later w w' ∧ (∀ m ∈ l.take k, 0 ≤ m.1.2 ∧ 0 ≤ m.2.2) ∧ ((l.take k).map (·.2)).Nodup, fun vs _ => match vs with | [.int _ k] => (l.length - k.toNat) | _ => 0,
    ⟨0, rfl, Nat.zero_le _, Later.refl _, by simp, by simp⟩, ?_⟩
  rintro g _ w2 ⟨k, hs, hk, l2, hpos, hnd⟩
  simp only [List.cons.injEq, Value.int.injEq, true_and, and_true] at hs
  subst hs
  refine cnd_of (fun h => ?_) (fun h => ?_)
  case refine_2 =>
    have := of_decide_eq_false h
    obtain rfl : k = l.length := by omega
    rw [List.take_length] at hpos hnd
    have : decide (((l.length : Nat) : Int) ≤ 64) = decide (MayP l) := by
      rw [Bool.eq_iff_iff, decide_eq_true_iff, decide_eq_true_iff]
      exact ⟨fun h => ⟨by omega, hpos, hnd⟩, fun h => by have := h.len; omega⟩
    rw [this]
    exact ⟨rfl, l2⟩
  have hkl : k < l.length := by have := of_decide_eq_true h; omega
  have hm := List.getElem?_eq_getElem hkl
  generalize l[k] = m at hm
  have hmem := List.mem_of_getElem? hm
  obtain ⟨ad, rfl, hc⟩ := (hR.later l2).at hm
  refine ⟨⟨by omega, by omega⟩, Deref_some rfl ⟨_, hc.2.1, cnd_of (fun h => ?_) (fun h0 => ?_)⟩⟩
  · have h := of_decide_eq_true h
    rw [decide_eq_false (fun q : MayP l => by have := (q.pos m hmem).1; omega)]
    exact ⟨rfl, l2⟩
  refine ⟨⟨by omega, by omega⟩, Deref_some rfl ⟨_, by rw [add_two_one]; exact hc.2.2.2.1, cnd_of (fun h => ?_) (fun h1 => ?_)⟩⟩
  · have h := of_decide_eq_true h
    rw [decide_eq_false (fun q : MayP l => by have := (q.pos m hmem).2; omega)]
    exact ⟨rfl, l2⟩
  have h0 := of_decide_eq_false h0
  have h1 := of_decide_eq_false h1
  refine ⟨fun vs w' => ∃ j : Nat, vs = [.int .i64 j] ∧ j ≤ k ∧ Later w2 w' ∧ m.2 ∉ (l.take j).map (·.2), fun vs _ => match vs with | [.int _ j] => (k - j.toNat) | _ => 0, ⟨0, rfl, Nat.zero_le _, Later.refl _, by simp⟩, ?_⟩
  rintro g2 _ w3 ⟨j, hs, hj, l3, hnin⟩
  simp only [List.cons.injEq, Value.int.injEq, true_and, and_true] at hs
  subst hs
  refine cnd_of (fun h => ?_) (fun h => ?_)
  · have hjk : j < k := by have := of_decide_eq_true h; omega
    have hmj := List.getElem?_eq_getElem (show j < l.length by omega)
    generalize l[j] = mj at hmj
    obtain ⟨ae, hae, hcj⟩ := (hR.later (l2.trans l3)).at hmj
    obtain rfl := Option.some.inj hae
    have hci := (hR.later (l2.trans l3)).at hm
    obtain ⟨ae, hae, hci⟩ := hci
    obtain rfl := Option.some.inj hae
    refine ⟨⟨by omega, by omega⟩, Deref_some rfl ⟨_, _, fun w' h' => ⟨h'.cell_some hcj.2.2.1, by rw [add_two_one]; exact h'.cell_some hcj.2.2.2.1, trivial⟩, ⟨by omega, by omega⟩, Deref_some rfl ⟨_, _, fun w' h' => ⟨h'.cell_some hci.2.2.1, by rw [add_two_one]; exact h'.cell_some hci.2.2.2.1, trivial⟩, _, (pl_eq _ _ mj.2 m.2).1, fun w4 l4 => cnd_of (fun h2 => ?_) (fun h2 => ?_)⟩⟩⟩
    · have h2 := of_decide_eq_true h2
      rw [decide_eq_false (fun q : MayP l => ?_)]
      · exact ⟨rfl, l2.trans (l3.trans l4)⟩
      · have hq := q.uniq
        have g1 : (l.map (·.2))[j]? = some m.2 := by rw [List.getElem?_map, hmj]; simp [h2]
        have g2 : (l.map (·.2))[k]? = some m.2 := by rw [List.getElem?_map, hm]; rfl
        have := (List.getElem?_inj (List.getElem?_eq_some_iff.1 g1).1 hq).1 (g1.trans g2.symm)
        omega
    · have h2 := of_decide_eq_false h2
      rw [i64_in (by omega) (by omega)]
      refine ⟨⟨j + 1, rfl, by omega, l3.trans l4, ?_⟩, by simp only; omega⟩
      rw [take_snoc hmj, List.map_append, List.mem_append]
      rintro (h | h)
      · exact hnin h
      · simp only [List.map_cons, List.map_nil, List.mem_singleton] at h
        exact h2 h.symm
  · have := of_decide_eq_false h
    obtain rfl : j = k := by omega
    rw [i64_in (by omega) (by omega)]
    refine ⟨⟨j + 1, rfl, by omega, l2.trans l3, ?_, ?_⟩, by simp only; omega⟩
    · rw [take_snoc hm]
      intro y hy
      rcases List.mem_append.1 hy with hy | hy
      · exact hpos y hy
      · obtain rfl := List.mem_singleton.1 hy
        omega
    · rw [take_snoc hm, List.map_append, List.nodup_append]
      refine ⟨hnd, by simp, ?_⟩
      intro a ha b hb hab
      simp only [List.map_cons, List.map_nil, List.mem_singleton] at hb
      rw [hab, hb] at ha
      exact hnin ha
theorem ref27_Spare_ok {A : Option Addr} {cap : Nat} {l : List Mv} {s : Pl} (hn : l.length ≤ 1000000) (w : World) (hR : MRow w A l) : Calls Try.prog ref27_Spare.N #[.slice A l.length cap, plv s] w (Gives (.bool (decide (SpP l s))) w) := by
  refine ref27_Spare.calls ?_
  unfold ref27_Spare.vc
  intro w1 e1
  have T1 := (Trk.start w).alloc e1
  refine ⟨fun vs w' => ∃ k : Nat, vs = [.int .i64 k] ∧ k ≤ l.length ∧ Later w1 w' ∧ (∀ m ∈ l.take k, m.1 ≠ s ∧ m.2 ≠ s), fun vs _ => match vs with | [.int _ k] => (l.length - k.toNat) | _ => 0,
    ⟨0, rfl, Nat.zero_le _, Later.refl _, by simp⟩, ?_⟩
  rintro g _ w2 ⟨k, hs, hk, l2, hfree⟩
  simp only [List.cons.injEq, Value.int.injEq, true_and, and_true] at hs
  subst hs
  have T2 := T1.later l2
  refine cnd_of (fun h => ?_) (fun h => ?_)
  case refine_2 =>
    have := of_decide_eq_false h
    obtain rfl : k = l.length := by omega
    rw [List.take_length] at hfree
    refine ⟨_, T2.cell 0 rfl rfl, ?_⟩
    have : decide (s.2 ≥ 0) = decide (SpP l s) := by
      rw [Bool.eq_iff_iff, decide_eq_true_iff, decide_eq_true_iff]
      exact ⟨fun h => ⟨hfree, h⟩, fun h => h.pos⟩
    rw [this]
    exact ⟨rfl, T2.to⟩
  have hkl : k < l.length := by have := of_decide_eq_true h; omega
  have hm := List.getElem?_eq_getElem hkl
  generalize l[k] = m at hm
  have hmem := List.mem_of_getElem? hm
  obtain ⟨ad, rfl, hc⟩ := (hR.later T2.to).at hm
  have sc : ∀ w', Later w2 w' → w'.cell? ⟨w.heap.size, 0, none⟩ = some (.bool s.1) ∧ w'.cell? ⟨w.heap.size, 1, none⟩ = some (i64v s.2) ∧ True := fun w' h' => ⟨(T2.later h').cell 0 rfl rfl, (T2.later h').cell 0 rfl rfl, trivial⟩
  refine ⟨⟨by omega, by omega⟩, Deref_some rfl ⟨_, _, fun w' h' => ⟨h'.cell_some hc.1, h'.cell_some hc.2.1, trivial⟩, _, _, sc, _, (pl_eq _ _ m.1 s).1, cnd_of (fun h1 w' h' => ?_) (fun h1 => ?_)⟩⟩
  · have h1 := of_decide_eq_true h1
    rw [decide_eq_false (fun q : SpP l s => (q.free m hmem).1 h1)]
    exact ⟨rfl, T2.to.trans h'⟩
  have h1 := of_decide_eq_false h1
  refine ⟨⟨by omega, by omega⟩, Deref_some rfl ⟨_, _, fun w' h' => ⟨h'.cell_some hc.2.2.1, by rw [add_two_one]; exact h'.cell_some hc.2.2.2.1, trivial⟩, _, _, sc, _, (pl_eq _ _ m.2 s).1, fun w3 l3 => cnd_of (fun h2 => ?_) (fun h2 => ?_)⟩⟩
  · have h2 := of_decide_eq_true h2
    rw [decide_eq_false (fun q : SpP l s => (q.free m hmem).2 h2)]
    exact ⟨rfl, T2.to.trans l3⟩
  have h2 := of_decide_eq_false h2
  rw [i64_in (by omega) (by omega)]
  refine ⟨⟨k + 1, rfl, by omega, l2.trans l3, ?_⟩, by simp only; omega⟩
  rw [take_snoc hm]
  intro y hy
  rcases List.mem_append.1 hy with hy | hy
  · exact hfree y hy
  · obtain rfl := List.mem_singleton.1 hy
    exact ⟨h1, h2⟩
/-- Does another one ask for a place? -/
def askB (l : List Mv) (p : Pl) (but : Nat) : Bool := (List.range l.length).any fun i => decide (i ≠ but) && (match l[i]? with | some m => decide (m.1 = p) | none => false)
theorem ref27_asked_ok {A : Option Addr} {cap : Nat} {l : List Mv} {p : Pl} {but : Nat} (hn : l.length ≤ 1000000) (w : World) (hR : MRow w A l) : Calls Try.prog ref27_asked.N #[.slice A l.length cap, plv p, i64v (but : Nat)] w (Gives (.bool (askB l p but)) w) := by
  refine ref27_asked.calls ?_
  unfold ref27_asked.vc
  intro w1 e1
  have T1 := (Trk.start w).alloc e1
  refine ⟨fun vs w' => ∃ k : Nat, vs = [.int .i64 k] ∧ k ≤ l.length ∧ Later w1 w' ∧ (∀ i m, i < k → l[i]? = some m → i ≠ but → m.1 ≠ p), fun vs _ => match vs with | [.int _ k] => (l.length - k.toNat) | _ => 0,
    ⟨0, rfl, Nat.zero_le _, Later.refl _, fun i m h => by omega⟩, ?_⟩
  rintro g _ w2 ⟨k, hs, hk, l2, hno⟩
  simp only [List.cons.injEq, Value.int.injEq, true_and, and_true] at hs
  subst hs
  have T2 := T1.later l2
  refine cnd_of (fun h => ?_) (fun h => ?_)
  case refine_2 =>
    have := of_decide_eq_false h
    obtain rfl : k = l.length := by omega
    have : askB l p but = false := by
      unfold askB
      rw [List.any_eq_false]
      intro i hi
      have hi := List.mem_range.1 hi
      rw [List.getElem?_eq_getElem hi]
      simp only [Bool.and_eq_true, decide_eq_true_eq, not_and]
      exact hno i _ hi (List.getElem?_eq_getElem hi)
    rw [this]
    exact ⟨rfl, T2.to⟩
  have hkl : k < l.length := by have := of_decide_eq_true h; omega
  have hm := List.getElem?_eq_getElem hkl
  generalize l[k] = m at hm
  have step : ∀ w', Later w2 w' → (k ≠ but → m.1 ≠ p) → (∃ j : Nat, [Value.int .i64 (IntKind.i64.wrap ((k : Int) + 1))] = [.int .i64 j] ∧ j ≤ l.length ∧ Later w1 w' ∧ (∀ i m, i < j → l[i]? = some m → i ≠ but → m.1 ≠ p)) ∧ l.length - (IntKind.i64.wrap ((k : Int) + 1)).toNat < l.length - ((k : Nat) : Int).toNat := by
    intro w' h' hne
    rw [i64_in (by omega) (by omega)]
    refine ⟨⟨k + 1, rfl, by omega, l2.trans h', fun i m' hi hm' hb => ?_⟩, by omega⟩
    by_cases hik : i = k
    · subst hik
      obtain rfl : m' = m := Option.some.inj (hm'.symm.trans hm)
      exact hne hb
    · exact hno i m' (by omega) hm' hb
  refine cnd_of (fun h1 => ?_) (fun h1 => fun w3 l3 => ?_)
  · have h1 : k ≠ but := by
      have : ((k : Nat) : Int) ≠ ((but : Nat) : Int) := by simpa using h1
      omega
    obtain ⟨ad, rfl, hc⟩ := (hR.later T2.to).at hm
    refine ⟨⟨by omega, by omega⟩, Deref_some rfl ⟨_, _, fun w' h' => ⟨h'.cell_some hc.1, h'.cell_some hc.2.1, trivial⟩, _, _, fun w' h' => ⟨(T2.later h').cell 0 rfl rfl, (T2.later h').cell 0 rfl rfl, trivial⟩, _, (pl_eq _ _ m.1 p).1, fun w3 l3 => cnd_of (fun h2 => ?_) (fun h2 => ?_)⟩⟩
    · have h2 := of_decide_eq_true h2
      have : askB l p but = true := by
        unfold askB
        rw [List.any_eq_true]
        exact ⟨k, List.mem_range.2 hkl, by rw [hm]; simp [h1, h2]⟩
      rw [this]
      exact ⟨rfl, T2.to.trans l3⟩
    · exact step w3 l3 fun _ => of_decide_eq_false h2
  · have h1 : k = but := by
      have : ((k : Nat) : Int) = ((but : Nat) : Int) := by simpa using h1
      omega
    exact step w3 l3 fun h => absurd h1 h
end Go.Proofs.Ytngpkmpbhkbgoaa
