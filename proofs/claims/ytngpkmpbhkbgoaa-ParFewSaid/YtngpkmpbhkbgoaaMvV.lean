/-
What the chapter's third law comes to, once called: true, and nothing old is turned.
Conditions: none.
-/
import Derived.Test.YtngpkmpbhkbgoaaVlaw27f
import Derived.Test.YtngpkmpbhkbgoaaMvU
import Derived.Test.YtngpkmpbhkbgoaaMvL
namespace Go.Proofs.Ytngpkmpbhkbgoaa
open Go Go.Vc Go.RowKit
set_option linter.unusedVariables false
set_option linter.unusedSimpArgs false
set_option maxRecDepth 100000

/-- Which move of the row leads to a place. -/
def rkOf (l : List Mv) (t : Pl) : Nat := l.findIdx fun m => decide (m.2 = t)
theorem rkOf_at {l : List Mv} (hn : (l.map (·.2)).Nodup) {i : Nat} {m : Mv} (hi : l[i]? = some m) : rkOf l m.2 = i := by
  have hil : i < l.length := (List.getElem?_eq_some_iff.1 hi).1
  have hlt : rkOf l m.2 < l.length := List.findIdx_lt_length.2 ⟨m, List.mem_of_getElem? hi, by simp⟩
  have hp := List.findIdx_getElem (w := hlt)
  have hp : (l[rkOf l m.2]).2 = m.2 := of_decide_eq_true hp
  have g1 : (l.map (·.2))[rkOf l m.2]? = some m.2 := by rw [List.getElem?_map, List.getElem?_eq_getElem hlt]; simp [hp]
  have g2 : (l.map (·.2))[i]? = some m.2 := by rw [List.getElem?_map, hi]; rfl
  exact (List.getElem?_inj (List.getElem?_eq_some_iff.1 g1).1 hn).1 (g1.trans g2.symm)
theorem rk_sorted {l : List Mv} (hn : (l.map (·.2)).Nodup) : (l.map fun m => rkOf l m.2).Pairwise (· < ·) := by
  rw [List.pairwise_iff_getElem]
  intro i j hi hj hij
  rw [List.length_map] at hi hj
  rw [List.getElem_map, List.getElem_map, rkOf_at hn (List.getElem?_eq_getElem hi), rkOf_at hn (List.getElem?_eq_getElem hj)]
  exact hij
theorem rings_total {l : List Mv} {sp : Pl} {s : St} (hM : MayP l) (hsp : ∀ m ∈ l, m.2 ≠ sp) (hE : EndOf l sp s) : s.rings = ringsOf (start l).left (rkOf l) l.length := by
  have hl0 : (start l).left.length ≤ l.length := List.length_filter_le keep l
  have key : ∀ k, Sim l sp (iter sp k (start l)) ∧ ((iter sp k (start l)).left.map fun m => rkOf l m.2).Pairwise (· < ·) ∧ (iter sp k (start l)).rings + ringsOf (iter sp k (start l)).left (rkOf l) l.length = ringsOf (start l).left (rkOf l) l.length := by
    intro k
    induction k with
    | zero => exact ⟨Sim.start hM.uniq hsp, (rk_sorted hM.uniq).sublist (List.Sublist.map _ List.filter_sublist), by show 0 + _ = _; rw [Nat.zero_add]; rfl⟩
    | succ k ih =>
      obtain ⟨hS, hP, hR⟩ := ih
      have hlen := left_le (sp := sp) (s := start l) k
      have hstep : iter sp (k + 1) (start l) = stp sp (iter sp k (start l)) := rfl
      rw [hstep]
      generalize iter sp k (start l) = S at *
      refine ⟨hS.step hsp, ?_⟩
      by_cases hnil : S.left = []
      · rw [stp_nil hnil]; exact ⟨hP, hR⟩
      obtain ⟨m0, h0⟩ : ∃ m0, S.left[0]? = some m0 := ⟨_, List.getElem?_eq_getElem (List.length_pos_iff.2 hnil)⟩
      by_cases hn : S.left.findIdx (opn S.left) < S.left.length
      · have hop : opn S.left S.left[S.left.findIdx (opn S.left)] = true := List.findIdx_getElem (w := hn)
        have hm := List.getElem?_eq_getElem hn
        rw [stp_open rfl hm]
        refine ⟨hP.sublist (List.Sublist.map _ (List.eraseIdx_sublist _ _)), ?_⟩
        simp only
        rw [rings_open hS.tos hm hop]
        exact hR
      · rw [stp_ring h0 hn]
        have hno : ∀ t ∈ S.left.map (·.2), t ∈ S.left.map (·.1) := by
          intro t ht
          obtain ⟨m, hm, rfl⟩ := List.mem_map.1 ht
          apply Classical.byContradiction
          intro hc
          exact hn (List.findIdx_lt_length.2 ⟨m, hm, opn_iff.2 fun x hx e => hc (List.mem_map.2 ⟨x, hx, e⟩)⟩)
        obtain ⟨r, hr⟩ : ∃ r, S.left = m0 :: r := by
          cases hL : S.left with
          | nil => exact absurd hL hnil
          | cons x r => rw [hL] at h0; exact ⟨r, by rw [show x = m0 by simpa using h0]⟩
        have hrk : ∀ t ∈ r.map (·.2), rkOf l m0.2 < rkOf l t := by
          intro t ht
          obtain ⟨x, hx, rfl⟩ := List.mem_map.1 ht
          rw [hr, List.map_cons, List.pairwise_cons] at hP
          exact hP.1 _ (List.mem_map_of_mem (f := fun m : Mv => rkOf l m.2) hx)
        have hspn : sp ∉ S.left.map (·.2) := by
          intro h
          obtain ⟨x, hx, he⟩ := List.mem_map.1 h
          exact hS.good.spare x hx he
        have := rings_ring hr hS.tos hno hspn hrk (N := l.length) (by omega)
        refine ⟨?_, ?_⟩
        · simp only
          rw [List.map_map]
          have e : ((fun m : Mv => rkOf l m.2) ∘ ren m0.2 sp) = fun m => rkOf l m.2 := by funext m; simp [ren_to]
          rw [e]; exact hP
        · simp only
          omega
  obtain ⟨k, rfl, hk⟩ := hE
  have h := (key k).2.2
  rw [hk] at h
  simpa [ringsOf] using h
/-- What the program's walk along a ring comes to. -/
def ringI (l : List Mv) (k : Nat) : Bool := match l[k]? with | some m => ringW (start l).left (rkOf l) m.2 l.length m.2 | none => false
theorem start_mem {l : List Mv} {m : Mv} : m ∈ (start l).left ↔ m ∈ l ∧ m.1 ≠ m.2 := by
  show m ∈ l.filter (fun m => decide (m.1 ≠ m.2)) ↔ _
  rw [List.mem_filter]
  simp
theorem start_tos {l : List Mv} (hn : (l.map (·.2)).Nodup) : ((start l).left.map (·.2)).Nodup := hn.sublist (List.Sublist.map _ List.filter_sublist)
/-- The last one that leads to a place: the only one. -/
theorem lastTo {l : List Mv} (hn : (l.map (·.2)).Nodup) {i j : Nat} {a b : Mv} (hi : l[i]? = some a) (hj : l[j]? = some b) (h : a.2 = b.2) : i = j := by
  rw [← rkOf_at hn hi, ← rkOf_at hn hj, h]
set_option maxHeartbeats 1600000 in
theorem law27_ring_ok {A : Option Addr} {cap : Nat} {l : List Mv} (hn : l.length ≤ 1000) (hnd : (l.map (·.2)).Nodup) {k : Nat} {mk : Mv} (hk : l[k]? = some mk) (hne : mk.1 ≠ mk.2) (w : World) (hR : MRow w A l) : Calls Try.prog law27_ring.N #[.slice A l.length cap, i64v (k : Nat)] w (Gives (.bool (ringI l k)) w) := by
  have hkl : k < l.length := (List.getElem?_eq_some_iff.1 hk).1
  have hst := start_tos hnd
  refine law27_ring.calls ?_
  unfold law27_ring.vc
  refine ⟨fun vs w' => ∃ (at_ n : Nat) (m : Mv), vs = [.int .i64 at_, .int .i64 n] ∧ n ≤ l.length ∧ l[at_]? = some m ∧ m.1 ≠ m.2 ∧ Later w w' ∧ ringI l k = ringW (start l).left (rkOf l) mk.2 (l.length - n) m.2, fun vs _ => match vs with | [_, .int _ n] => (l.length - n.toNat) | _ => 0,
    ⟨k, 0, mk, rfl, Nat.zero_le _, hk, hne, Later.refl _, by unfold ringI; rw [hk]; rfl⟩, ?_⟩
  rintro g _ _ w2 ⟨a, n, m, hs, hnl, hm, hmne, l2, hring⟩
  simp only [List.cons.injEq, Value.int.injEq, true_and, and_true] at hs
  obtain ⟨rfl, rfl⟩ := hs
  have hal : a < l.length := (List.getElem?_eq_some_iff.1 hm).1
  refine cnd_of (fun h => ?_) (fun h => ?_)
  case refine_2 =>
    have := of_decide_eq_false h
    rw [hring, show l.length - n = 0 by omega]
    exact ⟨rfl, l2⟩
  have hnlt : n < l.length := by have := of_decide_eq_true h; omega
  -- who leads to where m is from
  refine ⟨fun vs w' => ∃ (f : Int) (i : Nat), vs = [.int .i64 f, .int .i64 i] ∧ i ≤ l.length ∧ Later w2 w' ∧ ((f = -1 ∧ ∀ j x, j < i → l[j]? = some x → x.1 ≠ x.2 → x.2 ≠ m.1) ∨ ∃ j x, f = (j : Nat) ∧ j < i ∧ l[j]? = some x ∧ x.1 ≠ x.2 ∧ x.2 = m.1), fun vs _ => match vs with | [_, .int _ i] => (l.length - i.toNat) | _ => 0,
    ⟨-1, 0, rfl, Nat.zero_le _, Later.refl _, .inl ⟨rfl, fun j x h => by omega⟩⟩, ?_⟩
  rintro g2 f _ w3 ⟨_, i, hs, hil, l3, hf⟩
  simp only [List.cons.injEq, Value.int.injEq, true_and, and_true] at hs
  obtain ⟨rfl, rfl⟩ := hs
  refine cnd_of (fun h => ?_) (fun h => ?_)
  · have hi : i < l.length := by have := of_decide_eq_true h; omega
    have hx := List.getElem?_eq_getElem hi
    generalize l[i] = x at hx
    obtain ⟨ad, rfl, hc⟩ := (hR.later (l2.trans l3)).at hx
    obtain ⟨ae, hae, hca⟩ := (hR.later (l2.trans l3)).at hm
    obtain rfl := Option.some.inj hae
    have keepf : ∀ w', Later w3 w' → (x.1 ≠ x.2 → x.2 ≠ m.1) → (∃ (f' : Int) (j : Nat), [Value.int .i64 f, .int .i64 (IntKind.i64.wrap ((i : Int) + 1))] = [.int .i64 f', .int .i64 j] ∧ j ≤ l.length ∧ Later w2 w' ∧ ((f' = -1 ∧ ∀ q y, q < j → l[q]? = some y → y.1 ≠ y.2 → y.2 ≠ m.1) ∨ ∃ q y, f' = (q : Nat) ∧ q < j ∧ l[q]? = some y ∧ y.1 ≠ y.2 ∧ y.2 = m.1)) ∧ l.length - (IntKind.i64.wrap ((i : Int) + 1)).toNat < l.length - ((i : Nat) : Int).toNat := by
      intro w' h' hnot
      rw [i64_in (by omega) (by omega)]
      refine ⟨⟨f, i + 1, rfl, by omega, l3.trans h', ?_⟩, by omega⟩
      rcases hf with ⟨h1, h2⟩ | ⟨q, y, h1, h2, h3⟩
      · refine .inl ⟨h1, fun q y hq hy hyn => ?_⟩
        by_cases hqi : q = i
        · subst hqi
          rw [hx] at hy
          obtain rfl := Option.some.inj hy
          exact hnot hyn
        · exact h2 q y (by omega) hy hyn
      · exact .inr ⟨q, y, h1, by omega, h3⟩
    refine ⟨⟨by omega, by omega⟩, Deref_some rfl ⟨_, _, fun w' h' => ⟨h'.cell_some hc.1, h'.cell_some hc.2.1, trivial⟩, ⟨by omega, by omega⟩, Deref_some rfl ⟨_, _, fun w' h' => ⟨h'.cell_some hc.2.2.1, by rw [add_two_one]; exact h'.cell_some hc.2.2.2.1, trivial⟩, _, (pl_eq _ _ x.1 x.2).2, cnd_of (fun h2 => ?_) (fun h2 w4 l4 => ?_)⟩⟩⟩
    · have h2 : x.1 ≠ x.2 := by simpa using h2
      refine ⟨⟨by omega, by omega⟩, Deref_some rfl ⟨_, _, fun w' h' => ⟨h'.cell_some hc.2.2.1, by rw [add_two_one]; exact h'.cell_some hc.2.2.2.1, trivial⟩, ⟨by omega, by omega⟩, Deref_some rfl ⟨_, _, fun w' h' => ⟨h'.cell_some hca.1, h'.cell_some hca.2.1, trivial⟩, _, (pl_eq _ _ x.2 m.1).1, fun w4 l4 => cnd_of (fun h3 => ?_) (fun h3 => ?_)⟩⟩⟩
      · have h3 := of_decide_eq_true h3
        rw [i64_in (by omega) (by omega)]
        exact ⟨⟨i, i + 1, rfl, by omega, l3.trans l4, .inr ⟨i, x, rfl, by omega, hx, h2, h3⟩⟩, by simp only; omega⟩
      · exact keepf w4 l4 fun _ => of_decide_eq_false h3
    · have h2 : x.1 = x.2 := by simpa using h2
      exact keepf w4 l4 fun h => absurd h2 h
  · have : i = l.length := by have := of_decide_eq_false h; omega
    subst this
    have hfrom : fromOf (start l).left m.2 = some m.1 := fromOf_mem hst m (start_mem.2 ⟨List.mem_of_getElem? hm, hmne⟩)
    have hsucc : l.length - n = (l.length - (n + 1)) + 1 := by omega
    have l03 := l2.trans l3
    rw [hsucc] at hring
    unfold ringW at hring
    rw [hfrom] at hring
    simp only at hring
    rcases hf with ⟨rfl, hno⟩ | ⟨j, x, rfl, hj, hx, hxn, hxe⟩
    · refine cnd_true rfl ?_
      rw [hring, if_neg]
      · exact ⟨rfl, l03⟩
      · intro h
        obtain ⟨y, hy, hye⟩ := List.mem_map.1 h
        obtain ⟨hy1, hy2⟩ := start_mem.1 hy
        obtain ⟨q, hq⟩ := List.getElem?_of_mem hy1
        exact hno q y (List.getElem?_eq_some_iff.1 hq).1 hq hy2 hye
    · have hin : m.1 ∈ (start l).left.map (·.2) := List.mem_map.2 ⟨x, start_mem.2 ⟨List.mem_of_getElem? hx, hxn⟩, hxe⟩
      have hrj : rkOf l m.1 = j := by rw [← hxe]; exact rkOf_at hnd hx
      have hrk : rkOf l mk.2 = k := rkOf_at hnd hk
      rw [if_pos hin, hrj, hrk] at hring
      refine cnd_false (decide_eq_false (by omega)) (cnd_of (fun h => ?_) (fun h => ?_))
      · have h := of_decide_eq_true h
        rw [hring, if_pos (by omega)]
        exact ⟨rfl, l03⟩
      · have h := of_decide_eq_false h
        rw [if_neg (by omega)] at hring
        refine cnd_of (fun h2 => ?_) (fun h2 => ?_)
        · have h2 : j = k := by
            have : ((j : Nat) : Int) = ((k : Nat) : Int) := by simpa using h2
            omega
          subst h2
          rw [hx] at hk
          obtain rfl := Option.some.inj hk
          rw [hring, if_pos hxe.symm]
          exact ⟨rfl, l03⟩
        · have h2 : j ≠ k := by
            have : ((j : Nat) : Int) ≠ ((k : Nat) : Int) := by simpa using h2
            omega
          have hne2 : m.1 ≠ mk.2 := fun e => h2 (lastTo hnd hx hk (hxe.trans e))
          rw [if_neg hne2] at hring
          rw [i64_in (by omega) (by omega)]
          refine ⟨⟨j, n + 1, x, rfl, by omega, hx, hxn, l03, ?_⟩, by simp only; omega⟩
          rw [hring, hxe]
end Go.Proofs.Ytngpkmpbhkbgoaa
