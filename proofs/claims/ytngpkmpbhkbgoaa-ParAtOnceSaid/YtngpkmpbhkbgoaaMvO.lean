/-
What the chapter's second law comes to, once called: true, and nothing old is turned.
Conditions: none.
-/
import Derived.Test.YtngpkmpbhkbgoaaVlaw27a
import Derived.Test.YtngpkmpbhkbgoaaMvN
import Derived.Test.YtngpkmpbhkbgoaaMvL
namespace Go.Proofs.Ytngpkmpbhkbgoaa
open Go Go.Vc Go.RowKit
set_option linter.unusedVariables false
set_option linter.unusedSimpArgs false
set_option maxRecDepth 100000

theorem foldl_take {l : List Mv} {k : Nat} {m : Mv} (h : l[k]? = some m) : runC (l.take (k + 1)) = stepC (runC (l.take k)) m := by
  rw [take_snoc h, runC_snoc]
set_option maxHeartbeats 3200000 in
theorem law27_ParAtOnce_ok {A : Option Addr} {cap : Nat} {l : List Mv} {sp : Pl} (w : World) (hR : MRow w A l) : Calls Try.prog law27_ParAtOnce.N #[.slice A l.length cap, plv sp] w (Gives (.bool true) w) := by
  refine law27_ParAtOnce.calls ?_
  unfold law27_ParAtOnce.vc
  intro w1 e1
  have T1 := (Trk.start w).alloc e1
  have alive : ∀ {w' : World} {K : Ending → World → Prop}, Later w w' → (∀ w'', Later w w'' → K (.returned (.bool true)) w'') → Calls Try.prog law27_alive.N #[] w' (fun e w' => ∃ b : Bool, e = .returned (.bool b) ∧ K (.returned (.bool b)) w') := fun hl hK =>
    (law27_alive_ok _).mono fun e w'' ⟨he, l''⟩ => ⟨_, he, hK _ (hl.trans l'')⟩
  refine cnd_of (fun h => ?_) (fun h => ?_)
  · exact alive T1.to fun w'' h => ⟨rfl, h⟩
  have hn : l.length ≤ 100 := by have := of_decide_eq_false h; omega
  refine ⟨_, _, ⟨T1.cell 0 rfl rfl, T1.cell 0 rfl rfl, trivial⟩, (par_Order_ok (sp := sp) w1 (hR.later T1.to)).mono fun e w3 ⟨l3, h3⟩ => ?_⟩
  have T3 := T1.later l3
  rcases h3 with ⟨hm, hs, s, b3, c3, hE, he, o3⟩ | ⟨hno, he⟩
  case inr =>
    refine ⟨_, _, _, _, he, cnd_true rfl (cnd_true rfl (cnd_true rfl ?_))⟩
    refine (ref27_May_ok (by omega) w3 (hR.later T3.to)).mono fun e w4 ⟨he, l4⟩ => ⟨_, he, cnd_of (fun h => ?_) (fun h => ?_)⟩
    · exact alive (T3.to.trans l4) fun w'' h => ⟨rfl, h⟩
    · have hm : MayP l := by simpa using h
      have T4 := T3.later l4
      refine ⟨_, _, ⟨T4.cell 0 rfl rfl, T4.cell 0 rfl rfl, trivial⟩, (ref27_Spare_ok (s := sp) (by omega) w4 (hR.later T4.to)).mono fun e w5 ⟨he, l5⟩ => ⟨_, he, cnd_true ?_ (alive (T4.to.trans l5) fun w'' h => ⟨rfl, h⟩)⟩⟩
      simp only [Bool.not_eq_true', decide_eq_false_iff_not]
      exact fun hs => hno ⟨hm, hs⟩
  -- they are laid one behind the other
  obtain ⟨hsim, hpl⟩ := sim_end hm hs hE
  obtain ⟨hfew1, hfew2⟩ := few_end hs hE
  have hst : (start l).left.length ≤ l.length := List.length_filter_le keep l
  have hlen := hm.len
  have R3 : MRow w3 b3 s.out := OwnM.row o3
  refine ⟨_, _, _, _, he, cnd_false rfl (cnd_false ?_ ?_)⟩
  · rw [i64_in (by omega) (by omega)]
    exact decide_eq_false (by omega)
  refine ⟨fun vs w' => ∃ (k : Nat) (b : Option Addr) (c : Nat), vs = [.slice b (runC (s.out.take k)).length c, .int .i64 k] ∧ k ≤ s.out.length ∧ Later w3 w' ∧ ERow clT w' b (runC (s.out.take k)), fun vs _ => match vs with | [_, .int _ k] => (s.out.length - k.toNat) | _ => 0,
    ⟨0, none, 0, by simp [runC], Nat.zero_le _, Later.refl _, by simpa [runC] using ERow.nil (T := clT) w3 none⟩, ?_⟩
  rintro g b _ c _ w4 ⟨k, _, _, hs', hk, l4, r4⟩
  simp only [List.cons.injEq, Value.int.injEq, Value.slice.injEq, true_and, and_true] at hs'
  obtain ⟨⟨rfl, rfl, rfl⟩, rfl⟩ := hs'
  have hrl : (runC (s.out.take k)).length ≤ 200 := by
    have h1 := runC_len (s.out.take k)
    have h2 : (s.out.take k).length ≤ s.out.length := by rw [List.length_take]; omega
    omega
  refine cnd_of (fun h => ?_) (fun h => ?_)
  · have hkl : k < s.out.length := by have := of_decide_eq_true h; omega
    have hmk := List.getElem?_eq_getElem hkl
    generalize s.out[k] = m at hmk
    obtain ⟨ad, rfl, hc⟩ := (R3.later l4).at hmk
    have dec : s.out.length - ((k : Int) + 1).toNat < s.out.length - ((k : Nat) : Int).toNat := by omega
    have fin : ∀ {w5 : World}, Later w4 w5 → ∀ {w6 : World}, Later w5 w6 → ∀ {b' : Option Addr} {c' : Nat}, OwnE clT w5 w6 clTy b' c' (setC (runC (s.out.take k)) m.2 (getC (runC (s.out.take k)) m.1)) →
        (∃ (j : Nat) (b : Option Addr) (c : Nat), [Value.slice b' (setC (runC (s.out.take k)) m.2 (getC (runC (s.out.take k)) m.1)).length c', .int .i64 (IntKind.i64.wrap ((k : Int) + 1))] = [.slice b (runC (s.out.take j)).length c, .int .i64 j] ∧ j ≤ s.out.length ∧ Later w3 w6 ∧ ERow clT w6 b (runC (s.out.take j))) ∧ s.out.length - (IntKind.i64.wrap ((k : Int) + 1)).toNat < s.out.length - ((k : Nat) : Int).toNat := by
      intro w5 l5 w6 l6 b' c' o6
      rw [i64_in (by omega) (by omega)]
      have e : runC (s.out.take (k + 1)) = setC (runC (s.out.take k)) m.2 (getC (runC (s.out.take k)) m.1) := foldl_take hmk
      exact ⟨⟨k + 1, b', c', by rw [e]; rfl, by omega, l4.trans (l5.trans l6), by rw [e]; exact OwnE.row o6⟩, dec⟩
    intro w5 l5
    refine ⟨⟨by omega, by omega⟩, Deref_some rfl ⟨_, _, fun w' h' => ⟨h'.cell_some hc.2.2.1, by rw [add_two_one]; exact h'.cell_some hc.2.2.2.1, trivial⟩, ⟨by omega, by omega⟩, Deref_some rfl ⟨_, _, fun w' h' => ⟨h'.cell_some hc.1, h'.cell_some hc.2.1, trivial⟩, ?_⟩⟩⟩
    refine (ref27_Get_ok (p := m.1) (by omega) w5 (r4.later l5)).mono fun e w6 ⟨he, l6⟩ => ⟨_, he, l5.trans l6, ?_⟩
    refine (ref27_Set_ok (p := m.2) (v := getC (runC (s.out.take k)) m.1) (by omega) w6 (r4.later (l5.trans l6))).mono fun e w7 ⟨l7, b', c', he, o7⟩ => ⟨_, _, _, he, l5.trans (l6.trans l7), fin (l5.trans l6) l7 o7⟩
  · have : k = s.out.length := by have := of_decide_eq_false h; omega
    subst this
    rw [List.take_length] at r4 hrl ⊢
    have l04 := T3.to.trans l4
    refine ⟨fun vs w' => ∃ k : Nat, vs = [.int .i64 k] ∧ k ≤ l.length ∧ Later w4 w', fun vs _ => match vs with | [.int _ k] => (l.length - k.toNat) | _ => 0, ⟨0, rfl, Nat.zero_le _, Later.refl _⟩, ?_⟩
    rintro g2 _ w5 ⟨k, hs', hk, l5⟩
    simp only [List.cons.injEq, Value.int.injEq, true_and, and_true] at hs'
    subst hs'
    refine cnd_of (fun h => ?_) (fun h => ?_)
    · have hkl : k < l.length := by have := of_decide_eq_true h; omega
      have hmk := List.getElem?_eq_getElem hkl
      have hml := List.getElem_mem hkl
      generalize l[k] = m at hmk hml
      obtain ⟨ad, rfl, hc⟩ := (hR.later (l04.trans l5)).at hmk
      have hget1 : ∀ w', Later w5 w' → Calls Try.prog ref27_Get.N #[.slice b (runC s.out).length c, plv m.2] w' (Gives (i64v (getC (runC s.out) m.2)) w') := fun w' h' => ref27_Get_ok (by omega) w' (r4.later (l5.trans h'))
      have hget2 : ∀ w', Later w5 w' → Calls Try.prog ref27_Get.N #[.slice none 0 0, plv m.1] w' (Gives (i64v (getC [] m.1)) w') := fun w' h' => ref27_Get_ok (l := []) (by decide) w' (ERow.nil _ _)
      refine ⟨⟨by omega, by omega⟩, Deref_some rfl ⟨_, _, fun w' h' => ⟨h'.cell_some hc.2.2.1, by rw [add_two_one]; exact h'.cell_some hc.2.2.2.1, trivial⟩, _, hget1, ⟨by omega, by omega⟩, Deref_some rfl ⟨_, _, fun w' h' => ⟨h'.cell_some hc.1, h'.cell_some hc.2.1, trivial⟩, _, hget2, fun w6 l6 => cnd_false ?_ ?_⟩⟩⟩
      · rw [hsim m hml]
        show (iniP m.1 != iniP m.1) = false
        simp
      · rw [i64_in (by omega) (by omega)]
        exact ⟨⟨k + 1, rfl, by omega, l5.trans l6⟩, by simp only; omega⟩
    · refine ⟨fun vs w' => ∃ k : Nat, vs = [.int .i64 k] ∧ k ≤ (runC s.out).length ∧ Later w5 w', fun vs _ => match vs with | [.int _ k] => ((runC s.out).length - k.toNat) | _ => 0, ⟨0, rfl, Nat.zero_le _, Later.refl _⟩, ?_⟩
      rintro g3 _ w6 ⟨j, hs', hj, l6⟩
      simp only [List.cons.injEq, Value.int.injEq, true_and, and_true] at hs'
      subst hs'
      have l06 := l04.trans (l5.trans l6)
      refine cnd_of (fun h => ?_) (fun h => alive l06 fun w'' h => ⟨rfl, h⟩)
      have hjl : j < (runC s.out).length := by have := of_decide_eq_true h; omega
      have hcj := List.getElem?_eq_getElem hjl
      have hcm := List.getElem_mem hjl
      generalize (runC s.out)[j] = x at hcj hcm
      obtain ⟨ad, rfl, h0, h1, h2⟩ := cl_at (r4.later (l5.trans l6)) hcj
      have T6 := T3.later (l4.trans (l5.trans l6))
      refine ⟨⟨by omega, by omega⟩, Deref_some rfl ⟨_, _, fun w' h' => ⟨h'.cell_some h0, h'.cell_some h1, trivial⟩, _, _, fun w' h' => ⟨(T6.later h').cell 0 rfl rfl, (T6.later h').cell 0 rfl rfl, trivial⟩, _, (pl_eq _ _ x.1 sp).1, fun w7 l7 => ?_⟩⟩
      refine ⟨fun vs w' => ∃ i : Nat, vs = [.bool (decide (x.1 = sp) || (l.take i).any fun m => decide (m.2 = x.1)), .int .i64 i] ∧ i ≤ l.length ∧ Later w7 w', fun vs _ => match vs with | [_, .int _ i] => (l.length - i.toNat) | _ => 0, ⟨0, by simp, Nat.zero_le _, Later.refl _⟩, ?_⟩
      rintro g4 _ _ w8 ⟨i, hs', hi, l8⟩
      simp only [List.cons.injEq, Value.int.injEq, Value.bool.injEq, true_and, and_true] at hs'
      obtain ⟨rfl, rfl⟩ := hs'
      refine cnd_of (fun h => ?_) (fun h => ?_)
      · have hil : i < l.length := by have := of_decide_eq_true h; omega
        have hmi := List.getElem?_eq_getElem hil
        generalize l[i] = m at hmi
        have hnext : ((l.take (i + 1)).any fun m => decide (m.2 = x.1)) = (((l.take i).any fun m => decide (m.2 = x.1)) || decide (m.2 = x.1)) := by rw [take_snoc hmi, List.any_append]; simp
        rw [i64_in (x := (i : Int) + 1) (by omega) (by omega)]
        refine cnd_of (fun ht w9 l9 => ?_) (fun ht => ?_)
        · refine ⟨⟨i + 1, ?_, by omega, l8.trans l9⟩, by simp only; omega⟩
          rw [hnext, ← Bool.or_assoc, ht]; rfl
        · obtain ⟨ae, hae, hcm⟩ := (hR.later (l06.trans (l7.trans l8))).at hmi
          refine ⟨⟨by omega, by omega⟩, Deref_some hae ⟨_, _, fun w' h' => ⟨h'.cell_some hcm.2.2.1, by rw [add_two_one]; exact h'.cell_some hcm.2.2.2.1, trivial⟩, ⟨by omega, by omega⟩, Deref_some rfl ⟨_, _, fun w' h' => ⟨h'.cell_some ((l7.trans l8).cell_some h0), h'.cell_some ((l7.trans l8).cell_some h1), trivial⟩, _, (pl_eq _ _ m.2 x.1).1, fun w9 l9 => ?_⟩⟩⟩
          refine ⟨⟨i + 1, ?_, by omega, l8.trans l9⟩, by simp only; omega⟩
          rw [hnext, ← Bool.or_assoc, ht]; rfl
      · have : i = l.length := by have := of_decide_eq_false h; omega
        subst this
        rw [List.take_length]
        refine cnd_false ?_ ?_
        · simp only [Bool.not_eq_false', Bool.or_eq_true, decide_eq_true_eq, List.any_eq_true]
          rcases hpl x hcm with h | h
          · exact .inl h
          · obtain ⟨m, hm, he⟩ := List.mem_map.1 h
            exact .inr ⟨m, hm, he⟩
        · rw [i64_in (by omega) (by omega)]
          exact ⟨⟨j + 1, rfl, by omega, l6.trans (l7.trans l8)⟩, by simp only; omega⟩
end Go.Proofs.Ytngpkmpbhkbgoaa
