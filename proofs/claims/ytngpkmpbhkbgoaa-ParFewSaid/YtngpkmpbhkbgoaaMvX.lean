/-
What the chapter's third law comes to, once called: true, and nothing old is turned.
Conditions: none.
-/
import Derived.Test.YtngpkmpbhkbgoaaMvV
import Derived.Test.YtngpkmpbhkbgoaaMvS
namespace Go.Proofs.Ytngpkmpbhkbgoaa
open Go Go.Vc Go.RowKit
set_option linter.unusedVariables false
set_option linter.unusedSimpArgs false
set_option maxRecDepth 100000

def ringB (l : List Mv) (m : Mv) : Bool := ringW (start l).left (rkOf l) m.2 l.length m.2
theorem count_rings (l : List Mv) : (l.filter keep).countP (ringB l) = ringsOf (start l).left (rkOf l) l.length := by
  unfold ringsOf
  rw [List.countP_map]
  rfl
set_option maxHeartbeats 1600000 in
theorem law27_ParFew_ok {A : Option Addr} {cap : Nat} {l : List Mv} {sp : Pl} (w : World) (hR : MRow w A l) : Calls Try.prog law27_ParFew.N #[.slice A l.length cap, plv sp] w (Gives (.bool true) w) := by
  refine law27_ParFew.calls ?_
  unfold law27_ParFew.vc
  intro w1 e1
  have T1 := (Trk.start w).alloc e1
  have alive : ∀ {w' : World} {K : Ending → World → Prop}, Later w w' → (∀ w'', Later w w'' → K (.returned (.bool true)) w'') → Calls Try.prog law27_alive.N #[] w' (fun e w' => ∃ b : Bool, e = .returned (.bool b) ∧ K (.returned (.bool b)) w') := fun hl hK =>
    (law27_alive_ok _).mono fun e w'' ⟨he, l''⟩ => ⟨_, he, hK _ (hl.trans l'')⟩
  refine cnd_of (fun h => ?_) (fun h => ?_)
  · exact alive T1.to fun w'' h => ⟨rfl, h⟩
  have hn : l.length ≤ 60 := by have := of_decide_eq_false h; omega
  refine ⟨_, _, ⟨T1.cell 0 rfl rfl, T1.cell 0 rfl rfl, trivial⟩, (par_Order_ok (sp := sp) w1 (hR.later T1.to)).mono fun e w3 ⟨l3, h3⟩ => ?_⟩
  have T3 := T1.later l3
  rcases h3 with ⟨hm, hs, s, b3, c3, hE, he, o3⟩ | ⟨hno, he⟩
  case inr =>
    refine ⟨_, _, _, _, he, (par_Rings_ok w3 (hR.later T3.to)).mono fun e w4 ⟨l4, h4⟩ => ?_⟩
    rcases h4 with ⟨-, s2, -, he⟩ | ⟨-, he⟩
    · exact ⟨_, _, he, cnd_true rfl (alive (T3.to.trans l4) fun w'' h => ⟨rfl, h⟩)⟩
    · exact ⟨_, _, he, cnd_true rfl (alive (T3.to.trans l4) fun w'' h => ⟨rfl, h⟩)⟩
  refine ⟨_, _, _, _, he, (par_Rings_ok w3 (hR.later T3.to)).mono fun e w4 ⟨l4, h4⟩ => ?_⟩
  rcases h4 with ⟨-, s2, hE2, he⟩ | ⟨hno, -⟩
  case inr => exact absurd hm hno
  obtain ⟨hfew1, hfew2⟩ := few_end hs hE
  have hr1 := rings_total hm (fun m h => (hs.free m h).2) hE
  have hr2 := rings_total hm (fun m h => (hm.no m h).2) hE2
  have hcount := count_rings l
  have hst : (start l).left = l.filter keep := rfl
  have hfl := List.length_filter_le keep l
  have hcl : (l.filter keep).countP (ringB l) ≤ (l.filter keep).length := List.countP_le_length
  have l04 := T3.to.trans l4
  refine ⟨_, _, he, cnd_false rfl (cnd_false rfl ?_)⟩
  refine ⟨fun vs w' => ∃ k : Nat, vs = [.int .i64 (((l.take k).filter keep).length : Nat), .int .i64 (((l.take k).filter keep).countP (ringB l) : Nat), .int .i64 k] ∧ k ≤ l.length ∧ Later w4 w', fun vs _ => match vs with | [_, _, .int _ k] => (l.length - k.toNat) | _ => 0, ⟨0, by simp, Nat.zero_le _, Later.refl _⟩, ?_⟩
  rintro g _ _ _ w5 ⟨k, hs', hk, l5⟩
  simp only [List.cons.injEq, Value.int.injEq, true_and, and_true] at hs'
  obtain ⟨rfl, rfl, rfl⟩ := hs'
  have l05 := l04.trans l5
  have hfk := List.length_filter_le keep (l.take k)
  have htk : (l.take k).length ≤ l.length := by rw [List.length_take]; omega
  have hck : ((l.take k).filter keep).countP (ringB l) ≤ ((l.take k).filter keep).length := List.countP_le_length
  refine cnd_of (fun h => ?_) (fun h => ?_)
  · have hkl : k < l.length := by have := of_decide_eq_true h; omega
    have hmk := List.getElem?_eq_getElem hkl
    generalize l[k] = m at hmk
    obtain ⟨ad, rfl, hc⟩ := (hR.later l05).at hmk
    rw [i64_in (x := (k : Int) + 1) (by omega) (by omega), i64_in (x := ((((l.take k).filter keep).length : Nat) : Int) + 1) (by omega) (by omega), i64_in (x := ((((l.take k).filter keep).countP (ringB l) : Nat) : Int) + 1) (by omega) (by omega)]
    have dec : l.length - ((k : Int) + 1).toNat < l.length - ((k : Nat) : Int).toNat := by omega
    refine ⟨⟨by omega, by omega⟩, Deref_some rfl ⟨_, _, fun w' h' => ⟨h'.cell_some hc.1, h'.cell_some hc.2.1, trivial⟩, ⟨by omega, by omega⟩, Deref_some rfl ⟨_, _, fun w' h' => ⟨h'.cell_some hc.2.2.1, by rw [add_two_one]; exact h'.cell_some hc.2.2.2.1, trivial⟩, _, (pl_eq _ _ m.1 m.2).1, fun w6 l6 => cnd_of (fun h2 => ?_) (fun h2 => ?_)⟩⟩⟩
    · have h2 := of_decide_eq_true h2
      have e : (l.take (k + 1)).filter keep = (l.take k).filter keep := by rw [take_snoc hmk, List.filter_append]; simp [keep, h2]
      exact ⟨⟨k + 1, by rw [e]; rfl, by omega, l5.trans l6⟩, dec⟩
    · have h2 := of_decide_eq_false h2
      have e : (l.take (k + 1)).filter keep = (l.take k).filter keep ++ [m] := by rw [take_snoc hmk, List.filter_append]; simp [keep, h2]
      have hri : ringI l k = ringB l m := by unfold ringI; rw [hmk]; rfl
      refine (law27_ring_ok (by omega) hm.uniq hmk h2 w6 (hR.later (l05.trans l6))).mono fun e' w7 ⟨he, l7⟩ => ⟨_, he, ?_⟩
      rw [hri]
      refine cnd_of (fun hb => ?_) (fun hb => ?_)
      · refine ⟨⟨k + 1, ?_, by omega, l5.trans (l6.trans l7)⟩, dec⟩
        rw [e, List.length_append, List.countP_append]
        simp [hb]
      · refine ⟨⟨k + 1, ?_, by omega, l5.trans (l6.trans l7)⟩, dec⟩
        rw [e, List.length_append, List.countP_append]
        simp [hb]
  · have : k = l.length := by have := of_decide_eq_false h; omega
    subst this
    rw [List.take_length] at hfk hck ⊢
    rw [hst] at hfew1
    refine cnd_true ?_ (cnd_true ?_ (alive l05 fun w'' h => ⟨rfl, h⟩))
    · rw [hr2, hcount]; simp
    · rw [i64_in (by omega) (by omega), hfew1, hr1, hcount]
      simp
end Go.Proofs.Ytngpkmpbhkbgoaa
