/-
What the chapter's first law comes to, once called: true, and nothing old is turned.
Conditions: none.
-/
import Derived.Test.YtngpkmpbhkbgoaaMvL
import Derived.Test.YtngpkmpbhkbgoaaMvS
import Derived.Deep.Upon
namespace Go.Proofs.Ytngpkmpbhkbgoaa
open Go Go.Vc Go.RowKit
set_option linter.unusedVariables false
set_option linter.unusedSimpArgs false
set_option maxRecDepth 100000

/-- A copy of moves that are there. -/
theorem mv_copy {A : Option Addr} {cap : Nat} {l : List Mv} {w : World} (hn : l.length ≤ 10000) (hR : MRow w A l) {K : Value → World → Prop} (hK : ∀ b c w', OwnM w w' b c l → Later w w' → K (.slice b l.length c) w') :
    RunsV Try.prog (Builtin.append_ #[22, 22] 22 #[.slice none 0 0, .slice A l.length cap]) w K := by
  cases A with
  | none =>
    have : l = [] := by
      cases l with
      | nil => rfl
      | cons m l => obtain ⟨ad, he, _⟩ := hR 0 m rfl; cases he
    subst this
    obtain ⟨i, z, hi, hz, hs, hby, hzs⟩ := mvTyR.info
    refine RunsV_of (v := .slice none 0 0) (w' := w) ?_ (hK none 0 w (OwnS_nil _ _ _ _) (Below.refl _ _))
    exact run_append_nothing w _ _ _ _ i mvTyR.under hi none 0 0 (Nat.le_refl 0) (.slice none 0 cap) ⟨.inl ⟨_, mvTyR.under⟩, fun w' => by simp [Builtin.lenOf], by simp [Builtin.firstCells], by simp [Builtin.firstCells], by simp, by simp⟩
  | some ad =>
    have h := hR.front l.length
    rw [List.take_length] at h
    refine mv_append (w0 := w) (b := none) (c := 0) (l := []) (OwnS_nil _ _ _ _) (Later.refl w) (by simp) hn h fun b c w' ho hl _ => ?_
    rw [List.nil_append] at ho ⊢
    exact hK b c w' ho hl
set_option maxHeartbeats 1600000 in
theorem law27_ParTells_ok {A : Option Addr} {cap : Nat} {l : List Mv} {sp : Pl} (w : World) (hR : MRow w A l) : Calls Try.prog law27_ParTells.N #[.slice A l.length cap, plv sp] w (Gives (.bool true) w) := by
  refine law27_ParTells.calls ?_
  unfold law27_ParTells.vc
  intro w1 e1
  have T1 := (Trk.start w).alloc e1
  have alive : ∀ {w' : World} {K : Ending → World → Prop}, Later w w' → (∀ w'', Later w w'' → K (.returned (.bool true)) w'') → Calls Try.prog law27_alive.N #[] w' (fun e w' => ∃ b : Bool, e = .returned (.bool b) ∧ K (.returned (.bool b)) w') := fun hl hK =>
    (law27_alive_ok _).mono fun e w'' ⟨he, l''⟩ => ⟨_, he, hK _ (hl.trans l'')⟩
  refine cnd_of (fun h => ?_) (fun h => ?_)
  · exact alive T1.to fun w'' h => ⟨rfl, h⟩
  have hn : l.length ≤ 100 := by have := of_decide_eq_false h; omega
  refine mv_copy (by omega) (hR.later T1.to) fun b2 c2 w2 o2 l2 => ⟨_, _, _, rfl, ?_⟩
  have T2 := T1.later l2
  have R2 := o2.row
  refine ⟨_, _, ⟨T2.cell 0 rfl rfl, T2.cell 0 rfl rfl, trivial⟩, (par_Order_ok (sp := sp) w2 R2).mono fun e w3 ⟨l3, h3⟩ => ?_⟩
  have T3 := T2.later l3
  have R3 : MRow w3 b2 l := R2.later l3
  have hI : ∀ x : Int, (x != x) = false := fun x => by simp
  rcases h3 with ⟨hm, hs, s, b3, c3, hE, he, o3⟩ | ⟨hno, he⟩
  · refine ⟨_, _, _, _, he, _, _, ⟨T3.cell 0 rfl rfl, T3.cell 0 rfl rfl, trivial⟩, (ref27_Order_ok (sp := sp) (by omega) w3 (hR.later T3.to)).mono fun e w4 ⟨l4, h4⟩ => ?_⟩
    have T4 := T3.later l4
    rcases h4 with ⟨-, -, s', b4, c4, hE', he, o4⟩ | ⟨hno, -⟩
    case inr => exact absurd ⟨hm, hs⟩ hno
    obtain rfl := hE.same hE'
    have hsl : s.out.length ≤ 1000000 := by
      obtain ⟨k, rfl, -⟩ := hE
      have h1 := out_bound (sp := sp) (Good.start (l := l) fun m hm => (hs.free m hm).2) k
      have h2 := mu_le (start l)
      have h3 : (start l).out.length = 0 := rfl
      have h4 := List.length_filter_le keep l
      have h5 : (start l).left = l.filter keep := rfl
      rw [h5] at h2
      omega
    refine ⟨_, _, _, _, _, he, (ref27_Same_ok hsl w4 (MRow.later (OwnM.row o3) l4) (OwnM.row o4)).mono fun e w5 ⟨he, l5⟩ => ⟨_, he, cnd_false (by simp) (cnd_false rfl ?_)⟩⟩
    have T5 := T4.later l5
    have R5 : MRow w5 b2 l := R3.later (l4.trans l5)
    refine (ref27_Same_ok (by omega) w5 R5 (hR.later T5.to)).mono fun e w6 ⟨he, l6⟩ => ⟨_, he, cnd_false (by simp) ?_⟩
    have T6 := T5.later l6
    have R6 : MRow w6 b2 l := R5.later l6
    refine (par_Rings_ok w6 R6).mono fun e w7 ⟨l7, h7⟩ => ?_
    rcases h7 with ⟨-, s2, hE2, he⟩ | ⟨hno, -⟩
    case inr => exact absurd hm hno
    have T7 := T6.later l7
    have hrr : s2.rings = s.rings := rings_same (fun e => by have := hs.pos; rw [e] at this; exact absurd this (by decide)) hs.free hm.no hE hE2
    refine ⟨_, _, he, (ref27_May_ok (by omega) w7 (hR.later T7.to)).mono fun e w8 ⟨he, l8⟩ => ⟨_, he, cnd_false (by simp [hm]) (cnd_true rfl (cnd_false rfl (cnd_true (by rw [hrr]; simp) ?_)))⟩⟩
    have T8 := T7.later l8
    refine (ref27_Same_ok (by omega) w8 (R6.later (l7.trans l8)) (hR.later T8.to)).mono fun e w9 ⟨he, l9⟩ => ⟨_, he, cnd_true (by simp) (alive (T8.to.trans l9) fun w'' h => ⟨rfl, h⟩)⟩
  · refine ⟨_, _, _, _, he, _, _, ⟨T3.cell 0 rfl rfl, T3.cell 0 rfl rfl, trivial⟩, (ref27_Order_ok (sp := sp) (by omega) w3 (hR.later T3.to)).mono fun e w4 ⟨l4, h4⟩ => ?_⟩
    have T4 := T3.later l4
    rcases h4 with ⟨hm, hs, -⟩ | ⟨-, he⟩
    · exact absurd ⟨hm, hs⟩ hno
    refine ⟨_, _, _, _, _, he, (ref27_Same_ok (l := []) (k := []) (by decide) w4 (MRow.nil _ _) (MRow.nil _ _)).mono fun e w5 ⟨he, l5⟩ => ⟨_, he, cnd_false rfl (cnd_false rfl ?_)⟩⟩
    have T5 := T4.later l5
    have R5 : MRow w5 b2 l := R3.later (l4.trans l5)
    refine (ref27_Same_ok (by omega) w5 R5 (hR.later T5.to)).mono fun e w6 ⟨he, l6⟩ => ⟨_, he, cnd_false (by simp) ?_⟩
    have T6 := T5.later l6
    have R6 : MRow w6 b2 l := R5.later l6
    refine (par_Rings_ok w6 R6).mono fun e w7 ⟨l7, h7⟩ => ?_
    have T7 := T6.later l7
    have R7 : MRow w7 b2 l := R6.later l7
    rcases h7 with ⟨hm, s2, hE2, he⟩ | ⟨hm, he⟩
    · refine ⟨_, _, he, (ref27_May_ok (by omega) w7 (hR.later T7.to)).mono fun e w8 ⟨he, l8⟩ => ⟨_, he, cnd_false (by simp [hm]) (cnd_true rfl (cnd_true rfl ?_))⟩⟩
      have T8 := T7.later l8
      exact (ref27_Same_ok (by omega) w8 (R7.later l8) (hR.later T8.to)).mono fun e w9 ⟨he, l9⟩ => ⟨_, he, cnd_true (by simp) (alive (T8.to.trans l9) fun w'' h => ⟨rfl, h⟩)⟩
    · refine ⟨_, _, he, (ref27_May_ok (by omega) w7 (hR.later T7.to)).mono fun e w8 ⟨he, l8⟩ => ⟨_, he, cnd_true (by simp [hm]) (cnd_true rfl (cnd_true rfl ?_))⟩⟩
      exact alive (T7.to.trans l8) fun w'' h => ⟨rfl, h⟩
end Go.Proofs.Ytngpkmpbhkbgoaa
