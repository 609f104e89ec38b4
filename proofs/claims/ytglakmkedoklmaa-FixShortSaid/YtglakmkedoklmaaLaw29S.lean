/-
What the chapter's third law comes to, once called: true, and nothing old is turned.
Conditions: each number is of its kind.
-/
import Derived.Test.YtglakmkedoklmaaVlaw29s
import Derived.Test.YtglakmkedoklmaaLaw29
import Derived.Test.YtglakmkedoklmaaFixP
namespace Go.Proofs.Ytglakmkedoklmaa
open Go Go.Vc Go.RowKit
set_option linter.unusedVariables false
set_option linter.unusedSimpArgs false
set_option maxRecDepth 100000

set_option maxHeartbeats 1600000 in
theorem law29_FixShort_ok (A : Option Addr) (n cap : Nat) (F : Nat → Nat → Int) (w : World) (hR : IntRow w A n linK F) :
    Calls Try.prog law29_FixShort.N #[.slice A n cap] w (Gives (.bool true) w) := by
  refine law29_FixShort.calls ?_
  unfold law29_FixShort.vc
  refine (law29_Large_ok A n cap w).mono fun e w1 ⟨he, l1⟩ => ⟨_, he, cnd_of (fun h => law29_done w _ l1) (fun h => ?_)⟩
  have h := of_decide_eq_false h
  have hn : n ≤ 3000 := by omega
  have r3 := fun w' (h' : Later w w') => ref29_Ways_ok (cap := cap) hn w' (hR.later h')
  have r4 := fun w' (h' : Later w w') => fix_Fix_ok (cap := cap) hn w' (hR.later h')
  refine (fix_Places_ok hn w1 (hR.later l1)).mono fun e w2 ⟨l2, h2⟩ => ?_
  rcases h2 with ⟨hV, L, kp, hF, he, hkp, xp⟩ | ⟨hV, he⟩
  case inr =>
    refine ⟨_, _, _, _, he, (r3 w2 (l1.trans l2)).mono fun e w3 ⟨l3, h3⟩ => ?_⟩
    rcases h3 with ⟨hV', -⟩ | ⟨-, he⟩
    · exact absurd hV' hV
    refine ⟨_, _, _, _, he, (r4 w3 (l1.trans (l2.trans l3))).mono fun e w4 ⟨l4, h4⟩ => ?_⟩
    rcases h4 with ⟨hV', -⟩ | ⟨-, he⟩
    · exact absurd hV' hV
    exact ⟨_, _, _, _, he, cnd_true rfl (law29_done w _ (l1.trans (l2.trans (l3.trans l4))))⟩
  refine ⟨_, _, _, _, he, (r3 w2 (l1.trans l2)).mono fun e w3 ⟨l3, h3⟩ => ?_⟩
  rcases h3 with ⟨-, kt, he, hkt, xt⟩ | ⟨hV', -⟩
  case inr => exact absurd hV hV'
  refine ⟨_, _, _, _, he, (r4 w3 (l1.trans (l2.trans l3))).mono fun e w4 ⟨l4, h4⟩ => ?_⟩
  rcases h4 with ⟨-, L', b4, d4, hF', he, o4⟩ | ⟨hV', -⟩
  case inr => exact absurd hV hV'
  obtain rfl := fin_uniq hF hF'
  refine ⟨_, _, _, _, he, cnd_false rfl (cnd_false rfl (cnd_false rfl (cnd_false (by simp) ?_)))⟩
  have l04 := l1.trans (l2.trans (l3.trans l4))
  have hlen := outs_length hF n
  have hpn := plc_range L n
  refine ⟨fun vs w' => ∃ k : Nat, vs = [.int .i64 k] ∧ k ≤ n ∧ Later w4 w', fun vs _ => match vs with | [.int _ k] => (n - k.toNat) | _ => 0, ⟨0, rfl, Nat.zero_le _, Later.refl _⟩, ?_⟩
  rintro g _ w5 ⟨k, hs, hk, l5⟩
  simp only [List.cons.injEq, Value.int.injEq, true_and, and_true] at hs
  subst hs
  refine cnd_of (fun hlt => ?_) (fun hlt => law29_done w _ (l04.trans l5))
  have hkn : k < n := by have := of_decide_eq_true hlt; omega
  have cp : ∀ w', Later w5 w' → ∀ j, j < n → w'.cell? ((Addr.mk kp 0 none).add (((j : Nat) : Int).toNat * 1)) = some (i64v (plc L j)) := fun w' h' j hj => by
    rw [show ((j : Int)).toNat = j from rfl, addk]; exact (xp.later (l3.trans (l4.trans (l5.trans h')))).cell (fcells_get _ hj)
  have ct : ∀ w', Later w5 w' → w'.cell? ((Addr.mk kt 0 none).add (((k : Nat) : Int).toNat * 1)) = some (i64v (tgt F n k)) := fun w' h' => by
    rw [show ((k : Int)).toNat = k from rfl, addk]; exact (xt.later (l4.trans (l5.trans h'))).cell (fcells_get _ hkn)
  rw [i64_in (x := (k : Int) + 1) (by omega) (by omega)]
  refine ⟨fun vs w' => vs = [.int .i64 (plc L (k + 1))] ∧ Later w5 w', cnd_of (fun h1 => ?_) (fun h1 => ?_), ?_⟩
  · have h1 := of_decide_eq_true h1
    refine ⟨⟨by omega, by omega⟩, Deref_some rfl ⟨_, ?_, rfl, Later.refl _⟩⟩
    exact cp w5 (Later.refl _) (k + 1) (by omega)
  · have h1 := of_decide_eq_false h1
    obtain rfl : k + 1 = n := by omega
    refine ⟨?_, Later.refl _⟩
    rw [i64_in (by omega) (by omega), hlen]
  rintro g2 _ w6 ⟨hs, l6⟩
  simp only [List.cons.injEq, Value.int.injEq, true_and, and_true] at hs
  subst hs
  have go : ∀ w', Later w6 w' → (∃ j : Nat, [Value.int .i64 ((k : Int) + 1)] = [.int .i64 j] ∧ j ≤ n ∧ Later w4 w') ∧ n - ((k : Int) + 1).toNat < n - ((k : Int)).toNat := fun w' h' => ⟨⟨k + 1, rfl, by omega, l5.trans (l6.trans h')⟩, by omega⟩
  refine ⟨⟨by omega, by omega⟩, Deref_some rfl ⟨_, ct w6 l6, cnd_of (fun ht => go _ (Later.refl _)) (fun ht => ?_)⟩⟩
  have ht := of_decide_eq_false ht
  have ht6 : 0 ≤ F k 6 := by
    by_cases h : 0 ≤ F k 6
    · exact h
    · rw [tgt_neg (by omega)] at ht; omega
  obtain ⟨j, hj1, hj2, hj3⟩ := tgt_pos hV hkn ht6
  obtain ⟨ad, rfl, ⟨c0, c1, c2, c3, c4, c5, c6, -⟩, -⟩ := lin_cells (hR.later (l04.trans (l5.trans l6))) hkn
  refine ⟨⟨by omega, by omega⟩, Deref_some rfl ⟨_, c1, cnd_of (fun hj => go _ (Later.refl _)) (fun hj => ?_)⟩⟩
  have hp1 := plc_range L k
  have hp2 := plc_range L j
  refine ⟨⟨by omega, by omega⟩, Deref_some rfl ⟨_, cp w6 l6 k hkn, cnd_of (fun hp => go _ (Later.refl _)) (fun hp => ?_)⟩⟩
  have hl : L k = true := by
    rw [i64_in (by omega) (by omega), plc] at hp
    cases hL : L k with
    | true => rfl
    | false =>
      rw [hL] at hp
      simp only [Bool.false_eq_true, if_false, bne_eq_false_iff_eq] at hp
      omega
  have hf := long_far hV hF hkn hl
  have hwj : wayL F n L k = plc L j - plc L k := by unfold wayL; rw [hj1]; rfl
  rw [hwj] at hf
  refine ⟨⟨by omega, by omega⟩, Deref_some rfl ⟨j, fun w' h' => by rw [← hj1]; exact ct w' (l6.trans h'), ⟨by omega, by omega⟩, Deref_some rfl ⟨_, fun w' h' => cp w' (l6.trans h') j hj2, ⟨by omega, by omega⟩, Deref_some rfl ⟨_, fun w' h' => cp w' (l6.trans h') k hkn, fun w7 l7 => ?_⟩⟩⟩⟩
  rw [i64_in (x := plc L j - plc L k) (by omega) (by omega)]
  refine cnd_of (fun h1 => ?_) (fun h1 => ?_)
  · have h1 := of_decide_eq_true h1
    rw [i64_in (x := plc L j - plc L k - 4) (by omega) (by omega)]
    refine cnd_of (fun h2 => ?_) (fun h2 => go _ l7)
    exact cnd_false (decide_eq_false (by omega)) (go _ l7)
  · have h1 := of_decide_eq_false h1
    exact cnd_false (decide_eq_false (by omega)) (go _ l7)
end Go.Proofs.Ytglakmkedoklmaa
