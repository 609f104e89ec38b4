/-
What the chapter's laws come to, once called: true, and nothing old is turned.
Conditions: each number is of its kind.
-/
import Derived.Test.YtoncpheocnjooaaVlaw01
import Derived.Test.YtoncpheocnjooaaRef01
namespace Go.Proofs.Ytoncpheocnjooaa
open Go Go.Vc Go.RowKit
set_option linter.unusedVariables false
set_option linter.unusedSimpArgs false
set_option maxRecDepth 100000

theorem bytes258 : bytesOf 258 (Int.toNat 3) = ⟨#[2, 1, 0]⟩ := by rfl
theorem law01_alive_ok (w : World) : Calls Try.prog law01_alive.N #[] w (Gives (.bool true) w) := by
  refine law01_alive.calls ?_
  unfold law01_alive.vc
  refine (word_Op_ok 8 18446744073709551608 65 (by decide) (by decide) (by decide) (by decide) (by decide) (by decide) _).mono fun e w1 ⟨he, h1⟩ => ⟨_, _, he, ?_⟩
  refine (word_Op_ok 13 5 0 (by decide) (by decide) (by decide) (by decide) (by decide) (by decide) _).mono fun e w2 ⟨he, h2⟩ => ⟨_, _, he, ?_⟩
  refine (word_Op_ok 12 9223372036854775808 6 (by decide) (by decide) (by decide) (by decide) (by decide) (by decide) _).mono fun e w3 ⟨he, h3⟩ => ⟨_, _, he, ?_⟩
  refine (word_Sign_ok 255 8 (by decide) (by decide) _).mono fun e w4 ⟨he, h4⟩ => ⟨_, _, he, ?_⟩
  refine (word_Bytes_ok 258 3 (by decide) (by decide) _).mono fun e w5 ⟨he, h5⟩ => ⟨_, _, he, ?_⟩
  refine (word_Word_ok _ (by decide) _).mono fun e w6 ⟨he, h6⟩ => ⟨_, _, he, ?_⟩
  refine (word_Op_ok 0 1 1 (by decide) (by decide) (by decide) (by decide) (by decide) (by decide) _).mono fun e w7 ⟨he, h7⟩ => ⟨_, _, he, ?_⟩
  refine cnd_true (by decide) (cnd_true (by decide) (cnd_true (by decide) (cnd_true (by decide) (cnd_true (by decide) (cnd_true (by decide) (cnd_true (by decide) (cnd_true (by decide) (cnd_true (by rw [bytes258]; exact beq_self_eq_true _) (cnd_true (by decide) (cnd_true (by decide) (cnd_true (by decide) (cnd_true (by decide) ?_))))))))))))
  refine (word_Fits_ok 2047 12 (by decide) (by decide) (by decide) (by decide) _).mono fun e w8 ⟨he, h8⟩ => ⟨_, he, ?_⟩
  refine cnd_true (by decide) ?_
  refine (word_Fits_ok 2048 12 (by decide) (by decide) (by decide) (by decide) _).mono fun e w9 ⟨he, h9⟩ => ⟨_, he, ?_⟩
  exact ⟨rfl, h1.trans (h2.trans (h3.trans (h4.trans (h5.trans (h6.trans (h7.trans (h8.trans h9)))))))⟩
theorem law01_WordOps_ok (fn a b : Int) (h0 : 0 ≤ fn) (h1 : fn < 256) (ha : 0 ≤ a) (ha1 : a < 18446744073709551616) (hb : 0 ≤ b) (hb1 : b < 18446744073709551616) (w : World) :
    Calls Try.prog law01_WordOps.N #[.int .u8 fn, u64v a, u64v b] w (Gives (.bool true) w) := by
  refine law01_WordOps.calls ?_
  unfold law01_WordOps.vc
  refine (word_Op_ok fn a b h0 h1 ha ha1 hb hb1 _).mono fun e w1 ⟨he, g1⟩ => ⟨_, _, he, ?_⟩
  refine (ref01_Op_ok fn a b h0 h1 ha ha1 hb hb1 _).mono fun e w2 ⟨he, g2⟩ => ⟨_, _, he, ?_⟩
  refine cnd_false (by simp) (cnd_false (by simp) ?_)
  have g := g1.trans g2
  refine ⟨fun vs w' => ∃ k : Nat, k ≤ 20 ∧ vs = [.int .u8 k] ∧ Later w w', fun vs _ => match vs with | [.int _ k] => (20 - k).toNat | _ => 0, ⟨0, by omega, rfl, g⟩, ?_⟩
  rintro g k w3 ⟨k, hk, hs, g3⟩
  simp only [List.cons.injEq, Value.int.injEq, true_and, and_true] at hs
  subst hs
  refine cnd_of (fun hlt => ?_) (fun hge => ?_)
  · have hlt := of_decide_eq_true hlt
    refine (word_Op_ok k a b (by omega) (by omega) ha ha1 hb hb1 _).mono fun e w4 ⟨he, g4⟩ => ⟨_, _, he, ?_⟩
    refine (ref01_Op_ok k a b (by omega) (by omega) ha ha1 hb hb1 _).mono fun e w5 ⟨he, g5⟩ => ⟨_, _, he, ?_⟩
    refine cnd_false (by simp) (cnd_false (by simp) ?_)
    refine ⟨⟨k + 1, by omega, by rw [u8_in (by omega) (by omega)]; simp, g3.trans (g4.trans g5)⟩, ?_⟩
    simp only
    rw [u8_in (by omega) (by omega)]
    omega
  · refine (law01_alive_ok _).mono fun e w4 ⟨he, g4⟩ => ⟨_, he, rfl, g3.trans g4⟩
end Go.Proofs.Ytoncpheocnjooaa
