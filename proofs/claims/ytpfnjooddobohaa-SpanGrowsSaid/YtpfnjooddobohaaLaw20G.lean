/-
What SpanGrows comes to, once called: true, and nothing old is turned.
Conditions: each number is of its kind.
-/
import Derived.Test.YtpfnjooddobohaaVlaw20g
import Derived.Test.YtpfnjooddobohaaLaw20T
import Derived.Test.YtpfnjooddobohaaVcArg
import Derived.Test.YtpfnjooddobohaaVcRow
namespace Go.Proofs.Ytpfnjooddobohaa
open Go Go.Vc Go.RowKit
set_option linter.unusedVariables false
set_option linter.unusedSimpArgs false
set_option maxRecDepth 100000

theorem span_Has_is (a b v : Int) (w : World) : Calls Try.prog span_Has.N #[rv a b, u64v v] w (Gives (.bool (decide (a ≤ v ∧ v ≤ b))) w) := by
  have := span_Has_ok a b v w
  rwa [← Bool.decide_and] at this
theorem gomin_is (a c : Int) : gomin a c ≤ a ∧ gomin a c ≤ c ∧ (gomin a c = a ∨ gomin a c = c) := by unfold gomin; split <;> omega
theorem gomax_is (a c : Int) : a ≤ gomax a c ∧ c ≤ gomax a c ∧ (gomax a c = a ∨ gomax a c = c) := by unfold gomax; split <;> omega
def steps (x y : Int) : Nat := (if x = 0 then 1 else 0) + (if y = 18446744073709551615 then 1 else 0)
/-- One that is widened to another one has gone one step. -/
theorem steps_grow (x y p q : Int) (hx : W64 x) (hy : W64 y) (hp : W64 p) (hq : W64 q) :
    W64 (widLo x p) ∧ W64 (widHi y q) ∧ (¬ (widLo x p = x ∧ widHi y q = y) → steps x y + 1 ≤ steps (widLo x p) (widHi y q)) := by
  unfold steps widLo widHi W64 at *
  repeat' split
  all_goals omega
set_option maxHeartbeats 1600000 in
theorem law20_SpanGrows_ok (a b c d v : Int) (A : Option Addr) (n cap : Nat) (F : Nat → Nat → Int) (ha : W64 a) (hb : W64 b) (hc : W64 c) (hd : W64 d) (w : World) (hR : IntRow w A n [.u64, .u64] F) :
    Calls Try.prog law20_SpanGrows.N #[rv a b, rv c d, u64v v, .slice A n cap] w (Gives (.bool true) w) := by
  refine law20_SpanGrows.calls ?_
  unfold law20_SpanGrows.vc
  intro w1 h1 w2 h2
  have L := ((Trk.start w).alloc h1).alloc h2
  obtain ⟨jx, jy, je, hj, jyes, jno⟩ := pair_if (p := a ≤ b ∧ c ≤ d) (gomin a c) (gomax b d)
  obtain ⟨mx, my, me, hm, myes, mno⟩ := meet_if a b c d
  obtain ⟨wx, wy, we, hw, wyes, wno⟩ := pair_if (p := a ≤ b ∧ c ≤ d) (widLo a c) (widHi b d)
  have C1 := fun w => span_Join_ok a b c d w
  have C2 := fun w => span_Meet_ok a b c d w
  have C3 := fun w => span_Widen_ok a b c d w
  rw [hj] at C1
  rw [hm] at C2
  rw [hw] at C3
  refine ⟨_, _, ⟨L.cell 0 rfl rfl, L.cell 0 rfl rfl, trivial⟩, _, _, ⟨L.cell 1 rfl rfl, L.cell 1 rfl rfl, trivial⟩, (C1 _).mono fun e' w3 ⟨he, l3⟩ => ⟨_, _, _, he, fun w4 h4 => ?_⟩⟩
  refine ((L.later l3).alloc h4).setAll 2 rfl (by rfl) (one2 _ _) fun w5 L5 => ?_
  refine ⟨_, _, ⟨L5.cell 0 rfl rfl, L5.cell 0 rfl rfl, trivial⟩, _, _, ⟨L5.cell 1 rfl rfl, L5.cell 1 rfl rfl, trivial⟩, (C3 _).mono fun e' w6 ⟨he, l6⟩ => ⟨_, _, _, he, fun w7 h7 => ?_⟩⟩
  refine ((L5.later l6).alloc h7).setAll 3 rfl (by rfl) (one2 _ _) fun w8 L8 => ?_
  refine ⟨_, _, ⟨L8.cell 0 rfl rfl, L8.cell 0 rfl rfl, trivial⟩, _, _, ⟨L8.cell 1 rfl rfl, L8.cell 1 rfl rfl, trivial⟩, (C2 _).mono fun e' w9 ⟨he, l9⟩ => ⟨_, _, _, he, fun w10 h10 => ?_⟩⟩
  refine ((L8.later l9).alloc h10).setAll 4 rfl (by rfl) (one2 _ _) fun w11 L11 => ?_
  have done : ∀ w', Later w w' → Calls Try.prog law20_alive.N #[] w' (fun e w'' => ∃ b : Bool, e = .returned (.bool b) ∧ Gives (.bool true) w (.returned (.bool b)) w'') := fun w' hl =>
    (law20_alive_ok _).mono fun e8 w8 ⟨he, h8⟩ => ⟨_, he, rfl, hl.trans h8⟩
  refine ⟨fun vs w' => vs = [.bool (!decide (a ≤ b ∧ c ≤ d))] ∧ Later w11 w', ?_, ?_⟩
  · by_cases ok : a ≤ b ∧ c ≤ d
    · obtain ⟨rfl, rfl, rfl⟩ := jyes ok
      obtain ⟨rfl, rfl, rfl⟩ := wyes ok
      rw [decide_eq_true ok]
      exact cnd_false rfl ⟨rfl, Later.refl _⟩
    · obtain ⟨rfl, rfl, rfl⟩ := jno ok
      rw [decide_eq_false ok]
      exact cnd_true rfl ⟨rfl, Later.refl _⟩
  rintro g s w12 ⟨hs, l12⟩
  obtain rfl : s = !decide (a ≤ b ∧ c ≤ d) := by simpa using hs
  have L12 := L11.later l12
  refine cnd_of (fun h => ?_) (fun h => ?_)
  · have hn : ¬ (a ≤ b ∧ c ≤ d) := fun hh => by rw [decide_eq_true hh] at h; cases h
    obtain ⟨rfl, rfl, rfl⟩ := mno hn
    exact cnd_true rfl (done _ L12.to)
  have ok : a ≤ b ∧ c ≤ d := by
    by_cases hh : a ≤ b ∧ c ≤ d
    · exact hh
    · rw [decide_eq_false hh] at h; cases h
  obtain ⟨rfl, rfl, rfl⟩ := jyes ok
  obtain ⟨rfl, rfl, rfl⟩ := wyes ok
  have hme : (me = 0 ∧ mx = gomax a c ∧ my = gomin b d) ∨ (me = 3 ∧ ¬ gomax a c ≤ gomin b d) := by
    by_cases hh : gomax a c ≤ gomin b d
    · obtain ⟨h1, h2, h3⟩ := (myes ok).1 hh; exact .inl ⟨h3, h1, h2⟩
    · obtain ⟨h1, h2, h3⟩ := (myes ok).2 hh; exact .inr ⟨h3, hh⟩
  refine ⟨fun vs w' => vs = [.bool (decide (a ≤ v ∧ v ≤ b)), .bool (decide (c ≤ v ∧ v ≤ d))] ∧ Later w12 w', ?_, ?_⟩
  · exact ⟨_, _, fun w' h' => ⟨(L12.later h').cell 0 rfl rfl, (L12.later h').cell 0 rfl rfl, trivial⟩, _, fun w' h' => span_Has_is a b v w', _, _, fun w' h' => ⟨(L12.later h').cell 1 rfl rfl, (L12.later h').cell 1 rfl rfl, trivial⟩, _, fun w' h' => span_Has_is c d v w', fun w' h' => ⟨rfl, h'⟩⟩
  rintro g i1 i2 w13 ⟨hs, l13⟩
  simp only [List.cons.injEq, Value.bool.injEq, and_true] at hs
  obtain ⟨e1, e2⟩ := hs
  have L13 := L12.later l13
  have g1 := gomin_is a c
  have g2 := gomax_is b d
  have g3 := gomax_is a c
  have g4 := gomin_is b d
  have wl : widLo a c ≤ a ∧ widLo a c ≤ c := by unfold widLo; have := hc.1; split <;> omega
  have wh : b ≤ widHi b d ∧ d ≤ widHi b d := by unfold widHi; have := hd.2; have := hb.2; split <;> omega
  refine ⟨fun vs w' => vs = [.bool false] ∧ Later w13 w', ?_, ?_⟩
  · by_cases q1 : a ≤ v ∧ v ≤ b
    · rw [decide_eq_true q1] at e1
      subst e1
      refine cnd_true rfl ⟨_, _, ⟨L13.cell 2 rfl rfl, L13.cell 2 rfl rfl, trivial⟩, (span_Has_is _ _ _ _).mono fun e w14 ⟨he, l14⟩ => ⟨_, he, cnd_false ?_ ?_⟩⟩
      · rw [decide_eq_true (by omega)]; rfl
      have L14 := L13.later l14
      refine ⟨_, _, ⟨L14.cell 3 rfl rfl, L14.cell 3 rfl rfl, trivial⟩, (span_Has_is _ _ _ _).mono fun e w15 ⟨he, l15⟩ => ⟨_, he, cnd_false ?_ ?_⟩⟩
      · rw [decide_eq_true (by omega)]; rfl
      have L15 := L14.later l15
      rcases hme with ⟨rfl, rfl, rfl⟩ | ⟨rfl, hno⟩
      · refine cnd_true rfl ⟨_, _, ⟨L15.cell 4 rfl rfl, L15.cell 4 rfl rfl, trivial⟩, (span_Has_is _ _ _ _).mono fun e w16 ⟨he, l16⟩ => ⟨_, he, cnd_true rfl ⟨?_, l14.trans (l15.trans l16)⟩⟩⟩
        rw [e2, decide_eq_decide.2 (show (gomax a c ≤ v ∧ v ≤ gomin b d) ↔ (c ≤ v ∧ v ≤ d) by omega), beq_self_eq_true]; rfl
      · refine cnd_false rfl (cnd_true rfl ⟨?_, l14.trans l15⟩)
        rw [e2, decide_eq_false (by omega)]; rfl
    · rw [decide_eq_false q1] at e1
      subst e1
      refine cnd_false rfl ?_
      by_cases q2 : c ≤ v ∧ v ≤ d
      · rw [decide_eq_true q2] at e2
        subst e2
        refine cnd_true rfl ⟨_, _, ⟨L13.cell 2 rfl rfl, L13.cell 2 rfl rfl, trivial⟩, (span_Has_is _ _ _ _).mono fun e w14 ⟨he, l14⟩ => ⟨_, he, cnd_false ?_ ?_⟩⟩
        · rw [decide_eq_true (by omega)]; rfl
        have L14 := L13.later l14
        refine ⟨_, _, ⟨L14.cell 3 rfl rfl, L14.cell 3 rfl rfl, trivial⟩, (span_Has_is _ _ _ _).mono fun e w15 ⟨he, l15⟩ => ⟨_, he, cnd_false ?_ ?_⟩⟩
        · rw [decide_eq_true (by omega)]; rfl
        have L15 := L14.later l15
        rcases hme with ⟨rfl, rfl, rfl⟩ | ⟨rfl, hno⟩
        · refine cnd_true rfl ⟨_, _, ⟨L15.cell 4 rfl rfl, L15.cell 4 rfl rfl, trivial⟩, (span_Has_is _ _ _ _).mono fun e w16 ⟨he, l16⟩ => ⟨_, he, cnd_false rfl ⟨?_, l14.trans (l15.trans l16)⟩⟩⟩
          rw [decide_eq_false (by omega)]; rfl
        · exact cnd_false rfl (cnd_false rfl ⟨rfl, l14.trans l15⟩)
      · rw [decide_eq_false q2] at e2
        subst e2
        refine cnd_false rfl ?_
        rcases hme with ⟨rfl, rfl, rfl⟩ | ⟨rfl, hno⟩
        · refine cnd_true rfl ⟨_, _, ⟨L13.cell 4 rfl rfl, L13.cell 4 rfl rfl, trivial⟩, (span_Has_is _ _ _ _).mono fun e w16 ⟨he, l16⟩ => ⟨_, he, cnd_false rfl ⟨?_, l16⟩⟩⟩
          rw [decide_eq_false (by omega)]; rfl
        · exact cnd_false rfl (cnd_false rfl ⟨rfl, Later.refl _⟩)
  rintro g s w14 ⟨hs, l14⟩
  obtain rfl : s = false := by simpa using hs
  refine cnd_false rfl ?_
  have L14 := (L13.later l14).one 3 rfl
  clear L L5 L8 L11 L12 L13
  obtain ⟨s1, s2, -⟩ := steps_grow a b c d ha hb hc hd
  refine ⟨fun vs w' => ∃ (k i : Nat) (x y : Int), vs = [.int .i64 k, .int .i64 i] ∧ i ≤ 50 ∧ W64 x ∧ W64 y ∧ k ≤ steps x y ∧ Trk w w' [(w6.heap.size, [u64v x, u64v y])], fun vs _ => match vs with | [_, .int _ i] => (50 - i).toNat | _ => 0, ⟨0, 0, _, _, rfl, by omega, s1, s2, by omega, L14⟩, ?_⟩
  rintro g _ _ w15 ⟨k, i, x, y, hs, hi, hx, hy, hk, L15⟩
  simp only [List.cons.injEq, Value.int.injEq, true_and, and_true] at hs
  obtain ⟨rfl, rfl⟩ := hs
  have hs2 : steps x y ≤ 2 := by unfold steps; split <;> split <;> omega
  refine ⟨fun vs w' => vs = [.bool (decide (i < n ∧ i < 50))] ∧ Later w15 w', ?_, ?_⟩
  · refine cnd_of (fun h => ⟨?_, Later.refl _⟩) (fun h => ⟨?_, Later.refl _⟩)
    · have h := of_decide_eq_true h
      rw [decide_eq_decide.2 (show ((i : Int) < 50) ↔ (i < n ∧ i < 50) by omega)]
    · have h := of_decide_eq_false h
      rw [decide_eq_false (by omega)]
  rintro g s w16 ⟨hs, l16⟩
  obtain rfl : s = decide (i < n ∧ i < 50) := by simpa using hs
  have L16 := L15.later l16
  refine cnd_of (fun h => ?_) (fun h => ?_)
  · obtain ⟨hin, hi50⟩ := of_decide_eq_true h
    obtain ⟨ad, hA, hcell⟩ := hR.later L16.to i hin
    have c0 := hcell 0 .u64 rfl
    have c1 := hcell 1 .u64 rfl
    obtain ⟨f1, f2, f3⟩ := steps_grow x y (F i 0) (F i 1) hx hy (wf_u64 c0.2) (wf_u64 c1.2)
    obtain ⟨px, py, pe, hp, pyes, pno⟩ := pair_if (p := x ≤ y ∧ F i 0 ≤ F i 1) (widLo x (F i 0)) (widHi y (F i 1))
    have C4 := fun w => span_Widen_ok x y (F i 0) (F i 1) w
    rw [hp] at C4
    refine ⟨fun vs w' => ∃ b, vs = [.pointer (some ⟨b, 0, none⟩), .int .i64 pe] ∧ Trk w w' [(w6.heap.size, [u64v x, u64v y]), (b, [u64v px, u64v py])], ?_, ?_⟩
    · refine ⟨_, _, fun w' h' => ⟨(L16.later h').cell 0 rfl rfl, (L16.later h').cell 0 rfl rfl, trivial⟩, ⟨by omega, by omega⟩, ?_⟩
      subst hA
      refine ⟨_, _, fun w' h' => ⟨h'.cell_some c0.1, h'.cell_some c1.1, trivial⟩, _, _, _, fun w' h' => C4 w', ?_⟩
      intro w17 h17 w18 h18 w19 h19
      exact (((L16.later h17).alloc h18).later h19).setAll 1 rfl (by rfl) (one2 _ _) fun w20 L20 => ⟨_, rfl, L20⟩
    rintro g _ q w17 ⟨bx, hs, L17⟩
    simp only [List.cons.injEq, Value.int.injEq, Value.pointer.injEq, true_and, and_true] at hs
    obtain ⟨rfl, rfl⟩ := hs
    refine ⟨fun vs w' => vs = [.bool (decide (q = 0 ∧ ¬ (px = x ∧ py = y)))] ∧ Later w17 w', ?_, ?_⟩
    · refine cnd_of (fun h => ?_) (fun h => ?_)
      · have h : q = 0 := by simpa using h
        subst h
        refine ⟨_, _, ⟨L17.cell 1 rfl rfl, L17.cell 1 rfl rfl, trivial⟩, _, _, ⟨L17.cell 0 rfl rfl, L17.cell 0 rfl rfl, trivial⟩, _, (eq_rg _ _ _ _ _ _).2, ?_, Later.refl _⟩
        simp
        by_cases u1 : px = x <;> by_cases u2 : py = y <;> simp [u1, u2]
      · have h : ¬ q = 0 := by simpa using h
        exact ⟨by rw [decide_eq_false (fun hh => h hh.1)], Later.refl _⟩
    rintro g s w18 ⟨hs, l18⟩
    obtain rfl : s = decide (q = 0 ∧ ¬ (px = x ∧ py = y)) := by simpa using hs
    have L18 := L17.later l18
    have hi1 : IntKind.i64.wrap ((i : Int) + 1) = ((i + 1 : Nat) : Int) := by rw [i64_in (by omega) (by omega)]; simp
    refine cnd_of (fun h => ?_) (fun h => ?_)
    · obtain ⟨h0, hne⟩ := of_decide_eq_true h
      have okp : x ≤ y ∧ F i 0 ≤ F i 1 := by
        by_cases hh : x ≤ y ∧ F i 0 ≤ F i 1
        · exact hh
        · have := (pno hh).2.2; omega
      obtain ⟨rfl, rfl, -⟩ := pyes okp
      have hstep := f3 hne
      have hs3 : steps (widLo x (F i 0)) (widHi y (F i 1)) ≤ 2 := by unfold steps; split <;> split <;> omega
      have hk1 : IntKind.i64.wrap ((k : Int) + 1) = ((k + 1 : Nat) : Int) := by rw [i64_in (by omega) (by omega)]; simp
      refine ⟨_, _, ⟨L18.cell 1 rfl rfl, L18.cell 1 rfl rfl, trivial⟩, L18.setAll 0 rfl (by rfl) (one2 _ _) fun w19 L19 => ⟨?_, ?_⟩⟩
      · exact ⟨k + 1, i + 1, _, _, by rw [hk1, hi1], by omega, f1, f2, by omega, L19.one 0 rfl⟩
      · simp only [hi1]; omega
    · refine ⟨⟨k, i + 1, x, y, by rw [hi1], by omega, hx, hy, hk, L18.one 0 rfl⟩, ?_⟩
      simp only [hi1]; omega
  · refine cnd_true (decide_eq_true (by omega)) (done _ L16.to)
end Go.Proofs.Ytpfnjooddobohaa
