/-
The contracts of package par, fourth part: order, Order, Rings.
Conditions: each theorem's hypotheses.
-/
import Derived.Test.YtngpkmpbhkbgoaaMvD
namespace Go.Proofs.Ytngpkmpbhkbgoaa
open Go Go.Vc Go.RowKit
set_option linter.unusedVariables false
set_option linter.unusedSimpArgs false
set_option maxRecDepth 100000

def keep (m : Mv) : Bool := decide (m.1 ≠ m.2)
theorem start_left (l : List Mv) : (start l).left = l.filter keep := rfl
/-- The map's words for what is left. -/
abbrev cntI (l : List Mv) (p : Pl) : Int := ((cnt l p : Nat) : Int)
/-- Left, half renamed. -/
def renTo (to sp : Pl) (l : List Mv) (k : Nat) : List Mv := (l.take k).map (ren to sp) ++ l.drop k
theorem renTo_zero (to sp : Pl) (l : List Mv) : renTo to sp l 0 = l := by simp [renTo]
theorem renTo_all (to sp : Pl) (l : List Mv) : renTo to sp l l.length = l.map (ren to sp) := by simp [renTo]
theorem renTo_length (to sp : Pl) (l : List Mv) (k : Nat) : (renTo to sp l k).length = l.length := by simp [renTo]; omega
theorem renTo_get {to sp : Pl} {l : List Mv} {k : Nat} {m : Mv} (h : l[k]? = some m) : (renTo to sp l k)[k]? = some m := by
  have hk : k < l.length := (List.getElem?_eq_some_iff.1 h).1
  unfold renTo
  rw [List.getElem?_append_right (by simp; omega)]
  simp only [List.length_map, List.length_take, Nat.min_eq_left (Nat.le_of_lt hk), Nat.sub_self, List.getElem?_drop, Nat.add_zero]
  exact h
theorem renTo_succ {to sp : Pl} {l : List Mv} {k : Nat} {m : Mv} (h : l[k]? = some m) : renTo to sp l (k + 1) = (renTo to sp l k).set k (ren to sp m) := by
  have hk : k < l.length := (List.getElem?_eq_some_iff.1 h).1
  unfold renTo
  have e : ((l.take k).map (ren to sp)).length = k := by simp; omega
  rw [take_snoc h, List.map_append, List.set_append_right _ _ (by omega), e, Nat.sub_self]
  have hd : l.drop k = m :: l.drop (k + 1) := by
    rw [List.drop_eq_getElem_cons hk]
    have := (List.getElem?_eq_some_iff.1 h).2
    rw [this]
  rw [hd]
  simp
theorem renTo_same {to sp : Pl} {l : List Mv} {k : Nat} {m : Mv} (h : l[k]? = some m) (hm : m.1 ≠ to) : renTo to sp l (k + 1) = renTo to sp l k := by
  rw [renTo_succ h]
  have e : ren to sp m = m := by unfold ren; rw [if_neg hm]
  rw [e]
  apply List.ext_getElem?
  intro j
  rw [List.getElem?_set]
  by_cases hj : k = j
  · subst hj
    rw [if_pos rfl, renTo_get h, if_pos (by rw [renTo_length]; exact (List.getElem?_eq_some_iff.1 h).1)]
  · rw [if_neg hj]
theorem wrap_cnt {l : List Mv} (h : l.length ≤ 1000) (p : Pl) : 0 ≤ cntI l p ∧ cntI l p ≤ 1000 := by
  have := cnt_le l p
  unfold cntI
  omega
theorem add_two_one (a : Addr) : (a.add 2).add 1 = a.add 3 := by simp [Addr.add, Nat.add_assoc]
theorem PhC.but {C : Nat → World → Prop} {w : World} {r lo hi : Nat} (h : ∀ p w', C p w' → KeptBut w r w') {w' : World} (hp : PhC C lo hi w') : KeptBut w r w' := by
  obtain ⟨p, _, _, hp⟩ := hp
  exact h p w' hp
theorem PhC.up {C : Nat → World → Prop} {lo hi lo' hi' : Nat} {w' : World} (h1 : lo' ≤ lo) (h2 : hi ≤ hi') (hp : PhC C lo hi w') : PhC C lo' hi' w' := by
  obtain ⟨p, q1, q2, hp⟩ := hp
  exact ⟨p, by omega, by omega, hp⟩
set_option maxHeartbeats 6400000 in
theorem par_order_ok {A : Option Addr} {cap : Nat} {l : List Mv} {sp : Pl} (hlen : l.length ≤ 64) (hsp : ∀ m ∈ l, m.2 ≠ sp) (w : World) (hR : MRow w A l) :
    Calls Try.prog par_order.N #[.slice A l.length cap, plv sp] w (fun e w' => Later w w' ∧ ∃ k b c, (iter sp k (start l)).left = [] ∧ e = .returned (.tuple #[.slice b (iter sp k (start l)).out.length c, i64v (iter sp k (start l)).rings]) ∧ OwnM w w' b c (iter sp k (start l)).out) := by
  refine par_order.calls ?_
  unfold par_order.vc
  intro w1 e1
  have T1 := (Trk.start w).alloc e1
  refine RunsV_makeMap fun w2 e2 => ⟨_, rfl, fun w3 e3 => ?_⟩
  have l12 : Later w1 w2 := e2 ▸ Later.alloc' w1 _
  have hb2 : w2.heap[w1.heap.size]? = some (.map #[] 0) := by rw [e2]; exact heap_alloc_new w1 _
  have hrlt : w1.heap.size < w2.heap.size := (Array.getElem?_eq_some_iff.1 hb2).1
  have hs1 : w.heap.size < w1.heap.size := (T1.has 0 rfl).lt
  generalize hr0 : w1.heap.size = r at hb2 hrlt
  have l23 : Later w2 w3 := e3 ▸ Later.alloc' w2 _
  have T3 := ((T1.later l12).alloc e3)
  have hb3 : w3.heap[r]? = some (.map #[] 0) := by rw [l23.block hrlt]; exact hb2
  obtain ⟨hset, -⟩ := T3.set1 (K := fun _ => True) 1 (i := 0) rfl (v := .map (some r)) (by simp) fun _ _ => trivial
  refine ⟨hset, fun w4 e4 => ?_⟩
  have T4 := T3.setCell 1 (i := 0) (.map (some r)) rfl
  rw [← e4] at T4
  have hb4 : w4.heap[r]? = some (.map #[] 0) := by rw [e4, heap_setCell (by show w2.heap.size ≠ r; omega)]; exact hb3
  have P4 : Lp w w4 sp w.heap.size w2.heap.size r none 0 [] (cntI []) := ⟨T4.to, T4.has 0 rfl, T4.has 1 rfl, (AskG.empty hb4).congr fun _ => rfl, ⟨Nat.le_refl _, by omega, by omega⟩, ⟨by omega, by omega⟩, OwnS_nil _ _ _ _, fun k h => by cases h⟩
  clear T4 hset T3 e4 e3 e2 hb2 hb3 hb4 l12 l23
  have hsr : w.heap.size ≠ r := by omega
  generalize hsb : w.heap.size = sb at P4 hsr
  generalize hab : w2.heap.size = ab at P4
  -- the first loop
  refine ⟨fun vs w' => ∃ (k : Nat) (b : Option Addr) (c : Nat), vs = [.slice b ((l.take k).filter keep).length c, .int .i64 k] ∧ k ≤ l.length ∧ Lp w w' sp sb ab r b c ((l.take k).filter keep) (cntI ((l.take k).filter keep)), fun vs _ => match vs with | [_, .int _ k] => (l.length - k.toNat) | _ => 0,
    ⟨0, none, 0, by simp, Nat.zero_le _, by simpa using P4⟩, ?_⟩
  rintro g b _ c _ w5 ⟨k, _, _, hs, hk, P5⟩
  simp only [List.cons.injEq, Value.int.injEq, Value.slice.injEq, true_and, and_true] at hs
  obtain ⟨⟨rfl, rfl, rfl⟩, rfl⟩ := hs
  refine cnd_of (fun h => ?_) (fun h => ?_)
  · -- one more
    have hkl : k < l.length := by have := of_decide_eq_true h; omega
    have hm := List.getElem?_eq_getElem hkl
    generalize l[k] = m at hm
    obtain ⟨ad, rfl, hc⟩ := (hR.later P5.to).at hm
    refine ⟨⟨by omega, by omega⟩, Deref_some rfl ⟨_, _, _, _, hc, fun w6 e6 => ?_⟩⟩
    refine ((Trk.start w5).alloc e6).setAll 0 rfl (l := mvC m) (by rfl) (by simp [mvC, Value.oneCell']) fun w7 T7 => ?_
    have hx7 := T7.has 0 rfl
    have P7 := P5.later T7.to
    have hfl : ((l.take k).filter keep).length ≤ 64 := by
      have h1 := List.length_filter_le keep (l.take k)
      have h2 := List.length_take_le k l
      omega
    have dec : l.length - ((k : Int) + 1).toNat < l.length - ((k : Nat) : Int).toNat := by omega
    refine ⟨_, _, ⟨T7.cell 0 rfl rfl, T7.cell 0 rfl rfl, trivial⟩, _, _, ⟨T7.cell 0 rfl rfl, T7.cell 0 rfl rfl, trivial⟩, _, (pl_eq _ _ m.1 m.2).2, cnd_of (fun h2 => ?_) (fun h2 => ?_)⟩
    · have hne : m.1 ≠ m.2 := by simpa using h2
      have hkeep : (l.take (k + 1)).filter keep = (l.take k).filter keep ++ [m] := by rw [take_snoc hm, List.filter_append]; simp [keep, hne]
      refine ⟨_, _, _, _, ⟨T7.cell 0 rfl rfl, T7.cell 0 rfl rfl, T7.cell 0 rfl rfl, T7.cell 0 rfl rfl, trivial⟩, fun w8 e8 => ?_⟩
      refine mv_push m P7.own P7.to (by omega) e8 fun b' c' w9 ho9 l9 hk9 => ⟨_, _, _, rfl, ?_⟩
      have P9 := P7.row ho9 l9 hk9
      have hx9 : Has w9 w5.heap.size (mvC m) := hx7.kept (hk9 _ hx7.lt (fun e => by have := (P5.own.lt e).2; omega)).1
      have hxr : w5.heap.size ≠ r := by have := P5.ask.lt; omega
      rw [← hkeep] at P9 ⊢
      obtain ⟨C, x, st, hC, hkept, hsays, hent, hst, hC2, -, -⟩ := P9.ask.turn m.1 m.1 (cntI ((l.take k).filter keep) m.1 + 1) 0
      refine ⟨C, hC, _, fun w' hw' => (PhC.but hkept hw').cell P9.ne.2 P9.ha rfl, _, _, fun w' hw' => ⟨(PhC.but hkept hw').cell hxr hx9 rfl, (PhC.but hkept hw').cell hxr hx9 rfl, trivial⟩, _, fun w' hw' => (hsays w' hw').run _ _, x, st, hent, ?_⟩
      have hcn := wrap_cnt (l := (l.take k).filter keep) (by omega) m.1
      rw [i64_in (x := cntI ((l.take k).filter keep) (m.1.1, m.1.2) + 1) (by show -9223372036854775808 ≤ cntI ((l.take k).filter keep) m.1 + 1; omega) (by show cntI ((l.take k).filter keep) m.1 + 1 < _; omega)]
      refine ⟨hst, fun w10 h10 => ?_⟩
      rw [i64_in (x := (k : Int) + 1) (by omega) (by omega)]
      refine ⟨⟨k + 1, _, _, rfl, by omega, (P9.turn (hkept 2 w10 h10) (hC2 w10 h10)).ask' fun p => ?_⟩, dec⟩
      unfold upd cntI
      rw [hkeep, cnt_append, cnt_one]
      by_cases hp : p = m.1
      · subst hp; simp
      · simp [hp]
    · have heq : m.1 = m.2 := by simpa using h2
      have hkeep : (l.take (k + 1)).filter keep = (l.take k).filter keep := by rw [take_snoc hm, List.filter_append]; simp [keep, heq]
      rw [i64_in (x := (k : Int) + 1) (by omega) (by omega)]
      refine ⟨⟨k + 1, b, c, by rw [hkeep]; rfl, by omega, ?_⟩, dec⟩
      rw [hkeep]; exact P7
  -- the main loop
  have hkn : k = l.length := by have := of_decide_eq_false h; omega
  subst hkn
  rw [List.take_length] at P5 ⊢
  clear P4 h hk
  have hst0 : (start l).left = l.filter keep := rfl
  have G0 : Good sp (start l) := Good.start hsp
  have hmu0 : mu (start l) ≤ 129 := by
    have h1 := mu_le (start l)
    have h2 := List.length_filter_le keep l
    rw [hst0] at h1
    omega
  have hlft : ∀ k, (iter sp k (start l)).left.length ≤ 64 := fun k => by
    have h1 := left_le (sp := sp) (s := start l) k
    have h2 := List.length_filter_le keep l
    rw [hst0] at h1
    omega
  have hout : ∀ k, (iter sp k (start l)).out.length + mu (iter sp k (start l)) ≤ 129 := fun k => by
    have := out_bound G0 k
    have h0 : (start l).out.length = 0 := rfl
    omega
  have hrng : ∀ k, (iter sp k (start l)).rings ≤ (iter sp k (start l)).out.length := fun k => rings_le (Nat.le_refl _) k
  refine ⟨fun vs w' => ∃ (k : Nat) (bo : Option Addr) (co : Nat) (bl : Option Addr) (cl : Nat), vs = [.slice bo (iter sp k (start l)).out.length co, .int .i64 ((iter sp k (start l)).rings : Nat), .slice bl (iter sp k (start l)).left.length cl] ∧
      Lp w w' sp sb ab r bl cl (iter sp k (start l)).left (cntI (iter sp k (start l)).left) ∧ OwnM w w' bo co (iter sp k (start l)).out ∧ (∀ j, rowB bo = some j → j ≠ sb ∧ j ≠ ab ∧ j ≠ r ∧ rowB bl ≠ some j),
    fun vs _ => match vs with | [.slice _ n _, _, _] => 200 - n | _ => 0, ⟨0, none, 0, b, c, rfl, P5, OwnS_nil _ _ _ _, fun j h => by cases h⟩, ?_⟩
  clear P5
  rintro g2 bo _ co _ bl _ cl w6 ⟨k, _, _, _, _, hs, P6, O6, D6⟩
  simp only [List.cons.injEq, Value.int.injEq, Value.slice.injEq, true_and, and_true] at hs
  obtain ⟨⟨rfl, rfl, rfl⟩, rfl, rfl, rfl, rfl⟩ := hs
  have G := G0.iter k
  have hl6 := hlft k
  have ho6 := hout k
  have hr6 := hrng k
  have hstep : iter sp (k + 1) (start l) = stp sp (iter sp k (start l)) := rfl
  have ho7 := hout (k + 1)
  rw [hstep] at ho7
  refine cnd_of (fun h => ?_) (fun h => ?_)
  case refine_2 =>
    have := of_decide_eq_false h
    have hnil : (iter sp k (start l)).left = [] := List.length_eq_zero_iff.1 (by omega)
    exact ⟨P6.to, k, bo, co, hnil, rfl, O6⟩
  have hpos : 0 < (iter sp k (start l)).left.length := by have := of_decide_eq_true h; omega
  have hnil : (iter sp k (start l)).left ≠ [] := List.length_pos_iff.1 hpos
  generalize hS : iter sp k (start l) = S at *
  have hmus := mu_step G hnil
  have hopn : (fun m : Mv => (cntI S.left m.2 == 0)) = opn S.left := by
    funext m
    unfold opn cntI
    rw [Bool.eq_iff_iff]
    simp
  refine (slices_IndexFunc_ok (f := par_order_1.N) (x := .pointer (some ⟨ab, 0, none⟩)) (p := opn S.left) (cap := cl) (by omega) w6 P6.own.row (by kernel_rfl) fun m hm w' l' => by
    rw [← hopn]; exact par_order_1_ok m w' (P6.ha.later l') (P6.ask.later l')).mono fun e w7 ⟨he, l7⟩ => ⟨_, he, ?_⟩
  have P7 := P6.later l7
  have O7 : OwnM w w7 bo co S.out := OwnS.later O6 l7
  by_cases hidx : S.left.findIdx (opn S.left) < S.left.length
  · -- one that may be done
    rw [if_pos hidx]
    refine cnd_true (decide_eq_true (by omega)) ?_
    have hm := List.getElem?_eq_getElem hidx
    generalize S.left[S.left.findIdx (opn S.left)] = m at hm
    obtain ⟨ad, had, hc⟩ := P7.own.row.at hm
    refine ⟨⟨by omega, by omega⟩, Deref_some had ⟨_, _, _, _, hc, fun w8 e8 => ?_⟩⟩
    refine ((Trk.start w7).alloc e8).setAll 0 rfl (l := mvC m) (by rfl) (by simp [mvC, Value.oneCell']) fun w9 T9 => ?_
    have hx9 := T9.has 0 rfl
    have P9 := P7.later T9.to
    have O9 : OwnM w w9 bo co S.out := OwnS.later O7 T9.to
    have hxr : w7.heap.size ≠ r := by have := P7.ask.lt; omega
    have hcn := wrap_cnt (l := S.left) (by omega) m.1
    obtain ⟨C, x, st, hC, hkept, hsays, hent, hst, hC2, -, -⟩ := P9.ask.turn m.1 m.1 (cntI S.left m.1 - 1) 0
    refine ⟨C, hC, _, fun w' hw' => (PhC.but hkept hw').cell P9.ne.2 P9.ha rfl, _, _, fun w' hw' => ⟨(PhC.but hkept hw').cell hxr hx9 rfl, (PhC.but hkept hw').cell hxr hx9 rfl, trivial⟩, _, fun w' hw' => (hsays w' hw').run _ _, x, st, hent, ?_⟩
    rw [i64_in (x := cntI S.left (m.1.1, m.1.2) - 1) (by show -9223372036854775808 ≤ cntI S.left m.1 - 1; omega) (by show cntI S.left m.1 - 1 < _; omega)]
    refine ⟨hst, fun w10 h10 => ?_⟩
    have k10 := hkept 2 w10 h10
    have P10 := P9.turn k10 (hC2 w10 h10)
    have O10 : OwnM w w10 bo co S.out := OwnS.kept O9 fun j hj => k10.block j (D6 j hj).2.2.1 (O9.lt hj).2
    refine ⟨_, _, _, _, ⟨k10.cell hxr hx9 rfl, k10.cell hxr hx9 rfl, k10.cell hxr hx9 rfl, k10.cell hxr hx9 rfl, trivial⟩, fun w11 e11 => ?_⟩
    refine mv_push m O10 P10.to (by omega) e11 fun bo' co' w12 ho12 l12 hk12 => ⟨_, _, _, rfl, ?_⟩
    have P12 := P10.beside l12 (fun j h1 h2 => (hk12 j h1 h2).1) D6
    have D12 : ∀ j, rowB bo' = some j → j ≠ sb ∧ j ≠ ab ∧ j ≠ r ∧ rowB bl ≠ some j := fun j hj => ⟨fun e => (hk12 sb P10.hs.lt (fun e => (D6 _ e).1 rfl)).2 (e ▸ hj), fun e => (hk12 ab P10.ha.lt (fun e => (D6 _ e).2.1 rfl)).2 (e ▸ hj), fun e => (hk12 r P10.ask.lt (fun e => (D6 _ e).2.2.1 rfl)).2 (e ▸ hj), fun e => (hk12 j (P10.own.lt e).2 (fun e2 => (D6 _ e2).2.2.2 e)).2 hj⟩
    rw [i64_in (x := ((S.left.findIdx (opn S.left) : Nat) : Int) + 1) (by omega) (by omega)]
    refine (slices_Delete_ok w12 P12.own P12.to hidx).mono fun e w13 ⟨he, ho13, l13, hk13⟩ => ⟨_, _, _, he, ?_⟩
    have P13 := P12.row ho13 l13 fun j h1 h2 => ⟨hk13 j h1 h2, h2⟩
    have O13 : OwnM w w13 bo' co' (S.out ++ [m]) := OwnS.kept ho12 fun j hj => hk13 j (ho12.lt hj).2 (D12 j hj).2.2.2
    have hs1 := stp_open (sp := sp) rfl hm
    refine ⟨⟨k + 1, bo', co', bl, cl, ?_, ?_, ?_, D12⟩, ?_⟩
    · rw [hstep, hs1]
    · rw [hstep, hs1]
      refine P13.ask' fun p => ?_
      have hce := cnt_erase hm p
      have hce1 := cnt_erase hm m.1
      show (if p = m.1 then ((cnt S.left m.1 : Nat) : Int) - 1 else ((cnt S.left p : Nat) : Int)) = ((cnt (S.left.eraseIdx (S.left.findIdx (opn S.left))) p : Nat) : Int)
      by_cases hp : p = m.1
      · rw [hp, if_pos rfl]
        rw [if_pos rfl] at hce1
        omega
      · rw [if_neg hp]
        rw [if_neg hp] at hce
        omega
    · rw [hstep, hs1]; exact O13
    · rw [hs1] at ho7
      simp only [List.length_append, List.length_cons, List.length_nil] at ho7 ⊢
      omega
  · -- a ring
    rw [if_neg hidx]
    refine cnd_false rfl ?_
    obtain ⟨m0, h0⟩ : ∃ m0, S.left[0]? = some m0 := ⟨_, List.getElem?_eq_getElem hpos⟩
    have hs1 := stp_ring (sp := sp) h0 hidx
    obtain ⟨ad, had, hc⟩ := P7.own.row.at h0
    rw [Nat.zero_mul, add_zero_nn] at hc
    refine ⟨⟨Int.le_refl 0, by omega⟩, Deref_some had ⟨_, _, ⟨hc.2.2.1, by rw [add_two_one]; exact hc.2.2.2.1, trivial⟩, fun w8 e8 => ?_⟩⟩
    refine ((Trk.start w7).alloc e8).setAll 0 rfl (l := [.bool m0.2.1, i64v m0.2.2]) (by rfl) (by simp [Value.oneCell']) fun w9 T9 => ?_
    have hx9 := T9.has 0 rfl
    have P9 := P7.later T9.to
    have O9 : OwnM w w9 bo co S.out := OwnS.later O7 T9.to
    have htr : w7.heap.size ≠ r := by have := P7.ask.lt; omega
    have htl : rowB bl ≠ some w7.heap.size := fun e => by have := (P7.own.lt e).2; omega
    have hto : rowB bo ≠ some w7.heap.size := fun e => by have := (O7.lt e).2; omega
    have s9 : ∀ {w' : World} {b : Nat} {sp : Pl}, Has w' b [.bool sp.1, i64v sp.2] → w'.cell? ⟨b, 0, none⟩ = some (.bool sp.1) ∧ w'.cell? ⟨b, 1, none⟩ = some (i64v sp.2) ∧ True := fun h => ⟨h.cell rfl, h.cell rfl, trivial⟩
    refine ⟨_, _, s9 hx9, _, _, s9 P9.hs, fun w10 e10 => ?_⟩
    refine mv_push (m0.2, sp) O9 P9.to (by omega) e10 fun bo' co' w11 ho11 l11 hk11 => ⟨_, _, _, rfl, ?_⟩
    have P11 := P9.beside l11 (fun j h1 h2 => (hk11 j h1 h2).1) D6
    have D11 : ∀ j, rowB bo' = some j → j ≠ sb ∧ j ≠ ab ∧ j ≠ r ∧ rowB bl ≠ some j := fun j hj => ⟨fun e => (hk11 sb P9.hs.lt (fun e => (D6 _ e).1 rfl)).2 (e ▸ hj), fun e => (hk11 ab P9.ha.lt (fun e => (D6 _ e).2.1 rfl)).2 (e ▸ hj), fun e => (hk11 r P9.ask.lt (fun e => (D6 _ e).2.2.1 rfl)).2 (e ▸ hj), fun e => (hk11 j (P9.own.lt e).2 (fun e2 => (D6 _ e2).2.2.2 e)).2 hj⟩
    have hx11 : Has w11 w7.heap.size [.bool m0.2.1, i64v m0.2.2] := hx9.kept (hk11 _ hx9.lt hto).1
    have hspn : m0.2 ≠ sp := G.spare m0 (List.mem_of_getElem? h0)
    generalize w7.heap.size = tb at hx11 htr htl
    refine ⟨fun vs w' => ∃ (j : Nat), vs = [.int .i64 j] ∧ j ≤ S.left.length ∧ Lp w w' sp sb ab r bl cl (renTo m0.2 sp S.left j) (cntI S.left) ∧ OwnM w w' bo' co' (S.out ++ [(m0.2, sp)]) ∧ Has w' tb [.bool m0.2.1, i64v m0.2.2],
      fun vs _ => match vs with | [.int _ j] => (S.left.length - j.toNat) | _ => 0, ⟨0, rfl, Nat.zero_le _, by rw [renTo_zero]; exact P11, ho11, hx11⟩, ?_⟩
    clear P11 ho11 hx11 hk11 P9 O9 hx9
    rintro g3 _ w12 ⟨j, hs, hj, P12, O12, hx12⟩
    simp only [List.cons.injEq, Value.int.injEq, true_and, and_true] at hs
    subst hs
    refine cnd_of (fun h => ?_) (fun h => ?_)
    · have hjl : j < S.left.length := by have := of_decide_eq_true h; omega
      have hm := List.getElem?_eq_getElem hjl
      generalize S.left[j] = m at hm
      have hmr : (renTo m0.2 sp S.left j)[j]? = some m := renTo_get hm
      obtain ⟨ae, hae, hce⟩ := P12.own.row.at hmr
      refine ⟨⟨by omega, by omega⟩, Deref_some hae ⟨_, _, _, _, hce, fun w13 e13 => ?_⟩⟩
      refine ((Trk.start w12).alloc e13).setAll 0 rfl (l := mvC m) (by rfl) (by simp [mvC, Value.oneCell']) fun w14 T14 => ?_
      have P14 := P12.later T14.to
      have O14 : OwnM w w14 bo' co' (S.out ++ [(m0.2, sp)]) := OwnS.later O12 T14.to
      have hx14 := hx12.later T14.to
      have dec : S.left.length - ((j : Int) + 1).toNat < S.left.length - ((j : Nat) : Int).toNat := by omega
      rw [i64_in (x := (j : Int) + 1) (by omega) (by omega)]
      refine ⟨_, _, ⟨T14.cell 0 rfl rfl, T14.cell 0 rfl rfl, trivial⟩, _, _, s9 hx14, _, (pl_eq _ _ m.1 m0.2).1, cnd_of (fun h2 => ?_) (fun h2 => ?_)⟩
      · have h2 := of_decide_eq_true h2
        refine ⟨_, _, s9 P14.hs, ⟨by omega, by omega⟩, Deref_some hae ?_⟩
        obtain ⟨gb, hgb, -⟩ := P14.own.split (by rw [renTo_length]; omega)
        rw [hae] at hgb
        obtain rfl := Option.some.inj hgb
        subst hae
        obtain ⟨q1, q2⟩ := own_setFrom P14.own P14.to hmr sp
        refine ⟨q1, fun w15 e15 => ?_⟩
        obtain ⟨o15, l15, k15⟩ := q2 w15 e15
        have hren : renTo m0.2 sp S.left (j + 1) = (renTo m0.2 sp S.left j).set j (sp, m.2) := by
          rw [renTo_succ hm]
          unfold ren
          rw [if_pos h2]
        refine ⟨⟨j + 1, rfl, by omega, ?_, ?_, ?_⟩, dec⟩
        · rw [hren]
          exact P14.row o15 l15 fun i h1 h2 => ⟨k15 i (fun e => h2 (by rw [e]; rfl)), h2⟩
        · exact OwnS.kept O14 fun i hi => k15 i (fun e => (D11 i hi).2.2.2 (by rw [e]; rfl))
        · exact hx14.kept (k15 tb (fun e => htl (by rw [e]; rfl)))
      · have h2 := of_decide_eq_false h2
        refine ⟨⟨j + 1, rfl, by omega, ?_, O14, hx14⟩, dec⟩
        rw [renTo_same hm h2]
        exact P14
    · -- the map is turned
      have : j = S.left.length := by have := of_decide_eq_false h; omega
      subst this
      rw [renTo_all] at P12
      have hc1 := wrap_cnt (l := S.left) (by omega) sp
      have hc2 := wrap_cnt (l := S.left) (by omega) m0.2
      obtain ⟨C, x, st, hC, hkept, hsays, hent, hst, -, hup, hC3⟩ := P12.ask.turn sp m0.2 (cntI S.left sp + cntI S.left m0.2) 0
      have hm' : ∀ lo hi w', PhC C lo hi w' → w'.cell? ⟨ab, 0, none⟩ = some (.map (some r)) := fun lo hi w' hw' => (PhC.but hkept hw').cell P12.ne.2 P12.ha rfl
      have hs' : ∀ lo hi w', PhC C lo hi w' → w'.cell? ⟨sb, 0, none⟩ = some (.bool sp.1) ∧ w'.cell? ⟨sb, 1, none⟩ = some (i64v sp.2) ∧ True := fun lo hi w' hw' => s9 ((PhC.but hkept hw').has P12.ne.1 P12.hs)
      have ht' : ∀ lo hi w', PhC C lo hi w' → w'.cell? ⟨tb, 0, none⟩ = some (.bool m0.2.1) ∧ w'.cell? ⟨tb, 1, none⟩ = some (i64v m0.2.2) ∧ True := fun lo hi w' hw' => s9 ((PhC.but hkept hw').has htr hx12)
      refine ⟨C, hC, _, hm' _ _, _, _, hs' _ _, _, hm' _ _, _, _, ht' _ _, _, hm' _ _, _, _, hs' _ _, _, fun w' hw' => (hsays w' hw').run _ _, _, hm' _ _, _, _, ht' _ _, _, fun w' hw' => (hsays w' hw').run _ _, x, st, hent, ?_⟩
      rw [i64_in (x := cntI S.left (sp.1, sp.2) + cntI S.left (m0.2.1, m0.2.2)) (by show -9223372036854775808 ≤ cntI S.left sp + cntI S.left m0.2; omega) (by show cntI S.left sp + cntI S.left m0.2 < _; omega)]
      refine ⟨hst, hup, fun w13 h13 => ?_⟩
      have k13 := hkept 3 w13 h13
      have P13 := P12.turn k13 (hC3 w13 h13)
      have O13 : OwnM w w13 bo' co' (S.out ++ [(m0.2, sp)]) := OwnS.kept O12 fun i hi => k13.block i (D11 i hi).2.2.1 (O12.lt hi).2
      rw [i64_in (x := ((S.rings : Nat) : Int) + 1) (by omega) (by omega)]
      refine ⟨⟨k + 1, bo', co', bl, cl, ?_, ?_, ?_, D11⟩, ?_⟩
      · rw [hstep, hs1, List.length_map]; rfl
      · rw [hstep, hs1]
        refine P13.ask' fun p => ?_
        unfold upd cntI
        rw [cnt_ren (fun e => hspn e.symm)]
        by_cases hp : p = m0.2
        · rw [if_pos hp, if_pos hp]; rfl
        · rw [if_neg hp, if_neg hp]
          by_cases hp2 : p = sp
          · rw [if_pos hp2, if_pos hp2]; omega
          · rw [if_neg hp2, if_neg hp2]
      · rw [hstep, hs1]; exact O13
      · rw [hs1] at ho7
        simp only [List.length_append, List.length_cons, List.length_nil] at ho7 ⊢
        omega
end Go.Proofs.Ytngpkmpbhkbgoaa
