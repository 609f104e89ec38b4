/-
The contracts of package mem, first part: which regions may be, do two touch, where a stretch lies.
Conditions: each theorem's hypotheses.
-/
import Derived.Test.YtngkifnknlginaaVmem
import Derived.Test.YtngkifnknlginaaMemW
import Derived.Test.YtngkifnknlginaaVcRange
import Derived.Laws.Pointers
namespace Go.Proofs.Ytngkifnknlginaa
open Go Go.Vc Go.RowKit
set_option linter.unusedVariables false
set_option linter.unusedSimpArgs false
set_option linter.unnecessarySimpa false
set_option maxRecDepth 100000

abbrev regV (r : Reg) : Value := .agg #[u64v r.f, u64v r.s, .int .u8 r.k]
def regT : ElT Reg := ⟨3, by decide, regC, fun _ => rfl, fun a u hu => by
  simp only [regC, List.mem_cons, List.not_mem_nil, or_false] at hu
  rcases hu with rfl | rfl | rfl <;> rfl⟩
theorem ptr_nil {t : TypeId} (h : Try.prog.underlying t = some (.pointer (Try.prog.pointee t))) (p : Option Addr) (xo yo : Operand) : EqRuns Try.prog .eql t xo yo (.pointer p) (.pointer none) p.isNone := by
  intro w
  rw [eqGuard_at_pointer]
  simp only [Sem.run_bind, Sem.run_pure, Result.andThen_ok]
  exact run_eql_pointer_nil w _ p h
theorem mem_may_ok {x : Reg} (hx : RegIn x) (w : World) : Calls Try.prog mem_may.N #[regV x] w (Gives (.bool (mayR x)) w) := by
  refine mem_may.calls ?_
  unfold mem_may.vc
  intro w1 h1
  have L := (Trk.start w).alloc h1
  have := hx.f0; have := hx.f1; have := hx.s0; have := hx.s1
  have out : ∀ b : Bool, mayR x = b → Gives (.bool (mayR x)) w (.returned (.bool b)) w1 := fun b h => ⟨by rw [h], L.to⟩
  refine ⟨_, L.cell 0 rfl rfl, cnd_of (fun h1 => ⟨_, L.cell 0 rfl rfl, cnd_of (fun h2 => ⟨_, L.cell 0 rfl rfl, cnd_of (fun h3 => ⟨_, L.cell 0 rfl rfl, cnd_of (fun h4 => ⟨_, L.cell 0 rfl rfl, _, L.cell 0 rfl rfl, ?_⟩) fun h => out _ ?_⟩) fun h => out _ ?_⟩) fun h => out _ ?_⟩) fun h => out _ ?_⟩
  all_goals simp only [decide_eq_true_eq, decide_eq_false_iff_not] at *
  · rw [u64_in (by omega) (by omega)]
    refine out _ ?_
    unfold mayR
    rw [decide_eq_true (show 1 ≤ x.k ∧ x.k ≤ 4 by omega), decide_eq_true (show 1 ≤ x.s ∧ x.s ≤ 1048576 by omega)]
    rfl
  · unfold mayR
    rw [decide_eq_false (show ¬ (1 ≤ x.s ∧ x.s ≤ 1048576) by omega)]
    simp
  · unfold mayR
    rw [decide_eq_false (show ¬ (1 ≤ x.s ∧ x.s ≤ 1048576) by omega)]
    simp
  · unfold mayR
    rw [decide_eq_false (show ¬ (1 ≤ x.k ∧ x.k ≤ 4) by omega)]
    simp
  · unfold mayR
    rw [decide_eq_false (show ¬ (1 ≤ x.k ∧ x.k ≤ 4) by omega)]
    simp
theorem mem_touch_ok {x y : Reg} (hx : RegIn x) (hy : RegIn y) (mx : mayR x = true) (my : mayR y = true) (w : World) : Calls Try.prog mem_touch.N #[regV x, regV y] w (Gives (.bool (touchR x y)) w) := by
  refine mem_touch.calls ?_
  unfold mem_touch.vc
  intro w1 h1 w2 h2
  have L := ((Trk.start w).alloc h1).alloc h2
  have ax := mayR_facts mx
  have ay := mayR_facts my
  have := hx.f0; have := hy.f0
  refine ⟨_, L.cell 0 rfl rfl, _, L.cell 1 rfl rfl, _, L.cell 1 rfl rfl, ?_⟩
  rw [u64_in (by omega) (by omega)]
  refine cnd_of (fun h => ⟨_, L.cell 1 rfl rfl, _, L.cell 0 rfl rfl, _, L.cell 0 rfl rfl, ?_⟩) fun h => ⟨?_, L.to⟩
  · rw [u64_in (by omega) (by omega)]
    exact ⟨by rw [touchR, h]; rfl, L.to⟩
  · rw [touchR, h]
    rfl
theorem mem_New_1_ok {x y : Reg} (hx : RegIn x) (hy : RegIn y) (mx : mayR x = true) (my : mayR y = true) {xb : Nat} {w : World} (hb : Has w xb (regC x)) : Calls Try.prog mem_New_1.N #[regV y, .pointer (some ⟨xb, 0, none⟩)] w (Gives (.bool (touchR x y)) w) := by
  refine mem_New_1.calls (c0 := some ⟨xb, 0, none⟩) ?_
  unfold mem_New_1.vc
  intro w1 h1
  have L := (Trk.start w).alloc h1
  have hb1 := hb.later L.to
  refine Deref_some rfl ⟨_, _, _, ⟨hb1.cell (v := u64v x.f) rfl, hb1.cell (i := 1) (v := u64v x.s) rfl, hb1.cell (i := 2) (v := .int .u8 x.k) rfl, trivial⟩, _, _, _, ⟨L.cell 0 rfl rfl, L.cell 0 rfl rfl, L.cell 0 rfl rfl, trivial⟩, ?_⟩
  exact (mem_touch_ok hx hy mx my w1).mono fun e w2 ⟨he, g2⟩ => ⟨_, he, rfl, L.to.trans g2⟩
theorem reg_cells {A : Option Addr} {l : List Reg} {w : World} (hr : ERow regT w A l) {k : Nat} {y : Reg} (hg : l[k]? = some y) : ∃ ad, A = some ad ∧ (w.cell? (ad.add (k * 3)) = some (u64v y.f) ∧ w.cell? ((ad.add (k * 3)).add 1) = some (u64v y.s) ∧ w.cell? ((ad.add (k * 3)).add 2) = some (.int .u8 y.k) ∧ True) := by
  obtain ⟨ad, rfl, hc⟩ := hr k y hg
  refine ⟨ad, rfl, ?_, hc 1 (u64v y.s) rfl, hc 2 (.int .u8 y.k) rfl, trivial⟩
  have := hc 0 (u64v y.f) rfl
  rwa [addr_add_zero] at this
/-- Elements that may be. -/
def RegsIn (l : List Reg) : Prop := ∀ (i : Nat) (x : Reg), l[i]? = some x → RegIn x
theorem mem_index_ok {x : Reg} {l : List Reg} (hx : RegIn x) (hl : RegsIn l) (mx : mayR x = true) (ml : ∀ (i : Nat) (y : Reg), l[i]? = some y → mayR y = true) (hlen : l.length ≤ 1000) {A : Option Addr} {c : Nat} {xb : Nat} {w : World} (hb : Has w xb (regC x)) (hr : ERow regT w A l) :
    Calls Try.prog slices_IndexFunc.N #[.slice A l.length c, .func (.func mem_New_1.N) #[] #[.pointer (some ⟨xb, 0, none⟩)]] w fun e w' => (∃ i : Int, e = .returned (i64v i) ∧ (decide (i ≥ 0)) = l.any (touchR x)) ∧ Later w w' := by
  refine slices_IndexFunc.calls ?_
  unfold slices_IndexFunc.vc
  refine ⟨fun vs w' => ∃ k : Nat, k ≤ l.length ∧ vs = [i64v k] ∧ (∀ (i : Nat) (y : Reg), i < k → l[i]? = some y → touchR x y = false) ∧ Later w w', fun vs _ => match vs with | [.int _ n] => l.length - n.toNat | _ => 0, ⟨0, by omega, rfl, fun i y hi => by omega, Later.refl _⟩, ?_⟩
  rintro g s8 w1 ⟨k, hk, hs, hno, g1⟩
  simp only [List.cons.injEq, Value.int.injEq, true_and, and_true] at hs
  subst hs
  refine cnd_of (fun h => ?_) fun h => ?_
  · have hlt : k < l.length := by simp only [decide_eq_true_eq] at h; omega
    have hg := List.getElem?_eq_getElem hlt
    generalize l[k] = y at hg
    obtain ⟨ad, rfl, hc⟩ := reg_cells (hr.later g1) hg
    refine ⟨by omega, Deref_some rfl ⟨_, _, _, hc, ?_⟩⟩
    refine fn_intro (cnd_true (by kernel_rfl) ?_)
    refine (mem_New_1_ok hx (hl k y hg) mx (ml k y hg) (hb.later g1)).mono fun e w2 ⟨he, g2⟩ => ⟨_, he, cnd_of (fun ht => ?_) fun ht => ?_⟩
    · refine ⟨⟨k, rfl, ?_⟩, g1.trans g2⟩
      rw [decide_eq_true (by omega)]
      exact (List.any_eq_true.2 ⟨y, List.mem_of_getElem? hg, ht⟩).symm
    · have hw : IntKind.i64.wrap ((k : Int) + 1) = ((k + 1 : Nat) : Int) := by rw [i64_in (by omega) (by omega)]; omega
      rw [hw]
      refine ⟨⟨k + 1, by omega, rfl, fun i z hi hz => ?_, g1.trans g2⟩, by show l.length - ((k + 1 : Nat) : Int).toNat < l.length - ((k : Nat) : Int).toNat; omega⟩
      by_cases hik : i = k
      · subst hik
        rw [hg] at hz
        obtain rfl := Option.some.inj hz
        exact ht
      · exact hno i z (by omega) hz
  · refine ⟨⟨-1, rfl, ?_⟩, g1⟩
    have : k = l.length := by simp only [decide_eq_false_iff_not] at h; omega
    subst this
    rw [decide_eq_false (by omega)]
    symm
    rw [List.any_eq_false]
    intro y hy
    obtain ⟨i, hi⟩ := List.getElem?_of_mem hy
    rw [hno i y (List.getElem?_eq_some_iff.1 hi).1 hi]
    simp
theorem mem_contains_ok {x : Reg} {l : List Reg} (hx : RegIn x) (hl : RegsIn l) (mx : mayR x = true) (ml : ∀ (i : Nat) (y : Reg), l[i]? = some y → mayR y = true) (hlen : l.length ≤ 1000) {A : Option Addr} {c : Nat} {xb : Nat} {w : World} (hb : Has w xb (regC x)) (hr : ERow regT w A l) :
    Calls Try.prog slices_ContainsFunc.N #[.slice A l.length c, .func (.func mem_New_1.N) #[] #[.pointer (some ⟨xb, 0, none⟩)]] w (Gives (.bool (l.any (touchR x))) w) := by
  refine slices_ContainsFunc.calls ?_
  unfold slices_ContainsFunc.vc
  exact (mem_index_ok hx hl mx ml hlen hb hr).mono fun e w1 ⟨⟨i, he, hi⟩, g1⟩ => ⟨_, he, by rw [hi], g1⟩
theorem mem_has_ok {p : Pt} (hp : PtOk p) {qb bb tb o : Nat} {a n : Int} (ha : 0 ≤ a ∧ a < 18446744073709551616) {w : World} (hb : Has w qb (ptC p bb tb o)) : Calls Try.prog sacristy_mem_part_has.N #[.pointer (some ⟨qb, 0, none⟩), u64v a, i64v n] w (Gives (.bool (hasR p.r a n)) w) := by
  refine sacristy_mem_part_has.calls ?_
  unfold sacristy_mem_part_has.vc
  have m := mayR_facts hp.may
  have := hp.inn.f0
  have c0 : ∀ w', Later w w' → w'.cell? ⟨qb, 0, none⟩ = some (u64v p.r.f) := fun w' hl => (hb.later hl).cell rfl
  have c1 : ∀ w', Later w w' → w'.cell? ((⟨qb, 0, none⟩ : Addr).add 1) = some (u64v p.r.s) := fun w' hl => (hb.later hl).cell (i := 1) rfl
  refine Deref_some rfl ⟨_, c0, cnd_of (fun h1 => Deref_some rfl ⟨_, c0, Deref_some rfl ⟨_, c1, cnd_of (fun h2 => Deref_some rfl ⟨_, c1, Deref_some rfl ⟨_, c0, fun w' hl => ⟨?_, hl⟩⟩⟩) fun h w' hl => ⟨?_, hl⟩⟩⟩) fun h w' hl => ⟨?_, hl⟩⟩
  all_goals simp only [decide_eq_true_eq, decide_eq_false_iff_not] at *
  · rw [u64_in (by omega) (by omega)] at h2
    rw [u64_in (x := a - p.r.f) (by omega) (by omega), u64_in (x := p.r.s - (a - p.r.f)) (by omega) (by omega), wrap_u64]
    rw [hasR, decide_eq_true (show p.r.f ≤ a by omega), decide_eq_true h2]
    rfl
  · rw [u64_in (by omega) (by omega)] at h
    rw [hasR, decide_eq_false h]
    simp
  · rw [hasR, decide_eq_false (show ¬ p.r.f ≤ a by omega)]
    simp
theorem mem_right_ok (p : Addr) (n : Int) (w : World) : Calls Try.prog sacristy_mem_Mem_right.N #[.pointer (some p), i64v n] w fun e w' => e = .returned (i64v (if n < 1 ∨ 8 < n then 2 else 0)) ∧ w' = w := by
  refine sacristy_mem_Mem_right.calls ?_
  unfold sacristy_mem_Mem_right.vc
  refine ⟨_, ptr_nil (by kernel_rfl) _ _ _, cnd_false rfl (cnd_of (fun h => ⟨?_, rfl⟩) fun h => cnd_of (fun h2 => ⟨?_, rfl⟩) fun h2 => ⟨?_, rfl⟩)⟩
  all_goals simp only [decide_eq_true_eq, decide_eq_false_iff_not] at *
  · rw [if_pos (by omega)]
  · rw [if_pos (by omega)]
  · rw [if_neg (by omega)]
/-! ### the parts, one behind the other -/
theorem mem_each_ok (p : Option Addr) (w : World) : Calls Try.prog sacristy_mem_Mem_each.N #[.pointer p] w fun e w' => e = .returned (.func (.func sacristy_mem_Mem_each_1.N) #[] #[.pointer (some ⟨w.heap.size, 0, none⟩)]) ∧ Later w w' ∧ Has w' w.heap.size [.pointer p] := by
  refine sacristy_mem_Mem_each.calls ?_
  unfold sacristy_mem_Mem_each.vc
  intro w1 h1
  have L := (Trk.start w).alloc h1
  exact ⟨rfl, L.to, L.has 0 rfl⟩
/-- The pointers at the parts. -/
structure Ptrs (w : World) (mb pb : Nat) (q : Nat → Nat) (n : Nat) : Prop where
  hm : ∃ c, Has w mb [.slice (some ⟨pb, 0, none⟩) n c]
  ptr : ∀ i, i < n → w.cell? ⟨pb, i, none⟩ = some (.pointer (some ⟨q i, 0, none⟩))
theorem cell_kept {w w' : World} {b i : Nat} {v : Value} (h : w.cell? ⟨b, i, none⟩ = some v) (e : w'.heap[b]? = w.heap[b]?) : w'.cell? ⟨b, i, none⟩ = some v := by simpa [World.cell?, e] using h
theorem Ptrs.kept {w w' : World} {mb pb : Nat} {q : Nat → Nat} {n : Nat} (h : Ptrs w mb pb q n) (e1 : w'.heap[mb]? = w.heap[mb]?) (e2 : w'.heap[pb]? = w.heap[pb]?) : Ptrs w' mb pb q n := by
  obtain ⟨c, hm⟩ := h.hm
  exact ⟨⟨c, hm.kept e1⟩, fun i hi => cell_kept (h.ptr i hi) e2⟩
set_option maxHeartbeats 1600000 in
theorem each_iter {mb pb b : Nat} {q : Nat → Nat} {n : Nat} (hn : 0 < n ∧ n ≤ 1000) (w : World) (hb : Has w b [.pointer (some ⟨mb, 0, none⟩)]) (hp : Ptrs w mb pb q n) : IterV Try.prog sacristy_mem_Mem_each_1.N #[.pointer (some ⟨b, 0, none⟩)] (fun k => k = b ∨ k = mb ∨ k = pb) n (fun k => [.pointer (some ⟨q k.1, 0, none⟩)]) w := by
  refine iterV_of fun l J Jx W hW hJ hJx hY h0 => ?_
  have hbW : Has W b [.pointer (some ⟨mb, 0, none⟩)] := hb.kept (hW.block b hb.lt)
  have hpl : pb < w.heap.size := lt_of_cell (hp.ptr 0 hn.1)
  obtain ⟨c, hm⟩ := hp.hm
  have hpW : Ptrs W mb pb q n := hp.kept (hW.block mb hm.lt) (hW.block pb hpl)
  refine sacristy_mem_Mem_each_1.calls (yield' := .func (.yield l) #[] #[]) (c0 := some ⟨b, 0, none⟩) ?_
  unfold sacristy_mem_Mem_each_1.vc
  obtain ⟨cW, hmW⟩ := hpW.hm
  refine Deref_some rfl ⟨_, hbW.cell rfl, _, ptr_nil (by kernel_rfl) _ _ _, cnd_false rfl (Deref_some rfl ⟨_, hbW.cell rfl, Deref_some rfl ⟨_, _, _, hmW.cell rfl, ?_⟩⟩)⟩
  refine ⟨fun vs w' => ∃ k : Nat, k ≤ n ∧ vs = [i64v k] ∧ J k w' ∧ Has w' b [.pointer (some ⟨mb, 0, none⟩)] ∧ Ptrs w' mb pb q n, fun vs _ => match vs with | [.int _ m] => n - m.toNat | _ => 0, ⟨0, by omega, rfl, h0, hbW, hpW⟩, ?_⟩
  rintro g s12 w1 ⟨k, hk, hs, hj, hb1, hp1⟩
  simp only [List.cons.injEq, Value.int.injEq, true_and, and_true] at hs
  subst hs
  refine cnd_of (fun h => ?_) fun h => ?_
  · have hlt : k < n := by simp only [decide_eq_true_eq] at h; omega
    refine ⟨by omega, Deref_some rfl ⟨some ⟨q k, 0, none⟩, ?_, ?_⟩⟩
    · rw [add_block, Nat.zero_add, show (k : Int).toNat * 1 = k by omega]
      exact hp1.ptr k hlt
    refine yield_intro ?_
    refine YieldC_mono (fun b' w' h => ?_) (hY ⟨k, hlt⟩ w1 hj)
    rcases h with ⟨rfl, h1, h2⟩ | ⟨rfl, h1⟩
    · refine cnd_false rfl ?_
      have hw : IntKind.i64.wrap ((k : Int) + 1) = ((k + 1 : Nat) : Int) := by rw [i64_in (by omega) (by omega)]; omega
      rw [hw]
      exact ⟨⟨k + 1, by omega, rfl, h1, hb1.kept (h2 _ (.inl rfl)), hp1.kept (h2 _ (.inr (.inl rfl))) (h2 _ (.inr (.inr rfl)))⟩, by show n - ((k + 1 : Nat) : Int).toNat < n - ((k : Nat) : Int).toNat; omega⟩
    · exact cnd_true rfl ⟨⟨_, rfl⟩, .inr h1⟩
  · have : k = n := by simp only [decide_eq_false_iff_not] at h; omega
    subst this
    exact ⟨⟨_, rfl⟩, .inl hj⟩
end Go.Proofs.Ytngkifnknlginaa
