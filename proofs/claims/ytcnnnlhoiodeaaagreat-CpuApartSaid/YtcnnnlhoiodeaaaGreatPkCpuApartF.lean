/-
Texts of this claim, merged: Law5E, Law5X, Law5F, Law5T, Law5Y, Law5Z, Law5U, Vlaw05a, Law5V, VcRead, Law5R.
Conditions: each theorem's own.
-/
import Derived.Test.YtcnnnlhoiodeaaaGreatPkCpuApartE
import Derived.Test.YtcnnnlhoiodeaaaGreatProg
set_option linter.unusedSimpArgs false
set_option linter.unnecessarySimpa false
set_option linter.unusedVariables false
set_option linter.unusedSectionVars false

/-
Runs: what stays of a state, Run, the examples of the chapter.
Conditions: each theorem's hypotheses.
-/
namespace Go.Proofs.YtcnnnlhoiodeaaaGreat
open Go Go.Vc Go.RowKit
set_option maxRecDepth 100000

theorem find_get : ∀ {st : List Pt} {a n : Int} {i : Nat} {p : Pt}, findM st a n = some (i, p) → st[i]? = some p ∧ hasR p.r a n = true
  | [], a, n, i, p, h => by simp [findM] at h
  | q :: st, a, n, i, p, h => by
    rw [findM] at h
    split at h
    · rename_i hq
      obtain ⟨rfl, rfl⟩ := Prod.mk.inj (Option.some.inj h)
      exact ⟨rfl, hq⟩
    · cases hf : findM st a n with
      | none => rw [hf] at h; cases h
      | some x =>
        rw [hf] at h
        obtain ⟨rfl, rfl⟩ := Prod.mk.inj (Option.some.inj h)
        exact find_get (st := st) hf
theorem storeM_r (st : List Pt) (a n v : Int) (t : Bool) : (storeM st a n v t).1.map (·.r) = st.map (·.r) := by
  unfold storeM
  split
  · rfl
  · split
    · rfl
    · rename_i i p hf
      split
      · exact layM_r (find_get hf).1 _ _ _
      · rfl
/-- What a step leaves of what was told, and of the memory's parts. -/
theorem doS_told (s : Cst) (o d v pc ra : Int) (ta : Bool) (rb : Int) (tb : Bool) : (doS s o d v pc ra ta rb tb).1.told.length ≤ s.told.length + 1 ∧ (doS s o d v pc ra ta rb tb).1.M.map (·.r) = s.M.map (·.r) := by
  have hS : ∀ (d v : Int) (t : Bool), (setS s d v t).told.length ≤ s.told.length + 1 ∧ (setS s d v t).M.map (·.r) = s.M.map (·.r) := fun d v t => by
    obtain ⟨h1, -, h3, -⟩ := setS_M s d v t
    rw [h1, h3]; exact ⟨Nat.le_succ _, rfl⟩
  have hI : s.told.length ≤ s.told.length + 1 ∧ s.M.map (·.r) = s.M.map (·.r) := ⟨Nat.le_succ _, rfl⟩
  unfold doS
  by_cases h1 : o ≤ 14
  · rw [if_pos h1]; exact hS _ _ _
  rw [if_neg h1]
  by_cases h2 : o ≤ 22
  · rw [if_pos h2]; exact hS _ _ _
  rw [if_neg h2]
  by_cases h3 : o ≤ 23
  · rw [if_pos h3]; exact hS _ _ _
  rw [if_neg h3]
  by_cases h4 : o ≤ 25
  · rw [if_pos h4]; exact hS _ _ _
  rw [if_neg h4]
  by_cases h5 : o ≤ 27
  · rw [if_pos h5]; exact ⟨Nat.le_succ _, storeM_r _ _ _ _ _⟩
  rw [if_neg h5]
  by_cases h6 : o ≤ 31
  · rw [if_pos h6]; show (if goesS o ra rb = true then _ else _ : Cst).told.length ≤ _ ∧ (if goesS o ra rb = true then _ else _ : Cst).M.map (·.r) = _; split <;> exact hI
  rw [if_neg h6]
  by_cases h7 : o ≤ 32
  · rw [if_pos h7]; exact hS _ _ _
  rw [if_neg h7]
  by_cases h8 : o ≤ 33
  · rw [if_pos h8]; exact hS _ _ _
  rw [if_neg h8]
  by_cases h9 : s.R 17 > 5
  · rw [if_pos h9]; exact hI
  rw [if_neg h9]
  by_cases h10 : s.R 17 = 4
  · rw [if_pos h10]; exact ⟨by simp, rfl⟩
  rw [if_neg h10]
  by_cases h11 : s.R 17 < 4
  · rw [if_pos h11]; exact hI
  rw [if_neg h11]; exact hI
theorem stepS_keeps {s : Cst} (h : s.told.length ≤ s.tr.length) : (stepS s).1.told.length ≤ (stepS s).1.tr.length ∧ (stepS s).1.M.map (·.r) = s.M.map (·.r) := by
  unfold stepS
  by_cases h1 : s.over = true
  · rw [if_pos h1]; exact ⟨h, rfl⟩
  rw [if_neg h1]
  by_cases h2 : 1048576 ≤ s.tr.length
  · rw [if_pos h2]; exact ⟨h, rfl⟩
  rw [if_neg h2]
  by_cases h3 : (fetchM s.M s.pc).2 ≠ 0
  · rw [if_pos h3]; exact ⟨h, rfl⟩
  rw [if_neg h3]
  by_cases h4 : decE (fetchM s.M s.pc).1 ≠ 0
  · rw [if_pos h4]; exact ⟨h, rfl⟩
  rw [if_neg h4]
  by_cases h5 : (insS s (fetchM s.M s.pc).1).2.2 ≠ 0
  · rw [if_pos h5]; exact ⟨h, rfl⟩
  rw [if_neg h5]
  have hd := doS_told { s with pc := uw (s.pc + 4) } (decF (fetchM s.M s.pc).1 0) (decF (fetchM s.M s.pc).1 1) (decF (fetchM s.M s.pc).1 4) s.pc (s.R (decF (fetchM s.M s.pc).1 2).toNat) (s.T (decF (fetchM s.M s.pc).1 2).toNat) (s.R (decF (fetchM s.M s.pc).1 3).toNat) (s.T (decF (fetchM s.M s.pc).1 3).toNat)
  have ht := doS_tr { s with pc := uw (s.pc + 4) } (decF (fetchM s.M s.pc).1 0) (decF (fetchM s.M s.pc).1 1) (decF (fetchM s.M s.pc).1 4) s.pc (s.R (decF (fetchM s.M s.pc).1 2).toNat) (s.T (decF (fetchM s.M s.pc).1 2).toNat) (s.R (decF (fetchM s.M s.pc).1 3).toNat) (s.T (decF (fetchM s.M s.pc).1 3).toNat)
  refine ⟨?_, hd.2⟩
  show (insS s _).1.told.length ≤ ((insS s _).1.tr ++ _).length
  have e1 : (insS s (fetchM s.M s.pc).1).1.tr = s.tr := ht
  have e2 : (insS s (fetchM s.M s.pc).1).1.told.length ≤ s.told.length + 1 := hd.1
  rw [e1, List.length_append]
  simp only [List.length_cons, List.length_nil]
  omega
/-! ### runs -/
def runL (s : Cst) : Nat → Cst × Int
  | 0 => (s, 52)
  | k + 1 => if (stepS s).2 ≠ 0 then stepS s else if (stepS s).1.over = true then stepS s else runL (stepS s).1 k
def runS (s : Cst) (fuel : Int) : Cst × Int := if s.over = true then (s, 50) else if fuel < 0 then (s, 2) else if fuel > 1048576 then (s, 2) else runL s fuel.toNat
/-- What comes of a machine: the state, the answer. -/
def MoveR (X : Mach) (w0 w : World) (S : Nat → Prop) (cb : Nat) (r : Cst × Int) (e : Ending) (w' : World) : Prop :=
  e = .returned (i64v r.2) ∧ But S w w' ∧ ∃ S', Grow S S' w ∧ CA X w0 w' S' cb r.1
theorem MoveR.trans {X : Mach} {w0 w w1 w2 : World} {S S1 : Nat → Prop} {cb : Nat} {r : Cst × Int} {e : Ending} (hb : But S w w1) (hg : Grow S S1 w) (h : MoveR X w0 w1 S1 cb r e w2) : MoveR X w0 w S cb r e w2 := by
  obtain ⟨he, b2, S2, g2, c2⟩ := h
  exact ⟨he, hb.step b2 fun k hk h1 => (hg k h1).elim id fun h2 => absurd hk (by omega), S2, hg.trans g2 hb.size, c2⟩
theorem over_at {X : Mach} {w0 w : World} {S : Nat → Prop} {cb : Nat} {s : Cst} (h : CA X w0 w S cb s) : w.cell? ⟨cb, 66, none⟩ = some (.bool s.over) := by
  obtain ⟨a, b, mb, pt, pr, ct, cr, cs, h⟩ := h
  exact h.cell h.cc.ov
set_option maxHeartbeats 3200000 in
theorem cpu_Run_ok {m0 : Nat} {w0 w : World} {S : Nat → Prop} {cb : Nat} {s : Cst} (h : CA (mProg m0) w0 w S cb s) (htl : s.told.length ≤ s.tr.length) (fuel : Int) :
    Calls Tryz.prog sacristy_cpu_Cpu_Run.N #[.pointer (some ⟨cb, 0, none⟩), i64v fuel] w (MoveR (mProg m0) w0 w S cb (runS s fuel)) := by
  refine sacristy_cpu_Cpu_Run.calls ?_
  unfold sacristy_cpu_Cpu_Run.vc
  refine ⟨_, ptr_nil (by kernel_rfl) _ _ _, cnd_false rfl (Deref_some rfl ⟨_, over_at h, ?_⟩)⟩
  have stay : ∀ k : Int, runS s fuel = (s, k) → MoveR (mProg m0) w0 w S cb (runS s fuel) (.returned (i64v k)) w := fun k hk => by
    rw [hk]; exact ⟨rfl, But.refl _ _, S, Grow.refl _ _, h⟩
  refine cnd_of (fun h1 => stay _ (by unfold runS; rw [if_pos h1])) fun h1 => cnd_of (fun h2 => stay _ (by unfold runS; rw [if_neg (by rw [h1]; decide), if_pos (of_decide_eq_true h2)])) fun h2 => cnd_of (fun h3 => stay _ (by unfold runS; rw [if_neg (by rw [h1]; decide), if_neg (of_decide_eq_false h2), if_pos (of_decide_eq_true h3)])) fun h3 => ?_
  have h2 := of_decide_eq_false h2
  have h3 := of_decide_eq_false h3
  have hr : runS s fuel = runL s fuel.toNat := by unfold runS; rw [if_neg (by rw [h1]; decide), if_neg h2, if_neg h3]
  rw [hr]
  refine ⟨fun vs W => ∃ (k : Nat) (q : Cst), vs = [.int .i64 k] ∧ k ≤ fuel.toNat ∧ runL s fuel.toNat = runL q (fuel.toNat - k) ∧ q.told.length ≤ q.tr.length ∧ But S w W ∧ ∃ S1, Grow S S1 w ∧ CA (mProg m0) w0 W S1 cb q, fun vs _ => match vs with | [.int _ k] => (fuel.toNat - k.toNat) | _ => 0, ⟨0, s, rfl, Nat.zero_le _, rfl, htl, But.refl _ _, S, Grow.refl _ _, h⟩, ?_⟩
  rintro g i W ⟨k, q, hs, hk, he, hq, hb, S1, hg, hc⟩
  simp only [List.cons.injEq, Value.int.injEq, true_and, and_true] at hs
  subst hs
  refine cnd_of (fun hlt => ?_) fun hlt => ?_
  · have hlt := of_decide_eq_true hlt
    have e1 : fuel.toNat - k = (fuel.toNat - (k + 1)) + 1 := by omega
    rw [e1, runL] at he
    refine (cpu_Step_ok hc hq).mono fun e W1 hst => ?_
    obtain ⟨he1, hb1, S2, hg2, hc2⟩ := hst
    refine ⟨_, he1, cnd_of (fun hn => ?_) fun hn => ?_⟩
    · have hn : (stepS q).2 ≠ 0 := by simpa using hn
      rw [he, if_pos hn]
      exact MoveR.trans hb hg ⟨rfl, hb1, S2, hg2, hc2⟩
    · have hn : (stepS q).2 = 0 := by simpa using hn
      rw [if_neg (by rw [hn]; decide)] at he
      refine Deref_some rfl ⟨_, over_at hc2, cnd_of (fun ho => ?_) fun ho => ?_⟩
      · rw [he, if_pos ho]
        exact MoveR.trans hb hg ⟨rfl, hb1, S2, hg2, hc2⟩
      · rw [if_neg (by rw [ho]; decide)] at he
        have hm := MoveR.trans (e := .returned (i64v (stepS q).2)) hb hg ⟨rfl, hb1, S2, hg2, hc2⟩
        obtain ⟨-, hb3, S3, hg3, hc3⟩ := hm
        have ei : IntKind.i64.wrap ((k : Int) + 1) = ((k + 1 : Nat) : Int) := by rw [i64_in (by omega) (by omega)]; rfl
        rw [ei]
        exact ⟨⟨k + 1, (stepS q).1, rfl, by omega, he, (stepS_keeps hq).1, hb3, S3, hg3, hc3⟩, by show fuel.toNat - (k + 1) < fuel.toNat - k; omega⟩
  · have hlt := of_decide_eq_false hlt
    have e0 : fuel.toNat - k = 0 := by omega
    rw [e0, runL] at he
    rw [he]
    exact ⟨rfl, hb, S1, hg, hc⟩
end Go.Proofs.YtcnnnlhoiodeaaaGreat

/-
CpuApart, the plain part: what is not tainted does not hang on what is.
Conditions: each theorem's hypotheses.
-/
namespace Go.Proofs.YtcnnnlhoiodeaaaGreat
open Go Go.Vc Go.RowKit
set_option maxRecDepth 100000

/-- Bytes that are the same but for tainted ones. -/
def BRel : List Bool → List Int → List Int → Prop
  | [], [], [] => True
  | t :: ts, a :: xs, b :: bs => (t = false → a = b) ∧ BRel ts xs bs
  | _, _, _ => False
theorem BRel.same : ∀ {ts : List Bool} {xs : List Int}, ts.length = xs.length → BRel ts xs xs
  | [], [], _ => trivial
  | t :: ts, a :: xs, h => ⟨fun _ => rfl, BRel.same (by simpa using h)⟩
  | [], a :: xs, h => by simp at h
  | t :: ts, [], h => by simp at h
theorem BRel.append : ∀ {ts : List Bool} {xs bs : List Int} {ts' : List Bool} {xs' bs' : List Int}, BRel ts xs bs → BRel ts' xs' bs' → BRel (ts ++ ts') (xs ++ xs') (bs ++ bs')
  | [], [], [], _, _, _, _, h' => h'
  | t :: ts, a :: xs, b :: bs, _, _, _, h, h' => ⟨h.1, h.2.append h'⟩
  | [], a :: xs, _, _, _, _, h, _ => by simp [BRel] at h
  | [], [], b :: bs, _, _, _, h, _ => by simp [BRel] at h
  | t :: ts, [], _, _, _, _, h, _ => by simp [BRel] at h
  | t :: ts, a :: xs, [], _, _, _, h, _ => by simp [BRel] at h
theorem BRel.take : ∀ (n : Nat) {ts : List Bool} {xs bs : List Int}, BRel ts xs bs → BRel (ts.take n) (xs.take n) (bs.take n)
  | 0, _, _, _, _ => by simp [BRel]
  | n + 1, [], [], [], _ => trivial
  | n + 1, t :: ts, a :: xs, b :: bs, h => ⟨h.1, h.2.take n⟩
  | n + 1, [], a :: xs, _, h => by simp [BRel] at h
  | n + 1, [], [], b :: bs, h => by simp [BRel] at h
  | n + 1, t :: ts, [], _, h => by simp [BRel] at h
  | n + 1, t :: ts, a :: xs, [], h => by simp [BRel] at h
theorem BRel.drop : ∀ (n : Nat) {ts : List Bool} {xs bs : List Int}, BRel ts xs bs → BRel (ts.drop n) (xs.drop n) (bs.drop n)
  | 0, _, _, _, h => by simpa using h
  | n + 1, [], [], [], _ => trivial
  | n + 1, t :: ts, a :: xs, b :: bs, h => by simpa using h.2.drop n
  | n + 1, [], a :: xs, _, h => by simp [BRel] at h
  | n + 1, [], [], b :: bs, h => by simp [BRel] at h
  | n + 1, t :: ts, [], _, h => by simp [BRel] at h
  | n + 1, t :: ts, a :: xs, [], h => by simp [BRel] at h
theorem BRel.eq : ∀ {ts : List Bool} {xs bs : List Int}, BRel ts xs bs → ts.any id = false → xs = bs
  | [], [], [], _, _ => rfl
  | t :: ts, a :: xs, b :: bs, h, ha => by
    simp only [List.any_cons, Bool.or_eq_false_iff, id] at ha
    rw [h.1 ha.1, h.2.eq ha.2]
  | [], a :: xs, _, h, _ => by simp [BRel] at h
  | [], [], b :: bs, h, _ => by simp [BRel] at h
  | t :: ts, [], _, h, _ => by simp [BRel] at h
  | t :: ts, a :: xs, [], h, _ => by simp [BRel] at h
theorem BRel.rep {t : Bool} : ∀ {l l' : List Int}, l.length = l'.length → (t = false → l = l') → BRel (List.replicate l.length t) l l'
  | [], [], _, _ => trivial
  | a :: l, b :: l', h, e => ⟨fun ht => by have := e ht; simp at this; exact this.1, BRel.rep (by simpa using h) fun ht => by have := e ht; simp at this; exact this.2⟩
  | [], b :: l', h, _ => by simp at h
  | a :: l, [], h, _ => by simp at h
theorem BRel.at : ∀ {ts : List Bool} {xs bs : List Int} (j : Nat), BRel ts xs bs → ts[j]? = some false → xs[j]? = bs[j]?
  | [], _, _, j, _, h => by simp at h
  | t :: ts, a :: xs, b :: bs, 0, h, ht => by
    have : t = false := by simpa using ht
    simp [h.1 this]
  | t :: ts, a :: xs, b :: bs, j + 1, h, ht => by simpa using h.2.at j (by simpa using ht)
  | t :: ts, [], _, _, h, _ => by simp [BRel] at h
  | t :: ts, a :: xs, [], _, h, _ => by simp [BRel] at h
structure PtRel (p q : Pt) : Prop where
  r : p.r = q.r
  ts : p.ts = q.ts
  code : p.r.k = 1 → p.bs = q.bs
  bs : BRel p.ts p.bs q.bs
def MRel : List Pt → List Pt → Prop
  | [], [] => True
  | p :: a, q :: b => PtRel p q ∧ MRel a b
  | _, _ => False
theorem MRel.find : ∀ {a b : List Pt}, MRel a b → ∀ (x n : Int), (findM a x n = none ∧ findM b x n = none) ∨ ∃ i p q, findM a x n = some (i, p) ∧ findM b x n = some (i, q) ∧ PtRel p q
  | [], [], _, _, _ => .inl ⟨rfl, rfl⟩
  | p :: a, q :: b, h, x, n => by
    unfold findM
    rw [← h.1.r]
    by_cases hh : hasR p.r x n = true
    · rw [if_pos hh, if_pos hh]; exact .inr ⟨0, p, q, rfl, rfl, h.1⟩
    · rw [if_neg hh, if_neg hh]
      rcases h.2.find x n with ⟨e1, e2⟩ | ⟨i, p', q', e1, e2, e3⟩
      · rw [e1, e2]; exact .inl ⟨rfl, rfl⟩
      · rw [e1, e2]; exact .inr ⟨i + 1, p', q', rfl, rfl, e3⟩
  | [], q :: b, h, _, _ => by simp [MRel] at h
  | p :: a, [], h, _, _ => by simp [MRel] at h
theorem MRel.set : ∀ {a b : List Pt} (i : Nat) {p q : Pt}, MRel a b → PtRel p q → MRel (a.set i p) (b.set i q)
  | [], [], _, _, _, _, _ => by simp [MRel]
  | p :: a, q :: b, 0, _, _, h, hp => ⟨hp, h.2⟩
  | p :: a, q :: b, i + 1, _, _, h, hp => ⟨h.1, h.2.set i hp⟩
  | [], q :: b, _, _, _, h, _ => by simp [MRel] at h
  | p :: a, [], _, _, _, h, _ => by simp [MRel] at h
theorem MRel.same : ∀ {a : List Pt}, (∀ p ∈ a, p.ts.length = p.bs.length) → MRel a a
  | [], _ => trivial
  | p :: a, h => ⟨⟨rfl, rfl, fun _ => rfl, BRel.same (h p (by simp))⟩, MRel.same fun q hq => h q (by simp [hq])⟩
theorem PtRel.lay {p q : Pt} (h : PtRel p q) (o : Nat) {l l' : List Int} {t : Bool} (hl : l.length = l'.length) (he : t = false → l = l') (hk : p.r.k = 1 → l = l') : PtRel (layP p o l t) (layP q o l' t) := by
  refine ⟨h.r, ?_, fun hc => ?_, ?_⟩
  · show putL p.ts o (List.replicate l.length t) = putL q.ts o (List.replicate l'.length t)
    rw [h.ts, hl]
  · show putL p.bs o l = putL q.bs o l'
    rw [h.code hc, hk hc]
  · show BRel (putL p.ts o (List.replicate l.length t)) (putL p.bs o l) (putL q.bs o l')
    unfold putL
    rw [List.length_replicate, ← hl]
    exact ((h.bs.take o).append (BRel.rep hl he)).append (h.bs.drop _)
theorem MRel.load {a b : List Pt} (h : MRel a b) (x n : Int) : (loadM b x n).2 = (loadM a x n).2 ∧ ((loadM a x n).2.1 = false → (loadM b x n).1 = (loadM a x n).1) := by
  unfold loadM
  by_cases hn : n < 1 ∨ 8 < n
  · rw [if_pos hn, if_pos hn]; exact ⟨rfl, fun _ => rfl⟩
  rw [if_neg hn, if_neg hn]
  rcases h.find x n with ⟨e1, e2⟩ | ⟨i, p, q, e1, e2, e3⟩
  · rw [e1, e2]; exact ⟨rfl, fun _ => rfl⟩
  · rw [e1, e2]
    simp only
    have ho : offR q x = offR p x := by unfold offR; rw [e3.r]
    rw [← e3.r, ← e3.ts, ho]
    by_cases hk : p.r.k = 1
    · rw [if_pos hk, if_pos hk]; exact ⟨rfl, fun _ => rfl⟩
    · rw [if_neg hk, if_neg hk]
      refine ⟨rfl, fun ht => ?_⟩
      show valB ((q.bs.drop (offR p x)).take n.toNat) = valB ((p.bs.drop (offR p x)).take n.toNat)
      rw [((e3.bs.drop (offR p x)).take n.toNat).eq ht]
theorem MRel.fetch {a b : List Pt} (h : MRel a b) (x : Int) : fetchM b x = fetchM a x := by
  unfold fetchM
  by_cases hx : x % 4 = 0
  · rw [if_pos hx, if_pos hx]
    rcases h.find x 4 with ⟨e1, e2⟩ | ⟨i, p, q, e1, e2, e3⟩
    · rw [e1, e2]
    · rw [e1, e2]
      simp only
      have ho : offR q x = offR p x := by unfold offR; rw [e3.r]
      rw [← e3.r, ho]
      by_cases hk : p.r.k = 1
      · rw [if_pos hk, if_pos hk, e3.code hk]
      · rw [if_neg hk, if_neg hk]
  · rw [if_neg hx, if_neg hx]
theorem MRel.store {a b : List Pt} (h : MRel a b) (x n : Int) {v v' : Int} {t : Bool} (he : t = false → v = v') : (storeM b x n v' t).2 = (storeM a x n v t).2 ∧ MRel (storeM a x n v t).1 (storeM b x n v' t).1 := by
  unfold storeM
  by_cases hn : n < 1 ∨ 8 < n
  · rw [if_pos hn, if_pos hn]; exact ⟨rfl, h⟩
  rw [if_neg hn, if_neg hn]
  rcases h.find x n with ⟨e1, e2⟩ | ⟨i, p, q, e1, e2, e3⟩
  · rw [e1, e2]; exact ⟨rfl, h⟩
  · rw [e1, e2]
    simp only
    have ho : offR q x = offR p x := by unfold offR; rw [e3.r]
    rw [← e3.r, ho]
    by_cases hk : p.r.k = 3 ∨ p.r.k = 4
    · rw [if_pos hk, if_pos hk]
      exact ⟨rfl, h.set i (e3.lay _ (by simp [lowB]) (fun ht => by rw [he ht]) fun hc => absurd hc (by omega))⟩
    · rw [if_neg hk, if_neg hk]; exact ⟨rfl, h⟩
theorem MRel.put {a b : List Pt} (h : MRel a b) (x : Int) {l l' : List Int} {t : Bool} (hl : l.length = l'.length) (he : t = false → l = l') (hk : ∀ i p, findM a x l.length = some (i, p) → p.r.k = 1 → l = l') : MRel (setM a x l t).1 (setM b x l' t).1 := by
  unfold setM
  rw [← hl]
  rcases h.find x l.length with ⟨e1, e2⟩ | ⟨i, p, q, e1, e2, e3⟩
  · rw [e1, e2]; exact h
  · have hk := hk i p e1
    rw [e1, e2]
    simp only
    have ho : offR q x = offR p x := by unfold offR; rw [e3.r]
    rw [ho]
    exact h.set i (e3.lay _ hl he hk)
/-! ### two machines -/
structure Rel (s t : Cst) : Prop where
  pc : s.pc = t.pc
  T : s.T = t.T
  R : ∀ i, s.T i = false → s.R i = t.R i
  over : s.over = t.over
  code : s.code = t.code
  e : s.e = t.e
  told : s.told = t.told
  tr : s.tr = t.tr
  M : MRel s.M t.M
theorem Rel.setS {s t : Cst} (h : Rel s t) (d : Int) {v v' : Int} {ta : Bool} (hv : ta = false → v = v') : Rel (setS s d v ta) (setS t d v' ta) := by
  unfold YtcnnnlhoiodeaaaGreat.setS
  by_cases hd : d > 0
  · rw [if_pos hd, if_pos hd]
    refine ⟨h.pc, by show upd s.T _ _ = upd t.T _ _; rw [h.T], fun i hi => ?_, h.over, h.code, h.e, h.told, h.tr, h.M⟩
    show upd s.R _ _ i = upd t.R _ _ i
    have hi : upd s.T d.toNat ta i = false := hi
    by_cases hid : i = d.toNat
    · subst hid
      rw [upd_same] at hi
      rw [upd_same, upd_same, hv hi]
    · rw [upd_other _ _ hid] at hi
      rw [upd_other _ _ hid, upd_other _ _ hid, h.R i hi]
  · rw [if_neg hd, if_neg hd]; exact h
theorem Rel.setPc {s t : Cst} (h : Rel s t) (v : Int) : Rel { s with pc := v } { t with pc := v } := ⟨rfl, h.T, h.R, h.over, h.code, h.e, h.told, h.tr, h.M⟩
/-- What comes of an instruction in two machines. -/
def Same3 (A B : Cst × Sn × Int) : Prop := A.2.1.t = false → B.2.1 = A.2.1 ∧ B.2.2 = A.2.2 ∧ A.1.pc = B.1.pc ∧ A.1.over = B.1.over ∧ A.1.code = B.1.code ∧ A.1.tr = B.1.tr ∧ (A.2.1.k ≠ 5 → A.1.told = B.1.told) ∧ (A.1.told.map (·.1) = B.1.told.map (·.1) → Rel A.1 B.1)
theorem Same3.of {s t : Cst} {x : Sn} {e : Int} (h : Rel s t) : Same3 (s, x, e) (t, x, e) := fun _ => ⟨rfl, rfl, h.pc, h.over, h.code, h.tr, fun _ => h.told, fun _ => h⟩
theorem doS_rel {s t : Cst} (h : Rel s t) (o d v pc : Int) {ra ra' rb rb' : Int} {ta tb : Bool} (ha : ta = false → ra = ra') (hb : tb = false → rb = rb') : Same3 (doS s o d v pc ra ta rb tb) (doS t o d v pc ra' ta rb' tb) := by
  have hor : (ta || tb) = false → ra = ra' ∧ rb = rb' := fun e => by
    rw [Bool.or_eq_false_iff] at e
    exact ⟨ha e.1, hb e.2⟩
  unfold doS
  by_cases h1 : o ≤ 14
  · rw [if_pos h1, if_pos h1]
    have hset : Rel (YtcnnnlhoiodeaaaGreat.setS s d (opv o ra rb) (ta || tb)) (YtcnnnlhoiodeaaaGreat.setS t d (opv o ra' rb') (ta || tb)) := h.setS d fun e => by rw [(hor e).1, (hor e).2]
    by_cases hdv : isDiv o = true
    · rw [if_pos hdv, if_pos hdv]
      intro ht
      have ht : (ta || tb) = false := ht
      obtain ⟨e1, e2⟩ := hor ht
      subst e1; subst e2
      exact Same3.of hset ht
    · rw [if_neg hdv, if_neg hdv]; exact Same3.of hset
  rw [if_neg h1, if_neg h1]
  by_cases h2 : o ≤ 22
  · rw [if_pos h2, if_pos h2]; exact Same3.of (h.setS d fun e => by rw [ha e])
  rw [if_neg h2, if_neg h2]
  by_cases h3 : o ≤ 23
  · rw [if_pos h3, if_pos h3]; exact Same3.of (h.setS d fun _ => rfl)
  rw [if_neg h3, if_neg h3]
  by_cases h4 : o ≤ 25
  · rw [if_pos h4, if_pos h4]
    intro ht
    have ht : ta = false := ht
    have e := ha ht
    subst e
    obtain ⟨m1, m2⟩ := h.M.load (uw (ra + uw v)) (sizeS o)
    rw [m1]
    exact Same3.of (h.setS d fun e => (m2 (Bool.or_eq_false_iff.1 e).1).symm) ht
  rw [if_neg h4, if_neg h4]
  by_cases h5 : o ≤ 27
  · rw [if_pos h5, if_pos h5]
    intro ht
    have ht : ta = false := ht
    have e := ha ht
    subst e
    obtain ⟨m1, m2⟩ := h.M.store (uw (ra + uw v)) (sizeS o) (v := rb) (v' := rb') (t := ta || tb) fun e => (hor e).2
    rw [m1]
    exact Same3.of (s := { s with M := _ }) (t := { t with M := _ }) ⟨h.pc, h.T, h.R, h.over, h.code, h.e, h.told, h.tr, m2⟩ ht
  rw [if_neg h5, if_neg h5]
  by_cases h6 : o ≤ 31
  · rw [if_pos h6, if_pos h6]
    intro ht
    have ht : (ta || tb) = false := ht
    obtain ⟨e1, e2⟩ := hor ht
    subst e1; subst e2
    have hr : Rel (if goesS o ra rb = true then { s with pc := uw (pc + uw v) } else s) (if goesS o ra rb = true then { t with pc := uw (pc + uw v) } else t) := by
      split
      · exact h.setPc _
      · exact h
    exact Same3.of hr ht
  rw [if_neg h6, if_neg h6]
  by_cases h7 : o ≤ 32
  · rw [if_pos h7, if_pos h7]; exact Same3.of ((h.setS d fun _ => rfl).setPc _)
  rw [if_neg h7, if_neg h7]
  by_cases h8 : o ≤ 33
  · rw [if_pos h8, if_pos h8]
    intro ht
    have ht : ta = false := ht
    have e := ha ht
    subst e
    exact Same3.of ((h.setS d fun _ => rfl).setPc _) ht
  rw [if_neg h8, if_neg h8]
  by_cases h9 : s.R 17 > 5
  · rw [if_pos h9]
    intro ht
    have ht : s.T 17 = false := ht
    have e := h.R 17 ht
    rw [← e, ← h.T, if_pos h9]
    exact Same3.of h ht
  rw [if_neg h9]
  by_cases h10 : s.R 17 = 4
  · rw [if_pos h10]
    intro ht
    have ht : s.T 17 = false := ht
    have e := h.R 17 ht
    rw [← e, ← h.T, if_neg h9, if_pos h10]
    refine ⟨rfl, rfl, h.pc, h.over, h.code, h.tr, fun hk => absurd rfl hk, fun hm => ?_⟩
    have hm : (s.told ++ [(s.R 10, s.T 10)]).map (·.1) = (t.told ++ [(t.R 10, s.T 10)]).map (·.1) := hm
    rw [h.told, List.map_append, List.map_append] at hm
    have h10' : s.R 10 = t.R 10 := by simpa using List.append_cancel_left hm
    refine ⟨h.pc, rfl, fun i hi => ?_, h.over, h.code, h.e, ?_, h.tr, h.M⟩
    · have hi : upd s.T 10 false i = false := hi
      by_cases hid : i = 10
      · subst hid; exact h10'
      · rw [upd_other _ _ hid] at hi; exact h.R i hi
    · show s.told ++ [(s.R 10, s.T 10)] = t.told ++ [(t.R 10, s.T 10)]
      rw [h.told, h10']
  rw [if_neg h10]
  by_cases h11 : s.R 17 < 4
  · rw [if_pos h11]
    intro ht
    have ht : s.T 17 = false := ht
    have e := h.R 17 ht
    rw [← e, ← h.T, if_neg h9, if_neg h10, if_pos h11]
    exact ⟨rfl, rfl, rfl, rfl, rfl, h.tr, fun _ => h.told, fun _ => ⟨rfl, rfl, h.R, rfl, rfl, h.e, h.told, h.tr, h.M⟩⟩
  rw [if_neg h11]
  intro ht
  have ht : s.T 17 = false := ht
  have e := h.R 17 ht
  rw [← e, ← h.T, if_neg h9, if_neg h10, if_neg h11]
  exact Same3.of h ht
/-- A step of two machines. -/
theorem rel_step {s t s' : Cst} (h : Rel s t) (hs : stepS s = (s', 0)) : ∃ x, s'.tr = s.tr ++ [x] ∧ (x.t = false → ∃ t', stepS t = (t', 0) ∧ t'.tr = t.tr ++ [x] ∧ s'.pc = t'.pc ∧ s'.over = t'.over ∧ s'.code = t'.code ∧ (x.k ≠ 5 → s'.told = t'.told) ∧ (s'.told.map (·.1) = t'.told.map (·.1) → Rel s' t')) := by
  unfold stepS at hs
  by_cases h1 : s.over = true
  · rw [if_pos h1] at hs; exact absurd (Prod.mk.inj hs).2 (by decide)
  rw [if_neg h1] at hs
  by_cases h2 : 1048576 ≤ s.tr.length
  · rw [if_pos h2] at hs; exact absurd (Prod.mk.inj hs).2 (by decide)
  rw [if_neg h2] at hs
  by_cases h3 : (fetchM s.M s.pc).2 ≠ 0
  · rw [if_pos h3] at hs; exact absurd (Prod.mk.inj hs).2 h3
  rw [if_neg h3] at hs
  by_cases h4 : decE (fetchM s.M s.pc).1 ≠ 0
  · rw [if_pos h4] at hs; exact absurd (Prod.mk.inj hs).2 h4
  rw [if_neg h4] at hs
  by_cases h5 : (insS s (fetchM s.M s.pc).1).2.2 ≠ 0
  · rw [if_pos h5] at hs; exact absurd (Prod.mk.inj hs).2 h5
  rw [if_neg h5] at hs
  have hf : fetchM t.M t.pc = fetchM s.M s.pc := by rw [← h.pc]; exact h.M.fetch s.pc
  generalize hw : (fetchM s.M s.pc).1 = w at hs h4 h5
  have hI : Same3 (insS s w) (insS t w) := by
    have key := doS_rel (h.setPc (uw (s.pc + 4))) (decF w 0) (decF w 1) (decF w 4) s.pc (h.R (decF w 2).toNat) (h.R (decF w 3).toNat)
    have eT : ∀ i, t.T i = s.T i := fun i => by rw [h.T]
    unfold insS
    rw [eT (decF w 2).toNat, eT (decF w 3).toNat, ← h.pc]
    exact key
  have htr : (insS s w).1.tr = s.tr := doS_tr _ _ _ _ _ _ _ _ _
  obtain ⟨rfl, -⟩ := Prod.mk.inj hs
  refine ⟨(insS s w).2.1, by show (insS s w).1.tr ++ _ = _; rw [htr], fun ht => ?_⟩
  obtain ⟨i1, i2, i3, i4, i5, i6, i7, i8⟩ := hI ht
  refine ⟨{ (insS t w).1 with tr := (insS t w).1.tr ++ [(insS t w).2.1] }, ?_, ?_, i3, i4, i5, i7, fun hm => ?_⟩
  · unfold stepS
    rw [if_neg (by rw [← h.over]; exact h1), if_neg (by rw [← h.tr]; exact h2), hf, if_neg h3, hw, if_neg h4, if_neg (by rw [i2]; exact h5)]
  · show (insS t w).1.tr ++ [(insS t w).2.1] = _
    rw [i1, ← i6, htr, h.tr]
  · have r := i8 hm
    exact ⟨r.pc, r.T, r.R, r.over, r.code, r.e, r.told, by show (insS s w).1.tr ++ _ = (insS t w).1.tr ++ _; rw [i1, i6], r.M⟩
end Go.Proofs.YtcnnnlhoiodeaaaGreat

/-
The examples of chapter 05.
Conditions: each theorem's hypotheses.
-/
namespace Go.Proofs.YtcnnnlhoiodeaaaGreat
open Go Go.Vc Go.RowKit
set_option maxRecDepth 100000

def exF (i j : Nat) : Int := (([15, 10, 0, 0, 7, 15, 17, 0, 0, 4, 34, 0, 0, 0, 0, 15, 17, 0, 0, 0, 34, 0, 0, 0, 0] : List Int)[5 * i + j]?).getD 0
def exU : Su := ⟨5, exF, [], []⟩
def jaF (i j : Nat) : Int := (([32, 0, 0, 0, 0] : List Int)[5 * i + j]?).getD 0
def jaU : Su := ⟨1, jaF, [], []⟩
theorem ex_run : let r := runS (initS exU) 100; r.2 = 0 ∧ r.1.over = true ∧ r.1.code = 0 ∧ r.1.e = 0 ∧ r.1.told = [(7, false)] ∧ r.1.tr.length = 5 := by
  refine ⟨?_, ?_, ?_, ?_, ?_, ?_⟩ <;> kernel_rfl
theorem ja_run : let r := runS (initS jaU) 100; r.2 = 52 ∧ r.1.tr.length = 100 := by
  refine ⟨?_, ?_⟩ <;> kernel_rfl
theorem introw_of {w : World} {b n : Nat} {cs : List Value} {F : Nat → Nat → Int} (h : Has w b cs) (hc : ∀ i, i < n → ∀ j k, insK[j]? = some k → cs[i * 5 + j]? = some (.int k (F i j)) ∧ (Lit.int k (F i j)).wf = true) : IntRow w (some ⟨b, 0, none⟩) n insK F := by
  intro i hi
  refine ⟨_, rfl, fun j k hk => ?_⟩
  obtain ⟨h1, h2⟩ := hc i hi j k hk
  refine ⟨?_, h2⟩
  have := h.cell h1
  show w.cell? (((⟨b, 0, none⟩ : Addr).add (i * 5)).add j) = _
  rw [add_block, add_block, Nat.zero_add]
  exact this
theorem ex_row {w : World} {b : Nat} (h : Has w b [u8v 15, u8v 10, u8v 0, u8v 0, i64v 7, u8v 15, u8v 17, u8v 0, u8v 0, i64v 4, u8v 34, u8v 0, u8v 0, u8v 0, i64v 0, u8v 15, u8v 17, u8v 0, u8v 0, i64v 0, u8v 34, u8v 0, u8v 0, u8v 0, i64v 0]) : IntRow w (some ⟨b, 0, none⟩) 5 insK exF := by
  refine introw_of h fun i hi j k hk => ?_
  have hj : j < 5 := (List.getElem?_eq_some_iff.1 hk).1
  rcases i with _ | _ | _ | _ | _ | i <;> first | omega | (rcases j with _ | _ | _ | _ | _ | j <;> first | omega | (cases hk; exact ⟨rfl, by decide⟩))
theorem ja_row {w : World} {b : Nat} (h : Has w b [u8v 32, u8v 0, u8v 0, u8v 0, i64v 0]) : IntRow w (some ⟨b, 0, none⟩) 1 insK jaF := by
  refine introw_of h fun i hi j k hk => ?_
  have hj : j < 5 := (List.getElem?_eq_some_iff.1 hk).1
  rcases i with _ | i <;> first | omega | (rcases j with _ | _ | _ | _ | _ | j <;> first | omega | (cases hk; exact ⟨rfl, by decide⟩))
theorem ex_ok : SuOk exU := ⟨by decide, by decide, by decide, by decide, fun k c h => by simp [exU] at h, fun k c h => by simp [exU] at h⟩
theorem ja_ok : SuOk jaU := ⟨by decide, by decide, by decide, by decide, fun k c h => by simp [jaU] at h, fun k c h => by simp [jaU] at h⟩
theorem ptr_nen {t : TypeId} (h : Tryz.prog.underlying t = some (.pointer (Tryz.prog.pointee t))) (p : Option Addr) (xo yo : Operand) : EqRuns Tryz.prog .neq t xo yo (.pointer p) (.pointer none) (!p.isNone) := by
  intro w
  rw [eqGuard_at_pointer]
  simp only [Sem.run_bind, Sem.run_pure, Result.andThen_ok]
  exact run_neq_pointer_nil w _ p h
theorem tal_eq (a : Int) (t : Bool) (a' : Int) (t' : Bool) (xo yo : Operand) : EqRuns Tryz.prog .eql 120 xo yo (.agg #[u64v a, .bool t]) (.agg #[u64v a', .bool t']) (a == a' && t == t') := by
  have := (eq_flat (P := Tryz.prog) (vs := [u64v a, .bool t]) (us := [u64v a', .bool t']) xo yo Tryz.underlying120 (by kernel_rfl) (by kernel_rfl) (by kernel_rfl)).1
  simpa [eqL, eq1] using this
theorem init_told (u : Su) : ∀ k, (regI u k).told = [] ∧ (regI u k).tr = [] ∧ (regI u k).over = false ∧ (regI u k).M = memI u u.bys.length
  | 0 => ⟨rfl, rfl, rfl, rfl⟩
  | k + 1 => by
    have ih := init_told u k
    unfold regI
    split
    · rename_i c _
      obtain ⟨h1, h2, h3, -, -, h6, -⟩ := setS_M (regI u k) (c.a % 32) c.v c.t
      rw [h1, h2, h3, h6]; exact ih
    · exact ih
theorem init_keeps (u : Su) : (initS u).told.length ≤ (initS u).tr.length := by
  rw [show (initS u).told = [] from (init_told u _).1]
  exact Nat.zero_le _
theorem runL_keeps : ∀ (k : Nat) {s : Cst}, s.told.length ≤ s.tr.length → (runL s k).1.told.length ≤ (runL s k).1.tr.length
  | 0, s, h => h
  | k + 1, s, h => by
    have h' := (stepS_keeps h).1
    unfold runL
    split
    · exact h'
    · split
      · exact h'
      · exact runL_keeps k h'
theorem runS_keeps {s : Cst} (h : s.told.length ≤ s.tr.length) (f : Int) : (runS s f).1.told.length ≤ (runS s f).1.tr.length := by
  unfold runS
  split
  · exact h
  · split
    · exact h
    · split
      · exact h
      · exact runL_keeps _ h
set_option maxHeartbeats 3200000 in
theorem law05_alive_ok (w : World) : Calls Tryz.prog law05_alive.N #[] w (Gives (.bool true) w) := by
  obtain ⟨x1, x2, x3, x4, x5, x6⟩ := ex_run
  obtain ⟨j1, j2⟩ := ja_run
  refine law05_alive.calls ?_
  unfold law05_alive.vc
  intro w1 e1 w2 e2
  have T := ((Trk.start w).alloc e1).alloc e2
  refine T.setAll 1 rfl (by rfl) (ones rfl) fun w3 T3 => ?_
  refine ⟨_, _, _, _, _, _, _, _, _, ⟨T3.cell 1 rfl rfl, T3.cell 1 rfl rfl, T3.cell 1 rfl rfl, trivial⟩, ?_⟩
  refine (law05_Built_ok ex_ok (A := some ⟨w.heap.size, 0, none⟩) (B := none) (C := none) ⟨ex_row (T3.has 0 rfl), ERow.nil _ _, ERow.nil _ _⟩).mono fun e w4 ⟨x, mb, S, he, l4, c4, n4⟩ => ⟨_, _, he, ?_⟩
  refine ⟨_, ptr_nil (by kernel_rfl) _ _ _, cnd_false rfl ?_⟩
  refine (cpu_Run_ok c4 (init_keeps _) 100).mono fun e w5 ⟨he, b5, S1, g5, c5⟩ => ⟨_, he, ?_⟩
  rw [x1]
  refine cnd_false (by decide) ?_
  refine (cpu_Over_ok c5).mono fun e w6 ⟨he, l6⟩ => ⟨_, _, _, he, ?_⟩
  refine (cpu_Told_ok (c5.later l6)).mono fun e w7 ⟨tb, tc, he, l7, ho7⟩ => ⟨_, _, _, he, fun w8 e8 => ?_⟩
  have l8 : Later w7 w8 := e8 ▸ Later.alloc' w7 _
  have r8 : Has w8 w7.heap.size [u8v 32, u8v 0, u8v 0, u8v 0, i64v 0] := by rw [e8]; exact Has.new _ _ _
  refine (law05_Built_ok ja_ok (A := some ⟨w7.heap.size, 0, none⟩) (B := none) (C := none) ⟨ja_row r8, ERow.nil _ _, ERow.nil _ _⟩).mono fun e w9 ⟨y, mb2, S2, he, l9, c9, n9⟩ => ⟨_, _, he, ?_⟩
  refine ⟨_, ptr_nen (by kernel_rfl) _ _ _, cnd_true rfl ?_⟩
  refine (cpu_Run_ok c9 (init_keeps _) 100).mono fun e w10 ⟨he, b10, S3, g10, c10⟩ => ⟨_, he, ?_⟩
  have l69 : Later w5 w9 := ((l6.trans l7).trans l8).trans l9
  have z7 := Later.size (l6.trans l7)
  have z8 := Later.size l8
  have c10' := (c5.later l69).but b10 fun k h1 h2 => by
    have := (c5.new k h1).2
    have := n9 k h2
    omega
  have ho10 := OwnE.but (T := talT) (OwnS.later ho7 (l8.trans l9)) b10 fun k hk h2 => by
    have := (OwnS.lt ho7 hk).2
    have := n9 k h2
    omega
  rw [x2, x3, x4]
  rw [j1]
  refine cnd_true rfl (cnd_true (by decide) (cnd_true (by decide) ?_))
  have hrow := OwnE.row (T := talT) ho10
  rw [x5] at hrow ⊢
  obtain ⟨ad, rfl, h1, h2⟩ := tal_at hrow (k := 0) rfl
  rw [Nat.zero_mul, addr_add_zero] at h1 h2
  refine cnd_true (by decide) ⟨⟨Int.le_refl 0, by decide⟩, Deref_some rfl ⟨_, _, ⟨h1, h2, trivial⟩, _, tal_eq _ _ _ _ _ _, cnd_true (by decide) ?_⟩⟩
  refine (cpu_Trace_ok c10').mono fun e w11 ⟨b1, b2, he, l11, _⟩ => ⟨_, _, _, he, ?_⟩
  rw [x6]
  refine cnd_true (by decide) (cnd_true (by decide) ?_)
  refine (cpu_Trace_ok (c10.later l11)).mono fun e w12 ⟨b1, b2, he, l12, _⟩ => ⟨_, _, _, he, ?_⟩
  rw [j2]
  refine cnd_true (by decide) ?_
  refine (cpu_Step_ok (c10'.later (l11.trans l12)) (runS_keeps (init_keeps _) _)).mono fun e w13 ⟨he, b13, _⟩ => ⟨_, he, ?_⟩
  have : (stepS (runS (initS exU) 100).1).2 = 50 := by unfold stepS; rw [if_pos x2]
  rw [this]
  have q3 := Later.size T3.to
  have q4 := Later.size l4
  have q5 := b5.size
  have q9 := Later.size l9
  have u5 : Later w w5 := b5.later (T3.to.trans l4) fun k hk => by have := n4 k hk; omega
  have u10 : Later w w10 := b10.later (u5.trans l69) fun k hk => by have := n9 k hk; omega
  exact ⟨rfl, b13.later (u10.trans (l11.trans l12)) fun k hk => by
    rcases g5 k hk with hk | hk
    · have := n4 k hk; omega
    · omega⟩
end Go.Proofs.YtcnnnlhoiodeaaaGreat

/-
Two machines side by side.
Conditions: each theorem's hypotheses.
-/
namespace Go.Proofs.YtcnnnlhoiodeaaaGreat
open Go Go.Vc Go.RowKit
set_option maxRecDepth 100000

/-- Two machines side by side. -/
structure Two (X Y : Mach) (w1 w2 W : World) (S T : Nat → Prop) (x y : Nat) (s t : Cst) : Prop where
  a : CA X w1 W S x s
  b : CA Y w2 W T y t
  d : ∀ k, S k → ¬ T k
theorem Two.later {X Y : Mach} {w1 w2 W W' : World} {S T : Nat → Prop} {x y : Nat} {s t : Cst} (h : Two X Y w1 w2 W S T x y s t) (l : Later W W') : Two X Y w1 w2 W' S T x y s t := ⟨h.a.later l, h.b.later l, h.d⟩
theorem Two.left {X Y : Mach} {w1 w2 W W' : World} {S T : Nat → Prop} {x y : Nat} {s t : Cst} (h : Two X Y w1 w2 W S T x y s t) {r : Cst × Int} {e : Ending} (m : MoveR X w1 W S x r e W') : e = .returned (i64v r.2) ∧ (∀ w, Later w W → w.heap.size ≤ w1.heap.size → Later w W') ∧ ∃ S', Two X Y w1 w2 W' S' T x y r.1 t := by
  obtain ⟨he, hb, S', hg, hc⟩ := m
  refine ⟨he, fun w l hl => hb.later l fun k hk => Nat.le_trans hl (h.a.new k hk).1, S', hc, h.b.but hb fun k hk h2 => h.d k h2 hk, fun k h1 h2 => ?_⟩
  rcases hg k h1 with h3 | h3
  · exact h.d k h3 h2
  · have := (h.b.new k h2).2; omega
theorem Two.right {X Y : Mach} {w1 w2 W W' : World} {S T : Nat → Prop} {x y : Nat} {s t : Cst} (h : Two X Y w1 w2 W S T x y s t) {r : Cst × Int} {e : Ending} (m : MoveR Y w2 W T y r e W') : e = .returned (i64v r.2) ∧ (∀ w, Later w W → w.heap.size ≤ w2.heap.size → Later w W') ∧ ∃ T', Two X Y w1 w2 W' S T' x y s r.1 := by
  obtain ⟨he, hb, T', hg, hc⟩ := m
  refine ⟨he, fun w l hl => hb.later l fun k hk => Nat.le_trans hl (h.b.new k hk).1, T', h.a.but hb fun k hk h2 => h.d k hk h2, hc, fun k h1 h2 => ?_⟩
  rcases hg k h2 with h3 | h3
  · exact h.d k h1 h3
  · have := (h.a.new k h1).2; omega
end Go.Proofs.YtcnnnlhoiodeaaaGreat

/-
CpuApart: are told numbers alike, do two machines agree?
Conditions: each theorem's hypotheses.
-/
namespace Go.Proofs.YtcnnnlhoiodeaaaGreat
open Go Go.Vc Go.RowKit
set_option maxRecDepth 100000

theorem law05_alike_ok {A B : Option Addr} {ca cb : Nat} {l m : List (Int × Bool)} (w : World) (hA : ERow talT w A l) (hB : ERow talT w B m) (hl : l.length ≤ 2000000) : Calls Tryz.prog law05_alike.N #[.slice A l.length ca, .slice B m.length cb] w (Gives (.bool (decide (l.map (·.1) = m.map (·.1)))) w) := by
  refine law05_alike.calls ?_
  unfold law05_alike.vc
  refine cnd_of (fun h => ⟨?_, Later.refl _⟩) fun h => ?_
  · have hne : (l.length : Int) ≠ (m.length : Int) := by simpa using h
    rw [decide_eq_false fun e => hne (by have := congrArg List.length e; simp at this; omega)]
  have hlm : l.length = m.length := by
    have : ((l.length : Int) = (m.length : Int)) := by simpa using h
    omega
  refine ⟨fun vs W => ∃ k : Nat, vs = [.int .i64 k] ∧ k ≤ l.length ∧ Later w W ∧ (l.map (·.1)).take k = (m.map (·.1)).take k, fun vs _ => match vs with | [.int _ k] => (l.length - k.toNat) | _ => 0, ⟨0, rfl, Nat.zero_le _, Later.refl _, by simp⟩, ?_⟩
  rintro g i W ⟨k, hs, hk, lW, he⟩
  simp only [List.cons.injEq, Value.int.injEq, true_and, and_true] at hs
  subst hs
  refine cnd_of (fun q => ?_) fun q => ⟨?_, lW⟩
  · have q := of_decide_eq_true q
    have hkl : k < l.length := by omega
    have hx := List.getElem?_eq_getElem hkl
    have hy := List.getElem?_eq_getElem (l := m) (i := k) (by omega)
    generalize l[k] = x at hx
    generalize m[k]'(by omega) = y at hy
    obtain ⟨ad, rfl, -⟩ := tal_at hA hx
    obtain ⟨bd, rfl, -⟩ := tal_at hB hy
    have cA := fun W' (l' : Later W W') => tal_cells (hA.later (lW.trans l')) hx
    have cB := fun W' (l' : Later W W') => tal_cells (hB.later (lW.trans l')) hy
    refine ⟨⟨by omega, by omega⟩, Deref_some rfl ⟨_, fun W' l' => (cA W' l').1, ⟨by omega, by omega⟩, Deref_some rfl ⟨_, fun W' l' => (cB W' l').1, fun W' l' => cnd_of (fun hne => ⟨?_, lW.trans l'⟩) fun heq => ?_⟩⟩⟩
    · have hne : x.1 ≠ y.1 := by simpa using hne
      rw [decide_eq_false fun e => hne ?_]
      have := congrArg (fun z => z[k]?) e
      simpa [hx, hy] using this
    · have heq : x.1 = y.1 := by simpa using heq
      have ei : IntKind.i64.wrap ((k : Int) + 1) = ((k + 1 : Nat) : Int) := by rw [i64_in (by omega) (by omega)]; rfl
      rw [ei]
      refine ⟨⟨k + 1, rfl, by omega, lW.trans l', ?_⟩, by show l.length - (k + 1) < l.length - k; omega⟩
      rw [List.take_add_one, List.take_add_one, he]
      simp [hx, hy, heq]
  · have q := of_decide_eq_false q
    obtain rfl : k = l.length := by omega
    rw [decide_eq_true]
    have h1 : (l.map (·.1)).take l.length = l.map (·.1) := List.take_of_length_le (by simp)
    have h2 : (m.map (·.1)).take l.length = m.map (·.1) := List.take_of_length_le (by simp [hlm])
    rw [h1, h2] at he
    exact he
theorem MRel.at : ∀ {a b : List Pt} (i : Nat) {p : Pt}, MRel a b → a[i]? = some p → ∃ q, b[i]? = some q ∧ PtRel p q
  | p :: a, q :: b, 0, p', h, hp => ⟨q, rfl, by obtain rfl := Option.some.inj hp; exact h.1⟩
  | p :: a, q :: b, i + 1, p', h, hp => h.2.at i (by simpa using hp)
  | [], [], i, _, _, hp => by simp at hp
  | [], q :: b, _, _, h, _ => by simp [MRel] at h
  | p :: a, [], _, _, h, _ => by simp [MRel] at h
/-- A whole part. -/
theorem bytes_all6 {st : List Pt} (hs : StOk st) (hd : Sep st) {i : Nat} {p : Pt} (hi : st[i]? = some p) : bytesM st p.r.f p.r.s = (p.bs, p.ts, 0) := by
  have hp := hs.2 i p hi
  have m := mayR_facts hp.may
  have hh : hasR p.r p.r.f p.r.s = true := by
    simp only [hasR, Bool.and_eq_true, decide_eq_true_eq]
    omega
  unfold bytesM
  rw [if_neg (by omega), find_at hd hi hh]
  have e : offR p p.r.f = 0 := by unfold offR; omega
  show ((p.bs.drop (offR p p.r.f)).take p.r.s.toNat, (p.ts.drop (offR p p.r.f)).take p.r.s.toNat, (0 : Int)) = _
  rw [e, List.drop_zero, List.drop_zero, List.take_of_length_le (by rw [hp.bl]; exact Nat.le_refl _), List.take_of_length_le (by rw [hp.tl]; exact Nat.le_refl _)]
theorem arena {st : List Pt} (hs : StOk st) {n : Nat} (hn : n ≤ 1000) (hr : st.map (·.r) = regsOf n) : ∃ p, st[2]? = some p ∧ bytesM st 2097152 256 = (p.bs, p.ts, 0) ∧ p.bs.length = 256 ∧ p.ts.length = 256 := by
  have hl : st.length = 3 := by have := congrArg List.length hr; simpa [regsOf] using this
  obtain ⟨p, hp⟩ : ∃ p, st[2]? = some p := ⟨_, List.getElem?_eq_getElem (by omega)⟩
  have := congrArg (fun l => l[2]?) hr
  simp only [List.getElem?_map, hp, Option.map_some, regsOf] at this
  have hpr := Option.some.inj this
  have hpr : p.r = ⟨2097152, 256, 3⟩ := hpr
  have ok := hs.2 2 p hp
  have h1 := bytes_all6 hs (sep_of hn hr) hp
  rw [hpr] at h1
  refine ⟨p, hp, h1, ?_, ?_⟩
  · rw [ok.bl, hpr]; rfl
  · rw [ok.tl, hpr]; rfl
theorem str_get {l : List Int} (hl : ∀ b ∈ l, 0 ≤ b ∧ b < 256) {k : Nat} {x : Int} (hk : l[k]? = some x) : ∃ b : UInt8, (strOf l)[k]? = some b ∧ (b.toNat : Int) = x := by
  have hx := hl x (List.mem_of_getElem? hk)
  have hkl : k < l.length := (List.getElem?_eq_some_iff.1 hk).1
  refine ⟨UInt8.ofNat x.toNat, ?_, ?_⟩
  · have hd : (strOf l)[k]? = (strOf l).data.toList[k]? := by
      have hsz : k < (strOf l).size := by rw [strOf_size]; exact hkl
      have hs2 : k < (strOf l).data.toList.length := by rw [Array.length_toList]; exact hsz
      rw [getElem?_pos (strOf l) k hsz, List.getElem?_eq_getElem hs2]
      rfl
    rw [hd]
    unfold strOf
    simp [hk]
  · rw [UInt8.toNat_ofNat']
    omega
end Go.Proofs.YtcnnnlhoiodeaaaGreat

/-
CpuApart: two machines that agree.
Conditions: each theorem's hypotheses.
-/
namespace Go.Proofs.YtcnnnlhoiodeaaaGreat
open Go Go.Vc Go.RowKit
set_option maxRecDepth 100000

theorem bool_at {w : World} {B : Option Addr} {l : List Bool} (h : ERow boT w B l) {k : Nat} {x : Bool} (hk : l[k]? = some x) : ∃ ad, B = some ad ∧ w.cell? (ad.add (k * 1)) = some (.bool x) := by
  obtain ⟨ad, e, hc⟩ := h k x hk
  have h0 := hc 0 _ rfl
  rw [addr_add_zero] at h0
  exact ⟨ad, e, h0⟩
theorem bool_cells {w : World} {ad : Addr} {l : List Bool} (h : ERow boT w (some ad) l) {k : Nat} {x : Bool} (hk : l[k]? = some x) : w.cell? (ad.add (k * 1)) = some (.bool x) := by
  obtain ⟨ad', e, h⟩ := bool_at h hk
  obtain rfl := Option.some.inj e
  exact h
theorem mem_Bytes_of {mb : Nat} {w0 w : World} {S : Nat → Prop} {x : Nat} {s : Cst} (h : CA (mProg mb) w0 w S x s) {a n : Int} (ha : U64 a) : Calls Tryz.prog sacristy_mem_Mem_Bytes.N #[.pointer (some ⟨mb, 0, none⟩), u64v a, i64v n] w (BytesR s.M a n w) := by
  obtain ⟨aP, bP, mbP, ptP, prP, ctP, crP, csP', h⟩ := h
  obtain ⟨hM, rfl⟩ := h.mem
  exact mem_Bytes_ok h.ok.ne ha hM
set_option maxHeartbeats 6400000 in
theorem law05_agree_ok {mb nb : Nat} {w0 w1 w : World} {S S' : Nat → Prop} {x y n : Nat} {s t : Cst} (hP : CA (mProg mb) w0 w S x s) (hQ : CA (mProg nb) w1 w S' y t) (hn : n ≤ 1000) (hr : s.M.map (·.r) = regsOf n) (hrel : Rel s t) :
    Calls Tryz.prog law05_agree.N #[.pointer (some ⟨x, 0, none⟩), .pointer (some ⟨y, 0, none⟩), .pointer (some ⟨mb, 0, none⟩), .pointer (some ⟨nb, 0, none⟩)] w (Gives (.bool true) w) := by
  refine law05_agree.calls ?_
  unfold law05_agree.vc
  refine ⟨fun vs W => ∃ k : Nat, vs = [.int .i64 k] ∧ k ≤ 32 ∧ Later w W, fun vs _ => match vs with | [.int _ k] => (32 - k.toNat) | _ => 0, ⟨0, rfl, by decide, Later.refl _⟩, ?_⟩
  rintro g i W ⟨k, hs, hk, lW⟩
  simp only [List.cons.injEq, Value.int.injEq, true_and, and_true] at hs
  subst hs
  refine cnd_of (fun q => ?_) fun q => ?_
  · have q := of_decide_eq_true q
    have hk32 : k < 32 := by omega
    have ei : IntKind.i64.wrap ((k : Int) + 1) = ((k + 1 : Nat) : Int) := by rw [i64_in (by omega) (by omega)]; rfl
    rw [ei]
    refine (cpu_Reg_ok (hP.later lW) k).mono fun e W1 ⟨he, l1⟩ => ?_
    unfold regV5 at he
    rw [if_pos (by omega), Int.toNat_natCast] at he
    refine ⟨_, _, _, he, (cpu_Reg_ok (hQ.later (lW.trans l1)) k).mono fun e W2 ⟨he, l2⟩ => ?_⟩
    unfold regV5 at he
    rw [if_pos (by omega), Int.toNat_natCast] at he
    have L2 := lW.trans (l1.trans l2)
    have go : Goes (fun vs W => ∃ k : Nat, vs = [.int .i64 k] ∧ k ≤ 32 ∧ Later w W) (fun vs _ => match vs with | [.int _ k] => (32 - k.toNat) | _ => 0) [.int .i64 k] W [.int .i64 ((k + 1 : Nat) : Int)] W2 := ⟨⟨k + 1, rfl, by omega, L2⟩, by show 32 - (k + 1) < 32 - k; omega⟩
    have eT : s.T k = t.T k := by rw [hrel.T]
    refine ⟨_, _, _, he, cnd_false (by rw [eT]; simp) (cnd_of (fun hb => cnd_false ?_ go) fun _ => go)⟩
    rw [hrel.R k (by simpa using hb)]
    exact bne_self_eq_false _
  · clear q hk
    have htl := hP.ok.told
    have htr := hP.ok.tr
    refine (cpu_Told_ok (hP.later lW)).mono fun e W1 ⟨b1, c1, he, l1, o1⟩ => ⟨_, _, _, he, ?_⟩
    refine (cpu_Told_ok (hQ.later (lW.trans l1))).mono fun e W2 ⟨b2, c2, he, l2, o2⟩ => ⟨_, _, _, he, ?_⟩
    rw [← hrel.told] at o2 ⊢
    have L2 := lW.trans (l1.trans l2)
    have r1 := (OwnE.row (T := talT) o1).later l2
    have r2 := OwnE.row (T := talT) o2
    clear o1 o2
    refine cnd_false (by simp) ⟨fun vs V => ∃ k : Nat, vs = [.int .i64 k] ∧ k ≤ s.told.length ∧ Later W2 V, fun vs _ => match vs with | [.int _ k] => (s.told.length - k.toNat) | _ => 0, ⟨0, rfl, Nat.zero_le _, Later.refl _⟩, ?_⟩
    rintro g i V ⟨k, hs, hk, lV⟩
    simp only [List.cons.injEq, Value.int.injEq, true_and, and_true] at hs
    subst hs
    refine cnd_of (fun q => ?_) fun q => ?_
    · have q := of_decide_eq_true q
      have hkl : k < s.told.length := by omega
      obtain ⟨z, hz⟩ : ∃ z, s.told[k]? = some z := ⟨_, List.getElem?_eq_getElem hkl⟩
      obtain ⟨ad, rfl, -⟩ := tal_at r1 hz
      obtain ⟨bd, rfl, -⟩ := tal_at r2 hz
      have cA := fun W' (l' : Later V W') => tal_cells (r1.later (lV.trans l')) hz
      have cB := fun W' (l' : Later V W') => tal_cells (r2.later (lV.trans l')) hz
      have ei : IntKind.i64.wrap ((k : Int) + 1) = ((k + 1 : Nat) : Int) := by rw [i64_in (by omega) (by omega)]; rfl
      rw [ei]
      have go : ∀ W', Later V W' → Goes (fun vs V => ∃ k : Nat, vs = [.int .i64 k] ∧ k ≤ s.told.length ∧ Later W2 V) (fun vs _ => match vs with | [.int _ k] => (s.told.length - k.toNat) | _ => 0) [.int .i64 k] V [.int .i64 ((k + 1 : Nat) : Int)] W' := fun W' l' => ⟨⟨k + 1, rfl, by omega, lV.trans l'⟩, by show s.told.length - (k + 1) < s.told.length - k; omega⟩
      exact ⟨⟨by omega, by omega⟩, Deref_some rfl ⟨_, fun W' l' => (cA W' l').2, ⟨by omega, by omega⟩, Deref_some rfl ⟨_, fun W' l' => (cB W' l').2, cnd_false (by simp) ⟨⟨by omega, by omega⟩, Deref_some rfl ⟨_, fun W' l' => (cA W' l').2, cnd_of (fun _ => ⟨⟨by omega, by omega⟩, Deref_some rfl ⟨_, fun W' l' => (cA W' l').1, ⟨by omega, by omega⟩, Deref_some rfl ⟨_, fun W' l' => (cB W' l').1, fun W' l' => cnd_false (by simp) (go W' l')⟩⟩⟩) fun _ W' l' => go W' l'⟩⟩⟩⟩⟩
    · clear q hk
      have L3 := L2.trans lV
      obtain ⟨p, hp, eb, pb, pt⟩ := arena hP.ok.M hn hr
      obtain ⟨p', hp', hpr⟩ := hrel.M.at 2 hp
      have hr' : t.M.map (·.r) = regsOf n := by
        have hm : ∀ {a b : List Pt}, MRel a b → a.map (·.r) = b.map (·.r) := fun {a b} => by
          induction a generalizing b with
          | nil => cases b with
            | nil => intro _; rfl
            | cons q b => intro h; simp [MRel] at h
          | cons p a ih => cases b with
            | nil => intro h; simp [MRel] at h
            | cons q b => intro h; simp only [List.map_cons]; rw [h.1.r, ih h.2]
        rw [← hm hrel.M]; exact hr
      obtain ⟨p2, hp2, eb2, pb2, pt2⟩ := arena hQ.ok.M hn hr'
      obtain rfl : p' = p2 := by rw [hp'] at hp2; exact Option.some.inj hp2
      refine (mem_Bytes_of (hP.later L3) ⟨by decide, by decide⟩).mono fun e W3 ⟨l3, b3, c3, he, o3⟩ => ?_
      rw [eb] at he o3
      refine ⟨_, _, _, _, _, he, ?_⟩
      refine (mem_Bytes_of (hQ.later (L3.trans l3)) ⟨by decide, by decide⟩).mono fun e W4 ⟨l4, b4, c4, he, o4⟩ => ?_
      rw [eb2] at he o4
      refine ⟨_, _, _, _, _, he, ?_⟩
      have r3 := (OwnE.row (T := boT) o3).later l4
      have r4 := OwnE.row (T := boT) o4
      clear o3 o4
      have L4 := L3.trans (l3.trans l4)
      have z1 : (strOf p.bs).size = 256 := by rw [strOf_size]; exact pb
      have z2 : (strOf p'.bs).size = 256 := by rw [strOf_size]; exact pb2
      rw [z1, z2, show p.ts.length = 256 from pt, show p'.ts.length = 256 from pt2]
      refine cnd_false rfl (cnd_false rfl (cnd_false (by decide) (cnd_false (by decide) (cnd_false (by decide) ?_))))
      refine ⟨fun vs X => ∃ k : Nat, vs = [.int .i64 k] ∧ k ≤ 256 ∧ Later W4 X, fun vs _ => match vs with | [.int _ k] => (256 - k.toNat) | _ => 0, ⟨0, rfl, Nat.zero_le _, Later.refl _⟩, ?_⟩
      rintro g i X ⟨k, hs, hk, lX⟩
      simp only [List.cons.injEq, Value.int.injEq, true_and, and_true] at hs
      subst hs
      refine cnd_of (fun q => ?_) fun q => ⟨rfl, L4.trans lX⟩
      have q := of_decide_eq_true q
      have hk6 : k < 256 := by omega
      obtain ⟨z, hz⟩ : ∃ z, p.ts[k]? = some z := ⟨_, List.getElem?_eq_getElem (by omega)⟩
      have hz' : p'.ts[k]? = some z := by rw [← hpr.ts]; exact hz
      obtain ⟨ad, rfl, -⟩ := bool_at r3 hz
      obtain ⟨bd, rfl, -⟩ := bool_at r4 hz'
      have cA := fun W' (l' : Later X W') => bool_cells (r3.later (lX.trans l')) hz
      have cB := fun W' (l' : Later X W') => bool_cells (r4.later (lX.trans l')) hz'
      have ei : IntKind.i64.wrap ((k : Int) + 1) = ((k + 1 : Nat) : Int) := by rw [i64_in (by omega) (by omega)]; rfl
      rw [ei]
      have go : ∀ W', Later X W' → Goes (fun vs X => ∃ k : Nat, vs = [.int .i64 k] ∧ k ≤ 256 ∧ Later W4 X) (fun vs _ => match vs with | [.int _ k] => (256 - k.toNat) | _ => 0) [.int .i64 k] X [.int .i64 ((k + 1 : Nat) : Int)] W' := fun W' l' => ⟨⟨k + 1, rfl, by omega, lX.trans l'⟩, by show 256 - (k + 1) < 256 - k; omega⟩
      refine ⟨⟨by omega, by omega⟩, Deref_some rfl ⟨_, fun W' l' => cA W' l', ⟨by omega, by omega⟩, Deref_some rfl ⟨_, fun W' l' => cB W' l', cnd_false (by simp) ⟨⟨by omega, by omega⟩, Deref_some rfl ⟨_, fun W' l' => cA W' l', cnd_of (fun hb => ?_) fun _ W' l' => go W' l'⟩⟩⟩⟩⟩
      have hzf : z = false := by simpa using hb
      subst hzf
      obtain ⟨v, hv⟩ : ∃ v, p.bs[k]? = some v := ⟨_, List.getElem?_eq_getElem (by omega)⟩
      have hv' : p'.bs[k]? = some v := by rw [← hpr.bs.at k hz]; exact hv
      obtain ⟨a, ha, ha'⟩ := str_get (hP.ok.M.2 2 p hp).b8 hv
      obtain ⟨b, hb, hb'⟩ := str_get (hQ.ok.M.2 2 p' hp').b8 hv'
      rw [Int.toNat_natCast]
      exact ⟨by omega, _, ha, by omega, _, hb, fun W' l' => cnd_false (by rw [ha', hb']; simp) (go W' l')⟩
end Go.Proofs.YtcnnnlhoiodeaaaGreat

/-
CpuApart: a setup whose tainted words and bytes are others.
Conditions: each theorem's hypotheses.
-/
namespace Go.Proofs.YtcnnnlhoiodeaaaGreat
open Go Go.Vc Go.RowKit
set_option maxRecDepth 100000

theorem cellRow : RowTy Tryz.prog 29 28 3 24 := RowTy.of (.agg #[u8v 0, u64v 0, .bool false]) (by kernel_rfl) (by kernel_rfl) rfl (by decide)
def turnC (y : Int) (i : Nat) (c : Cl) : Cl := if c.t = true then ⟨c.a, IntKind.u64.wrap (IntKind.u64.wrap (IntKind.u64.wrap (c.v * 3) + y) + IntKind.u64.wrap i), c.t⟩ else c
def turnL (y : Int) (l : List Cl) : List Cl := l.mapIdx (turnC y)
theorem turnL_len (y : Int) (l : List Cl) : (turnL y l).length = l.length := by simp [turnL]
theorem turnL_get (y : Int) (l : List Cl) {k : Nat} {c : Cl} (h : l[k]? = some c) : (turnL y l)[k]? = some (turnC y k c) := by simp [turnL, h]
theorem turnL_take (y : Int) (l : List Cl) {k : Nat} {c : Cl} (h : l[k]? = some c) : (turnL y l).take (k + 1) = (turnL y l).take k ++ [turnC y k c] := by
  rw [List.take_add_one, turnL_get y l h]; rfl
def turnU (y : Int) (u : Su) : Su := ⟨u.n, u.F, turnL y u.regs, turnL y u.bys⟩
theorem ts_push {w W6 w7 : World} {Y j : Nat} {cs : List Value} {F : Nat → Prop} {b : Option Addr} {c : Nat} {l : List Cl} {m : Cl} (hY : Has W6 Y cs) (hj : j < cs.length) (lw : Later w W6) (hYw : w.heap.size ≤ Y) (ho : OwnE cellT w W6 28 b c l)
    (hnb : ∀ k, rowB b = some k → ¬ F k ∧ k ≠ Y) (hF : ∀ k, F k → k < W6.heap.size ∧ k ≠ Y) (hl : l.length ≤ 1000) (e7 : w7 = W6.alloc (.cells #[u8v m.a, u64v m.v, .bool m.t] 28)) {K : World → Prop}
    (hK : ∀ b' c' W9, Later w W9 → Has W9 Y (cs.set j (.slice b' (l ++ [m]).length c')) → (∀ k, F k → W9.heap[k]? = W6.heap[k]?) → OwnE cellT w W9 28 b' c' (l ++ [m]) → (∀ k, rowB b' = some k → ¬ F k ∧ k ≠ Y) → K W9) :
    RunsV Tryz.prog (Builtin.append_ #[29, 29] 29 #[.slice b l.length c, .slice (some ⟨W6.heap.size, 0, none⟩) 1 1]) w7 fun v w' => ∃ p n c, v = .slice p n c ∧ ((w'.cell? ⟨Y, j, none⟩).isSome = true ∧ w'.frozen? ⟨Y, j, none⟩ = false) ∧ ∀ w'', w'' = w'.setCell ⟨Y, j, none⟩ (.slice p n c) → K w'' := by
  refine OwnE.pushG (T := cellT) 29 cellRow m ho (Later.size lw) (by simp [maxLen]; omega) (by omega) e7 rfl fun b' c' w8 ho8 hb8 hn8 => ?_
  have hY8 := hb8.has hY fun hk => (hnb _ hk).2 rfl
  refine ⟨_, _, _, rfl, hput hY8 rfl hj fun w9 hb9 hY9 => ?_⟩
  have l8 : Later w w8 := hb8.later lw fun k hk => (OwnS.lt ho hk).1
  have hnY : ∀ k, rowB b' = some k → k ≠ Y := fun k hk e => hn8 Y hY.lt (fun h => (hnb _ h).2 rfl) (e ▸ hk)
  refine hK b' c' w9 (hb9.later l8 fun k hk => by have hk : k = Y := hk; omega) hY9 (fun k hk => ?_) (OwnE.but (T := cellT) ho8 hb9 fun k hk e => hnY k hk e) fun k hk => ⟨fun hFk => ?_, hnY k hk⟩
  · obtain ⟨h1, h2⟩ := hF k hk
    rw [hb9.keep k (Nat.lt_of_lt_of_le h1 hb8.size) h2, hb8.keep k h1 fun h => (hnb k h).1 hk]
  · exact hn8 k (hF k hFk).1 (fun h => (hnb k h).1 hFk) hk
set_option maxHeartbeats 6400000 in
theorem law05_turned_ok {u : Su} (ok : SuOk u) {A B C : Option Addr} {ca cb cc : Nat} {y : Int} {w : World} (hu : SuAt w u A B C) : Calls Tryz.prog law05_turned.N #[suV u A B C ca cb cc, u64v y] w fun e w' => ∃ B' C' cb' cc', e = .returned (suV (turnU y u) A B' C' ca cb' cc') ∧ Later w w' ∧ SuAt w' (turnU y u) A B' C' := by
  have hlr := ok.lr
  have hlb := ok.lb
  refine law05_turned.calls ?_
  unfold law05_turned.vc
  intro w1 e1 w2 e2
  have T2 := ((Trk.start w).alloc e1).alloc e2
  have q1 : w1.heap.size = w.heap.size + 1 := by rw [e1]; exact Array.size_push ..
  have q2 : w2.heap.size = w1.heap.size + 1 := by rw [e2]; exact Array.size_push ..
  refine ⟨_, _, _, T2.cell 0 rfl rfl, fun w3 e3 => ?_⟩
  have T3 := T2.alloc e3
  refine T3.setAll 2 rfl (by rfl) (ones rfl) fun w4 T4 => ?_
  clear e1 e2 e3
  generalize hrb : w1.heap.size = rb at *
  generalize hY : w2.heap.size = Y at *
  have a4 : Has w4 w.heap.size [.slice A u.n ca, .slice B u.regs.length cb, .slice C u.bys.length cc] := T4.has 0 rfl
  have r4 : Has w4 rb [.slice none 0 0, .slice none 0 0, .slice none 0 0] := T4.has 1 rfl
  have y4 : Has w4 Y [.slice A u.n ca, .slice none 0 0, .slice none 0 0] := T4.has 2 rfl
  have l4 := T4.to
  refine ⟨fun vs W => ∃ (k : Nat) (b : Option Addr) (c : Nat), vs = [.int .i64 k] ∧ k ≤ u.regs.length ∧ Later w W ∧ Has W w.heap.size [.slice A u.n ca, .slice B u.regs.length cb, .slice C u.bys.length cc] ∧ Has W rb [.slice none 0 0, .slice none 0 0, .slice none 0 0] ∧ Has W Y [.slice A u.n ca, .slice b ((turnL y u.regs).take k).length c, .slice none 0 0] ∧ OwnE cellT w W 28 b c ((turnL y u.regs).take k) ∧ ∀ k, rowB b = some k → k ≠ w.heap.size ∧ k ≠ rb ∧ k ≠ Y,
    fun vs _ => match vs with | [.int _ k] => (u.regs.length - k.toNat) | _ => 0, ⟨0, none, 0, rfl, Nat.zero_le _, l4, a4, r4, y4, OwnE.nil _ _ _, fun k hk => by cases hk⟩, ?_⟩
  clear a4 r4 y4 l4
  clear T2 T3 T4
  rintro g i W ⟨k, b, c, hs, hk, lW, aW, rW, yW, oW, nW⟩
  simp only [List.cons.injEq, Value.int.injEq, true_and, and_true] at hs
  subst hs
  refine ⟨_, _, _, aW.cell rfl, cnd_of (fun q => ?_) fun q => ?_⟩
  · have q := of_decide_eq_true q
    have hkl : k < u.regs.length := by omega
    obtain ⟨x, hx⟩ : ∃ x, u.regs[k]? = some x := ⟨_, List.getElem?_eq_getElem hkl⟩
    obtain ⟨ad, rfl, d0, d1, d2⟩ := cell_at (hu.later lW).regs hx
    have ei : IntKind.i64.wrap ((k : Int) + 1) = ((k + 1 : Nat) : Int) := by rw [i64_in (by omega) (by omega)]; rfl
    refine ⟨_, _, _, aW.cell rfl, ⟨by omega, by omega⟩, Deref_some rfl ⟨_, _, _, ⟨d0, d1, d2, trivial⟩, fun w5 e5 => ?_⟩⟩
    rw [ei]
    have T5 := (Trk.start W).alloc e5
    refine T5.setAll 0 rfl (by rfl) (ones rfl) fun w6 T6 => ?_
    have fin : ∀ (w7 w8 : World) (v : Int), Later W w7 → turnC y k x = ⟨x.a, v, x.t⟩ → w8 = w7.alloc (.cells #[u8v x.a, u64v v, .bool x.t] 28) →
        RunsV Tryz.prog (Builtin.append_ #[29, 29] 29 #[.slice b ((turnL y u.regs).take k).length c, .slice (some ⟨w7.heap.size, 0, none⟩) 1 1]) w8 fun v w' => ∃ p n c, v = .slice p n c ∧ ((w'.cell? ⟨Y, 1, none⟩).isSome = true ∧ w'.frozen? ⟨Y, 1, none⟩ = false) ∧ ∀ w'', w'' = w'.setCell ⟨Y, 1, none⟩ (.slice p n c) →
          Goes (fun vs W => ∃ (k : Nat) (b : Option Addr) (c : Nat), vs = [.int .i64 k] ∧ k ≤ u.regs.length ∧ Later w W ∧ Has W w.heap.size [.slice A u.n ca, .slice (some ad) u.regs.length cb, .slice C u.bys.length cc] ∧ Has W rb [.slice none 0 0, .slice none 0 0, .slice none 0 0] ∧ Has W Y [.slice A u.n ca, .slice b ((turnL y u.regs).take k).length c, .slice none 0 0] ∧ OwnE cellT w W 28 b c ((turnL y u.regs).take k) ∧ ∀ k, rowB b = some k → k ≠ w.heap.size ∧ k ≠ rb ∧ k ≠ Y)
            (fun vs _ => match vs with | [.int _ k] => (u.regs.length - k.toNat) | _ => 0) [.int .i64 k] W [.int .i64 ((k + 1 : Nat) : Int)] w'' := by
      intro w7 w8 v l7 hv e8
      refine ts_push (F := fun k => k = w.heap.size ∨ k = rb) (m := ⟨x.a, v, x.t⟩) (yW.later l7) (by show 1 < 3; decide) (lW.trans l7) (by omega) (OwnS.later oW l7) (fun k hk => ?_) (fun k hk => ?_) (by rw [List.length_take]; omega) e8 fun b' c' W9 l9 y9 f9 o9 n9 => ?_
      · obtain ⟨n1, n2, n3⟩ := nW k hk
        exact ⟨fun h => by rcases h with h | h <;> contradiction, n3⟩
      · rcases hk with rfl | rfl
        · exact ⟨(aW.later l7).lt, by omega⟩
        · exact ⟨(rW.later l7).lt, by omega⟩
      · have et := turnL_take y u.regs hx
        rw [hv] at et
        rw [← et] at y9 o9
        exact ⟨⟨k + 1, b', c', rfl, by omega, l9, (aW.later l7).kept (f9 _ (.inl rfl)), (rW.later l7).kept (f9 _ (.inr rfl)), y9, o9, fun j hj => by
          obtain ⟨n1, n2⟩ := n9 j hj
          exact ⟨fun h => n1 (.inl h), fun h => n1 (.inr h), n2⟩⟩, by show u.regs.length - (k + 1) < u.regs.length - k; omega⟩
    refine ⟨_, T6.cell 0 rfl rfl, cnd_of (fun ht => ?_) fun ht => ?_⟩
    · refine ⟨_, T6.cell 0 rfl rfl, T6.set1 0 rfl (by show 1 < 3; decide) fun w7 T7 => ?_⟩
      refine ⟨_, _, _, (yW.later T7.to).cell rfl, _, _, _, ⟨T7.cell 0 rfl rfl, T7.cell 0 rfl rfl, T7.cell 0 rfl rfl, trivial⟩, fun w8 e8 => ?_⟩
      exact fin w7 w8 _ T7.to (by unfold turnC; rw [if_pos ht]) e8
    · refine ⟨_, _, _, (yW.later T6.to).cell rfl, _, _, _, ⟨T6.cell 0 rfl rfl, T6.cell 0 rfl rfl, T6.cell 0 rfl rfl, trivial⟩, fun w8 e8 => ?_⟩
      exact fin w6 w8 _ T6.to (by unfold turnC; rw [if_neg (by rw [ht]; decide)]) e8
  · have q := of_decide_eq_false q
    obtain rfl : k = u.regs.length := by omega
    rw [show (turnL y u.regs).take u.regs.length = turnL y u.regs from List.take_of_length_le (by rw [turnL_len]; exact Nat.le_refl _)] at yW oW
    clear q hk
    refine ⟨fun vs V => ∃ (k : Nat) (d : Option Addr) (e : Nat), vs = [.int .i64 k] ∧ k ≤ u.bys.length ∧ Later w V ∧ Has V w.heap.size [.slice A u.n ca, .slice B u.regs.length cb, .slice C u.bys.length cc] ∧ Has V rb [.slice none 0 0, .slice none 0 0, .slice none 0 0] ∧ Has V Y [.slice A u.n ca, .slice b (turnL y u.regs).length c, .slice d ((turnL y u.bys).take k).length e] ∧ OwnE cellT w V 28 b c (turnL y u.regs) ∧ OwnE cellT w V 28 d e ((turnL y u.bys).take k) ∧ ∀ k, rowB d = some k → k ≠ w.heap.size ∧ k ≠ rb ∧ k ≠ Y ∧ rowB b ≠ some k,
      fun vs _ => match vs with | [.int _ k] => (u.bys.length - k.toNat) | _ => 0, ⟨0, none, 0, rfl, Nat.zero_le _, lW, aW, rW, yW, oW, OwnE.nil _ _ _, fun k hk => by cases hk⟩, ?_⟩
    clear aW rW yW oW lW
    rintro g i V ⟨k, d, e, hs, hk, lV, aV, rV, yV, oV, pV, mV⟩
    simp only [List.cons.injEq, Value.int.injEq, true_and, and_true] at hs
    subst hs
    refine ⟨_, _, _, aV.cell rfl, cnd_of (fun q => ?_) fun q => ?_⟩
    · have q := of_decide_eq_true q
      have hkl : k < u.bys.length := by omega
      obtain ⟨x, hx⟩ : ∃ x, u.bys[k]? = some x := ⟨_, List.getElem?_eq_getElem hkl⟩
      obtain ⟨ad, rfl, d0, d1, d2⟩ := cell_at (hu.later lV).bys hx
      have ei : IntKind.i64.wrap ((k : Int) + 1) = ((k + 1 : Nat) : Int) := by rw [i64_in (by omega) (by omega)]; rfl
      refine ⟨_, _, _, aV.cell rfl, ⟨by omega, by omega⟩, Deref_some rfl ⟨_, _, _, ⟨d0, d1, d2, trivial⟩, fun w5 e5 => ?_⟩⟩
      rw [ei]
      have T5 := (Trk.start V).alloc e5
      refine T5.setAll 0 rfl (by rfl) (ones rfl) fun w6 T6 => ?_
      have fin : ∀ (w7 w8 : World) (v : Int), Later V w7 → turnC y k x = ⟨x.a, v, x.t⟩ → w8 = w7.alloc (.cells #[u8v x.a, u64v v, .bool x.t] 28) →
          RunsV Tryz.prog (Builtin.append_ #[29, 29] 29 #[.slice d ((turnL y u.bys).take k).length e, .slice (some ⟨w7.heap.size, 0, none⟩) 1 1]) w8 fun v w' => ∃ p0 n0 c0, v = .slice p0 n0 c0 ∧ ((w'.cell? ⟨Y, 2, none⟩).isSome = true ∧ w'.frozen? ⟨Y, 2, none⟩ = false) ∧ ∀ w'', w'' = w'.setCell ⟨Y, 2, none⟩ (.slice p0 n0 c0) →
            Goes (fun vs V => ∃ (k : Nat) (d : Option Addr) (e : Nat), vs = [.int .i64 k] ∧ k ≤ u.bys.length ∧ Later w V ∧ Has V w.heap.size [.slice A u.n ca, .slice B u.regs.length cb, .slice (some ad) u.bys.length cc] ∧ Has V rb [.slice none 0 0, .slice none 0 0, .slice none 0 0] ∧ Has V Y [.slice A u.n ca, .slice b (turnL y u.regs).length c, .slice d ((turnL y u.bys).take k).length e] ∧ OwnE cellT w V 28 b c (turnL y u.regs) ∧ OwnE cellT w V 28 d e ((turnL y u.bys).take k) ∧ ∀ k, rowB d = some k → k ≠ w.heap.size ∧ k ≠ rb ∧ k ≠ Y ∧ rowB b ≠ some k)
              (fun vs _ => match vs with | [.int _ k] => (u.bys.length - k.toNat) | _ => 0) [.int .i64 k] V [.int .i64 ((k + 1 : Nat) : Int)] w'' := by
        intro w7 w8 v l7 hv e8
        refine ts_push (F := fun k => k = w.heap.size ∨ k = rb ∨ rowB b = some k) (m := ⟨x.a, v, x.t⟩) (yV.later l7) (by show 2 < 3; decide) (lV.trans l7) (by omega) (OwnS.later pV l7) (fun k hk => ?_) (fun k hk => ?_) (by rw [List.length_take]; omega) e8 fun b' c' W9 l9 y9 f9 o9 n9 => ?_
        · obtain ⟨n1, n2, n3, n4⟩ := mV k hk
          exact ⟨fun h => by rcases h with h | h | h <;> contradiction, n3⟩
        · rcases hk with rfl | rfl | hk
          · exact ⟨(aV.later l7).lt, by omega⟩
          · exact ⟨(rV.later l7).lt, by omega⟩
          · exact ⟨(OwnS.lt (OwnS.later oV l7) hk).2, (nW k hk).2.2⟩
        · have et := turnL_take y u.bys hx
          rw [hv] at et
          rw [← et] at y9 o9
          exact ⟨⟨k + 1, b', c', rfl, by omega, l9, (aV.later l7).kept (f9 _ (.inl rfl)), (rV.later l7).kept (f9 _ (.inr (.inl rfl))), y9, OwnS.kept (OwnS.later oV l7) (fun j hj => f9 j (.inr (.inr hj))), o9, fun j hj => by
            obtain ⟨n1, n2⟩ := n9 j hj
            exact ⟨fun h => n1 (.inl h), fun h => n1 (.inr (.inl h)), n2, fun h => n1 (.inr (.inr h))⟩⟩, by show u.bys.length - (k + 1) < u.bys.length - k; omega⟩
      refine ⟨_, T6.cell 0 rfl rfl, cnd_of (fun ht => ?_) fun ht => ?_⟩
      · refine ⟨_, T6.cell 0 rfl rfl, T6.set1 0 rfl (by show 1 < 3; decide) fun w7 T7 => ?_⟩
        refine ⟨_, _, _, (yV.later T7.to).cell rfl, _, _, _, ⟨T7.cell 0 rfl rfl, T7.cell 0 rfl rfl, T7.cell 0 rfl rfl, trivial⟩, fun w8 e8 => ?_⟩
        exact fin w7 w8 _ T7.to (by unfold turnC; rw [if_pos ht]) e8
      · refine ⟨_, _, _, (yV.later T6.to).cell rfl, _, _, _, ⟨T6.cell 0 rfl rfl, T6.cell 0 rfl rfl, T6.cell 0 rfl rfl, trivial⟩, fun w8 e8 => ?_⟩
        exact fin w6 w8 _ T6.to (by unfold turnC; rw [if_neg (by rw [ht]; decide)]) e8
    · have q := of_decide_eq_false q
      obtain rfl : k = u.bys.length := by omega
      rw [show (turnL y u.bys).take u.bys.length = turnL y u.bys from List.take_of_length_le (by rw [turnL_len]; exact Nat.le_refl _)] at yV pV
      have TT : Trk w V [(rb, [.slice none 0 0, .slice none 0 0, .slice none 0 0])] := ⟨lV, fun z hz => by
        simp only [List.mem_cons, List.not_mem_nil, or_false] at hz
        subst hz
        exact ⟨by show w.heap.size ≤ rb; omega, rV⟩, by simp⟩
      refine ⟨_, _, _, _, _, _, _, _, _, ⟨yV.cell rfl, yV.cell rfl, yV.cell rfl, trivial⟩, TT.setAllE 0 rfl (by rfl) (ones rfl) fun w9 e9 T9 => ?_⟩
      have hb : But (fun k => k = rb) V w9 := by
        rw [e9]
        simp only [setCellsAt, add_block, Nat.zero_add]
        exact ((But.setCell (S := fun k => k = rb) V _ rfl).trans (But.setCell (S := fun k => k = rb) _ _ rfl)).trans (But.setCell (S := fun k => k = rb) _ _ rfl)
      refine ⟨_, _, _, _, _, _, _, _, _, ⟨T9.cell 0 rfl rfl, T9.cell 0 rfl rfl, T9.cell 0 rfl rfl, trivial⟩, b, d, c, e, rfl, T9.to, (hu.later T9.to).code, ?_, ?_⟩
      · exact OwnE.row (T := cellT) (OwnE.but (T := cellT) oV hb fun j hj => (nW j hj).2.1)
      · exact OwnE.row (T := cellT) (OwnE.but (T := cellT) pV hb fun j hj => (mV j hj).2.1)
end Go.Proofs.YtcnnnlhoiodeaaaGreat

/-
The explicit conditions of some functions of the program, printed by this repo's own program over VcTop: what is proved is that each is the condition.
Conditions: none.
-/
namespace Go.Proofs.YtcnnnlhoiodeaaaGreat
open Go Go.Vc Go.RowKit
set_option maxRecDepth 100000

/- function 7: sacristy/sacristylaw05.CpuApart -/
abbrev law05_CpuApart.N : FuncId := 7
def law05_CpuApart.H : Hints := { loops := [(9, [(11, .one (.int .i64))])] }
def law05_CpuApart.vc (x'_0 : Option Addr) (x'_0n x'_0c : Nat) (x'_1 : Option Addr) (x'_1n x'_1c : Nat) (x'_2 : Option Addr) (x'_2n x'_2c : Nat) (by' steps' : Int) (w : World) (R : Ending → World → Prop) : Prop := ∀ w', w' = w.alloc (Obj.cells #[.slice x'_0 x'_0n x'_0c, .slice x'_1 x'_1n x'_1c, .slice x'_2 x'_2n x'_2c] 31) →
∃ (p : Option Addr) (n c : Nat) (p_1 : Option Addr) (n_1 c_1 : Nat) (p_2 : Option Addr) (n_2 c_2 : Nat),
(w'.cell? (Addr.mk w.heap.size 0 none) = some (.slice p n c) ∧
w'.cell? (Addr.mk w.heap.size 1 none) = some (.slice p_1 n_1 c_1) ∧
w'.cell? (Addr.mk w.heap.size 2 none) = some (.slice p_2 n_2 c_2) ∧ True) ∧
Calls Tryz.prog 21 #[.agg #[.slice p n c, .slice p_1 n_1 c_1, .slice p_2 n_2 c_2]] w' fun e w' =>
∃ (b : Bool),
e = .returned (.bool b) ∧
cnd b (Calls Tryz.prog 14 #[] w' fun e w' =>
∃ (b : Bool),
e = .returned (.bool b) ∧ R (.returned (.bool b)) w') (∃ (p : Option Addr) (n c : Nat) (p_3 : Option Addr) (n_3 c_3 : Nat) (p_4 : Option Addr) (n_4 c_4 : Nat),
(w'.cell? (Addr.mk w.heap.size 0 none) = some (.slice p n c) ∧
w'.cell? (Addr.mk w.heap.size 1 none) = some (.slice p_3 n_3 c_3) ∧
w'.cell? (Addr.mk w.heap.size 2 none) = some (.slice p_4 n_4 c_4) ∧
True) ∧
Calls Tryz.prog 8 #[.agg #[.slice p n c, .slice p_3 n_3 c_3,
Value.slice p_4 n_4 c_4]] w' fun e w' =>
∃ (p p_5 : Option Addr),
e = .returned (.tuple #[.pointer p, .pointer p_5]) ∧
∃ (p_6 : Option Addr) (n c : Nat) (p_7 : Option Addr) (n_5 c_5 : Nat) (p_8 : Option Addr) (n_6 c_6 : Nat),
(w'.cell? (Addr.mk w.heap.size 0 none) = some (.slice p_6 n c) ∧
w'.cell? (Addr.mk w.heap.size 1 none) = some (.slice p_7 n_5 c_5) ∧
w'.cell? (Addr.mk w.heap.size 2 none) = some (.slice p_8 n_6 c_6) ∧
True) ∧
Calls Tryz.prog 29 #[.agg #[.slice p_6 n c,
Value.slice p_7 n_5 c_5,
Value.slice p_8 n_6 c_6],
Value.int .u64 by'] w' fun e w' =>
∃ (p_9 : Option Addr) (n c : Nat) (p_10 : Option Addr) (n_7 c_7 : Nat) (p_11 : Option Addr) (n_8 c_8 : Nat),
e = .returned (.agg #[.slice p_9 n c,
Value.slice p_10 n_7 c_7,
Value.slice p_11 n_8 c_8]) ∧
Calls Tryz.prog 8 #[.agg #[.slice p_9 n c,
Value.slice p_10 n_7 c_7,
Value.slice p_11 n_8 c_8]] w' fun e w' =>
∃ (p_12 p_13 : Option Addr),
e = .returned (.tuple #[.pointer p_12,
Value.pointer p_13]) ∧
∃ (b : Bool),
EqRuns Tryz.prog BinOp.eql 32 (Operand.tmp 37) (Operand.const (.pointer none)) (.pointer p) (.pointer none) b ∧
cnd b (R (.returned (.bool false)) w') (∃ (b : Bool),
EqRuns Tryz.prog BinOp.eql 32 (Operand.tmp 40) (Operand.const (.pointer none)) (.pointer p_12) (.pointer none) b ∧
cnd b (R (.returned (.bool false)) w') (∃ (I : List Value →
World →
Prop) (μ : List Value →
World →
Nat),
I [.int .i64 0] w' ∧
∀ (g : Nat →
Value) (i : Int) (w' : World),
I [.int .i64 i] w' →
cnd (decide (i < IntKind.i64.wrap (steps'.tmod 300))) (Calls Tryz.prog 9 #[.pointer p] w' fun e w'_1 =>
∃ (n : Int),
e = .returned (.int .i64 n) ∧
Calls Tryz.prog 19 #[.pointer p] w'_1 fun e w'_2 =>
∃ (p_14 : Option Addr) (n_9 c : Nat),
e = .returned (.slice p_14 n_9 c) ∧
cnd (n != 0) (cnd (n != 0) (Calls Tryz.prog 14 #[] w'_2 fun e w' =>
∃ (b : Bool),
e = .returned (.bool b) ∧
R (.returned (.bool b)) w') (cnd ((↑n_9 : Int) == IntKind.i64.wrap (i + 1)) (Calls Tryz.prog 14 #[] w'_2 fun e w' =>
∃ (b : Bool),
e = .returned (.bool b) ∧
R (.returned (.bool b)) w') (R (.returned (.bool false)) w'_2))) (cnd ((↑n_9 : Int) != IntKind.i64.wrap (i + 1)) (cnd (n != 0) (Calls Tryz.prog 14 #[] w'_2 fun e w' =>
∃ (b : Bool),
e = .returned (.bool b) ∧
R (.returned (.bool b)) w') (cnd ((↑n_9 : Int) == IntKind.i64.wrap (i + 1)) (Calls Tryz.prog 14 #[] w'_2 fun e w' =>
∃ (b : Bool),
e = .returned (.bool b) ∧
R (.returned (.bool b)) w') (R (.returned (.bool false)) w'_2))) ((0 ≤ i ∧
i < (↑n_9 : Int)) ∧
Deref p_14 fun a =>
∃ (b : Bool),
w'_2.cell? ((a.add (i.toNat * 5)).add 4) = some (.bool b) ∧
cnd b (cnd (n != 0) (Calls Tryz.prog 14 #[] w'_2 fun e w' =>
∃ (b : Bool),
e = .returned (.bool b) ∧
R (.returned (.bool b)) w') (cnd ((↑n_9 : Int) == IntKind.i64.wrap (i + 1)) (Calls Tryz.prog 14 #[] w'_2 fun e w' =>
∃ (b : Bool),
e = .returned (.bool b) ∧
R (.returned (.bool b)) w') (R (.returned (.bool false)) w'_2))) (Calls Tryz.prog 9 #[.pointer p_12] w'_2 fun e w'_3 =>
∃ (n : Int),
e = .returned (.int .i64 n) ∧
Calls Tryz.prog 19 #[.pointer p_12] w'_3 fun e w'_4 =>
∃ (p_15 : Option Addr) (n_10 c : Nat),
e = .returned (.slice p_15 n_10 c) ∧
cnd (n != 0) (∀ w', Later w'_4 w' →
R (.returned (.bool false)) w') (cnd ((↑n_10 : Int) != IntKind.i64.wrap (i + 1)) (∀ w', Later w'_4 w' →
R (.returned (.bool false)) w') ((0 ≤ i ∧
i < (↑n_10 : Int)) ∧
Deref p_15 fun a =>
∃ (n n_11 : Int) (n_12 n_13 : Int) (b : Bool),
(∀ w', Later w'_4 w' →
w'.cell? (a.add (i.toNat * 5)) = some (.int .u64 n) ∧
w'.cell? ((a.add (i.toNat * 5)).add 1) = some (.int .u8 n_11) ∧
w'.cell? ((a.add (i.toNat * 5)).add 2) = some (.int .u64 n_12) ∧
w'.cell? ((a.add (i.toNat * 5)).add 3) = some (.int .u64 n_13) ∧
w'.cell? ((a.add (i.toNat * 5)).add 4) = some (.bool b) ∧
True) ∧
(0 ≤ i ∧
i < (↑n_9 : Int)) ∧
Deref p_14 fun a =>
∃ (n_14 n_15 : Int) (n_16 n_17 : Int) (b_1 : Bool),
(∀ w', Later w'_4 w' →
w'.cell? (a.add (i.toNat * 5)) = some (.int .u64 n_14) ∧
w'.cell? ((a.add (i.toNat * 5)).add 1) = some (.int .u8 n_15) ∧
w'.cell? ((a.add (i.toNat * 5)).add 2) = some (.int .u64 n_16) ∧
w'.cell? ((a.add (i.toNat * 5)).add 3) = some (.int .u64 n_17) ∧
w'.cell? ((a.add (i.toNat * 5)).add 4) = some (.bool b_1) ∧
True) ∧
∃ (b_2 : Bool),
EqRuns Tryz.prog BinOp.neq 80 (Operand.tmp 99) (Operand.tmp 103) (.agg #[.int .u64 n,
Value.int .u8 n_11,
Value.int .u64 n_12,
Value.int .u64 n_13,
Value.bool b]) (.agg #[.int .u64 n_14,
Value.int .u8 n_15,
Value.int .u64 n_16,
Value.int .u64 n_17,
Value.bool b_1]) b_2 ∧
cnd b_2 (∀ w', Later w'_4 w' →
R (.returned (.bool false)) w') (∃ (n : Int),
(∀ w', Later w'_4 w' →
Calls Tryz.prog 12 #[.pointer p] w' fun e w'' =>
e = .returned (.int .u64 n) ∧
Later w' w'') ∧
∃ (n_18 : Int),
(∀ w', Later w'_4 w' →
Calls Tryz.prog 12 #[.pointer p_12] w' fun e w'' =>
e = .returned (.int .u64 n_18) ∧
Later w' w'') ∧
∀ w'_5, Later w'_4 w'_5 →
cnd (n != n_18) (R (.returned (.bool false)) w'_5) ((0 ≤ i ∧
i < (↑n_9 : Int)) ∧
Deref p_14 fun a =>
∃ (n : Int),
w'_5.cell? ((a.add (i.toNat * 5)).add 1) = some (.int .u8 n) ∧
cnd (n == 5) (Calls Tryz.prog 18 #[.pointer p] w'_5 fun e w'_6 =>
∃ (p_16 : Option Addr) (n c : Nat),
e = .returned (.slice p_16 n c) ∧
Calls Tryz.prog 18 #[.pointer p_12] w'_6 fun e w'_7 =>
∃ (p_17 : Option Addr) (n_19 c_9 : Nat),
e = .returned (.slice p_17 n_19 c_9) ∧
Calls Tryz.prog 30 #[.slice p_16 n c,
Value.slice p_17 n_19 c_9] w'_7 fun e w'_8 =>
∃ (b : Bool),
e = .returned (.bool b) ∧
cnd (!b) (Calls Tryz.prog 14 #[] w'_8 fun e w' =>
∃ (b : Bool),
e = .returned (.bool b) ∧
R (.returned (.bool b)) w') (Calls Tryz.prog 15 #[.pointer p] w'_8 fun e w'_9 =>
∃ (b : Bool) (n n_20 : Int),
e = .returned (.tuple #[.bool b,
Value.int .u8 n,
Value.int .i64 n_20]) ∧
Calls Tryz.prog 15 #[.pointer p_12] w'_9 fun e w'_10 =>
∃ (b_3 : Bool) (n_21 n_22 : Int),
e = .returned (.tuple #[.bool b_3,
Value.int .u8 n_21,
Value.int .i64 n_22]) ∧
cnd (!b == b_3) (R (.returned (.bool false)) w'_10) (cnd (n != n_21) (R (.returned (.bool false)) w'_10) (cnd (i.tmod 8 == 0) (Calls Tryz.prog 31 #[.pointer p,
Value.pointer p_12,
Value.pointer p_5,
Value.pointer p_13] w'_10 fun e w'_11 =>
∃ (b_4 : Bool),
e = .returned (.bool b_4) ∧
cnd (!b_4) (R (.returned (.bool false)) w'_11) (cnd b (Calls Tryz.prog 14 #[] w'_11 fun e w' =>
∃ (b : Bool),
e = .returned (.bool b) ∧
R (.returned (.bool b)) w') (Goes I μ [.int .i64 i] w' [.int .i64 (IntKind.i64.wrap (i + 1))] w'_11))) (cnd b (Calls Tryz.prog 31 #[.pointer p,
Value.pointer p_12,
Value.pointer p_5,
Value.pointer p_13] w'_10 fun e w'_11 =>
∃ (b_4 : Bool),
e = .returned (.bool b_4) ∧
cnd (!b_4) (R (.returned (.bool false)) w'_11) (cnd b (Calls Tryz.prog 14 #[] w'_11 fun e w' =>
∃ (b : Bool),
e = .returned (.bool b) ∧
R (.returned (.bool b)) w') (Goes I μ [.int .i64 i] w' [.int .i64 (IntKind.i64.wrap (i + 1))] w'_11))) (cnd b (Calls Tryz.prog 14 #[] w'_10 fun e w' =>
∃ (b : Bool),
e = .returned (.bool b) ∧
R (.returned (.bool b)) w') (Goes I μ [.int .i64 i] w' [.int .i64 (IntKind.i64.wrap (i + 1))] w'_10))))))) (Calls Tryz.prog 15 #[.pointer p] w'_5 fun e w'_6 =>
∃ (b : Bool) (n n_19 : Int),
e = .returned (.tuple #[.bool b,
Value.int .u8 n,
Value.int .i64 n_19]) ∧
Calls Tryz.prog 15 #[.pointer p_12] w'_6 fun e w'_7 =>
∃ (b_3 : Bool) (n_20 n_21 : Int),
e = .returned (.tuple #[.bool b_3,
Value.int .u8 n_20,
Value.int .i64 n_21]) ∧
cnd (!b == b_3) (R (.returned (.bool false)) w'_7) (cnd (n != n_20) (R (.returned (.bool false)) w'_7) (cnd (i.tmod 8 == 0) (Calls Tryz.prog 31 #[.pointer p,
Value.pointer p_12,
Value.pointer p_5,
Value.pointer p_13] w'_7 fun e w'_8 =>
∃ (b_4 : Bool),
e = .returned (.bool b_4) ∧
cnd (!b_4) (R (.returned (.bool false)) w'_8) (cnd b (Calls Tryz.prog 14 #[] w'_8 fun e w' =>
∃ (b : Bool),
e = .returned (.bool b) ∧
R (.returned (.bool b)) w') (Goes I μ [.int .i64 i] w' [.int .i64 (IntKind.i64.wrap (i + 1))] w'_8))) (cnd b (Calls Tryz.prog 31 #[.pointer p,
Value.pointer p_12,
Value.pointer p_5,
Value.pointer p_13] w'_7 fun e w'_8 =>
∃ (b_4 : Bool),
e = .returned (.bool b_4) ∧
cnd (!b_4) (R (.returned (.bool false)) w'_8) (cnd b (Calls Tryz.prog 14 #[] w'_8 fun e w' =>
∃ (b : Bool),
e = .returned (.bool b) ∧
R (.returned (.bool b)) w') (Goes I μ [.int .i64 i] w' [.int .i64 (IntKind.i64.wrap (i + 1))] w'_8))) (cnd b (Calls Tryz.prog 14 #[] w'_7 fun e w' =>
∃ (b : Bool),
e = .returned (.bool b) ∧
R (.returned (.bool b)) w') (Goes I μ [.int .i64 i] w' [.int .i64 (IntKind.i64.wrap (i + 1))] w'_7)))))))))))))) (Calls Tryz.prog 31 #[.pointer p,
Value.pointer p_12,
Value.pointer p_5,
Value.pointer p_13] w' fun e w' =>
∃ (b : Bool),
e = .returned (.bool b) ∧
cnd b (Calls Tryz.prog 14 #[] w' fun e w' =>
∃ (b : Bool),
e = .returned (.bool b) ∧
R (.returned (.bool b)) w') (R (.returned (.bool false)) w')))))
theorem law05_CpuApart.vc_eq (x'_0 : Option Addr) (x'_0n x'_0c : Nat) (x'_1 : Option Addr) (x'_1n x'_1c : Nat) (x'_2 : Option Addr) (x'_2n x'_2c : Nat) (by' steps' : Int) (w : World) (R : Ending → World → Prop) : fnV Tryz.prog law05_CpuApart.H 7 [.agg #[.slice x'_0 x'_0n x'_0c, .slice x'_1 x'_1n x'_1c, .slice x'_2 x'_2n x'_2c],
Value.int .u64 by', .int .u16 steps'] w R = law05_CpuApart.vc x'_0 x'_0n x'_0c x'_1 x'_1n x'_1c x'_2 x'_2n x'_2c by' steps' w R := by kernel_rfl
theorem law05_CpuApart.calls {x'_0 : Option Addr} {x'_0n x'_0c : Nat} {x'_1 : Option Addr} {x'_1n x'_1c : Nat} {x'_2 : Option Addr} {x'_2n x'_2c : Nat} {by' steps' : Int} {w : World} {R : Ending → World → Prop} (h : law05_CpuApart.vc x'_0 x'_0n x'_0c x'_1 x'_1n x'_1c x'_2 x'_2n x'_2c by' steps' w R) : Calls Tryz.prog 7 ([.agg #[.slice x'_0 x'_0n x'_0c, .slice x'_1 x'_1n x'_1c, .slice x'_2 x'_2n x'_2c],
Value.int .u64 by', .int .u16 steps'] : List Value).toArray w R := calls_of_eq (law05_CpuApart.vc_eq x'_0 x'_0n x'_0c x'_1 x'_1n x'_1c x'_2 x'_2n x'_2c by' steps' w R) h

end Go.Proofs.YtcnnnlhoiodeaaaGreat

/-
CpuApart.
Conditions: each theorem's hypotheses.
-/
namespace Go.Proofs.YtcnnnlhoiodeaaaGreat
open Go Go.Vc Go.RowKit
set_option maxRecDepth 100000

theorem turnC_at (y : Int) (k : Nat) (c : Cl) : (turnC y k c).a = c.a ∧ (turnC y k c).t = c.t ∧ (c.t = false → (turnC y k c).v = c.v) := by
  unfold turnC
  by_cases h : c.t = true
  · rw [if_pos h]; exact ⟨rfl, rfl, fun e => by rw [h] at e; cases e⟩
  · rw [if_neg h]; exact ⟨rfl, rfl, fun _ => rfl⟩
theorem turnL_none (y : Int) (l : List Cl) {k : Nat} (h : l[k]? = none) : (turnL y l)[k]? = none := by simp [turnL, h]
theorem place_kind {u : Su} (ok : SuOk u) {k i : Nat} {a n : Int} {p : Pt} (h : findM (memI u k) (placeV k a) n = some (i, p)) : p.r.k ≠ 1 := by
  have hn := ok.n
  obtain ⟨h1, h2⟩ := findM_get h
  have hr := (mem_facts ok k).1
  have := congrArg (fun l => l[i]?) hr
  simp only [List.getElem?_map, h1, Option.map_some, regsOf] at this
  have hp : 1048576 ≤ placeV k a := by unfold placeV; split <;> omega
  rcases i with _ | _ | _ | i
  · have e := Option.some.inj this
    rw [e] at h2
    unfold hasR at h2
    simp only [Bool.and_eq_true, decide_eq_true_eq] at h2
    omega
  · have e := Option.some.inj this
    rw [e]; decide
  · have e := Option.some.inj this
    rw [e]; decide
  · simp at this
theorem mem_rel {u : Su} (ok : SuOk u) (y : Int) : ∀ k, MRel (memI u k) (memI (turnU y u) k)
  | 0 => MRel.same (a := memI u 0) fun p hp => by
    obtain ⟨i, hi⟩ := List.getElem?_of_mem hp
    have := (mem_facts ok 0).2.2 i p hi
    rw [this.bl, this.tl]
  | k + 1 => by
    have ih := mem_rel ok y k
    cases hc : u.bys[k]? with
    | none =>
      have h2 : (turnU y u).bys[k]? = none := turnL_none y u.bys hc
      unfold memI
      rw [hc, h2]; exact ih
    | some c =>
      have h2 : (turnU y u).bys[k]? = some (turnC y k c) := turnL_get y u.bys hc
      obtain ⟨t1, t2, t3⟩ := turnC_at y k c
      rw [memI_succ hc, memI_succ h2, t1, t2]
      exact ih.put _ rfl (fun ht => by rw [t3 ht]) fun i p hf hk => absurd hk (place_kind ok hf)
theorem init_rel {u : Su} (ok : SuOk u) (y : Int) : Rel (initS u) (initS (turnU y u)) := by
  have hl : (turnU y u).regs.length = u.regs.length := turnL_len y u.regs
  have hlb : (turnU y u).bys.length = u.bys.length := turnL_len y u.bys
  have h : ∀ k, Rel (regI u k) (regI (turnU y u) k) := fun k => by
    induction k with
    | zero =>
      refine ⟨rfl, rfl, fun _ _ => rfl, rfl, rfl, rfl, rfl, rfl, ?_⟩
      show MRel (memI u u.bys.length) (memI (turnU y u) (turnU y u).bys.length)
      rw [hlb]; exact mem_rel ok y _
    | succ k ih =>
      cases hc : u.regs[k]? with
      | none =>
        have h2 : (turnU y u).regs[k]? = none := turnL_none y u.regs hc
        unfold regI
        rw [hc, h2]; exact ih
      | some c =>
        have h2 : (turnU y u).regs[k]? = some (turnC y k c) := turnL_get y u.regs hc
        obtain ⟨t1, t2, t3⟩ := turnC_at y k c
        rw [regI_succ hc, regI_succ h2, t1, t2]
        exact ih.setS _ fun ht => (t3 ht).symm
  unfold initS
  rw [hl]; exact h _
theorem turn_ok {u : Su} (ok : SuOk u) (y : Int) : SuOk (turnU y u) := by
  have hc : ∀ (l : List Cl), (∀ (k : Nat) (c : Cl), l[k]? = some c → U8 c.a ∧ U64 c.v) → ∀ (k : Nat) (c : Cl), (turnL y l)[k]? = some c → U8 c.a ∧ U64 c.v := fun l hl k c h => by
    cases hk : l[k]? with
    | none => rw [turnL_none y l hk] at h; cases h
    | some d =>
      rw [turnL_get y l hk] at h
      obtain rfl := Option.some.inj h
      obtain ⟨d1, d2⟩ := hl k d hk
      refine ⟨by rw [(turnC_at y k d).1]; exact d1, ?_⟩
      unfold turnC
      split
      · exact uw_in _
      · exact d2
  exact ⟨ok.n, ok.F, by rw [show (turnU y u).regs.length = _ from turnL_len y u.regs]; exact ok.lr, by rw [show (turnU y u).bys.length = _ from turnL_len y u.bys]; exact ok.lb, hc _ ok.regs, hc _ ok.bys⟩
set_option maxHeartbeats 12800000 in
theorem law05_CpuApart_ok {u : Su} {A B C : Option Addr} {ca cb cc : Nat} (hF : ∀ i, i < u.n → U8 (u.F i 0) ∧ U8 (u.F i 1) ∧ U8 (u.F i 2) ∧ U8 (u.F i 3) ∧ I64 (u.F i 4)) (hrg : ∀ (k : Nat) (c : Cl), u.regs[k]? = some c → U8 c.a ∧ U64 c.v) (hby : ∀ (k : Nat) (c : Cl), u.bys[k]? = some c → U8 c.a ∧ U64 c.v)
    {y n : Int} (hn : 0 ≤ n ∧ n < 65536) (w : World) (hu : SuAt w u A B C) : Calls Tryz.prog law05_CpuApart.N #[suV u A B C ca cb cc, u64v y, .int .u16 n] w (Gives (.bool true) w) := by
  refine law05_CpuApart.calls ?_
  unfold law05_CpuApart.vc
  intro w1 e1
  have T := (Trk.start w).alloc e1
  have fin : ∀ W : World, Later w W → Calls Tryz.prog law05_alive.N #[] W fun e w' => ∃ b, e = .returned (.bool b) ∧ Gives (.bool true) w (.returned (.bool b)) w' := fun W l => (law05_alive_ok W).mono fun e w'' ⟨he, l'⟩ => ⟨_, he, rfl, l.trans l'⟩
  refine ⟨_, _, _, _, _, _, _, _, _, ⟨T.cell 0 rfl rfl, T.cell 0 rfl rfl, T.cell 0 rfl rfl, trivial⟩, ?_⟩
  refine (law05_heavy_ok A B C ca cb cc w1).mono fun e w2 ⟨he, l2⟩ => ⟨_, he, cnd_of (fun _ => fin _ (T.to.trans l2)) fun hh => ?_⟩
  have T2 := T.later l2
  have ok : SuOk u := by
    simp only [Bool.or_eq_false_iff, decide_eq_false_iff_not] at hh
    exact ⟨by omega, hF, by omega, by omega, hrg, hby⟩
  have hN : ∃ N : Nat, IntKind.i64.wrap (n.tmod 300) = N ∧ N < 300 := by
    refine ⟨(n % 300).toNat, ?_, by omega⟩
    rw [Int.tmod_eq_emod_of_nonneg hn.1, i64_in (by omega) (by omega)]
    omega
  obtain ⟨N, hN, hN3⟩ := hN
  rw [hN]
  refine ⟨_, _, _, _, _, _, _, _, _, ⟨T2.cell 0 rfl rfl, T2.cell 0 rfl rfl, T2.cell 0 rfl rfl, trivial⟩, ?_⟩
  refine (law05_Built_ok ok (hu.later T2.to)).mono fun e w3 ⟨x, mb, S, he, l3, c3, n3⟩ => ⟨_, _, he, ?_⟩
  have T3 := T2.later l3
  refine ⟨_, _, _, _, _, _, _, _, _, ⟨T3.cell 0 rfl rfl, T3.cell 0 rfl rfl, T3.cell 0 rfl rfl, trivial⟩, ?_⟩
  refine (law05_turned_ok (y := y) ok (hu.later T3.to)).mono fun e w4 ⟨B', C', cb', cc', he, l4, hu4⟩ => ⟨_, _, _, _, _, _, _, _, _, he, ?_⟩
  refine (law05_Built_ok (turn_ok ok y) hu4).mono fun e w5 ⟨z, nb, S', he, l5, c5, n5⟩ => ⟨_, _, he, _, ptr_nil (by kernel_rfl) _ _ _, cnd_false rfl ⟨_, ptr_nil (by kernel_rfl) _ _ _, cnd_false rfl ?_⟩⟩
  have z2 := Later.size T2.to
  have z4 := Later.size (T3.to.trans l4)
  have two : Two (mProg mb) (mProg nb) w2 w4 w5 S S' x z (initS u) (initS (turnU y u)) := ⟨c3.later (l4.trans l5), c5, fun k h1 h2 => by
    have := (c3.new k h1).2
    have := n5 k h2
    have := Later.size l4
    omega⟩
  have hun := ok.n
  have hrM : (initS u).M.map (·.r) = regsOf u.n := by
    rw [show (initS u).M = memI u u.bys.length from (init_told u _).2.2.2]
    exact (mem_facts ok _).1
  have htr0 : (initS u).tr.length = 0 := by rw [show (initS u).tr = [] from (init_told u _).2.1]; rfl
  refine ⟨fun vs W => ∃ (k : Nat) (s t : Cst) (S1 S2 : Nat → Prop), vs = [.int .i64 k] ∧ k ≤ N ∧ Later w W ∧ Two (mProg mb) (mProg nb) w2 w4 W S1 S2 x z s t ∧ Rel s t ∧ s.M.map (·.r) = regsOf u.n ∧ s.told.length ≤ s.tr.length ∧ s.tr.length = k, fun vs _ => match vs with | [.int _ k] => (N - k.toNat) | _ => 0, ⟨0, initS u, initS (turnU y u), S, S', rfl, Nat.zero_le _, T3.to.trans (l4.trans l5), two, init_rel ok y, hrM, init_keeps u, htr0⟩, ?_⟩
  rintro g i W ⟨k, s, t, S1, S2, hs, hk, lW, hT, hrel, hr, htl, htk⟩
  simp only [List.cons.injEq, Value.int.injEq, true_and, and_true] at hs
  subst hs
  have ei : IntKind.i64.wrap ((k : Int) + 1) = ((k + 1 : Nat) : Int) := by rw [i64_in (by omega) (by omega)]; rfl
  rw [ei]
  refine cnd_of (fun q => ?_) fun q => (law05_agree_ok hT.a hT.b (by omega) hr hrel).mono fun e W1 ⟨he, l1⟩ => ⟨_, he, cnd_true rfl (fin _ (lW.trans l1))⟩
  have q := of_decide_eq_true q
  refine (cpu_Step_ok hT.a htl).mono fun e W1 h1 => ?_
  obtain ⟨he1, L1, S1', hT1⟩ := hT.left (r := stepS s) h1
  have lW1 := L1 w lW z2
  obtain ⟨k1, k2⟩ := stepS_keeps htl
  refine ⟨_, he1, (cpu_Trace_ok hT1.a).mono fun e W2 ⟨b2, c2, he, l2', o2⟩ => ⟨_, _, _, he, ?_⟩⟩
  have lW2 := lW1.trans l2'
  refine cnd_of (fun hne => cnd_true hne (fin _ lW2)) fun hne => ?_
  have hne : (stepS s).2 = 0 := by simpa using hne
  have hst : stepS s = ((stepS s).1, 0) := by rw [← hne]
  obtain ⟨v, hv, hgo⟩ := rel_step hrel hst
  have hlen : (stepS s).1.tr.length = k + 1 := by rw [hv, List.length_append, htk]; rfl
  have hget : (stepS s).1.tr[k]? = some v := by rw [hv, ← htk]; simp
  have row2 := OwnE.row (T := snT) o2
  obtain ⟨ad, rfl, -⟩ := sn_at row2 hget
  have cv := fun W' (l : Later W2 W') => sn_cells (row2.later l) hget
  refine cnd_false (by rw [hlen]; simp) ⟨⟨by omega, by rw [hlen]; omega⟩, Deref_some rfl ⟨_, (cv W2 (Later.refl _)).2.2.2.2, cnd_of (fun _ => cnd_false (by rw [hne]; rfl) (cnd_true (by rw [hlen]; simp) (fin _ lW2))) fun htaint => ?_⟩⟩
  obtain ⟨t', hst', htr', hpc, hov, hcd, htd, hR⟩ := hgo htaint
  have htlt : t.told.length ≤ t.tr.length := by rw [← hrel.told, ← hrel.tr]; exact htl
  have hT2 := hT1.later l2'
  refine (cpu_Step_ok hT2.b htlt).mono fun e W3 h3 => ?_
  obtain ⟨he3, L3, S2', hT3⟩ := hT2.right (r := stepS t) h3
  rw [hst'] at he3 hT3
  have lW3 := L3 w lW2 z4
  obtain ⟨-, hb3, -⟩ := h3
  have o3 := OwnE.but (T := snT) o2 hb3 fun j hj h2 => by
    have h1 := (OwnS.lt o2 hj).1
    have h4 := (hT1.b.new j h2).2
    omega
  have row3 := OwnE.row (T := snT) o3
  clear cv row2 o2
  refine ⟨_, he3, (cpu_Trace_ok hT3.b).mono fun e W4 ⟨b4, c4, he, l4', o4⟩ => ⟨_, _, _, he, cnd_false rfl ?_⟩⟩
  have lW4 := lW3.trans l4'
  have hlen' : t'.tr.length = k + 1 := by rw [htr', List.length_append, ← hrel.tr, htk]; rfl
  have hget' : t'.tr[k]? = some v := by rw [htr', ← htk, hrel.tr]; simp
  have row4 := OwnE.row (T := snT) o4
  obtain ⟨bd, rfl, -⟩ := sn_at row4 hget'
  have cd := fun W' (l : Later W4 W') => sn_cells (row4.later l) hget'
  have cv := fun W' (l : Later W4 W') => sn_cells (row3.later (l4'.trans l)) hget
  have hT4 := hT3.later l4'
  refine cnd_false (by rw [hlen']; simp) ⟨⟨by omega, by rw [hlen']; omega⟩, Deref_some rfl ⟨_, _, _, _, _, fun W' l => ⟨(cd W' l).1, (cd W' l).2.1, (cd W' l).2.2.1, (cd W' l).2.2.2.1, (cd W' l).2.2.2.2, trivial⟩, ⟨by omega, by rw [hlen]; omega⟩, Deref_some rfl ⟨_, _, _, _, _, fun W' l => ⟨(cv W' l).1, (cv W' l).2.1, (cv W' l).2.2.1, (cv W' l).2.2.2.1, (cv W' l).2.2.2.2, trivial⟩, _, sn_neq _ _ _ _ _ _ _ _ _ _ _ _, cnd_false (by simp) ?_⟩⟩⟩
  refine ⟨_, fun W' l => cpu_Pc_ok (hT4.a.later l), _, fun W' l => cpu_Pc_ok (hT4.b.later l), fun W5 l5' => cnd_false (by rw [hpc]; simp) ?_⟩
  have hT5 := hT4.later l5'
  have lW5 := lW4.trans l5'
  refine ⟨⟨by omega, by rw [hlen]; omega⟩, Deref_some rfl ⟨_, (cv W5 l5').2.1, ?_⟩⟩
  have b1 := hT5.a.ok.told
  have b2' := hT5.a.ok.tr
  refine cnd_of (fun h5 => (cpu_Told_ok hT5.a).mono fun e W6 ⟨p6, c6, he, l6, o6⟩ => ⟨_, _, _, he, (cpu_Told_ok (hT5.b.later l6)).mono fun e W7 ⟨p7, c7, he, l7, o7⟩ => ⟨_, _, _, he, (law05_alike_ok W7 ((OwnE.row (T := talT) o6).later l7) (OwnE.row (T := talT) o7) (by omega)).mono fun e W8 ⟨he, l8⟩ => ⟨_, he, cnd_of (fun _ => fin _ (lW5.trans (l6.trans (l7.trans l8)))) fun hb => ?_⟩⟩⟩) fun h5 => ?_
  have lX := l6.trans (l7.trans l8)
  have hrel' : Rel (stepS s).1 t' := hR (by simpa using hb)
  rotate_left
  have lX := Later.refl W5
  have hrel' : Rel (stepS s).1 t' := hR (by rw [htd (by simpa using h5)])
  all_goals
    have hTX := hT5.later lX
    have lWX := lW5.trans lX
    refine (cpu_Over_ok hTX.a).mono fun e V1 ⟨he, m1⟩ => ⟨_, _, _, he, (cpu_Over_ok (hTX.b.later m1)).mono fun e V2 ⟨he, m2⟩ => ⟨_, _, _, he, cnd_false (by rw [hov]; simp) (cnd_false (by rw [hcd]; simp) ?_)⟩⟩
    have m12 := m1.trans m2
    have lV2 := lWX.trans m12
    have hTV := hTX.later m12
    have next : ∀ V3, Later V2 V3 → Goes (fun vs W => ∃ (k : Nat) (s t : Cst) (S1 S2 : Nat → Prop), vs = [.int .i64 k] ∧ k ≤ N ∧ Later w W ∧ Two (mProg mb) (mProg nb) w2 w4 W S1 S2 x z s t ∧ Rel s t ∧ s.M.map (·.r) = regsOf u.n ∧ s.told.length ≤ s.tr.length ∧ s.tr.length = k) (fun vs _ => match vs with | [.int _ k] => (N - k.toNat) | _ => 0) [.int .i64 k] W [.int .i64 ((k + 1 : Nat) : Int)] V3 := fun V3 m3 => ⟨⟨k + 1, _, _, _, _, rfl, by omega, lV2.trans m3, hTV.later m3, hrel', k2.trans hr, k1, hlen⟩, by show N - (k + 1) < N - k; omega⟩
    have hag := law05_agree_ok hTV.a hTV.b (by omega) (k2.trans hr) hrel'
    refine cnd_of (fun _ => hag.mono fun e V3 ⟨he, m3⟩ => ⟨_, he, cnd_false rfl (cnd_of (fun _ => fin _ (lV2.trans m3)) fun _ => next V3 m3)⟩) fun _ => cnd_of (fun ho => hag.mono fun e V3 ⟨he, m3⟩ => ⟨_, he, cnd_false rfl (cnd_of (fun _ => fin _ (lV2.trans m3)) fun _ => next V3 m3)⟩) fun ho => cnd_of (fun _ => fin _ lV2) fun _ => next V2 (Later.refl _)
end Go.Proofs.YtcnnnlhoiodeaaaGreat

/-
What is handed in: values, and elements of slices, that are numbers, bools, texts, and structs of them, however deep.
Conditions: each theorem's hypotheses; nothing is asked of a program.
-/
namespace Go.Vc
open Go.RowKit Go.ChangeShapes Go.WideShapes

inductive CK where
  | int (k : IntKind) | bool | str
def CK.fits : CK → Value → Prop
  | .int k, v => ∃ n, v = .int k n ∧ (Lit.int k n).wf = true
  | .bool, v => ∃ b, v = .bool b
  | .str, v => ∃ s : ByteArray, v = .string s ∧ s.size ≤ maxLen
/-- The kinds of the cells of a struct's fields. -/
def kindsFs (P : Program) (g : TypeId → Option (List CK)) : List Field → Nat → Option (List CK)
  | [], _ => some []
  | f :: fs, o => (match g f.type with
    | some ks => (match Nat.beq f.offset o && Nat.beq (P.cellsOf f.type) ks.length with
      | true => (match kindsFs P g fs (o + ks.length) with | some l => some (ks ++ l) | none => none)
      | false => none)
    | none => none)
def kindsT (P : Program) : Nat → TypeId → Option (List CK)
  | 0, _ => none
  | n + 1, t => (match P.underlying t with
    | some .bool => some [.bool]
    | some (.int k) => some [.int k]
    | some .string => some [.str]
    | some (.struct fs) => kindsFs P (kindsT P n) fs.toList 0
    | _ => none)
section
variable {H : Type} {enc : TypeId × Value → H} {P : Program} {w : World} {base : Nat} {spare : Nat → Bool} {held : Bool}
theorem kindsFs_read {g : TypeId → Option (List CK)} {cs : List Value} (hg : ∀ (t : TypeId) (ks : List CK) (m : Nat) (cs' : List Value) (x : DataW H × List MemPlace), g t = some ks → DataW.trod enc P w base spare held m t cs' = some x → ∀ (j : Nat) (k : CK), ks[j]? = some k → ∃ v, cs'[j]? = some v ∧ k.fits v) :
    ∀ (fs : List Field) (o : Nat) (ks : List CK), kindsFs P g fs o = some ks → (∀ f ∈ fs, ∃ m y, DataW.trod enc P w base spare held m f.type ((cs.drop f.offset).take (P.cellsOf f.type)) = some y) → ∀ (j : Nat) (k : CK), ks[j]? = some k → ∃ v, cs[o + j]? = some v ∧ k.fits v := by
  intro fs
  induction fs with
  | nil =>
    intro o ks h _ j k hj
    simp only [kindsFs, Option.some.injEq] at h
    subst h
    simp at hj
  | cons f fs ih =>
    intro o ks h hT j k hj
    unfold kindsFs at h
    split at h
    case h_2 => cases h
    rename_i ks1 hk1
    split at h
    case h_2 => cases h
    rename_i hb
    simp only [Bool.and_eq_true] at hb
    have ho := Nat.eq_of_beq_eq_true hb.1
    have hc := Nat.eq_of_beq_eq_true hb.2
    split at h
    case h_2 => cases h
    rename_i l hl
    obtain rfl := Option.some.inj h
    by_cases hjl : j < ks1.length
    · rw [List.getElem?_append_left hjl] at hj
      obtain ⟨m, y, hy⟩ := hT f List.mem_cons_self
      obtain ⟨v, hv, hf⟩ := hg _ _ _ _ _ hk1 hy j k hj
      refine ⟨v, ?_, hf⟩
      rw [List.getElem?_take, hc, if_pos hjl, List.getElem?_drop, ho] at hv
      exact hv
    · rw [List.getElem?_append_right (by omega)] at hj
      obtain ⟨v, hv, hf⟩ := ih _ _ hl (fun g hg => hT g (List.mem_cons_of_mem f hg)) _ _ hj
      exact ⟨v, by rwa [show o + ks1.length + (j - ks1.length) = o + j by omega] at hv, hf⟩
theorem kindsT_read : ∀ (n : Nat) (t : TypeId) (ks : List CK) (m : Nat) (cs : List Value) (x : DataW H × List MemPlace), kindsT P n t = some ks → DataW.trod enc P w base spare held m t cs = some x → ∀ (j : Nat) (k : CK), ks[j]? = some k → ∃ v, cs[j]? = some v ∧ k.fits v
  | 0, t, ks, m, cs, x, h, _ => by simp [kindsT] at h
  | n + 1, t, ks, m, cs, x, h, hx => by
    intro j k hj
    unfold kindsT at h
    split at h
    · rename_i hu
      obtain rfl := Option.some.inj h
      obtain ⟨b, rfl, _⟩ := DataW.trod_bool hu hx
      cases j with
      | zero => obtain rfl : CK.bool = k := by simpa using hj
                exact ⟨_, rfl, b, rfl⟩
      | succ j => simp at hj
    · rename_i k' hu
      obtain rfl := Option.some.inj h
      obtain ⟨q, rfl, _, hw⟩ := DataW.trod_int hu hx
      cases j with
      | zero => obtain rfl : CK.int k' = k := by simpa using hj
                exact ⟨_, rfl, q, rfl, hw⟩
      | succ j => simp at hj
    · rename_i hu
      obtain rfl := Option.some.inj h
      obtain ⟨s, rfl, _, hs⟩ := DataW.trod_string hu hx
      cases j with
      | zero => obtain rfl : CK.str = k := by simpa using hj
                exact ⟨_, rfl, s, rfl, hs⟩
      | succ j => simp at hj
    · rename_i fs hu
      obtain ⟨xs, n', _, _, hlen, hxs, hf⟩ := DataW.trod_struct hu hx
      have := kindsFs_read (cs := cs) (fun t ks m cs x => kindsT_read n t ks m cs x) fs.toList 0 ks h (fun f hf' => by
        obtain ⟨i, hi⟩ := List.getElem?_of_mem hf'
        have h1 := hf i f (by simpa using hi)
        have hil : i < xs.length := by
          have := (List.getElem?_eq_some_iff.1 hi).1
          rw [hxs]; simpa using this
        rw [List.getElem?_eq_getElem hil] at h1
        exact ⟨n', _, h1⟩) j k hj
      rwa [Nat.zero_add] at this
    · cases h
end
end Go.Vc

/-
A setup that is handed in.
Conditions: each theorem's hypotheses.
-/
namespace Go.Proofs.YtcnnnlhoiodeaaaGreat
open Go Go.Vc Go.RowKit Go.ChangeShapes Go.WideShapes
set_option maxRecDepth 100000

theorem wf_u16 {n : Int} (h : (Lit.int .u16 n).wf = true) : 0 ≤ n ∧ n < 65536 := by
  have := wf_bound h
  rw [show IntKind.u16.min = 0 from rfl, show IntKind.u16.max = 65535 from rfl] at this
  omega
section
variable {H : Type} {enc : TypeId × Value → H} {w : World} {base : Nat} {spare : Nat → Bool} {held : Bool} {P : Program}
theorem row_read {t e : TypeId} {fuel : Nat} {cs : List Value} {x : DataW H × List MemPlace} (ht : P.underlying t = some (.slice e)) (h : DataW.trod enc P w base spare held fuel t cs = some x) :
    ∃ A n cap C, cs = [.slice A n cap] ∧ n ≤ cap ∧ cap ≤ maxLen ∧ ArgRow w A n (P.cellsOf e) C ∧ ∀ i, i < n → ∃ m x, DataW.trod enc P w base spare held m e (C i) = some x := by
  rcases Deep.open_slice ht h with ⟨hc, _⟩ | ⟨a, n, cap, m, q, D, Pl, hc, _, hl, hm, hmm, _, hx⟩
  · exact ⟨none, 0, 0, fun _ => [], hc, Nat.le_refl _, by decide, fun i hi => absurd hi (Nat.not_lt_zero i), fun i hi => absurd hi (Nat.not_lt_zero i)⟩
  · have hnm : n ≤ m := by rw [hmm]; split <;> omega
    obtain ⟨C, hC⟩ := Deep.choose_lt (fun i hi => hx i (Nat.lt_of_lt_of_le hi hnm) : ∀ i, i < n → _)
    refine ⟨some a, n, cap, C, hc, hl, hm, fun i hi => ?_, fun i hi => ⟨q, _, (hC i hi).2⟩⟩
    obtain ⟨_, h2, h3⟩ := World.cells?_some (hC i hi).1
    refine ⟨a, rfl, h2, fun j v hj => ?_⟩
    have hlt := (List.getElem?_eq_some_iff.1 hj).1
    rw [h3 j (by omega)]
    exact hj
theorem field_read {cs : List Value} {fs : Array Field} {n' : Nat} {xs : List (DataW H × List MemPlace)} (hlen : xs.length = fs.size) (hf : ∀ (i : Nat) (f : Field), fs[i]? = some f → DataW.trod enc P w base spare held n' f.type ((cs.drop f.offset).take (P.cellsOf f.type)) = xs[i]?)
    (i : Nat) (f : Field) (hi : fs[i]? = some f) (t o n : Nat) (ht : f.type = t) (ho : f.offset = o) (hn : P.cellsOf t = n) : ∃ m y, DataW.trod enc P w base spare held m t ((cs.drop o).take n) = some y := by
  subst ht; subst ho; subst hn
  have hil : i < xs.length := by rw [hlen]; exact (Array.getElem?_eq_some_iff.1 hi).1
  exact ⟨n', _, (hf i f hi).trans (List.getElem?_eq_getElem hil)⟩
/-- What a setup holds that was handed in. -/
structure SuIn (u : Su) : Prop where
  F : ∀ i, i < u.n → U8 (u.F i 0) ∧ U8 (u.F i 1) ∧ U8 (u.F i 2) ∧ U8 (u.F i 3) ∧ I64 (u.F i 4)
  regs : ∀ (k : Nat) (c : Cl), u.regs[k]? = some c → U8 c.a ∧ U64 c.v
  bys : ∀ (k : Nat) (c : Cl), u.bys[k]? = some c → U8 c.a ∧ U64 c.v
instance : Inhabited Cl := ⟨⟨0, 0, false⟩⟩
theorem cells_read {A : Option Addr} {n : Nat} {C : Nat → List Value} {e : TypeId} (he : ∀ (m : Nat) (x : DataW H × List MemPlace) (l : List Value), DataW.trod enc P w base spare held m e l = some x → ∃ a v t, l[0]? = some (u8v a) ∧ l[1]? = some (u64v v) ∧ l[2]? = some (.bool t) ∧ U8 a ∧ U64 v) (hc : P.cellsOf e = 3)
    (R : ArgRow w A n (P.cellsOf e) C) (T : ∀ i, i < n → ∃ m x, DataW.trod enc P w base spare held m e (C i) = some x) : ∃ l : List Cl, l.length = n ∧ ERow cellT w A l ∧ ∀ (k : Nat) (c : Cl), l[k]? = some c → U8 c.a ∧ U64 c.v := by
  obtain ⟨F, hF⟩ := Deep.choose_lt (p := fun i (m : Cl) => ((C i)[0]? = some (u8v m.a) ∧ (C i)[1]? = some (u64v m.v) ∧ (C i)[2]? = some (.bool m.t)) ∧ U8 m.a ∧ U64 m.v) (n := n) (fun i hi => by
    obtain ⟨m, x, hx⟩ := T i hi
    obtain ⟨a, v, t, h0, h1, h2, h3, h4⟩ := he m x _ hx
    exact ⟨⟨a, v, t⟩, ⟨h0, h1, h2⟩, h3, h4⟩)
  have hn : ((List.range n).map F).length = n := by simp
  refine ⟨(List.range n).map F, hn, fun i m hi => ?_, fun i m hi => ?_⟩
  · have hil : i < n := by have := (List.getElem?_eq_some_iff.1 hi).1; rwa [hn] at this
    obtain rfl : F i = m := by simpa [hil] using hi
    obtain ⟨ad, g1, _, g3⟩ := R i hil
    rw [hc] at g3
    obtain ⟨⟨c0, c1, c2⟩, -⟩ := hF i hil
    refine ⟨ad, g1, fun j v hv => ?_⟩
    have hj : j < 3 := (List.getElem?_eq_some_iff.1 hv).1
    match j, hj, hv with
    | 0, _, hv => obtain rfl := Option.some.inj hv; exact g3 0 _ c0
    | 1, _, hv => obtain rfl := Option.some.inj hv; exact g3 1 _ c1
    | 2, _, hv => obtain rfl := Option.some.inj hv; exact g3 2 _ c2
  · have hil : i < n := by have := (List.getElem?_eq_some_iff.1 hi).1; rwa [hn] at this
    obtain rfl : F i = m := by simpa [hil] using hi
    exact (hF i hil).2
theorem arg_setup {r : Reach} {b0 : Nat} {v : Value} {d : DataW H} {ps : List MemPlace} (hval : Value.okWide Tryz.prog w r b0 31 v) (h : DataW.Trod enc Tryz.prog w base spare held 31 v d ps) :
    ∃ A ca B cb C cc u, v = suV u A B C ca cb cc ∧ SuIn u ∧ SuAt w u A B C := by
  obtain ⟨cs, rfl, hsz⟩ := okWide_struct Tryz.underlying31 hval
  obtain ⟨fuel, h⟩ := h
  obtain ⟨xs, n', _, _, hlen, hxs, hf⟩ := DataW.trod_struct Tryz.underlying31 h
  have hsz : cs.size = 3 := hsz.trans (by kernel_rfl)
  obtain ⟨m0, y0, h0⟩ := field_read hxs hf 0 _ rfl 26 0 1 rfl rfl (by kernel_rfl)
  obtain ⟨m1, y1, h1⟩ := field_read hxs hf 1 _ rfl 29 1 1 rfl rfl (by kernel_rfl)
  obtain ⟨m2, y2, h2⟩ := field_read hxs hf 2 _ rfl 29 2 1 rfl rfl (by kernel_rfl)
  obtain ⟨l, rfl⟩ : ∃ l : List Value, cs = l.toArray := ⟨cs.toList, by simp⟩
  match l, hsz with
  | [v0, v1, v2], _ =>
  simp only [Value.cells, List.drop_zero, List.drop_succ_cons, List.take_succ_cons, List.take_zero] at h0 h1 h2
  obtain ⟨A0, l0, c0, C0, e0, hl0, hm0, R0, T0⟩ := row_read Tryz.underlying26 h0
  obtain ⟨A1, l1, c1, C1, e1, hl1, hm1, R1, T1⟩ := row_read Tryz.underlying29 h1
  obtain ⟨A2, l2, c2, C2, e2, hl2, hm2, R2, T2⟩ := row_read Tryz.underlying29 h2
  have hcell : ∀ (m : Nat) (x : DataW H × List MemPlace) (l : List Value), DataW.trod enc Tryz.prog w base spare held m 28 l = some x → ∃ a v t, l[0]? = some (u8v a) ∧ l[1]? = some (u64v v) ∧ l[2]? = some (.bool t) ∧ U8 a ∧ U64 v := fun m x l hx => by
    have hc := kindsT_read 2 _ [.int .u8, .int .u64, .bool] _ _ _ (by kernel_rfl) hx
    obtain ⟨u0, g0, n0, rfl, f0⟩ := hc 0 _ rfl
    obtain ⟨u1, g1, n1, rfl, f1⟩ := hc 1 _ rfl
    obtain ⟨u2, g2, b2, rfl⟩ := hc 2 _ rfl
    exact ⟨n0, n1, b2, g0, g1, g2, wf_u8 f0, wf_u64 f1⟩
  obtain ⟨lr, hr1, hr2, hr3⟩ := cells_read hcell (by kernel_rfl) R1 T1
  obtain ⟨lb, hb1, hb2, hb3⟩ := cells_read hcell (by kernel_rfl) R2 T2
  obtain ⟨F, hF⟩ := Deep.choose_lt (p := fun i (f : Nat → Int) => ∀ j k, insK[j]? = some k → (C0 i)[j]? = some (.int k (f j)) ∧ (Lit.int k (f j)).wf = true) (n := l0) (fun i hi => by
    obtain ⟨m, x, hx⟩ := T0 i hi
    have hc := kindsT_read 2 _ [.int .u8, .int .u8, .int .u8, .int .u8, .int .i64] _ _ _ (by kernel_rfl) hx
    obtain ⟨u0, g0, n0, rfl, f0⟩ := hc 0 _ rfl
    obtain ⟨u1, g1, n1, rfl, f1⟩ := hc 1 _ rfl
    obtain ⟨u2, g2, n2, rfl, f2⟩ := hc 2 _ rfl
    obtain ⟨u3, g3, n3, rfl, f3⟩ := hc 3 _ rfl
    obtain ⟨u4, g4, n4, rfl, f4⟩ := hc 4 _ rfl
    refine ⟨fun j => match j with | 0 => n0 | 1 => n1 | 2 => n2 | 3 => n3 | _ => n4, fun j k hk => ?_⟩
    have hj : j < 5 := (List.getElem?_eq_some_iff.1 hk).1
    match j, hj, hk with
    | 0, _, hk => obtain rfl := Option.some.inj hk; exact ⟨g0, f0⟩
    | 1, _, hk => obtain rfl := Option.some.inj hk; exact ⟨g1, f1⟩
    | 2, _, hk => obtain rfl := Option.some.inj hk; exact ⟨g2, f2⟩
    | 3, _, hk => obtain rfl := Option.some.inj hk; exact ⟨g3, f3⟩
    | 4, _, hk => obtain rfl := Option.some.inj hk; exact ⟨g4, f4⟩)
  obtain rfl : v0 = _ := by simpa using e0
  obtain rfl : v1 = _ := by simpa using e1
  obtain rfl : v2 = _ := by simpa using e2
  refine ⟨A0, c0, A1, c1, A2, c2, ⟨l0, F, lr, lb⟩, ?_, ⟨fun i hi => ?_, hr3, hb3⟩, ⟨fun i hi => ?_, hr2, hb2⟩⟩
  · simp [suV, hr1, hb1]
  · have := hF i hi
    exact ⟨wf_u8 (this 0 _ rfl).2, wf_u8 (this 1 _ rfl).2, wf_u8 (this 2 _ rfl).2, wf_u8 (this 3 _ rfl).2, wf_i64 (this 4 _ rfl).2⟩
  · obtain ⟨ad, g1, _, g3⟩ := R0 i hi
    exact ⟨ad, g1, fun j k hk => ⟨g3 j _ (hF i hi j k hk).1, (hF i hi j k hk).2⟩⟩
end
end Go.Proofs.YtcnnnlhoiodeaaaGreat
