/-
Memories, the plain part: regions, which may be, where a stretch lies, what is loaded and laid.
Conditions: none.
-/
import Derived.Test.YtngkifnknlginaaVcKept
namespace Go.Proofs.Ytngkifnknlginaa
open Go Go.Vc Go.RowKit
set_option linter.unusedVariables false
set_option linter.unusedSimpArgs false
set_option linter.unnecessarySimpa false
set_option maxRecDepth 100000

structure Reg where
  f : Int
  s : Int
  k : Int
  deriving DecidableEq
structure Pt where
  r : Reg
  bs : List Int
  ts : List Bool
  deriving DecidableEq
/-- A region's numbers are of their kinds. -/
structure RegIn (x : Reg) : Prop where
  f0 : 0 ≤ x.f
  f1 : x.f < 18446744073709551616
  s0 : 0 ≤ x.s
  s1 : x.s < 18446744073709551616
  k0 : 0 ≤ x.k
  k1 : x.k < 256
def mayR (x : Reg) : Bool := decide (1 ≤ x.k ∧ x.k ≤ 4) && (decide (1 ≤ x.s ∧ x.s ≤ 1048576) && decide (x.f ≤ 1099511627776 - x.s))
def touchR (x y : Reg) : Bool := decide (x.f < y.f + y.s) && decide (y.f < x.f + x.s)
def okUpto : List Reg → List Reg → Bool
  | _, [] => true
  | seen, x :: r => (mayR x && !(seen.any (touchR x))) && okUpto (seen ++ [x]) r
def mayL (l : List Reg) : Bool := decide (1 ≤ l.length ∧ l.length ≤ 16) && okUpto [] l
theorem okUpto_append : ∀ (a s b : List Reg), okUpto s (a ++ b) = (okUpto s a && okUpto (s ++ a) b)
  | [], s, b => by simp [okUpto]
  | x :: a, s, b => by
    simp only [List.cons_append, okUpto]
    rw [okUpto_append a (s ++ [x]) b, show s ++ x :: a = s ++ [x] ++ a by simp]
    simp only [Bool.and_assoc]
theorem okUpto_step {l : List Reg} {i : Nat} {x : Reg} (h : l[i]? = some x) : okUpto [] (l.take (i + 1)) = (okUpto [] (l.take i) && (mayR x && !((l.take i).any (touchR x)))) := by
  rw [List.take_add_one, h]
  show okUpto [] (l.take i ++ [x]) = _
  rw [okUpto_append]
  simp [okUpto]
theorem okUpto_front {l : List Reg} (i : Nat) (h : okUpto [] l = true) : okUpto [] (l.take i) = true := by
  rw [← List.take_append_drop i l, okUpto_append, Bool.and_eq_true] at h
  exact h.1
theorem okUpto_all {l : List Reg} (h : okUpto [] l = true) {i : Nat} {x : Reg} (hi : l[i]? = some x) : mayR x = true ∧ ∀ k y, k < i → l[k]? = some y → touchR x y = false := by
  have h1 := okUpto_front (i + 1) h
  rw [okUpto_step hi] at h1
  simp only [Bool.and_eq_true, Bool.not_eq_true', List.any_eq_false] at h1
  refine ⟨h1.2.1, fun k y hk hy => ?_⟩
  have := h1.2.2 y (List.mem_of_getElem? (i := k) (by rw [List.getElem?_take, if_pos hk]; exact hy))
  simpa using this
theorem okUpto_bad {l : List Reg} {i : Nat} {x : Reg} (hi : l[i]? = some x) (h : mayR x = false ∨ (l.take i).any (touchR x) = true) : okUpto [] l = false := by
  cases hc : okUpto [] l with
  | false => rfl
  | true =>
    have h1 := okUpto_front (i + 1) hc
    rw [okUpto_step hi] at h1
    rcases h with h | h <;> simp [h] at h1
theorem mayR_facts {x : Reg} (h : mayR x = true) : (1 ≤ x.k ∧ x.k ≤ 4) ∧ (1 ≤ x.s ∧ x.s ≤ 1048576) ∧ x.f + x.s ≤ 1099511627776 := by
  simp only [mayR, Bool.and_eq_true, decide_eq_true_eq] at h
  omega
def newM (l : List Reg) : List Pt := l.map fun r => ⟨r, List.replicate r.s.toNat 0, List.replicate r.s.toNat false⟩
/-! ### where a stretch lies -/
def hasR (r : Reg) (a n : Int) : Bool := decide (r.f ≤ a) && (decide (a - r.f < r.s) && decide (n % 18446744073709551616 ≤ r.s - (a - r.f)))
def findM : List Pt → Int → Int → Option (Nat × Pt)
  | [], _, _ => none
  | p :: l, a, n => if hasR p.r a n = true then some (0, p) else (findM l a n).map fun x => (x.1 + 1, x.2)
theorem findM_some : ∀ {st : List Pt} {a n : Int} {i : Nat} {p : Pt}, st[i]? = some p → hasR p.r a n = true → (∀ (j : Nat) (q : Pt), j < i → st[j]? = some q → hasR q.r a n = false) → findM st a n = some (i, p)
  | [], a, n, i, p, h, _, _ => by simp at h
  | q :: st, a, n, 0, p, h, hp, _ => by
    obtain rfl : q = p := by simpa using h
    simp [findM, hp]
  | q :: st, a, n, i + 1, p, h, hp, hq => by
    have h0 := hq 0 q (by omega) rfl
    have := findM_some (st := st) (by simpa using h) hp fun j r hj hr => hq (j + 1) r (by omega) (by simpa using hr)
    simp [findM, h0, this]
theorem findM_none : ∀ {st : List Pt} {a n : Int}, (∀ (j : Nat) (q : Pt), st[j]? = some q → hasR q.r a n = false) → findM st a n = none
  | [], a, n, _ => rfl
  | q :: st, a, n, h => by
    have h0 := h 0 q rfl
    have := findM_none (st := st) (a := a) (n := n) fun j r hr => h (j + 1) r (by simpa using hr)
    simp [findM, h0, this]
theorem findM_get : ∀ {st : List Pt} {a n : Int} {i : Nat} {p : Pt}, findM st a n = some (i, p) → st[i]? = some p ∧ hasR p.r a n = true
  | [], a, n, i, p, h => by simp [findM] at h
  | q :: st, a, n, i, p, h => by
    unfold findM at h
    split at h
    · rename_i hq
      simp only [Option.some.injEq, Prod.mk.injEq] at h
      obtain ⟨rfl, rfl⟩ := h
      exact ⟨rfl, hq⟩
    · cases hf : findM st a n with
      | none => rw [hf] at h; simp at h
      | some x =>
        rw [hf] at h
        simp only [Option.map_some, Option.some.injEq, Prod.mk.injEq] at h
        obtain ⟨rfl, rfl⟩ := h
        have := findM_get (st := st) hf
        simpa using this
/-- Where in it. -/
def offR (p : Pt) (a : Int) : Nat := (a - p.r.f).toNat
/-! ### bytes as a number -/
def valB : List Int → Int
  | [] => 0
  | b :: l => b + 256 * valB l
/-! ### what a memory does -/
def loadM (st : List Pt) (a n : Int) : Int × Bool × Int :=
  if n < 1 ∨ 8 < n then (0, false, 2)
  else match findM st a n with
    | none => (0, false, 40)
    | some (_, p) => if p.r.k = 1 then (0, false, 40) else (valB ((p.bs.drop (offR p a)).take n.toNat), ((p.ts.drop (offR p a)).take n.toNat).any id, 0)
def layP (p : Pt) (k : Nat) (l : List Int) (t : Bool) : Pt := ⟨p.r, putL p.bs k l, putL p.ts k (List.replicate l.length t)⟩
def layM (st : List Pt) (i : Nat) (p : Pt) (k : Nat) (l : List Int) (t : Bool) : List Pt := st.set i (layP p k l t)
def lowB (v : Int) (n : Nat) : List Int := (List.range n).map fun j => v / 2 ^ (8 * j) % 256
def storeM (st : List Pt) (a n v : Int) (t : Bool) : List Pt × Int :=
  if n < 1 ∨ 8 < n then (st, 2)
  else match findM st a n with
    | none => (st, 40)
    | some (i, p) => if p.r.k = 3 ∨ p.r.k = 4 then (layM st i p (offR p a) (lowB v n.toNat) t, 0) else (st, 40)
def fetchM (st : List Pt) (a : Int) : Int × Int :=
  if a % 4 = 0 then match findM st a 4 with
    | none => (0, 40)
    | some (_, p) => if p.r.k = 1 then (valB ((p.bs.drop (offR p a)).take 4), 0) else (0, 40)
  else (0, 40)
def setM (st : List Pt) (a : Int) (l : List Int) (t : Bool) : List Pt × Int :=
  match findM st a l.length with
    | none => (st, 40)
    | some (i, p) => (layM st i p (offR p a) l t, 0)
def bytesM (st : List Pt) (a n : Int) : List Int × List Bool × Int :=
  if n < 0 ∨ 1048576 < n then ([], [], 2)
  else match findM st a n with
    | none => ([], [], 40)
    | some (_, p) => ((p.bs.drop (offR p a)).take n.toNat, (p.ts.drop (offR p a)).take n.toNat, 0)
/-- A state that a memory may be in. -/
structure PtOk (p : Pt) : Prop where
  may : mayR p.r = true
  inn : RegIn p.r
  bl : p.bs.length = p.r.s.toNat
  tl : p.ts.length = p.r.s.toNat
  b8 : ∀ b ∈ p.bs, 0 ≤ b ∧ b < 256
def StOk (st : List Pt) : Prop := st.length ≤ 16 ∧ ∀ (i : Nat) (p : Pt), st[i]? = some p → PtOk p
theorem hasR_facts {p : Pt} (hp : PtOk p) {a n : Int} (h : hasR p.r a n = true) : p.r.f ≤ a ∧ (a - p.r.f = (offR p a : Int)) ∧ offR p a < p.r.s.toNat ∧ (n % 18446744073709551616).toNat ≤ p.r.s.toNat - offR p a := by
  have m := mayR_facts hp.may
  simp only [hasR, Bool.and_eq_true, decide_eq_true_eq] at h
  unfold offR
  omega
theorem putL_mem {α : Type} {B : List α} {o : Nat} {vs : List α} {x : α} (h : x ∈ putL B o vs) : x ∈ B ∨ x ∈ vs := by
  unfold putL at h
  rcases List.mem_append.1 h with h | h
  · rcases List.mem_append.1 h with h | h
    · exact .inl (List.mem_of_mem_take h)
    · exact .inr h
  · exact .inl (List.mem_of_mem_drop h)
theorem layP_ok {p : Pt} (hp : PtOk p) {k : Nat} {l : List Int} {t : Bool} (hk : k + l.length ≤ p.r.s.toNat) (hl : ∀ b ∈ l, 0 ≤ b ∧ b < 256) : PtOk (layP p k l t) := by
  refine ⟨hp.may, hp.inn, ?_, ?_, fun b hb => ?_⟩
  · show (putL p.bs k l).length = _
    rw [putL_length (by rw [hp.bl]; exact hk)]
    exact hp.bl
  · show (putL p.ts k _).length = _
    rw [putL_length (by rw [hp.tl, List.length_replicate]; exact hk)]
    exact hp.tl
  · rcases putL_mem hb with h | h
    · exact hp.b8 b h
    · exact hl b h
theorem layM_ok {st : List Pt} (hs : StOk st) {i : Nat} {p : Pt} (hi : st[i]? = some p) {k : Nat} {l : List Int} {t : Bool} (hk : k + l.length ≤ p.r.s.toNat) (hl : ∀ b ∈ l, 0 ≤ b ∧ b < 256) : StOk (layM st i p k l t) := by
  refine ⟨by simp [layM]; exact hs.1, fun j q hj => ?_⟩
  simp only [layM, List.getElem?_set] at hj
  split at hj
  · split at hj
    · obtain rfl := Option.some.inj hj
      exact layP_ok (hs.2 i p hi) hk hl
    · cases hj
  · exact hs.2 j q hj
theorem lowB_length (v : Int) (n : Nat) : (lowB v n).length = n := by simp [lowB]
theorem lowB_b8 (v : Int) (n : Nat) : ∀ b ∈ lowB v n, 0 ≤ b ∧ b < 256 := by
  intro b hb
  obtain ⟨j, -, rfl⟩ := List.mem_map.1 hb
  have h1 : (0 : Int) < 256 := by decide
  exact ⟨Int.emod_nonneg _ (by decide), Int.emod_lt_of_pos _ h1⟩
theorem newM_ok {l : List Reg} (hl : ∀ (i : Nat) (x : Reg), l[i]? = some x → RegIn x) (h : mayL l = true) : StOk (newM l) := by
  simp only [mayL, Bool.and_eq_true, decide_eq_true_eq] at h
  refine ⟨by simp [newM]; exact h.1.2, fun i p hi => ?_⟩
  simp only [newM, List.getElem?_map, Option.map_eq_some_iff] at hi
  obtain ⟨x, hx, rfl⟩ := hi
  refine ⟨(okUpto_all h.2 hx).1, hl i x hx, by simp, by simp, fun b hb => ?_⟩
  obtain rfl := (List.mem_replicate.1 hb).2
  decide
end Go.Proofs.Ytngkifnknlginaa
