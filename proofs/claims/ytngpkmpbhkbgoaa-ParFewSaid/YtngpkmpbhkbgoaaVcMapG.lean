/-
Maps that the call makes, whatever their keys, so long as keys are checked and compared as they should: looked up, turned, entries.
Conditions: each theorem's hypotheses.
-/
import Derived.Test.YtngpkmpbhkbgoaaVcMap
import Derived.Test.YtngpkmpbhkbgoaaVcEq
import Derived.Test.YtngpkmpbhkbgoaaVcLoc
namespace Go.Vc
open Go.RowKit
set_option linter.unusedVariables false
set_option linter.unusedSimpArgs false
set_option linter.unusedSectionVars false

/-- Keys of a map's type: how each stands as a value. -/
structure KeyLaw (P : Program) (kt : TypeId) {κ : Type} (enc : κ → Value) : Prop where
  inj : ∀ a b, enc a = enc b → a = b
  check : ∀ e a w, (Instr.checkKey e 10000 kt (enc a)).run P w = .ok () w
  same : ∀ a, Instr.sameBits 10000 (enc a) (enc a) = true
  find : ∀ (es : List MapEntry) (a : κ) (w : World), (∀ e ∈ es, ∃ b, e.key = enc b) →
    ((Instr.findKey kt (enc a) es).run P w = .ok none w ∧ ∀ e ∈ es, e.key ≠ enc a) ∨ ∃ i e, (Instr.findKey kt (enc a) es).run P w = .ok (some (i, e.val)) w ∧ es[i]? = some e ∧ e.key = enc a
/-- How a search that asks '==' of each goes. -/
theorem findAsking_law {P : Program} {kt : TypeId} {κ : Type} {enc : κ → Value} (inj : ∀ a b, enc a = enc b → a = b) (heq : ∀ a b w, ∃ r : Bool, (Op.equal kt (enc a) (enc b)).run P w = .ok r w ∧ (r = true ↔ a = b)) (a : κ) (w : World) :
    ∀ (es : List MapEntry) (k : Nat), (∀ e ∈ es, ∃ b, e.key = enc b) → ((Instr.findAsking kt (enc a) es k).run P w = .ok none w ∧ ∀ e ∈ es, e.key ≠ enc a) ∨ ∃ i e, (Instr.findAsking kt (enc a) es k).run P w = .ok (some (k + i, e.val)) w ∧ es[i]? = some e ∧ e.key = enc a := by
  intro es
  induction es with
  | nil => intro k _; exact .inl ⟨by simp [Instr.findAsking], by simp⟩
  | cons e es ih =>
    intro k hk
    obtain ⟨b, hb⟩ := hk e List.mem_cons_self
    obtain ⟨r, hr, hrr⟩ := heq a b w
    cases r with
    | true =>
      refine .inr ⟨0, e, ?_, rfl, by rw [hb, hrr.1 rfl]⟩
      simp [Instr.findAsking, hb, hr]
    | false =>
      have hne : e.key ≠ enc a := fun h => by
        rw [hb] at h
        have := hrr.2 (inj _ _ h).symm
        cases this
      rcases ih (k + 1) (fun x hx => hk x (List.mem_cons_of_mem _ hx)) with ⟨h1, h2⟩ | ⟨i, x, h1, h2, h3⟩
      · refine .inl ⟨by simp [Instr.findAsking, hb, hr, h1], fun x hx => ?_⟩
        rcases List.mem_cons.1 hx with rfl | hx
        · exact hne
        · exact h2 x hx
      · exact .inr ⟨i + 1, x, by simp [Instr.findAsking, hb, hr, h1]; omega, by simpa using h2, h3⟩
section
variable {P : Program} {t kt et : TypeId} {κ : Type} [DecidableEq κ] {enc : κ → Value}
/-- What a map's entries say. -/
structure Ent (enc : κ → Value) (es : List MapEntry) (clock : Nat) (m : κ → Option Value) : Prop where
  key : ∀ e ∈ es, ∃ a, e.key = enc a ∧ m a = some e.val
  all : ∀ a, (m a).isSome = true → ∃ e ∈ es, e.key = enc a
  keys : (es.map (·.key)).Nodup
  born : ∀ e ∈ es, e.born < clock
  borns : (es.map (·.born)).Nodup
def MapG (w : World) (r : Nat) (enc : κ → Value) (m : κ → Option Value) : Prop := ∃ es clock, w.heap[r]? = some (.map es clock) ∧ Ent enc es.toList clock m
theorem MapG.empty {w : World} {r c : Nat} (h : w.heap[r]? = some (.map #[] c)) : MapG w r enc fun _ => none := ⟨#[], c, h, ⟨by simp, by simp, by simp, by simp, by simp⟩⟩
theorem MapG.lt {w : World} {r : Nat} {m : κ → Option Value} (h : MapG w r enc m) : r < w.heap.size := by
  obtain ⟨es, c, h, _⟩ := h
  exact (Array.getElem?_eq_some_iff.1 h).1
theorem MapG.kept {w w' : World} {r : Nat} {m : κ → Option Value} (h : MapG w r enc m) (e : w'.heap[r]? = w.heap[r]?) : MapG w' r enc m := by
  obtain ⟨es, c, h, h2⟩ := h
  exact ⟨es, c, e.trans h, h2⟩
theorem MapG.later {w w' : World} {r : Nat} {m : κ → Option Value} (h : MapG w r enc m) (hl : Later w w') : MapG w' r enc m := h.kept (hl.block h.lt)
theorem MapG.setCell {w : World} {r : Nat} {m : κ → Option Value} (h : MapG w r enc m) (a : Addr) (v : Value) (hne : a.block ≠ r) : MapG (w.setCell a v) r enc m := h.kept (heap_setCell hne)
theorem MapG.congr {w : World} {r : Nat} {m m' : κ → Option Value} (h : MapG w r enc m) (e : ∀ a, m a = m' a) : MapG w r enc m' := by
  have : m = m' := funext e
  exact this ▸ h
/-- Where a key is, or that it is not. -/
theorem Ent.find (hL : KeyLaw P kt enc) {es : List MapEntry} {clock : Nat} {m : κ → Option Value} (h : Ent enc es clock m) (a : κ) (w : World) :
    ((Instr.findKey kt (enc a) es).run P w = .ok none w ∧ m a = none) ∨ ∃ i e, (Instr.findKey kt (enc a) es).run P w = .ok (some (i, e.val)) w ∧ es[i]? = some e ∧ e.key = enc a ∧ m a = some e.val := by
  rcases hL.find es a w (fun e he => let ⟨b, hb, _⟩ := h.key e he; ⟨b, hb⟩) with ⟨h1, h2⟩ | ⟨i, e, h1, h2, h3⟩
  · refine .inl ⟨h1, ?_⟩
    cases hm : m a with
    | none => rfl
    | some v =>
      obtain ⟨e, he, hk⟩ := h.all a (by rw [hm]; rfl)
      exact absurd hk (h2 e he)
  · refine .inr ⟨i, e, h1, h2, h3, ?_⟩
    obtain ⟨b, hb, hv⟩ := h.key e (List.mem_of_getElem? h2)
    rw [h3] at hb
    rw [hL.inj _ _ hb]; exact hv
theorem MapG.run_lookup {w : World} {r : Nat} {m : κ → Option Value} {z : Value} (hL : KeyLaw P kt enc) (hm : P.underlying t = some (.map kt et)) (hz : ∀ w : World, (zeroValue et).run P w = .ok z w)
    (h : MapG w r enc m) (a : κ) (ok : Bool) : (Instr.lookup t (.map (some r)) (enc a) ok).run P w = .ok (if ok then .tuple #[(m a).getD z, .bool (m a).isSome] else (m a).getD z) w := by
  obtain ⟨es, c, hb, hE⟩ := h
  rcases hE.find hL a w with ⟨h1, h2⟩ | ⟨i, e, h1, h2, h3, h4⟩
  · cases ok <;> simp [Instr.lookup, run_underlying hm, MapKept.run_getObj_map hb, hL.check, h1, hz, Result.andThen, h2]
  · cases ok <;> simp [Instr.lookup, run_underlying hm, MapKept.run_getObj_map hb, hL.check, h1, Result.andThen, h4]
theorem Ent.push {es : List MapEntry} {clock : Nat} {m : κ → Option Value} (inj : ∀ a b, enc a = enc b → a = b) (h : Ent enc es clock m) (a : κ) (v : Value) (hn : m a = none) : Ent enc (es ++ [{ key := enc a, val := v, born := clock }]) (clock + 1) fun x => if x = a then some v else m x := by
  have hk : ∀ e ∈ es, e.key ≠ enc a := by
    intro e he hh
    obtain ⟨b, hb, hv⟩ := h.key e he
    rw [hh] at hb
    obtain rfl := inj _ _ hb
    rw [hn] at hv; cases hv
  refine ⟨?_, ?_, ?_, ?_, ?_⟩
  · intro e he
    rcases List.mem_append.1 he with he | he
    · obtain ⟨b, hb, hv⟩ := h.key e he
      refine ⟨b, hb, ?_⟩
      have : b ≠ a := by rintro rfl; rw [hn] at hv; cases hv
      simp only [if_neg this]; exact hv
    · obtain rfl := List.mem_singleton.1 he
      exact ⟨a, rfl, by simp⟩
  · intro b hb
    by_cases hba : b = a
    · subst hba; exact ⟨_, List.mem_append_right _ (List.mem_singleton.2 rfl), rfl⟩
    · simp only [if_neg hba] at hb
      obtain ⟨e, he, hke⟩ := h.all b hb
      exact ⟨e, List.mem_append_left _ he, hke⟩
  · rw [List.map_append, List.nodup_append]
    refine ⟨h.keys, by simp, ?_⟩
    intro x hx y hy
    obtain ⟨e, he, rfl⟩ := List.mem_map.1 hx
    simp at hy
    subst hy
    exact hk e he
  · intro e he
    rcases List.mem_append.1 he with he | he
    · have := h.born e he; omega
    · obtain rfl := List.mem_singleton.1 he
      simp
  · rw [List.map_append, List.nodup_append]
    refine ⟨h.borns, by simp, ?_⟩
    intro x hx y hy
    obtain ⟨e, he, rfl⟩ := List.mem_map.1 hx
    have := h.born e he
    simp at hy
    omega
theorem Ent.set {es : List MapEntry} {clock : Nat} {m : κ → Option Value} (inj : ∀ a b, enc a = enc b → a = b) (h : Ent enc es clock m) {i : Nat} {e : MapEntry} {a : κ} (hi : es[i]? = some e) (hk : e.key = enc a) (v : Value) : Ent enc (es.set i { e with val := v }) clock fun x => if x = a then some v else m x := by
  have hil : i < es.length := (List.getElem?_eq_some_iff.1 hi).1
  have hie : es[i] = e := (List.getElem?_eq_some_iff.1 hi).2
  have keyeq : (es.set i { e with val := v }).map (·.key) = es.map (·.key) := by
    apply List.ext_getElem?
    intro j
    simp only [List.getElem?_map, List.getElem?_set]
    by_cases hj : i = j
    · subst hj; simp [hil, hie]
    · simp [hj]
  have borneq : (es.set i { e with val := v }).map (·.born) = es.map (·.born) := by
    apply List.ext_getElem?
    intro j
    simp only [List.getElem?_map, List.getElem?_set]
    by_cases hj : i = j
    · subst hj; simp [hil, hie]
    · simp [hj]
  have other : ∀ j x, es[j]? = some x → x.key = enc a → j = i := by
    intro j x hj hx
    have h1 : (es.map (·.key))[j]? = some (enc a) := by rw [List.getElem?_map, hj]; simp [hx]
    have h2 : (es.map (·.key))[i]? = some (enc a) := by rw [List.getElem?_map, hi]; simp [hk]
    have hjl : j < (es.map (·.key)).length := (List.getElem?_eq_some_iff.1 h1).1
    exact (List.getElem?_inj hjl h.keys).1 (h1.trans h2.symm)
  refine ⟨?_, ?_, by rw [keyeq]; exact h.keys, ?_, by rw [borneq]; exact h.borns⟩
  · intro x hx
    obtain ⟨j, hj⟩ := List.getElem?_of_mem hx
    rw [List.getElem?_set] at hj
    by_cases hij : i = j
    · subst hij
      rw [if_pos rfl, if_pos hil] at hj
      obtain rfl := Option.some.inj hj
      exact ⟨a, hk, by simp⟩
    · rw [if_neg hij] at hj
      obtain ⟨b, hb, hv⟩ := h.key x (List.mem_of_getElem? hj)
      refine ⟨b, hb, ?_⟩
      have : b ≠ a := by rintro rfl; exact hij (other j x hj hb).symm
      simp only [if_neg this]; exact hv
  · intro b hb
    by_cases hba : b = a
    · subst hba
      exact ⟨{ e with val := v }, List.mem_of_getElem? (l := es.set i { e with val := v }) (i := i) (by rw [List.getElem?_set]; simp [hil]), hk⟩
    · simp only [if_neg hba] at hb
      obtain ⟨x, hx, hkx⟩ := h.all b hb
      obtain ⟨j, hj⟩ := List.getElem?_of_mem hx
      have hij : i ≠ j := by
        rintro rfl
        rw [hi] at hj
        obtain rfl := Option.some.inj hj
        rw [hk] at hkx
        exact hba (inj _ _ hkx).symm
      exact ⟨x, List.mem_of_getElem? (i := j) (by rw [List.getElem?_set, if_neg hij]; exact hj), hkx⟩
  · intro x hx
    have : x.born ∈ (es.set i { e with val := v }).map (·.born) := List.mem_map.2 ⟨x, hx, rfl⟩
    rw [borneq] at this
    obtain ⟨y, hy, he⟩ := List.mem_map.1 this
    rw [← he]; exact h.born y hy
theorem modify_set {α : Type} (es : Array α) (i : Nat) (f : α → α) {e : α} (hi : es[i]? = some e) : (es.modify i f).toList = es.toList.set i (f e) := by
  apply List.ext_getElem?
  intro j
  rw [List.getElem?_set, Array.getElem?_toList, Array.getElem?_modify]
  have hil : i < es.toList.length := by simpa using (Array.getElem?_eq_some_iff.1 hi).1
  by_cases hij : i = j
  · subst hij
    rw [if_pos rfl, if_pos rfl, if_pos hil, hi]; rfl
  · rw [if_neg hij, if_neg hij, Array.getElem?_toList]
/-- What changes where a map is turned. -/
def MapStep (w w' : World) (r : Nat) : Prop := (∀ w0, Later w0 w → w0.heap.size ≤ r → Later w0 w') ∧ (∀ b, b ≠ r → w'.heap[b]? = w.heap[b]?) ∧ w'.heap.size = w.heap.size
theorem MapStep.of_set {w : World} {r : Nat} (o : Obj) : MapStep w { w with heap := w.heap.setIfInBounds r o } r :=
  ⟨fun w0 h hr => h.setMap hr _, fun b hb => by simp only [Array.getElem?_setIfInBounds]; rw [if_neg (fun h => hb h.symm)], by simp⟩
/-- A key has a value from now on. -/
theorem MapG.update {w : World} {r : Nat} {m : κ → Option Value} (hL : KeyLaw P kt enc) (hm : P.underlying t = some (.map kt et)) (h : MapG w r enc m) (a : κ) (v : Value) {K : Value → World → Prop}
    (hK : ∀ w', MapG w' r enc (fun x => if x = a then some v else m x) → MapStep w w' r → K (.tuple #[]) w') : RunsV P (do Instr.mapUpdate t (.map (some r)) (enc a) v; pure (.tuple #[])) w K := by
  obtain ⟨es, c, hb, hE⟩ := h
  have hr : r < w.heap.size := (Array.getElem?_eq_some_iff.1 hb).1
  rcases hE.find hL a w with ⟨h1, h2⟩ | ⟨i, e, h1, h2, h3, h4⟩
  · refine RunsV_of (w' := { w with heap := w.heap.setIfInBounds r (.map (es.push { key := enc a, val := v, born := c }) (c + 1)) }) (v := .tuple #[]) ?_ (hK _ ⟨es.push { key := enc a, val := v, born := c }, c + 1, by simp [hr], ?_⟩ (MapStep.of_set _))
    · simp [Instr.mapUpdate, run_underlying hm, MapKept.run_getObj_map hb, hL.check, h1, MapKept.run_setObj_map _ hb, Result.andThen]
    · rw [Array.toList_push]; exact hE.push hL.inj a v h2
  · have hi : es[i]? = some e := by simpa using h2
    have hsame : (Instr.keyThatStays (((es[i]?).map (·.key)).getD (enc a)) (enc a)).run P w = .ok (enc a) w := by
      rw [hi]
      simp [Instr.keyThatStays, h3, hL.same]
    refine RunsV_of (w' := { w with heap := w.heap.setIfInBounds r (.map (es.modify i fun (e : MapEntry) => { e with key := enc a, val := v }) c) }) (v := .tuple #[]) ?_ (hK _ ⟨es.modify i fun (e : MapEntry) => { e with key := enc a, val := v }, c, by simp [hr], ?_⟩ (MapStep.of_set _))
    · simp [Instr.mapUpdate, run_underlying hm, MapKept.run_getObj_map hb, hL.check, h1, hsame, MapKept.run_setObj_map _ hb, Result.andThen]
    · rw [modify_set es i _ hi, ← h3]
      exact hE.set hL.inj h2 h3 v
/-- The entry that a stamp names. -/
def EntAt (w : World) (r : Nat) (enc : κ → Value) (s : Int) (a : κ) : Prop := ∃ (es : Array MapEntry) (clock i : Nat) (e : MapEntry), w.heap[r]? = some (.map es clock) ∧ es[i]? = some e ∧ e.key = enc a ∧ (e.born : Int) = s
theorem EntAt.kept {w w' : World} {r : Nat} {s : Int} {a : κ} (h : EntAt w r enc s a) (e : w'.heap[r]? = w.heap[r]?) : EntAt w' r enc s a := by
  obtain ⟨es, c, i, x, h, h2⟩ := h
  exact ⟨es, c, i, x, e.trans h, h2⟩
theorem MapG.entry {w : World} {r : Nat} {m : κ → Option Value} {z : Value} (hL : KeyLaw P kt enc) (hm : P.underlying t = some (.map kt et)) (hz : ∀ w : World, (zeroValue et).run P w = .ok z w) (h : MapG w r enc m) (a : κ) {K : Value → World → Prop}
    (hK : ∀ w' s, MapG w' r enc (fun x => if x = a then some ((m a).getD z) else m x) → EntAt w' r enc s a → MapStep w w' r → K (.tuple #[(m a).getD z, goInt s]) w') : RunsV P (Instr.mapEntry t (.map (some r)) (enc a)) w K := by
  obtain ⟨es, c, hb, hE⟩ := h
  have hr : r < w.heap.size := (Array.getElem?_eq_some_iff.1 hb).1
  rcases hE.find hL a w with ⟨h1, h2⟩ | ⟨i, e, h1, h2, h3, h4⟩
  · have hE' := hE.push hL.inj a z h2
    rw [← Array.toList_push] at hE'
    refine RunsV_of (w' := { w with heap := w.heap.setIfInBounds r (.map (es.push { key := enc a, val := z, born := c }) (c + 1)) }) (v := .tuple #[z, goInt c]) ?_ ?_
    · simp [Instr.mapEntry, run_underlying hm, MapKept.run_getObj_map hb, hL.check, h1, hz, MapKept.run_setObj_map _ hb, Result.andThen]
    · have := hK { w with heap := w.heap.setIfInBounds r (.map (es.push { key := enc a, val := z, born := c }) (c + 1)) } c
      rw [h2] at this
      exact this ⟨es.push { key := enc a, val := z, born := c }, c + 1, by simp [hr], hE'⟩ ⟨es.push { key := enc a, val := z, born := c }, c + 1, es.size, { key := enc a, val := z, born := c }, by simp [hr], by simp, rfl, rfl⟩ (MapStep.of_set _)
  · have hi : es[i]? = some e := by simpa using h2
    have hil : i < es.size := (Array.getElem?_eq_some_iff.1 hi).1
    have hsame : (Instr.keyThatStays (((es[i]?).map (·.key)).getD (enc a)) (enc a)).run P w = .ok (enc a) w := by
      rw [hi]
      simp [Instr.keyThatStays, h3, hL.same]
    simp only [hi, Option.map_some, Option.getD_some] at hsame
    have hE' : Ent enc (es.modify i fun (e : MapEntry) => { e with key := enc a }).toList c fun x => if x = a then some e.val else m x := by
      rw [modify_set es i _ hi, ← h3]
      exact hE.set hL.inj h2 h3 e.val
    refine RunsV_of (w' := { w with heap := w.heap.setIfInBounds r (.map (es.modify i fun (e : MapEntry) => { e with key := enc a }) c) }) (v := .tuple #[e.val, goInt e.born]) ?_ ?_
    · simp [Instr.mapEntry, run_underlying hm, MapKept.run_getObj_map hb, hL.check, h1, hsame, MapKept.run_setObj_map _ hb, Result.andThen, hi]
    · have := hK { w with heap := w.heap.setIfInBounds r (.map (es.modify i fun (e : MapEntry) => { e with key := enc a }) c) } e.born
      rw [h4] at this
      refine this ⟨es.modify i fun (e : MapEntry) => { e with key := enc a }, c, by simp [hr], hE'⟩ ⟨es.modify i fun (e : MapEntry) => { e with key := enc a }, c, i, { e with key := enc a }, by simp [hr], ?_, rfl, rfl⟩ (MapStep.of_set _)
      rw [Array.getElem?_modify, if_pos rfl, hi]
      first | rfl | done
theorem MapG.store {w : World} {r : Nat} {m : κ → Option Value} (inj : ∀ a b, enc a = enc b → a = b) (h : MapG w r enc m) {s : Int} {a : κ} (hs : EntAt w r enc s a) (v : Value) {K : Value → World → Prop}
    (hK : ∀ w', MapG w' r enc (fun x => if x = a then some v else m x) → MapStep w w' r → K (.tuple #[]) w') : RunsV P (do Instr.entryStore t (.map (some r)) (goInt s) v; pure (.tuple #[])) w K := by
  obtain ⟨es, c, hb, hE⟩ := h
  obtain ⟨es', c', i, e, hb', hi, hk, hborn⟩ := hs
  rw [hb] at hb'
  cases hb'
  have hr : r < w.heap.size := (Array.getElem?_eq_some_iff.1 hb).1
  have hil : i < es.size := (Array.getElem?_eq_some_iff.1 hi).1
  have hfind : es.findIdx? (fun x => (x.born : Int) == s) = some i := by
    rw [Array.findIdx?_eq_some_iff_getElem]
    refine ⟨hil, ?_, ?_⟩
    · have : es[i] = e := (Array.getElem?_eq_some_iff.1 hi).2
      rw [this]; simpa using hborn
    · intro j hj
      intro hh
      have hh : ((es[j]'(by omega)).born : Int) = s := by simpa using hh
      have hjl : j < es.size := by omega
      have h1 : (es.toList.map (·.born))[j]? = some e.born := by
        rw [List.getElem?_map, Array.getElem?_toList, Array.getElem?_eq_getElem hjl]
        simp only [Option.map_some, Option.some.injEq]
        omega
      have h2 : (es.toList.map (·.born))[i]? = some e.born := by
        rw [List.getElem?_map, Array.getElem?_toList, hi]; rfl
      have := (List.getElem?_inj (by simpa using hjl) hE.borns).1 (h1.trans h2.symm)
      omega
  refine RunsV_of (w' := { w with heap := w.heap.setIfInBounds r (.map (es.modify i fun (e : MapEntry) => { e with val := v }) c) }) (v := .tuple #[]) ?_ (hK _ ⟨es.modify i fun (e : MapEntry) => { e with val := v }, c, by simp [hr], ?_⟩ (MapStep.of_set _))
  · simp [Instr.entryStore, MapKept.run_getObj_map hb, goInt, asInt, asIntOf, hfind, MapKept.run_setObj_map _ hb, Result.andThen]
  · rw [modify_set es i _ hi]
    exact hE.set inj (by simpa using hi) hk v
end
/-! ### an entry that is turned among other operations -/
section
variable {P : Program} {t kt et : TypeId} {κ : Type} [DecidableEq κ] {enc : κ → Value}
/-- All but one block stands. -/
structure KeptBut (w : World) (r : Nat) (w' : World) : Prop where
  later : ∀ w0, Later w0 w → w0.heap.size ≤ r → Later w0 w'
  block : ∀ b, b ≠ r → b < w.heap.size → w'.heap[b]? = w.heap[b]?
  size : w.heap.size ≤ w'.heap.size
theorem KeptBut.refl (w : World) (r : Nat) : KeptBut w r w := ⟨fun _ h _ => h, fun _ _ _ => rfl, Nat.le_refl _⟩
theorem KeptBut.to {w w' w'' : World} {r : Nat} (h : KeptBut w r w') (hl : Later w' w'') : KeptBut w r w'' :=
  ⟨fun w0 h0 hr => (h.later w0 h0 hr).trans hl, fun b hb hs => (hl.block (Nat.lt_of_lt_of_le hs h.size)).trans (h.block b hb hs), Nat.le_trans h.size hl.size⟩
theorem KeptBut.step {w w' w'' : World} {r : Nat} (h : KeptBut w r w') (hs : MapStep w' w'' r) : KeptBut w r w'' :=
  ⟨fun w0 h0 hr => hs.1 w0 (h.later w0 h0 hr) hr, fun b hb hl => (hs.2.1 b hb).trans (h.block b hb hl), by rw [hs.2.2]; exact h.size⟩
theorem KeptBut.has {w w' : World} {r b : Nat} {cs : List Value} (h : KeptBut w r w') (hb : b ≠ r) (hh : Has w b cs) : Has w' b cs := hh.kept (h.block b hb hh.lt)
theorem KeptBut.cell {w w' : World} {r b : Nat} {cs : List Value} (h : KeptBut w r w') (hb : b ≠ r) (hh : Has w b cs) {i : Nat} {v : Value} (hv : cs[i]? = some v) : w'.cell? ⟨b, i, none⟩ = some v := (h.has hb hh).cell hv
theorem RunsV_iff {s : Sem Value} {w : World} {K : Value → World → Prop} (h : RunsV P s w K) : ∃ v w', s.run P w = .ok v w' ∧ K v w' := by
  unfold RunsV at h
  split at h
  · rename_i v w' hr; exact ⟨v, w', hr, h⟩
  · exact h.elim
/-- Where an entry is turned up: a stamp that is the same in every world where the map is the same. -/
theorem MapG.entryAt {w : World} {r : Nat} {m : κ → Option Value} {z : Value} (hL : KeyLaw P kt enc) (hm : P.underlying t = some (.map kt et)) (hz : ∀ w : World, (zeroValue et).run P w = .ok z w) (h : MapG w r enc m) (a : κ) :
    ∃ s, ∀ w1, w1.heap[r]? = w.heap[r]? → ∃ w2, (Instr.mapEntry t (.map (some r)) (enc a)).run P w1 = .ok (.tuple #[(m a).getD z, goInt s]) w2 ∧ MapG w2 r enc (fun x => if x = a then some ((m a).getD z) else m x) ∧ EntAt w2 r enc s a ∧ MapStep w1 w2 r := by
  obtain ⟨es, c, hb, hE⟩ := h
  cases hma : m a with
  | none =>
    refine ⟨c, fun w1 h1 => ?_⟩
    rw [hb] at h1
    have hr : r < w1.heap.size := (Array.getElem?_eq_some_iff.1 h1).1
    rcases hE.find hL a w1 with ⟨f1, f2⟩ | ⟨i, e, f1, f2, f3, f4⟩
    · have hE' := hE.push hL.inj a z f2
      rw [← Array.toList_push] at hE'
      refine ⟨{ w1 with heap := w1.heap.setIfInBounds r (.map (es.push { key := enc a, val := z, born := c }) (c + 1)) }, ?_, ⟨es.push { key := enc a, val := z, born := c }, c + 1, by simp [hr], hE'⟩, ⟨es.push { key := enc a, val := z, born := c }, c + 1, es.size, { key := enc a, val := z, born := c }, by simp [hr], by simp, rfl, rfl⟩, MapStep.of_set _⟩
      simp [Instr.mapEntry, run_underlying hm, MapKept.run_getObj_map h1, hL.check, f1, hz, MapKept.run_setObj_map _ h1, Result.andThen]
    · rw [hma] at f4; cases f4
  | some v =>
    obtain ⟨e0, he0, hk0⟩ := hE.all a (by rw [hma]; rfl)
    refine ⟨e0.born, fun w1 h1 => ?_⟩
    rw [hb] at h1
    have hr : r < w1.heap.size := (Array.getElem?_eq_some_iff.1 h1).1
    rcases hE.find hL a w1 with ⟨f1, f2⟩ | ⟨i, e, f1, f2, f3, f4⟩
    · rw [hma] at f2; cases f2
    · have hee : e = e0 := by
        obtain ⟨j, hj⟩ := List.getElem?_of_mem he0
        have g1 : (es.toList.map (·.key))[i]? = some (enc a) := by rw [List.getElem?_map, f2]; simp [f3]
        have g2 : (es.toList.map (·.key))[j]? = some (enc a) := by rw [List.getElem?_map, hj]; simp [hk0]
        have hil : i < (es.toList.map (·.key)).length := (List.getElem?_eq_some_iff.1 g1).1
        have := (List.getElem?_inj hil hE.keys).1 (g1.trans g2.symm)
        subst this
        exact Option.some.inj (f2.symm.trans hj)
      subst hee
      have hi : es[i]? = some e := by simpa using f2
      have hil : i < es.size := (Array.getElem?_eq_some_iff.1 hi).1
      have hsame : (Instr.keyThatStays e.key (enc a)).run P w1 = .ok (enc a) w1 := by simp [Instr.keyThatStays, f3, hL.same]
      have hev : e.val = v := by rw [hma] at f4; exact (Option.some.inj f4).symm
      have hE' : Ent enc (es.modify i fun (e : MapEntry) => { e with key := enc a }).toList c fun x => if x = a then some e.val else m x := by
        rw [modify_set es i _ hi, ← f3]
        exact hE.set hL.inj f2 f3 e.val
      refine ⟨{ w1 with heap := w1.heap.setIfInBounds r (.map (es.modify i fun (e : MapEntry) => { e with key := enc a }) c) }, ?_, ?_, ⟨es.modify i fun (e : MapEntry) => { e with key := enc a }, c, i, { e with key := enc a }, by simp [hr], ?_, rfl, rfl⟩, MapStep.of_set _⟩
      · simp [Instr.mapEntry, run_underlying hm, MapKept.run_getObj_map h1, hL.check, f1, hsame, MapKept.run_setObj_map _ h1, Result.andThen, hi, hev]
      · simp only [Option.getD_some]
        rw [← hev]
        exact ⟨es.modify i fun (e : MapEntry) => { e with key := enc a }, c, by simp [hr], hE'⟩
      · rw [Array.getElem?_modify, if_pos rfl, hi]; rfl
/-- The worlds of a region that turns an entry up, stores it, and turns a second key. -/
def Phases (w1 : World) (r : Nat) (enc : κ → Value) (m1 m2 m3 : κ → Option Value) (s : Int) (a : κ) : Nat → World → Prop
  | 0, w' => KeptBut w1 r w' ∧ w'.heap[r]? = w1.heap[r]?
  | 1, w' => KeptBut w1 r w' ∧ MapG w' r enc m1 ∧ EntAt w' r enc s a
  | 2, w' => KeptBut w1 r w' ∧ MapG w' r enc m2
  | _, w' => KeptBut w1 r w' ∧ MapG w' r enc m3
theorem EntAt.later {w w' : World} {r : Nat} {s : Int} {a : κ} (h : EntAt w r enc s a) (hl : Later w w') : EntAt w' r enc s a := by
  have h0 := h
  obtain ⟨es, c, i, e, h1, _⟩ := h
  exact h0.kept (hl.block (Array.getElem?_eq_some_iff.1 h1).1)
theorem Phases.closed {w1 : World} {r : Nat} {m1 m2 m3 : κ → Option Value} {s : Int} {a : κ} (hr : r < w1.heap.size) : ∀ p, Closed (Phases w1 r enc m1 m2 m3 s a p)
  | 0, w, w', h, hl => ⟨h.1.to hl, (hl.block (Nat.lt_of_lt_of_le hr h.1.size)).trans h.2⟩
  | 1, w, w', h, hl => ⟨h.1.to hl, h.2.1.later hl, h.2.2.later hl⟩
  | 2, w, w', h, hl => ⟨h.1.to hl, h.2.later hl⟩
  | _ + 3, w, w', h, hl => ⟨h.1.to hl, h.2.later hl⟩
theorem Phases.kept {w1 : World} {r : Nat} {m1 m2 m3 : κ → Option Value} {s : Int} {a : κ} : ∀ {p : Nat} {w' : World}, Phases w1 r enc m1 m2 m3 s a p w' → KeptBut w1 r w'
  | 0, _, h => h.1
  | 1, _, h => h.1
  | 2, _, h => h.1
  | _ + 3, _, h => h.1
theorem PhC.kept {w1 w' : World} {r : Nat} {m1 m2 m3 : κ → Option Value} {s : Int} {a : κ} {lo hi : Nat} (h : PhC (Phases w1 r enc m1 m2 m3 s a) lo hi w') : KeptBut w1 r w' := by
  obtain ⟨p, _, _, h⟩ := h
  exact h.kept
/-- Up to where the entry is stored the map says what it said. -/
theorem PhC.says {w1 w' : World} {r : Nat} {m m2 m3 : κ → Option Value} {s : Int} {a : κ} {z : Value} (h0 : MapG w1 r enc m) (h : PhC (Phases w1 r enc (fun x => if x = a then some ((m a).getD z) else m x) m2 m3 s a) 0 1 w') :
    ∃ m', MapG w' r enc m' ∧ ∀ x, (m' x).getD z = (m x).getD z := by
  obtain ⟨p, _, hp, h⟩ := h
  match p, hp, h with
  | 0, _, h => exact ⟨m, h0.kept h.2, fun _ => rfl⟩
  | 1, _, h =>
    refine ⟨_, h.2.1, fun x => ?_⟩
    by_cases hx : x = a
    · subst hx; simp
    · simp [hx]
end
/-! ### keys that are pairs of a bool and a number -/
def encBI (p : Bool × Int) : Value := .agg #[.bool p.1, .int .i64 p.2]
theorem encBI_inj (a b : Bool × Int) (h : encBI a = encBI b) : a = b := by
  simp only [encBI, Value.agg.injEq, Array.mk.injEq, List.cons.injEq, Value.bool.injEq, Value.int.injEq, true_and, and_true] at h
  exact Prod.ext h.1 h.2
/-- A struct of a bool and a number. -/
structure PairTy (P : Program) (t : TypeId) (f0 f1 : Field) : Prop where
  under : P.underlying t = some (.struct #[f0, f1])
  n0 : f0.name ≠ "_"
  n1 : f1.name ≠ "_"
  o0 : f0.offset = 0
  o1 : f1.offset = 1
  t0 : P.underlying f0.type = some .bool
  t1 : P.underlying f1.type = some (.int .i64)
  held : P.stoodInHeld t = false
  guard : P.eqGuardType P.depth t = false
theorem PairTy.isAgg0 {P : Program} {t : TypeId} {f0 f1 : Field} (h : PairTy P t f0 f1) (w : World) : (isAgg f0.type).run P w = .ok false w := by rw [run_isAgg h.t0]; simp [isAggT, h.t0]
theorem PairTy.isAgg1 {P : Program} {t : TypeId} {f0 f1 : Field} (h : PairTy P t f0 f1) (w : World) : (isAgg f1.type).run P w = .ok false w := by rw [run_isAgg h.t1]; simp [isAggT, h.t1]
theorem PairTy.check {P : Program} {t : TypeId} {f0 f1 : Field} (h : PairTy P t f0 f1) (e : Bool) (a : Bool × Int) (w : World) : (Instr.checkKey e 10000 t (encBI a)).run P w = .ok () w := by
  have c0 : (Instr.checkKey e 9999 f0.type (.bool a.1)).run P w = .ok () w := MapKept.run_checkKey h.t0 (by simp [MapKept.IsKey]) e 9998
  have c1 : (Instr.checkKey e 9999 f1.type (.int .i64 a.2)).run P w = .ok () w := MapKept.run_checkKey h.t1 (by simp [MapKept.IsKey]) e 9998
  show (Instr.checkKey e (9999 + 1) t (encBI a)).run P w = .ok () w
  unfold Instr.checkKey
  simp [encBI, run_underlying h.under, Result.andThen, part, h.isAgg0, h.isAgg1, h.n0, h.n1, h.o0, h.o1, c0, c1]
theorem eqL_BI (a b : Bool × Int) : eqL [.bool a.1, .int .i64 a.2] [.bool b.1, .int .i64 b.2] = decide (a = b) := by
  obtain ⟨a0, a1⟩ := a
  obtain ⟨b0, b1⟩ := b
  simp only [eqL, eq1, Bool.and_true, Prod.mk.injEq]
  rw [Bool.eq_iff_iff]
  simp
theorem PairTy.flat {P : Program} {t : TypeId} {f0 f1 : Field} (h : PairTy P t f0 f1) (a b : Bool × Int) : flatL P 0 [f0, f1] [.bool a.1, .int .i64 a.2] [.bool b.1, .int .i64 b.2] = true := by
  simp [flatL, ty2, h.n0, h.n1, h.o0, h.o1, h.t0, h.t1]
theorem PairTy.eq {P : Program} {t : TypeId} {f0 f1 : Field} (h : PairTy P t f0 f1) (xo yo : Operand) (a b : Bool × Int) :
    EqRuns P .eql t xo yo (encBI a) (encBI b) (decide (a = b)) ∧ EqRuns P .neq t xo yo (encBI a) (encBI b) (!decide (a = b)) := by
  have := eq_flat (P := P) (vs := [.bool a.1, .int .i64 a.2]) (us := [.bool b.1, .int .i64 b.2]) xo yo h.under h.held h.guard (by simpa using h.flat a b)
  rw [eqL_BI] at this
  exact this
theorem PairTy.same {P : Program} {t : TypeId} {f0 f1 : Field} (h : PairTy P t f0 f1) (a b : Bool × Int) (w : World) : (Op.equal t (encBI a) (encBI b)).run P w = .ok (decide (a = b)) w := by
  have hf : P.fieldsOf t = #[f0, f1] := by simp [Program.fieldsOf, h.under]
  unfold Op.equal
  rw [show Op.maxDepth = 9998 + 1 + 1 from rfl]
  unfold encBI
  rw [run_equalIn_struct w (9998 + 1) t _ _ (by rw [hf]; exact h.under) h.held, hf, ← eqL_BI]
  exact flat_run 9998 w _ _ _ 0 [.bool a.1, .int .i64 a.2] [.bool b.1, .int .i64 b.2] (by simp) (by simp) (h.flat a b)
theorem PairTy.law {P : Program} {t : TypeId} {f0 f1 : Field} (h : PairTy P t f0 f1) : KeyLaw P t encBI where
  inj := encBI_inj
  check := h.check
  same := fun a => by simp [encBI, Instr.sameBits]
  find := fun es a w hes => by
    have hnow : ∀ (es : List MapEntry) (i : Nat), Instr.findNow (.struct #[f0, f1]) (encBI a) es i = if es = [] then some none else none := by
      intro es i
      cases es with
      | nil => rfl
      | cons e es =>
        unfold Instr.findNow
        simp [Instr.sameNow]
    rcases findAsking_law (kt := t) encBI_inj (fun a b w => ⟨_, h.same a b w, by simp⟩) a w es 0 hes with ⟨h1, h2⟩ | ⟨i, e, h1, h2, h3⟩
    · refine .inl ⟨?_, h2⟩
      unfold Instr.findKey
      simp only [Sem.run_bind, run_underlying h.under, Result.andThen_ok, hnow]
      cases es with
      | nil => rfl
      | cons e es => simpa using h1
    · refine .inr ⟨i, e, ?_, h2, h3⟩
      unfold Instr.findKey
      simp only [Sem.run_bind, run_underlying h.under, Result.andThen_ok, hnow]
      cases es with
      | nil => simp at h2
      | cons e es => simpa using h1
end Go.Vc
