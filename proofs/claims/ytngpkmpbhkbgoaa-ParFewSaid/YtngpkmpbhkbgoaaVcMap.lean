/-
Maps that the call makes: a new key is laid behind the others; what is looked up.
Conditions: each theorem's hypotheses; the keys are numbers.
-/
import Derived.Test.YtngpkmpbhkbgoaaVcLib
import Derived.WideMake
namespace Go.Vc
open Go.RowKit
set_option linter.unusedVariables false
set_option linter.unusedSimpArgs false

theorem Later.setMap {w0 w : World} {r : Nat} (h : Later w0 w) (hr : w0.heap.size ≤ r) (o : Obj) : Later w0 { w with heap := w.heap.setIfInBounds r o } := by
  refine ⟨h.os, h.tape, h.output, by simpa using h.size, fun k hk => ?_⟩
  have : ¬ r = k := by omega
  simp only [Array.getElem?_setIfInBounds, this, if_false]
  exact h.block hk
theorem RunsV_mapNew {P : Program} {w : World} {t kt et : TypeId} {r clock : Nat} {es : Array MapEntry} {k : IntKind} {a : Int} {val : Value} {K : Value → World → Prop} (hm : P.underlying t = some (.map kt et)) (hk : P.underlying kt = some (.int k))
    (hb : w.heap[r]? = some (.map es clock)) (hf : Instr.findNow (.int k) (.int k a) es.toList 0 = some none)
    (hK : ∀ w', w'.heap[r]? = some (.map (es.push { key := .int k a, val := val, born := clock }) (clock + 1)) → (∀ w0, Later w0 w → w0.heap.size ≤ r → Later w0 w') → K (.tuple #[]) w') :
    RunsV P (do Instr.mapUpdate t (.map (some r)) (.int k a) val; pure (.tuple #[])) w K := by
  have hc : (Instr.checkKey false 10000 kt (.int k a)).run P w = .ok () w := MapKept.run_checkKey (k := .int k a) hk (by simp [MapKept.IsKey]) false 9999
  refine RunsV_of (w' := { w with heap := w.heap.setIfInBounds r (.map (es.push { key := .int k a, val := val, born := clock }) (clock + 1)) }) (v := .tuple #[]) ?_ (hK _ ?_ ?_)
  · simp [Instr.mapUpdate, run_underlying hm, MapKept.run_getObj_map hb, hc, MapKept.run_findKey hk hf, MapKept.run_setObj_map _ hb, Result.andThen]
  · have hr : r < w.heap.size := (Array.getElem?_eq_some_iff.1 hb).1
    simp [hr]
  · exact fun w0 h hr => h.setMap hr _
theorem RunsV_lookup {P : Program} {w : World} {t kt et : TypeId} {r i clock : Nat} {es : Array MapEntry} {k : IntKind} {a : Int} {v : Value} {K : Value → World → Prop} (hm : P.underlying t = some (.map kt et)) (hk : P.underlying kt = some (.int k))
    (hb : w.heap[r]? = some (.map es clock)) (hf : Instr.findNow (.int k) (.int k a) es.toList 0 = some (some (i, v))) (hK : K (.tuple #[v, .bool true]) w) : RunsV P (Instr.lookup t (.map (some r)) (.int k a) true) w K := by
  have hc : ∀ b, (Instr.checkKey b 10000 kt (.int k a)).run P w = .ok () w := fun b => MapKept.run_checkKey (k := .int k a) hk (by simp [MapKept.IsKey]) b 9999
  refine RunsV_of ?_ hK
  simp [Instr.lookup, run_underlying hm, MapKept.run_getObj_map hb, hc, MapKept.run_findKey hk hf, Result.andThen]
theorem RunsV_lookup_none {P : Program} {w : World} {t kt et : TypeId} {r clock : Nat} {es : Array MapEntry} {k : IntKind} {a : Int} {z : Value} {K : Value → World → Prop} (hm : P.underlying t = some (.map kt et)) (hk : P.underlying kt = some (.int k))
    (hb : w.heap[r]? = some (.map es clock)) (hf : Instr.findNow (.int k) (.int k a) es.toList 0 = some none) (hz : (zeroValue et).run P w = .ok z w) (hK : K (.tuple #[z, .bool false]) w) : RunsV P (Instr.lookup t (.map (some r)) (.int k a) true) w K := by
  have hc : ∀ b, (Instr.checkKey b 10000 kt (.int k a)).run P w = .ok () w := fun b => MapKept.run_checkKey (k := .int k a) hk (by simp [MapKept.IsKey]) b 9999
  refine RunsV_of ?_ hK
  simp [Instr.lookup, run_underlying hm, MapKept.run_getObj_map hb, hc, MapKept.run_findKey hk hf, hz, Result.andThen]
/-- A map of numbers of one kind: what it says of each. -/
def MapI (w : World) (r : Nat) (k : IntKind) (m : Int → Option Value) : Prop :=
  ∃ es clock, w.heap[r]? = some (.map es clock) ∧ (∀ e ∈ es.toList, ∃ a, e.key = .int k a ∧ m a = some e.val) ∧ ∀ a, (m a).isSome = true → ∃ e ∈ es.toList, e.key = .int k a
theorem MapI.empty {w : World} {r c : Nat} (k : IntKind) (h : w.heap[r]? = some (.map #[] c)) : MapI w r k fun _ => none := ⟨#[], c, h, by simp, by simp⟩
theorem MapI.lt {w : World} {r : Nat} {k : IntKind} {m : Int → Option Value} (h : MapI w r k m) : r < w.heap.size := by
  obtain ⟨es, c, h, _⟩ := h
  exact (Array.getElem?_eq_some_iff.1 h).1
theorem MapI.same {w w' : World} {r : Nat} {k : IntKind} {m : Int → Option Value} (h : MapI w r k m) (e : w'.heap[r]? = w.heap[r]?) : MapI w' r k m := by
  obtain ⟨es, c, h, h2⟩ := h
  exact ⟨es, c, e.trans h, h2⟩
theorem MapI.later {w w' : World} {r : Nat} {k : IntKind} {m : Int → Option Value} (h : MapI w r k m) (hl : Later w w') : MapI w' r k m := h.same (hl.block h.lt)
theorem heap_setCell {w : World} {a : Addr} {v : Value} {b : Nat} (h : a.block ≠ b) : (w.setCell a v).heap[b]? = w.heap[b]? := by
  simp only [World.setCell, Array.getElem?_modify]
  rw [if_neg h]
theorem MapI.setCell {w : World} {r : Nat} {k : IntKind} {m : Int → Option Value} (h : MapI w r k m) (a : Addr) (v : Value) (hne : a.block ≠ r) : MapI (w.setCell a v) r k m := h.same (heap_setCell hne)
theorem MapI.find {w : World} {r : Nat} {k : IntKind} {m : Int → Option Value} (h : MapI w r k m) (a : Int) : ∃ es clock, w.heap[r]? = some (.map es clock) ∧
    ((m a = none ∧ Instr.findNow (.int k) (.int k a) es.toList 0 = some none) ∨ ∃ v j, m a = some v ∧ Instr.findNow (.int k) (.int k a) es.toList 0 = some (some (j, v))) := by
  obtain ⟨es, c, h1, h2, h3⟩ := h
  have hks : ∀ x ∈ es.toList, MapKept.IsKey (.int k) x.key := by
    intro x hx
    obtain ⟨a, ha, _⟩ := h2 x hx
    rw [ha]
    simp [MapKept.IsKey]
  refine ⟨es, c, h1, ?_⟩
  rcases MapKept.findNow_spec (d := .int k) (k := .int k a) (by simp [MapKept.IsKey]) es.toList 0 hks with ⟨f1, f2⟩ | ⟨j, e, f1, f2, f3⟩
  · refine .inl ⟨?_, f1⟩
    cases hm : m a with
    | none => rfl
    | some v =>
      obtain ⟨e, he, hk⟩ := h3 a (by rw [hm]; rfl)
      exact absurd hk (f2 e he)
  · refine .inr ⟨e.val, j, ?_, by simpa using f1⟩
    obtain ⟨a', ha, hv⟩ := h2 e (List.mem_of_getElem? f2)
    rw [f3] at ha
    simp only [Value.int.injEq, true_and] at ha
    rw [ha]; exact hv
theorem MapI.run_lookup {P : Program} {w : World} {t kt et : TypeId} {r : Nat} {k : IntKind} {m : Int → Option Value} {z : Value} (hm : P.underlying t = some (.map kt et)) (hk : P.underlying kt = some (.int k)) (hz : ∀ w : World, (zeroValue et).run P w = .ok z w)
    (h : MapI w r k m) (a : Int) (ok : Bool) : (Instr.lookup t (.map (some r)) (.int k a) ok).run P w = .ok (if ok then .tuple #[(m a).getD z, .bool (m a).isSome] else (m a).getD z) w := by
  have hc : ∀ b, (Instr.checkKey b 10000 kt (.int k a)).run P w = .ok () w := fun b => MapKept.run_checkKey (k := .int k a) hk (by simp [MapKept.IsKey]) b 9999
  obtain ⟨es, c, hb, ⟨h1, hf⟩ | ⟨v, j, h1, hf⟩⟩ := h.find a
  · cases ok <;> simp [Instr.lookup, run_underlying hm, MapKept.run_getObj_map hb, hc, MapKept.run_findKey hk hf, hz, Result.andThen, h1]
  · cases ok <;> simp [Instr.lookup, run_underlying hm, MapKept.run_getObj_map hb, hc, MapKept.run_findKey hk hf, Result.andThen, h1]
/-- One more key. -/
theorem MapI.insert {P : Program} {w : World} {t kt et : TypeId} {r : Nat} {k : IntKind} {m : Int → Option Value} {a : Int} {val : Value} {K : Value → World → Prop} (hm : P.underlying t = some (.map kt et)) (hk : P.underlying kt = some (.int k))
    (h : MapI w r k m) (hn : m a = none)
    (hK : ∀ w', MapI w' r k (fun x => if x = a then some val else m x) → (∀ w0, Later w0 w → w0.heap.size ≤ r → Later w0 w') → (∀ b, b ≠ r → w'.heap[b]? = w.heap[b]?) → K (.tuple #[]) w') :
    RunsV P (do Instr.mapUpdate t (.map (some r)) (.int k a) val; pure (.tuple #[])) w K := by
  obtain ⟨es, c, hb, ⟨h1, hf⟩ | ⟨v, j, h1, hf⟩⟩ := h.find a
  · obtain ⟨es', c', hb', h2, h3⟩ := h
    rw [hb] at hb'
    cases hb'
    have hc : (Instr.checkKey false 10000 kt (.int k a)).run P w = .ok () w := MapKept.run_checkKey (k := .int k a) hk (by simp [MapKept.IsKey]) false 9999
    refine RunsV_of (w' := { w with heap := w.heap.setIfInBounds r (.map (es.push { key := .int k a, val := val, born := c }) (c + 1)) }) (v := .tuple #[]) ?_ (hK _ ?_ ?_ ?_)
    · simp [Instr.mapUpdate, run_underlying hm, MapKept.run_getObj_map hb, hc, MapKept.run_findKey hk hf, MapKept.run_setObj_map _ hb, Result.andThen]
    · have hr : r < w.heap.size := (Array.getElem?_eq_some_iff.1 hb).1
      refine ⟨es.push { key := .int k a, val := val, born := c }, c + 1, by simp [hr], ?_, ?_⟩
      · intro e he
        simp only [Array.toList_push, List.mem_append, List.mem_singleton] at he
        rcases he with he | rfl
        · obtain ⟨b, hb1, hb2⟩ := h2 e he
          refine ⟨b, hb1, ?_⟩
          simp only
          rw [if_neg]
          · exact hb2
          · rintro rfl; rw [hn] at hb2; cases hb2
        · exact ⟨a, rfl, if_pos rfl⟩
      · intro b hbs
        by_cases hba : b = a
        · subst hba
          exact ⟨{ key := .int k b, val := val, born := c }, by simp, rfl⟩
        · simp only [if_neg hba] at hbs
          obtain ⟨e, he, hke⟩ := h3 b hbs
          exact ⟨e, by simp [he], hke⟩
    · exact fun w0 h hr => h.setMap hr _
    · intro b hbr
      simp only [Array.getElem?_setIfInBounds]
      rw [if_neg (fun h => hbr h.symm)]
  · rw [hn] at h1; cases h1
end Go.Vc
