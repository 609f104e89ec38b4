/-
Maps that the call makes: a new key is laid behind the others; what is looked up.
Conditions: each theorem's hypotheses; the keys are numbers.
-/
import Derived.Test.YtpfnjooddobohaaVcLib
import Derived.WideMake
namespace Go.Vc
open Go.RowKit
set_option linter.unusedVariables false
set_option linter.unusedSimpArgs false

theorem Later.setMap {w0 w : World} {r : Nat} (h : Later w0 w) (hr : w0.heap.size ≤ r) (o : Obj) : Later w0 { w with heap := w.heap.setIfInBounds r o } := by
  refine ⟨h.os, h.tape, h.output, by simpa using h.size, fun k hk => ?_⟩
  have : ¬ r = k := by omega
  simp only [Array.getElem?_setIfInBounds, this, if_false]
  exact h.block hk
theorem RunsV_mapNew {P : Program} {w : World} {t kt et : TypeId} {r clock : Nat} {es : Array MapEntry} {k : IntKind} {a : Int} {val : Value} {K : Value → World → Prop} (hm : P.underlying t = some (.map kt et)) (hk : P.underlying kt = some (.int k))
    (hb : w.heap[r]? = some (.map es clock)) (hf : Instr.findNow (.int k) (.int k a) es.toList 0 = some none)
    (hK : ∀ w', w'.heap[r]? = some (.map (es.push { key := .int k a, val := val, born := clock }) (clock + 1)) → (∀ w0, Later w0 w → w0.heap.size ≤ r → Later w0 w') → K (.tuple #[]) w') :
    RunsV P (do Instr.mapUpdate t (.map (some r)) (.int k a) val; pure (.tuple #[])) w K := by
  have hc : (Instr.checkKey false 10000 kt (.int k a)).run P w = .ok () w := MapKept.run_checkKey (k := .int k a) hk (by simp [MapKept.IsKey]) false 9999
  refine RunsV_of (w' := { w with heap := w.heap.setIfInBounds r (.map (es.push { key := .int k a, val := val, born := clock }) (clock + 1)) }) (v := .tuple #[]) ?_ (hK _ ?_ ?_)
  · simp [Instr.mapUpdate, run_underlying hm, MapKept.run_getObj_map hb, hc, MapKept.run_findKey hk hf, MapKept.run_setObj_map _ hb, Result.andThen]
  · have hr : r < w.heap.size := (Array.getElem?_eq_some_iff.1 hb).1
    simp [hr]
  · exact fun w0 h hr => h.setMap hr _
theorem RunsV_lookup {P : Program} {w : World} {t kt et : TypeId} {r i clock : Nat} {es : Array MapEntry} {k : IntKind} {a : Int} {v : Value} {K : Value → World → Prop} (hm : P.underlying t = some (.map kt et)) (hk : P.underlying kt = some (.int k))
    (hb : w.heap[r]? = some (.map es clock)) (hf : Instr.findNow (.int k) (.int k a) es.toList 0 = some (some (i, v))) (hK : K (.tuple #[v, .bool true]) w) : RunsV P (Instr.lookup t (.map (some r)) (.int k a) true) w K := by
  have hc : ∀ b, (Instr.checkKey b 10000 kt (.int k a)).run P w = .ok () w := fun b => MapKept.run_checkKey (k := .int k a) hk (by simp [MapKept.IsKey]) b 9999
  refine RunsV_of ?_ hK
  simp [Instr.lookup, run_underlying hm, MapKept.run_getObj_map hb, hc, MapKept.run_findKey hk hf, Result.andThen]
theorem RunsV_lookup_none {P : Program} {w : World} {t kt et : TypeId} {r clock : Nat} {es : Array MapEntry} {k : IntKind} {a : Int} {z : Value} {K : Value → World → Prop} (hm : P.underlying t = some (.map kt et)) (hk : P.underlying kt = some (.int k))
    (hb : w.heap[r]? = some (.map es clock)) (hf : Instr.findNow (.int k) (.int k a) es.toList 0 = some none) (hz : (zeroValue et).run P w = .ok z w) (hK : K (.tuple #[z, .bool false]) w) : RunsV P (Instr.lookup t (.map (some r)) (.int k a) true) w K := by
  have hc : ∀ b, (Instr.checkKey b 10000 kt (.int k a)).run P w = .ok () w := fun b => MapKept.run_checkKey (k := .int k a) hk (by simp [MapKept.IsKey]) b 9999
  refine RunsV_of ?_ hK
  simp [Instr.lookup, run_underlying hm, MapKept.run_getObj_map hb, hc, MapKept.run_findKey hk hf, hz, Result.andThen]
end Go.Vc
