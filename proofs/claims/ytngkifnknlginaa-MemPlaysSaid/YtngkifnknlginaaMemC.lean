/-
The contracts of package mem, third part: laying bytes, loading, storing, fetching.
Conditions: each theorem's hypotheses.
-/
import Derived.Test.YtngkifnknlginaaMemB
import Derived.Test.YtngkifnknlginaaWordB
namespace Go.Proofs.Ytngkifnknlginaa
open Go Go.Vc Go.RowKit
set_option linter.unusedVariables false
set_option linter.unusedSimpArgs false
set_option linter.unnecessarySimpa false
set_option maxRecDepth 100000

/-- A text's bytes. -/
def strB (s : ByteArray) : List Int := s.data.toList.map fun b => (b.toNat : Int)
theorem strB_length (s : ByteArray) : (strB s).length = s.size := by
  unfold strB
  rw [List.length_map, Array.length_toList]
  rfl
theorem strB_b8 (s : ByteArray) : ∀ b ∈ strB s, 0 ≤ b ∧ b < 256 := by
  intro b hb
  obtain ⟨c, -, rfl⟩ := List.mem_map.1 hb
  have : c.toNat < 256 := c.toNat_lt
  omega
theorem strB_cells (s : ByteArray) : Lib.byteCells s.data.toList = u8c (strB s) := by
  simp [Lib.byteCells, u8c, strB]
theorem strB_strOf {l : List Int} (h : ∀ b ∈ l, 0 ≤ b ∧ b < 256) : strB (strOf l) = l := by
  unfold strB strOf
  rw [List.toList_toArray, List.map_map]
  conv => rhs; rw [← List.map_id l]
  refine List.map_congr_left fun b hb => ?_
  obtain ⟨h0, h1⟩ := h b hb
  simp only [Function.comp, UInt8.toNat_ofNat', id]
  omega
theorem reslice_at {b o l m : Nat} (h : l ≤ m) : reslice (some ⟨b, o, none⟩) l m 1 = if m = l then some ⟨b, o, none⟩ else some ⟨b, o + l, none⟩ := by
  unfold reslice
  split
  · rfl
  · simp [add_block]
abbrev layS (bb tb : Nat) : Nat → Prop := fun k => k = bb ∨ k = tb
/-- What laying does to the world. -/
def LayR (w : World) (a b mb pb : Nat) (q off : Nat → Nat) (bb tb : Nat) (st : List Pt) (w' : World) : Prop := But (layS bb tb) w w' ∧ ∃ BB TB, MA w' a b mb pb q off bb tb BB TB st
set_option maxHeartbeats 1600000 in
theorem mem_lay_ok {a b mb pb : Nat} {q off : Nat → Nat} {bb tb : Nat} {BB TB : List Value} {st : List Pt} {w : World} (h : MA w a b mb pb q off bb tb BB TB st) {i : Nat} {p : Pt} (hi : st[i]? = some p) {k : Nat} {s : ByteArray} (hk : k + s.size ≤ p.r.s.toNat) (t : Bool) :
    Calls Try.prog sacristy_mem_part_lay.N #[.pointer (some ⟨q i, 0, none⟩), i64v (k : Int), .string s, .bool t] w fun e w' => e = .returned (.tuple #[]) ∧ LayR w a b mb pb q off bb tb (layM st i p k (strB s) t) w' := by
  refine sacristy_mem_part_lay.calls ?_
  unfold sacristy_mem_part_lay.vc
  have hp := h.ok.2 i p hi
  have m := mayR_facts hp.may
  obtain ⟨lb, lt⟩ := h.len hi
  have hil : i < st.length := (List.getElem?_eq_some_iff.1 hi).1
  have hq := h.pt i p hi
  have sBi := (h.sB i p hi).2
  have sTi := (h.sT i p hi).2
  have hw : IntKind.i64.wrap ((k : Int) + (s.size : Int)) = ((k + s.size : Nat) : Int) := by rw [i64_in (by omega) (by omega)]; omega
  rw [hw]
  refine Deref_some rfl ⟨_, _, _, hq.cell (i := 3) rfl, by omega, by omega, by omega, ?_⟩
  rw [Int.toNat_natCast, Int.toNat_natCast, reslice_at (by omega), show k + s.size - k = s.size by omega]
  have hlB : off i + k + (u8c (strB s)).length ≤ BB.length := by rw [u8c_length, strB_length]; omega
  have copied : ∃ w1, (Builtin.copy_ #[60, 9] 3 #[.slice (if k + s.size = k then some ⟨bb, off i, none⟩ else some ⟨bb, off i + k, none⟩) s.size s.size, .string s]).run Try.prog w = .ok (goInt s.size) w1 ∧ But (layS bb tb) w w1 ∧ Has w1 bb (putL BB (off i + k) (u8c (strB s))) ∧ Has w1 tb TB := by
    by_cases hs : s.size = 0
    · refine ⟨w, ?_, But.refl _ _, ?_, h.hT⟩
      · have := Lib.run_copy_empty_string (P := Try.prog) w 60 9 3 5 (if k + s.size = k then some ⟨bb, off i, none⟩ else some ⟨bb, off i + k, none⟩) s.size s.size s (by kernel_rfl) (by kernel_rfl) hs
        rw [this, hs]
        rfl
      · have : strB s = [] := List.length_eq_zero_iff.1 (by rw [strB_length]; exact hs)
        rw [this]
        show Has w bb (putL BB _ [])
        rw [putL_nil]
        exact h.hB
    · rw [if_neg (by omega)]
      obtain ⟨ty, hB⟩ := h.hB
      refine ⟨_, Lib.run_copy_row_string (P := Try.prog) w 60 9 3 5 bb (off i + k) s.size s.size s BB.toArray ty (by kernel_rfl) (by kernel_rfl) hB (Nat.le_refl _) (by simp; omega), But.setRow _ _ (.inl rfl), ?_, h.hT.kept (setRow_other _ _ _ _ (fun e => h.nB.1 e.symm))⟩
      have e : (BB.toArray.toList.take (off i + k) ++ Lib.byteCells s.data.toList ++ BB.toArray.toList.drop (off i + k + s.size)) = putL BB (off i + k) (u8c (strB s)) := by
        rw [strB_cells]
        unfold putL
        rw [u8c_length, strB_length]
      rw [e]
      exact Has.setRow ⟨ty, hB⟩ _
  obtain ⟨w1, hrun, g1, hB1, hT1⟩ := copied
  refine RunsV_of hrun ⟨_, rfl, ?_⟩
  refine ⟨fun vs w' => ∃ j : Nat, j ≤ s.size ∧ vs = [i64v j] ∧ But (layS bb tb) w w' ∧ Has w' bb (putL BB (off i + k) (u8c (strB s))) ∧ Has w' tb (putL TB (off i + k) (List.replicate j (.bool t))), fun vs _ => match vs with | [.int _ n] => s.size - n.toNat | _ => 0,
    ⟨0, by omega, rfl, g1, hB1, ?_⟩, ?_⟩
  · show Has w1 tb (putL TB _ [])
    rw [putL_nil]
    exact hT1
  rintro g s25 w2 ⟨j, hj, hs', g2, hB2, hT2⟩
  simp only [List.cons.injEq, Value.int.injEq, true_and, and_true] at hs'
  subst hs'
  refine cnd_of (fun hlt => ?_) fun hge => ?_
  · have hlt : j < s.size := by simpa [goInt] using hlt
    have hw2 : IntKind.i64.wrap ((k : Int) + (j : Int)) = ((k + j : Nat) : Int) := by rw [i64_in (by omega) (by omega)]; omega
    rw [hw2]
    have hq2 : Has w2 (q i) (ptC p bb tb (off i)) := g2.has hq (by have := h.nq i hil; show ¬ (q i = bb ∨ q i = tb); omega)
    refine Deref_some rfl ⟨_, _, _, hq2.cell (i := 4) rfl, by omega, Deref_some rfl ?_⟩
    rw [add_block, Int.toNat_natCast, show off i + (k + j) * 1 = off i + k + j by omega]
    have hTl : (putL TB (off i + k) (List.replicate j (Value.bool t))).length = TB.length := putL_length (by rw [List.length_replicate]; omega)
    have hget : off i + k + j < (putL TB (off i + k) (List.replicate j (Value.bool t))).length := by rw [hTl]; omega
    refine ⟨⟨by rw [hT2.cell (List.getElem?_eq_getElem hget)]; rfl, hT2.frozen _⟩, fun w3 h3 => ?_⟩
    have hw3 : IntKind.i64.wrap ((j : Int) + 1) = ((j + 1 : Nat) : Int) := by rw [i64_in (by omega) (by omega)]; omega
    rw [hw3]
    refine ⟨⟨j + 1, by omega, rfl, ?_, ?_, ?_⟩, by show s.size - ((j + 1 : Nat) : Int).toNat < s.size - ((j : Nat) : Int).toNat; omega⟩
    · rw [h3]; exact g2.trans (But.setCell _ _ (.inr rfl))
    · rw [h3]; exact hB2.set_other h.nB.1 _ _
    · have := hT2.set (off i + k + j) (.bool t)
      rw [h3, List.replicate_succ', ← putL_snoc (by rw [List.length_replicate]; omega), List.length_replicate, putL_one hget]
      exact this
  · have : j = s.size := by simp only [decide_eq_false_iff_not, goInt] at hge; omega
    subst this
    refine ⟨rfl, g2, _, _, h.lay g2 hi (l := strB s) (by rw [strB_length]; exact hk) (strB_b8 s) hB2 ?_⟩
    rw [strB_length]
    exact hT2
end Go.Proofs.Ytngkifnknlginaa
