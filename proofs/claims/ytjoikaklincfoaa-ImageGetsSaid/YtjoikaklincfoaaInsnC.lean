/-
The contract of package insn's Encode.
Conditions: each number is of its kind.
-/
import Derived.Test.YtjoikaklincfoaaInsnE
namespace Go.Proofs.Ytjoikaklincfoaa
open Go Go.Vc Go.RowKit
set_option linter.unusedVariables false
set_option linter.unusedSimpArgs false
set_option linter.unnecessarySimpa false
set_option maxRecDepth 100000

theorem tab_codes : ∀ x ∈ tabL, x.1 ≠ 0 := by
  have h : tabL.all (fun x => !(x.1 == 0)) = true := by decide
  intro x hx
  have := List.all_eq_true.1 h x hx
  simpa using this
theorem row_of {o : Int} (h1 : 1 ≤ o) (h2 : o < 35) : ∃ x, tabL[(o - 1).toNat]? = some x ∧ rowOf o = some x ∧ x ∈ tabL := by
  have hl : (o - 1).toNat < tabL.length := by show (o - 1).toNat < 34; omega
  refine ⟨_, List.getElem?_eq_getElem hl, ?_, List.getElem_mem hl⟩
  unfold rowOf
  rw [if_pos h1, List.getElem?_eq_getElem hl]
theorem row_none {o : Int} (h : o < 1 ∨ 35 ≤ o) : rowOf o = none := by
  unfold rowOf
  rcases h with h | h
  · rw [if_neg (by omega)]
  · rw [if_pos (by omega), List.getElem?_eq_none]
    show 34 ≤ _
    omega
set_option maxHeartbeats 1600000 in
theorem insn_Encode_ok (o d a b v : Int) (ho : U8 o) (hd : U8 d) (ha : U8 a) (hb : U8 b) (hv : I64 v) (w : World) :
    Calls Try.prog insn_Encode.N #[insv o d a b v] w (Gives (encR (encv o d a b v)) w) := by
  refine insn_Encode.calls ?_
  unfold insn_Encode.vc
  intro w1 h1
  have L := (Trk.start w).alloc h1
  refine (insn_table_ok w1).mono fun e w2 ⟨cs, he, hsz, hone, htab, hl⟩ => ⟨cs, hsz, he, fun w3 h3 => cnd_true (decide_eq_true hsz) ?_⟩
  have hlen : cs.toList.length = 315 := by rw [Array.length_toList]; exact hsz
  have s1 := fun (K : World → Prop) => ((L.later hl).alloc h3).setAll (K := K) 1 rfl hlen hone
  have s2 := fun (K : World → Prop) => ((Trk.start w2).alloc h3).setAll (K := K) 0 rfl hlen hone
  refine ⟨(s1 (fun _ => True) fun _ _ => trivial).1, fun w4 e4 => ?_⟩
  have L4 := (s1 _ fun _ h => h).2 w4 e4
  have T4 := (s2 _ fun _ h => h).2 w4 e4
  refine ⟨_, fun w' h' => (L4.later h').cell 0 rfl rfl, ?_⟩
  rw [i64_in (by have := ho.1; omega) (by have := ho.2; omega)]
  have none_ : ∀ w', Later w4 w' → encv o d a b v = none → Gives (encR (encv o d a b v)) w (.returned (.tuple #[.int .u32 0, .int .i64 2])) w' := by
    intro w' h' hn
    rw [hn]
    exact ⟨rfl, (L4.later h').to⟩
  refine cnd_of (fun h => ?_) (fun h => ?_)
  · intro w' h'
    refine none_ w' h' ?_
    unfold encv
    rw [row_none (.inr (of_decide_eq_true h))]
  have h35 : o < 35 := by have := of_decide_eq_false h; omega
  refine ⟨_, fun w' h' => (L4.later h').cell 0 rfl rfl, ⟨ho.1, h35⟩, ?_⟩
  by_cases h0 : o = 0
  · subst h0
    refine ⟨_, fun w' h' => by rw [add_block]; exact (L4.later h').cell 1 rfl htab.1, cnd_true rfl fun w' h' => none_ w' h' ?_⟩
    unfold encv
    rw [row_none (.inl (by omega))]
  have h1o : 1 ≤ o := by have := ho.1; omega
  obtain ⟨x, hx, hro, hmem⟩ := row_of h1o h35
  obtain ⟨f, hf, hr⟩ := htab.2 _ x hx
  have hix : ((o - 1).toNat + 1) * 9 = o.toNat * 9 := by omega
  rw [hix] at hr
  have hF := tab_forms x hmem
  have cell : ∀ w', Later w4 w' → ∀ j u, (rowL x.1 x.2.1 x.2.2.1 f)[j]? = some u → w'.cell? ⟨w2.heap.size, o.toNat * 9 + j, none⟩ = some u := fun w' h' j u hj => (L4.later h').cell 1 rfl (hr j u hj)
  obtain ⟨f1, f2, f3, f4, f5, f6, f7⟩ := hf
  refine ⟨_, fun w' h' => by rw [add_block, Nat.zero_add]; exact cell w' h' 0 _ rfl, cnd_false (by simpa using tab_codes x hmem) ?_⟩
  refine ⟨_, fun w' h' => (L4.later h').cell 0 rfl rfl, ⟨ho.1, h35⟩, ?_⟩
  simp only [add_block, Nat.zero_add]
  refine ⟨_, _, _, _, _, _, _, _, fun w' h' => ⟨cell w' h' 3 _ rfl, cell w' h' 4 _ rfl, cell w' h' 5 _ rfl, cell w' h' 6 _ rfl, cell w' h' 7 _ rfl, cell w' h' 8 _ rfl, trivial⟩, ?_⟩
  refine ⟨_, _, _, _, _, fun w' h' => ⟨(L4.later h').cell 0 rfl rfl, (L4.later h').cell 0 rfl rfl, (L4.later h').cell 0 rfl rfl, (L4.later h').cell 0 rfl rfl, (L4.later h').cell 0 rfl rfl, trivial⟩, ?_⟩
  refine ⟨_, fun w' h' => insn_may_ok x.2.2.2 f ⟨f1, f2, f3, f4, f5⟩ o d a b v hv hF.nb w', fun w5 h5 => ?_⟩
  refine cnd_of (fun h => ?_) (fun h => ?_)
  · refine none_ w5 h5 ?_
    have h : mayF x.2.2.2 d a b v = false := by simpa using h
    unfold encv
    rw [hro]
    simp only [h]
    rfl
  have hm : mayF x.2.2.2 d a b v = true := by simpa using h
  have hparts := hF.parts d a b v hd.1 ha.1 hb.1 hm
  have L5 := L4.later h5
  refine ⟨_, L5.cell 0 rfl rfl, ⟨ho.1, h35⟩, ?_⟩
  refine ⟨_, _, _, _, _, _, _, _, _, _, _, ⟨cell w5 h5 0 _ rfl, cell w5 h5 1 _ rfl, cell w5 h5 2 _ rfl, cell w5 h5 3 _ rfl, cell w5 h5 4 _ rfl, cell w5 h5 5 _ rfl, cell w5 h5 6 _ rfl, cell w5 h5 7 _ rfl, cell w5 h5 8 _ rfl, trivial⟩, fun w6 h6 => ?_⟩
  have s3 := fun (K : World → Prop) => (L5.alloc h6).setAll (K := K) 2 rfl (l := rowL x.1 x.2.1 x.2.2.1 f) (by rfl) (ones rfl)
  have s4 := fun (K : World → Prop) => ((Trk.start w5).alloc h6).setAll (K := K) 0 rfl (l := rowL x.1 x.2.1 x.2.2.1 f) (by rfl) (ones rfl)
  refine ⟨(s3 (fun _ => True) fun _ _ => trivial).1, fun w7 e7 => ?_⟩
  have L7 := (s3 _ fun _ h => h).2 w7 e7
  have T7 := (s4 _ fun _ h => h).2 w7 e7
  refine ⟨_, L7.cell 0 rfl rfl, _, L7.cell 0 rfl rfl, _, L7.cell 0 rfl rfl, _, fun w' h' => (L7.later h').cell 2 rfl rfl, _, fun w' h' => (L7.later h').cell 2 rfl rfl, _, fun w' h' => (L7.later h').cell 2 rfl rfl, _, fun w' h' => (L7.later h').cell 0 rfl rfl,
    _, _, _, fun w' h' => (L7.later h').cell 2 rfl rfl, ?_⟩
  have l25 : Later w2 w5 := T4.to.trans h5
  have l57 : Later w5 w7 := T7.to
  have hspans : x.2.2.2.spans = [] ∨ ∃ q, f.p = some ⟨q, 0, none⟩ ∧ Has w7 q (flat x.2.2.2.spans) := by
    rcases f7 with f7 | ⟨q, f7, f8⟩
    · exact .inl f7
    · exact .inr ⟨q, f7, f8.later (l25.trans l57)⟩
  have hasc := hF.asc
  rw [f6]
  refine ⟨_, fun w' h' => insn_laid_ok v x.2.2.2.spans hasc.1 hasc.2 f.p f.c w' ?_, fun w8 h8 => ?_⟩
  · rcases hspans with q | ⟨q, q1, q2⟩
    · exact .inl q
    · exact .inr ⟨q, q1, q2.later h'⟩
  · have hs := (word_sum x d a b v hparts).1
    rw [hs]
    refine ⟨?_, (L7.later h8).to⟩
    unfold encv
    rw [hro]
    simp only [hm, if_true]
    rfl
end Go.Proofs.Ytjoikaklincfoaa
