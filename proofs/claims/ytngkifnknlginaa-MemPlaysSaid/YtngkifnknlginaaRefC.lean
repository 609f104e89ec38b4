/-
The reference's memory: fetching, setting, bytes; rows compared.
Conditions: each theorem's hypotheses.
-/
import Derived.Test.YtngkifnknlginaaRefB
namespace Go.Proofs.Ytngkifnknlginaa
open Go Go.Vc Go.RowKit
set_option linter.unusedVariables false
set_option linter.unusedSimpArgs false
set_option linter.unnecessarySimpa false
set_option linter.unusedSectionVars false
set_option maxRecDepth 100000

set_option maxHeartbeats 3200000 in
theorem ref_Fetch_ok {a b rb : Nat} {st : List Pt} {x : Int} (hx : 0 ≤ x ∧ x < 18446744073709551616) {w : World} (hM : RefAt w a b rb st) :
    Calls Try.prog sacristy_ref04_Mem_Fetch.N #[.pointer (some ⟨rb, 0, none⟩), u64v x] w (Gives (.tuple #[.int .u32 (fetchM st x).1, i64v (fetchM st x).2]) w) := by
  obtain ⟨lb, Bb, Tb, bi, ti, h⟩ := hM
  refine sacristy_ref04_Mem_Fetch.calls ?_
  unfold sacristy_ref04_Mem_Fetch.vc
  refine (ref_in_ok h hx).mono fun e w2 ⟨he, g2⟩ => ?_
  have h2 := h.later g2
  have n16 := h.ok.1
  rw [tmod_nn _ hx.1]
  have out : ∀ n n1 : Int, e = .returned (.tuple #[i64v n, i64v n1]) → ¬ x % 4 = 0 → ∃ n n_1, e = .returned (.tuple #[i64v n, i64v n_1]) ∧ True := fun n n1 h _ => ⟨n, n1, h, trivial⟩
  by_cases h4 : x % 4 = 0
  · have eL : fetchM st x = match findM st x 4 with
      | none => (0, 40)
      | some (_, p) => if p.r.k = 1 then (valB ((p.bs.drop (offR p x)).take 4), 0) else (0, 40) := by rw [fetchM, if_pos h4]; rfl
    cases hf : findM st x 4 with
    | none =>
      rw [refIn_none hf] at he
      rw [hf] at eL
      rw [eL]
      exact ⟨_, _, he, cnd_false (by simp [h4]) (cnd_true rfl ⟨rfl, g2⟩)⟩
    | some y =>
      obtain ⟨i, p⟩ := y
      rw [refIn_some hf] at he
      rw [hf] at eL
      simp only at eL
      obtain ⟨hi, hh⟩ := findM_get hf
      have hil : i < st.length := (List.getElem?_eq_some_iff.1 hi).1
      have hp := h.ok.2 i p hi
      obtain ⟨f1, f2, f3, f4⟩ := hasR_facts hp hh
      have m := mayR_facts hp.may
      have hk : offR p x + 4 ≤ p.r.s.toNat := by omega
      have lb' := hp.bl
      obtain ⟨c1, c2, c3, hr⟩ := h2.hr
      obtain ⟨ad, hA, d0, d1, d2, -⟩ := reg_cells h2.L (map_get hi)
      obtain rfl := Option.some.inj hA
      refine ⟨_, _, he, cnd_false (by simp [h4]) (cnd_false (by rw [decide_eq_false_iff_not]; omega) (Deref_some rfl ⟨_, _, _, hr.cell rfl, by omega, Deref_some rfl ⟨_, d2, cnd_of (fun hk1 => ⟨?_, g2⟩) fun hk1 => ?_⟩⟩))⟩
      · rw [eL, if_neg (by simpa using hk1)]
      have hk1 : p.r.k = 1 := by simpa using hk1
      rw [if_pos hk1] at eL
      let PB := (p.bs.drop (offR p x)).take 4
      have lPB : PB.length = 4 := by show ((p.bs.drop (offR p x)).take 4).length = _; rw [List.length_take, List.length_drop]; omega
      refine ⟨fun vs w' => ∃ j : Nat, j ≤ 4 ∧ vs = [.int .u32 (valB (PB.drop j)), i64v ((j : Int) - 1)] ∧ w' = w2, fun vs _ => match vs with | [_, .int _ m] => (m + 1).toNat | _ => 0,
        ⟨4, by omega, by rw [List.drop_of_length_le (by omega)]; rfl, rfl⟩, ?_⟩
      rintro g v jj w3 ⟨j, hj, hs', rfl⟩
      simp only [List.cons.injEq, Value.int.injEq, true_and, and_true] at hs'
      obtain ⟨rfl, rfl⟩ := hs'
      refine cnd_of (fun hge => ?_) fun hlt => ?_
      · have hj1 : 1 ≤ j := by simp only [decide_eq_true_eq] at hge; omega
        obtain ⟨j, rfl⟩ : ∃ k, j = k + 1 := ⟨j - 1, by omega⟩
        have ej : (((j + 1 : Nat) : Int) - 1) = (j : Int) := by omega
        rw [ej]
        obtain ⟨xb, hxb, exb⟩ := part_get (l := p.bs) (k := offR p x) (n := 4) (j := j) (by omega) (by omega)
        have hw : IntKind.i64.wrap ((offR p x : Int) + (j : Int)) = ((offR p x + j : Nat) : Int) := by rw [i64_in (by omega) (by omega)]; omega
        have hw2 : IntKind.i64.wrap ((j : Int) - 1) = (j : Int) - 1 := i64_in (by omega) (by omega)
        rw [hw, hw2]
        have hb8 : ∀ b ∈ PB, 0 ≤ b ∧ b < 256 := b8_part hp _ _
        have hxb8 : 0 ≤ xb ∧ xb < 256 := hp.b8 xb (List.mem_of_getElem? hxb)
        have eB : valB (PB.drop j) = xb + 256 * valB (PB.drop (j + 1)) := by
          show valB (((p.bs.drop (offR p x)).take 4).drop j) = _
          rw [exb]
          rfl
        have bnd : 0 ≤ valB (PB.drop j) ∧ valB (PB.drop j) < 4294967296 := by
          have h1 := valB_lt (PB.drop j) fun b hb => hb8 b (List.mem_of_mem_drop hb)
          have hl : (PB.drop j).length ≤ 4 := by rw [List.length_drop, lPB]; omega
          have : (2 : Int) ^ (8 * (PB.drop j).length) ≤ 4294967296 := by
            have h1 := pow_leI (show 8 * (PB.drop j).length ≤ 32 by omega)
            rwa [show (2 : Int) ^ 32 = 4294967296 by decide] at h1
          omega
        have bnd1 := (valB_lt (PB.drop (j + 1)) fun b hb => hb8 b (List.mem_of_mem_drop hb)).1
        have ev : IntKind.u32.wrap (IntKind.u32.wrap (256 * valB (PB.drop (j + 1))) + IntKind.u32.wrap xb) = valB (PB.drop j) := by
          rw [u32_in (x := 256 * valB (PB.drop (j + 1))) (by omega) (by omega), u32_in (x := xb) (by omega) (by omega), u32_in (by omega) (by omega), eB]
          omega
        have dec : (((j : Int) - 1) + 1).toNat < ((j : Int) + 1).toNat := by omega
        refine Deref_some rfl ⟨_, _, _, hr.cell (i := 1) rfl, by omega, Deref_some rfl ?_⟩
        rw [addr_cell]
        refine ⟨_, _, _, h2.B i p hi, by omega, Deref_some rfl ?_⟩
        rw [addr_cell]
        refine ⟨xb, h2.byte hi hxb, ?_⟩
        rw [ev]
        exact ⟨⟨j, by omega, rfl, rfl⟩, by simpa using dec⟩
      · have : j = 0 := by simp only [decide_eq_false_iff_not] at hlt; omega
        subst this
        refine ⟨?_, g2⟩
        rw [eL]
        rfl
  · rw [fetchM, if_neg h4]
    cases hf : findM st x 4 with
    | none =>
      rw [refIn_none hf] at he
      exact ⟨_, _, he, cnd_true (by simpa using h4) ⟨rfl, g2⟩⟩
    | some y =>
      obtain ⟨i, p⟩ := y
      rw [refIn_some hf] at he
      exact ⟨_, _, he, cnd_true (by simpa using h4) ⟨rfl, g2⟩⟩
theorem Wr.later {w w' w'' : World} {bi ti : Nat} {p : Pt} {k : Nat} {l : List Int} {t : Bool} {j : Nat} (h : Wr w bi ti p k l t j w') (hl : Later w' w'') : Wr w bi ti p k l t j w'' := ⟨h.but.trans (hl.but _), h.hB.later hl, h.hT.later hl⟩
theorem strB_at {s : ByteArray} {j : Nat} (h : j < s.size) : ∃ b : UInt8, s[j]? = some b ∧ (strB s)[j]? = some (b.toNat : Int) := by
  refine ⟨_, get_byte h, ?_⟩
  unfold strB
  rw [List.getElem?_map, List.getElem?_eq_getElem (by simpa using h)]
  rfl
set_option maxHeartbeats 3200000 in
theorem ref_Set_ok {a b rb : Nat} {st : List Pt} {x : Int} {s : ByteArray} (hs : s.size < 9223372036854775808) {t : Bool} (hx : 0 ≤ x ∧ x < 18446744073709551616) {w : World} (hM : RefAt w a b rb st) :
    Calls Try.prog sacristy_ref04_Mem_Set.N #[.pointer (some ⟨rb, 0, none⟩), u64v x, .string s, .bool t] w (RWrote (i64v (setM st x (strB s) t).2) w a b rb (setM st x (strB s) t).1) := by
  have hM' := hM
  obtain ⟨lb, Bb, Tb, bi, ti, h⟩ := hM
  refine sacristy_ref04_Mem_Set.calls ?_
  unfold sacristy_ref04_Mem_Set.vc
  have eL : setM st x (strB s) t = match findM st x (s.size : Int) with
    | none => (st, 40)
    | some (i, p) => (layM st i p (offR p x) (strB s) t, 0) := by rw [setM, strB_length]; rfl
  refine (ref_in_ok h hx).mono fun e w2 ⟨he, g2⟩ => ?_
  have h2 := h.later g2
  have n16 := h.ok.1
  cases hf : findM st x (s.size : Int) with
  | none =>
    rw [refIn_none hf] at he
    rw [hf] at eL
    rw [eL]
    exact ⟨_, _, he, cnd_true rfl ⟨rfl, g2.kept _ _, hM'.later g2⟩⟩
  | some y =>
    obtain ⟨i, p⟩ := y
    rw [refIn_some hf] at he
    rw [hf] at eL
    simp only at eL
    obtain ⟨hi, hh⟩ := findM_get hf
    have hil : i < st.length := (List.getElem?_eq_some_iff.1 hi).1
    have hp := h.ok.2 i p hi
    obtain ⟨f1, f2, f3, f4⟩ := hasR_facts hp hh
    have m := mayR_facts hp.may
    have hk : offR p x + s.size ≤ p.r.s.toNat := by omega
    have lb' := hp.bl
    have lt' := hp.tl
    have hne : bi i ≠ ti i := h.cross i i hil hil
    have hout := h.out i hil
    obtain ⟨c1, c2, c3, hr⟩ := h2.hr
    have ls := strB_length s
    refine ⟨_, _, he, cnd_false (by rw [decide_eq_false_iff_not]; omega) ?_⟩
    refine ⟨fun vs w' => ∃ j : Nat, j ≤ s.size ∧ vs = [i64v j] ∧ Wr w2 (bi i) (ti i) p (offR p x) (strB s) t j w', fun vs _ => match vs with | [.int _ m] => s.size - m.toNat | _ => 0, ⟨0, by omega, rfl, h2.wr0 hi _ _ _⟩, ?_⟩
    rintro g jj w3 ⟨j, hj, hs', hW⟩
    simp only [List.cons.injEq, Value.int.injEq, true_and, and_true] at hs'
    subst hs'
    refine cnd_of (fun hlt => ?_) fun hge => ?_
    · have hlt : j < s.size := by simp only [decide_eq_true_eq] at hlt; omega
      have hw : IntKind.i64.wrap ((offR p x : Int) + (j : Int)) = ((offR p x + j : Nat) : Int) := by rw [i64_in (by omega) (by omega)]; omega
      have hw2 : IntKind.i64.wrap ((j : Int) + 1) = ((j + 1 : Nat) : Int) := by rw [i64_in (by omega) (by omega)]; omega
      rw [hw, hw2]
      obtain ⟨bt, hbt, hx'⟩ := strB_at hlt
      have hr3 := hW.but.has hr (by show ¬ (rb = bi i ∨ rb = ti i); omega)
      have hB3 := hW.but.cell (h2.B i p hi) (by show ¬ (Bb = bi i ∨ Bb = ti i); omega)
      have hT3 := hW.but.cell (h2.T i p hi) (by show ¬ (Tb = bi i ∨ Tb = ti i); omega)
      have gB : offR p x + j < (u8c (putL p.bs (offR p x) ((strB s).take j))).length := by rw [u8c_length, putL_length (by rw [List.length_take]; omega)]; omega
      have gT : offR p x + j < (boc (putL p.ts (offR p x) (List.replicate j t))).length := by rw [boc_length, putL_length (by rw [List.length_replicate]; omega)]; omega
      refine Deref_some rfl ⟨_, _, _, fun w' hl => (hr3.later hl).cell (i := 1) rfl, by omega, Deref_some rfl ?_⟩
      rw [addr_cell]
      refine ⟨_, _, _, fun w' hl => hl.cell_some hB3, by omega, bt, by rw [Int.toNat_natCast]; exact hbt, by omega, Deref_some rfl ?_⟩
      rw [addr_cell]
      intro w3' hl3
      have hW := hW.later hl3
      have hr3 := hr3.later hl3
      have hT3 := hl3.cell_some hT3
      refine ⟨⟨by rw [hW.hB.cell (List.getElem?_eq_getElem gB)]; rfl, hW.hB.frozen _⟩, fun w4 h4 => ?_⟩
      have hr4 := Has.setE hr3 (by omega) h4
      have hT4 : w4.cell? ⟨Tb, i, none⟩ = some (.slice (some ⟨ti i, 0, none⟩) p.ts.length p.ts.length) := by
        rw [h4]
        exact cell_kept hT3 (cell_heap (by show bi i ≠ Tb; omega))
      have hti4 := Has.setE hW.hT (fun e => hne e.symm) h4
      refine Deref_some rfl ⟨_, _, _, hr4.cell (i := 2) rfl, by omega, Deref_some rfl ?_⟩
      rw [addr_cell]
      refine ⟨_, _, _, hT4, by omega, Deref_some rfl ?_⟩
      rw [addr_cell]
      refine ⟨⟨by rw [hti4.cell (List.getElem?_eq_getElem gT)]; rfl, hti4.frozen _⟩, fun w5 h5 => ⟨⟨j + 1, by omega, rfl, hW.step hne hx' (by omega) (by omega) h4 h5⟩, by show s.size - ((j + 1 : Nat) : Int).toNat < s.size - ((j : Nat) : Int).toNat; omega⟩⟩
    · have : j = s.size := by simp only [decide_eq_false_iff_not] at hge; omega
      subst this
      have hW' : Wr w2 (bi i) (ti i) p (offR p x) (strB s) t (strB s).length w3 := by rw [ls]; exact hW
      obtain ⟨r1, r2⟩ := h2.wrote hi hW' (by rw [ls]; exact hk) (strB_b8 s)
      rw [eL]
      exact ⟨rfl, (g2.kept a b).trans r2, r1⟩
theorem ref_Same_ok {l k : List Bool} {A B : Option Addr} {c1 c2 : Nat} (hl : l.length ≤ 16777216) {w : World} (hr : ERow boT w A l) (hq : ERow boT w B k) : Calls Try.prog ref04_Same.N #[.slice A l.length c1, .slice B k.length c2] w (Gives (.bool (decide (l = k))) w) := by
  refine ref04_Same.calls ?_
  unfold ref04_Same.vc
  refine cnd_of (fun h => ⟨?_, Later.refl _⟩) fun h => ?_
  · have : l ≠ k := fun e => by rw [e] at h; simp at h
    rw [decide_eq_false this]
  have hlk : l.length = k.length := by
    have : ((l.length : Int) = (k.length : Int)) := by simpa using h
    omega
  refine ⟨fun vs w' => ∃ j : Nat, j ≤ l.length ∧ vs = [i64v j] ∧ (∀ i, i < j → l[i]? = k[i]?) ∧ Later w w', fun vs _ => match vs with | [.int _ n] => l.length - n.toNat | _ => 0, ⟨0, by omega, rfl, fun i hi => by omega, Later.refl _⟩, ?_⟩
  rintro g i w1 ⟨j, hj, hs, hno, g1⟩
  simp only [List.cons.injEq, Value.int.injEq, true_and, and_true] at hs
  subst hs
  refine cnd_of (fun hlt => ?_) fun hge => ?_
  · have hlt : j < l.length := by simp only [decide_eq_true_eq] at hlt; omega
    have e1 := List.getElem?_eq_getElem hlt
    have e2 := List.getElem?_eq_getElem (l := k) (i := j) (by omega)
    generalize l[j] = x at e1
    generalize k[j]'(by omega) = y at e2
    obtain ⟨ad, rfl, ha⟩ := hr j x e1
    obtain ⟨bd, rfl, hb⟩ := hq j y e2
    have ha := ha 0 _ rfl
    have hb := hb 0 _ rfl
    rw [addr_add_zero] at ha hb
    have hw : IntKind.i64.wrap ((j : Int) + 1) = ((j + 1 : Nat) : Int) := by rw [i64_in (by omega) (by omega)]; omega
    rw [hw]
    refine ⟨by omega, Deref_some rfl ⟨x, fun w' hl' => (g1.trans hl').cell_some (by simpa [boT] using ha), by omega, Deref_some rfl ⟨y, fun w' hl' => (g1.trans hl').cell_some (by simpa [boT] using hb), fun w2 g2 => ?_⟩⟩⟩
    refine cnd_of (fun hne => ⟨?_, g1.trans g2⟩) fun heq => ⟨⟨j + 1, by omega, rfl, fun i hi => ?_, g1.trans g2⟩, by show l.length - ((j + 1 : Nat) : Int).toNat < l.length - ((j : Nat) : Int).toNat; omega⟩
    · have : l ≠ k := fun e => by
        rw [e, e2] at e1
        have := Option.some.inj e1
        subst this
        simp at hne
      rw [decide_eq_false this]
    · by_cases hij : i = j
      · subst hij
        have : x = y := by simpa using heq
        rw [e1, e2, this]
      · exact hno i (by omega)
  · have : j = l.length := by simp only [decide_eq_false_iff_not] at hge; omega
    subst this
    refine ⟨?_, g1⟩
    have : l = k := List.ext_getElem? fun i => by
      by_cases hi : i < l.length
      · exact hno i hi
      · rw [List.getElem?_eq_none (by omega), List.getElem?_eq_none (by omega)]
    rw [decide_eq_true this]
theorem addr_cell' (x n : Nat) : (⟨x, 0, none⟩ : Addr).add (n * 1) = ⟨x, n, none⟩ := by rw [add_block]; simp
set_option maxHeartbeats 3200000 in
theorem ref_Bytes_ok {a b rb : Nat} {st : List Pt} {x n : Int} (hx : 0 ≤ x ∧ x < 18446744073709551616) {w : World} (hM : RefAt w a b rb st) :
    Calls Try.prog sacristy_ref04_Mem_Bytes.N #[.pointer (some ⟨rb, 0, none⟩), u64v x, i64v n] w (BytesR st x n w) := by
  obtain ⟨lb, Bb, Tb, bi, ti, h⟩ := hM
  refine sacristy_ref04_Mem_Bytes.calls ?_
  unfold sacristy_ref04_Mem_Bytes.vc
  refine cnd_of (fun h1 => bytes_none ?_ (Later.refl _)) fun h1 => cnd_of (fun h2 => bytes_none ?_ (Later.refl _)) fun h2 => ?_
  · rw [bytesM, if_pos (.inl (by simpa using h1))]
  · rw [bytesM, if_pos (.inr (by simpa using h2))]
  have hn : ¬ (n < 0 ∨ 1048576 < n) := by simp only [decide_eq_false_iff_not] at h1 h2; omega
  refine (ref_in_ok h hx).mono fun e w2 ⟨he, g2⟩ => ?_
  have h2 := h.later g2
  have n16 := h.ok.1
  have eL : bytesM st x n = match findM st x n with
    | none => ([], [], 40)
    | some (_, p) => ((p.bs.drop (offR p x)).take n.toNat, (p.ts.drop (offR p x)).take n.toNat, 0) := by rw [bytesM, if_neg hn]; rfl
  cases hf : findM st x n with
  | none =>
    rw [refIn_none hf] at he
    rw [hf] at eL
    exact ⟨_, _, he, cnd_true rfl (bytes_none eL g2)⟩
  | some y =>
    obtain ⟨i, p⟩ := y
    rw [refIn_some hf] at he
    rw [hf] at eL
    simp only at eL
    obtain ⟨hi, hh⟩ := findM_get hf
    have hil : i < st.length := (List.getElem?_eq_some_iff.1 hi).1
    have hp := h.ok.2 i p hi
    obtain ⟨f1, f2, f3, f4⟩ := hasR_facts hp hh
    have m := mayR_facts hp.may
    have hn64 : n % 18446744073709551616 = n := by omega
    rw [hn64] at f4
    have hk : offR p x + n.toNat ≤ p.r.s.toNat := by omega
    have lb' := hp.bl
    have lt' := hp.tl
    have hw : IntKind.i64.wrap ((offR p x : Int) + n) = ((offR p x + n.toNat : Nat) : Int) := by rw [i64_in (by omega) (by omega)]; omega
    refine ⟨_, _, he, cnd_false (by rw [decide_eq_false_iff_not]; omega) ?_⟩
    obtain ⟨c1, c2, c3, hr⟩ := h2.hr
    simp only [hw, Int.toNat_natCast]
    have hslice : ∀ (bk : Nat) (len : Nat), offR p x < len → reslice (some ⟨bk, 0, none⟩) (offR p x) len 1 = some ⟨bk, offR p x, none⟩ := fun bk len hl => by
      rw [reslice_at (by omega), if_neg (by omega), Nat.zero_add]
    refine ⟨fun W' => RA W' a b rb lb Bb Tb bi ti st ∧ Has W' rb [.slice (some ⟨lb, 0, none⟩) st.length c1, .slice (some ⟨Bb, 0, none⟩) st.length c2, .slice (some ⟨Tb, 0, none⟩) st.length c3], fun W' hl => ⟨h2.later hl, hr.later hl⟩, fun w3 g3 => ?_⟩
    have h3 := h2.later g3
    have lpb := part_len hp hk
    have lts : ((p.ts.drop (offR p x)).take n.toNat).length = n.toNat := by rw [List.length_take, List.length_drop]; omega
    refine Deref_some rfl ⟨_, _, _, fun W' hC => hC.2.cell (i := 1) rfl, by omega, Deref_some rfl ?_⟩
    rw [addr_cell']
    refine ⟨_, _, _, fun W' hC => hC.1.B i p hi, by omega, by omega, ?_⟩
    rw [hslice _ _ (by omega), show offR p x + n.toNat - offR p x = n.toNat by omega]
    refine ⟨.string (strOf ((p.bs.drop (offR p x)).take n.toNat)), fun W' hC => ?_, _, rfl, Deref_some rfl ⟨_, _, _, fun W' hC => hC.2.cell (i := 2) rfl, by omega, Deref_some rfl ?_⟩⟩
    · have hcells : CellsAt W' ⟨bi i, offR p x, none⟩ 0 (((p.bs.drop (offR p x)).take n.toNat).map (Value.int .u8)) := by
        refine CellsAt_of_get fun j u hj => ?_
        rw [List.getElem?_map, Option.map_eq_some_iff] at hj
        obtain ⟨y, hy, rfl⟩ := hj
        rw [add_block, Nat.zero_add]
        exact hC.1.byte hi (drop_get hy)
      have := runs_bytes_string (P := Try.prog) (w := W') (src := 60) (dst := 9) (e := 5) (l := n.toNat) (c := p.bs.length - offR p x) (K := fun v w' => v = .string (strOf ((p.bs.drop (offR p x)).take n.toNat)) ∧ w' = W') (by kernel_rfl) (by kernel_rfl) (by kernel_rfl) lpb.symm hcells ⟨rfl, rfl⟩
      obtain ⟨v, w', hrun, rfl, rfl⟩ := RunsV_elim this
      exact hrun
    rw [addr_cell']
    refine ⟨_, _, _, fun W' hC => hC.1.T i p hi, by omega, by omega, ?_⟩
    rw [hslice _ _ (by omega)]
    have hrow : ERow boT w3 (some ⟨ti i, offR p x, none⟩) ((p.ts.drop (offR p x)).take n.toNat) := by
      intro j m' hj
      refine ⟨_, rfl, fun y v hv => ?_⟩
      have hy : y < 1 := (List.getElem?_eq_some_iff.1 hv).1
      obtain rfl : y = 0 := by omega
      have hv : v = .bool m' := by simpa [boT] using hv.symm
      rw [hv, addr_add_add, add_block, show offR p x + (j * boT.sz + 0) = offR p x + j by show offR p x + (j * 1 + 0) = _; omega]
      exact h3.taint hi (drop_get hj)
    have := fun (K : Value → World → Prop) => ERow.copy (P := Try.prog) (K := K) (cap := p.ts.length - offR p x) 43 rtBo (by rw [lts]; simp only [maxLen]; omega) (by rw [lts]; omega) hrow
    rw [lts] at this
    refine this _ fun bq cq w4 ho hl => ⟨_, _, _, rfl, ⟨h3.later hl, (hr.later g3).later hl⟩, (g2.trans g3).trans hl, bq, cq, ?_, ?_⟩
    · rw [eL]
      show _ = Ending.returned (.tuple #[_, .slice bq ((p.ts.drop (offR p x)).take n.toNat).length cq, _])
      rw [lts]
    · rw [eL]
      exact ho.weak (Later.size (g2.trans g3))
end Go.Proofs.Ytngkifnknlginaa
