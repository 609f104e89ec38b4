/-
Images, fifth part: two images the same; which bytes an image has (the reference).
Conditions: an image's numbers are of their kinds, its rows of at most so many elements.
-/
import Derived.Test.YtjoikaklincfoaaImgD
namespace Go.Proofs.Ytjoikaklincfoaa
open Go Go.Vc Go.RowKit
set_option linter.unusedVariables false
set_option linter.unusedSimpArgs false
set_option linter.unnecessarySimpa false
set_option maxRecDepth 100000

theorem img_eq : ∀ {x y : Img}, x.slots = y.slots → x.ret = y.ret → x.sec = y.sec → x.params = y.params → x.code = y.code → x = y
  | ⟨_, _, _, _, _⟩, ⟨_, _, _, _, _⟩, rfl, rfl, rfl, rfl, rfl => rfl
abbrev hdV (h : Hd) : Value := .agg #[.bool h.buf, .bool h.sec, .bool h.mut_, i64v h.d, i64v h.len]
theorem hd_ne (xo yo : Operand) (a b : Hd) : EqRuns Try.prog .neq 50 xo yo (hdV a) (hdV b) (!decide (a = b)) := by
  have := (eq_flat (P := Try.prog) (vs := hdC a) (us := hdC b) xo yo Try.underlying50 (by kernel_rfl) (by kernel_rfl) (by kernel_rfl)).2
  have e : eqL (hdC a) (hdC b) = decide (a = b) := by
    rw [Bool.eq_iff_iff]
    cases a
    cases b
    simp [eqL, eq1, hdC]
  rw [e] at this
  exact this
set_option maxHeartbeats 6400000 in
theorem ref30_Same_ok {x y : Img} (hx : ImOk x) {A1 A2 B1 B2 : Option Addr} {c1 c2 d1 d2 : Nat} {w : World} (hr : ImAt w A1 A2 x) (hq : ImAt w B1 B2 y) :
    Calls Try.prog ref30_Same.N #[imgV A1 c1 A2 c2 x, imgV B1 d1 B2 d2 y] w (Gives (.bool (decide (x = y))) w) := by
  refine ref30_Same.calls ?_
  unfold ref30_Same.vc
  intro w1 h1 w2 h2
  have L := ((Trk.start w).alloc h1).alloc h2
  have np := hx.np
  have nc := hx.nc
  have no : ¬ x = y → ∀ w', Later w w' → Gives (.bool (decide (x = y))) w (.returned (.bool false)) w' := fun h w' hl => ⟨by rw [decide_eq_false h], hl⟩
  refine ⟨_, L.cell 0 rfl rfl, _, L.cell 1 rfl rfl, cnd_of (fun h => no (fun e => ?_) _ L.to) fun e1 => ⟨_, L.cell 0 rfl rfl, _, L.cell 1 rfl rfl, cnd_of (fun h => no (fun e => ?_) _ L.to) fun e2 => ⟨_, L.cell 0 rfl rfl, _, L.cell 1 rfl rfl, cnd_of (fun h => no (fun e => ?_) _ L.to) fun e3 =>
    ⟨_, _, _, L.cell 0 rfl rfl, _, _, _, L.cell 1 rfl rfl, cnd_of (fun h => no (fun e => ?_) _ L.to) fun e4 => ⟨_, _, _, L.cell 0 rfl rfl, _, _, _, L.cell 1 rfl rfl, cnd_of (fun h => no (fun e => ?_) _ L.to) fun e5 => ?_⟩⟩⟩⟩⟩
  · subst e; simp at h
  · subst e; simp at h
  · subst e; simp at h
  · subst e; simp at h
  · subst e; simp at h
  have e1 : x.slots = y.slots := by simpa using e1
  have e2 : x.ret = y.ret := by simpa using e2
  have e3 : x.sec = y.sec := by simpa using e3
  have e4 : x.params.length = y.params.length := by have := e4; simp at this; omega
  have e5 : x.code.length = y.code.length := by have := e5; simp at this; omega
  refine ⟨fun vs w' => ∃ k : Nat, k ≤ x.params.length ∧ vs = [i64v k] ∧ (∀ i, i < k → x.params[i]? = y.params[i]?) ∧ Later w2 w', fun vs _ => match vs with | [.int _ n] => x.params.length - n.toNat | _ => 0, ⟨0, by omega, rfl, fun i hi => by omega, Later.refl _⟩, ?_⟩
  rintro g s w3 ⟨k, hk, hs, hok, g3⟩
  simp only [List.cons.injEq, Value.int.injEq, true_and, and_true] at hs
  subst hs
  have L3 := L.later g3
  refine ⟨_, _, _, L3.cell 0 rfl rfl, cnd_of (fun h => ?_) fun h => ?_⟩
  · have hlt : k < x.params.length := by simp only [decide_eq_true_eq] at h; omega
    have hg := List.getElem?_eq_getElem hlt
    have hg2 := List.getElem?_eq_getElem (show k < y.params.length by omega)
    generalize x.params[k] = m at hg
    generalize y.params[k] = m2 at hg2
    obtain ⟨ad, hA, hc⟩ := (hr.1.later (L3.to)) k _ hg
    obtain ⟨bd, hB, hd⟩ := (hq.1.later (L3.to)) k _ hg2
    have at0 : ∀ {a : Addr} {n : Nat} {v : Value}, w3.cell? ((a.add n).add 0) = some v → w3.cell? (a.add n) = some v := fun h => by rwa [addr_add_zero] at h
    refine ⟨_, _, _, fun w' hl => hl.cell_some (L3.cell 0 rfl rfl), ⟨by omega, by omega⟩, Deref_some hA ⟨m.buf, m.sec, m.mut_, m.d, m.len, fun w' hl => ⟨hl.cell_some (at0 (hc 0 _ rfl)), hl.cell_some (hc 1 _ rfl), hl.cell_some (hc 2 _ rfl), hl.cell_some (hc 3 _ rfl), hl.cell_some (hc 4 _ rfl), trivial⟩, ?_⟩⟩
    refine ⟨_, _, _, fun w' hl => hl.cell_some (L3.cell 1 rfl rfl), ⟨by omega, by omega⟩, Deref_some hB ⟨m2.buf, m2.sec, m2.mut_, m2.d, m2.len, fun w' hl => ⟨hl.cell_some (at0 (hd 0 _ rfl)), hl.cell_some (hd 1 _ rfl), hl.cell_some (hd 2 _ rfl), hl.cell_some (hd 3 _ rfl), hl.cell_some (hd 4 _ rfl), trivial⟩, _, hd_ne _ _ m m2, fun w4 g4 => ?_⟩⟩
    refine cnd_of (fun h => no (fun e => ?_) _ (L3.to.trans g4)) fun h => ?_
    · subst e
      rw [hg] at hg2
      obtain rfl := Option.some.inj hg2
      simp at h
    · have hm : m = m2 := by simpa using h
      have hw : IntKind.i64.wrap ((k : Int) + 1) = ((k + 1 : Nat) : Int) := by rw [i64_in (by omega) (by omega)]; omega
      rw [hw]
      refine ⟨⟨k + 1, by omega, rfl, fun i hi => ?_, g3.trans g4⟩, by show x.params.length - ((k + 1 : Nat) : Int).toNat < x.params.length - ((k : Nat) : Int).toNat; omega⟩
      by_cases hik : i = k
      · subst hik
        rw [hg, hg2, hm]
      · exact hok i (by omega)
  have hkn : k = x.params.length := by simp only [decide_eq_false_iff_not] at h; omega
  subst hkn
  have eP : x.params = y.params := List.ext_getElem? fun i => by
    by_cases hi : i < x.params.length
    · exact hok i hi
    · rw [List.getElem?_eq_none (by omega), List.getElem?_eq_none (by omega)]
  refine ⟨fun vs w' => ∃ k : Nat, k ≤ x.code.length ∧ vs = [i64v k] ∧ (∀ i, i < k → x.code[i]? = y.code[i]?) ∧ Later w2 w', fun vs _ => match vs with | [.int _ n] => x.code.length - n.toNat | _ => 0, ⟨0, by omega, rfl, fun i hi => by omega, g3⟩, ?_⟩
  rintro g s w4 ⟨k, hk, hs, hdk, g4⟩
  simp only [List.cons.injEq, Value.int.injEq, true_and, and_true] at hs
  subst hs
  have L4 := L.later g4
  refine ⟨_, _, _, L4.cell 0 rfl rfl, cnd_of (fun h => ?_) fun h => ?_⟩
  · have hlt : k < x.code.length := by simp only [decide_eq_true_eq] at h; omega
    have hg := List.getElem?_eq_getElem hlt
    have hg2 := List.getElem?_eq_getElem (show k < y.code.length by omega)
    generalize x.code[k] = m at hg
    generalize y.code[k] = m2 at hg2
    obtain ⟨ad, hA, hc⟩ := (hr.2.later (L4.to)) k _ hg
    obtain ⟨bd, hB, hd⟩ := (hq.2.later (L4.to)) k _ hg2
    have at0 : ∀ {a : Addr} {n : Nat} {v : Value}, w4.cell? ((a.add n).add 0) = some v → w4.cell? (a.add n) = some v := fun h => by rwa [addr_add_zero] at h
    refine ⟨_, _, _, fun w' hl => hl.cell_some (L4.cell 0 rfl rfl), ⟨by omega, by omega⟩, Deref_some hA ⟨m, fun w' hl => hl.cell_some (at0 (hc 0 _ rfl)), ?_⟩⟩
    refine ⟨_, _, _, fun w' hl => hl.cell_some (L4.cell 1 rfl rfl), ⟨by omega, by omega⟩, Deref_some hB ⟨m2, fun w' hl => hl.cell_some (at0 (hd 0 _ rfl)), fun w5 g5 => ?_⟩⟩
    refine cnd_of (fun h => no (fun e => ?_) _ (L4.to.trans g5)) fun h => ?_
    · subst e
      rw [hg] at hg2
      obtain rfl := Option.some.inj hg2
      simp at h
    · have hm : m = m2 := by simpa using h
      have hw : IntKind.i64.wrap ((k : Int) + 1) = ((k + 1 : Nat) : Int) := by rw [i64_in (by omega) (by omega)]; omega
      rw [hw]
      refine ⟨⟨k + 1, by omega, rfl, fun i hi => ?_, g4.trans g5⟩, by show x.code.length - ((k + 1 : Nat) : Int).toNat < x.code.length - ((k : Nat) : Int).toNat; omega⟩
      by_cases hik : i = k
      · subst hik
        rw [hg, hg2, hm]
      · exact hdk i (by omega)
  · have hkn : k = x.code.length := by simp only [decide_eq_false_iff_not] at h; omega
    subst hkn
    have eC : x.code = y.code := List.ext_getElem? fun i => by
      by_cases hi : i < x.code.length
      · exact hdk i hi
      · rw [List.getElem?_eq_none (by omega), List.getElem?_eq_none (by omega)]
    have : x = y := img_eq e1 e2 e3 eP eC
    exact ⟨by rw [decide_eq_true this], L4.to⟩

/-! ### Put -/
theorem Lay.fourR {w0 : World} {xb : Nat} {xc : List Value} {w w' : World} {b : Option Addr} {c : Nat} {l news : List Int} (h : Lay w0 xb xc w b c l) (hl : Later w w') {a : Addr} {c2 : Nat} (hc : CellsAt w' a 0 (rowC u8T news)) (hb : l.length + news.length ≤ 10000000) {K : Value → World → Prop}
    (hK : ∀ b' c' w'', Lay w0 xb xc w'' b' c' (l ++ news) → K (.slice b' (l ++ news).length c') w'') : RunsV Try.prog (Builtin.append_ #[48, 48] 48 #[.slice b l.length c, .slice (some a) news.length c2]) w' K := by
  have h' := h.later hl
  refine OwnE.append (news := news) 48 rtU8 h'.own h'.to (by simp [maxLen]; omega) (by omega) hc fun b' c' w'' ho' hl' hk => hK b' c' w'' ⟨hl', ho', h'.hx.kept (hk _ h'.hx.lt h'.ne).1, (hk _ h'.hx.lt h'.ne).2⟩
set_option maxHeartbeats 6400000 in
theorem ref30_Put_ok {x : Img} (hx : ImOk x) {A1 A2 : Option Addr} {c1 c2 : Nat} {w : World} (hr : ImAt w A1 A2 x) : Calls Try.prog ref30_Put.N #[imgV A1 c1 A2 c2 x] w (Gives (.string (strOf (putB x))) w) := by
  refine ref30_Put.calls ?_
  unfold ref30_Put.vc
  intro w1 h1 w3 h3
  have L := (Trk.start w).alloc h1
  have np := hx.np
  have nc := hx.nc
  have hxc : Has w1 w.heap.size (imgC A1 c1 A2 c2 x) := L.has 0 rfl
  refine const_start L.to h3 fun w4 g4 hcs => ⟨_, _, _, rfl, ?_⟩
  have hx4 := hxc.later g4
  refine ⟨_, hx4.cell rfl, _, _, _, hx4.cell rfl, fun w5 h5 => ?_⟩
  rw [u8_wrap, u8_wrap] at h5
  refine Lay.start L.to hxc g4 hcs h5 fun b c w6 y6 => ⟨_, _, _, rfl, ?_⟩
  refine ⟨fun vs w' => ∃ (k : Nat) (b : Option Addr) (c : Nat), k ≤ x.params.length ∧ vs = [.slice b (hdrL x ++ (x.params.take k).map bitsH).length c, i64v k] ∧ Lay w w.heap.size (imgC A1 c1 A2 c2 x) w' b c (hdrL x ++ (x.params.take k).map bitsH),
    fun vs _ => match vs with | [_, .int _ n] => x.params.length - n.toNat | _ => 0, ⟨0, b, c, by omega, by simp [hdrL], by simpa [hdrL] using y6⟩, ?_⟩
  rintro g b bn bc s w7 ⟨k, b', c', hk, hs, y7⟩
  simp only [List.cons.injEq, Value.int.injEq, Value.slice.injEq, true_and, and_true] at hs
  obtain ⟨⟨rfl, rfl, rfl⟩, rfl⟩ := hs
  have hlen : (hdrL x ++ (x.params.take k).map bitsH).length ≤ 2000 := by
    simp only [hdrL, magicL, List.length_append, List.length_map, List.length_take, List.length_cons, List.length_nil]
    omega
  refine ⟨_, _, _, y7.hx.cell rfl, cnd_of (fun h => ?_) fun h => ?_⟩
  · have hlt : k < x.params.length := by simp only [decide_eq_true_eq] at h; omega
    have hg := List.getElem?_eq_getElem hlt
    generalize x.params[k] = m at hg
    obtain ⟨ad, hA, hc⟩ := (hr.1.later y7.to) k _ hg
    have at0 : ∀ {a : Addr} {n : Nat} {v : Value}, w7.cell? ((a.add n).add 0) = some v → w7.cell? (a.add n) = some v := fun h => by rwa [addr_add_zero] at h
    refine ⟨_, _, _, fun w' hl => hl.cell_some (y7.hx.cell rfl), ⟨by omega, by omega⟩, Deref_some hA ⟨m.buf, fun w' hl => hl.cell_some (at0 (hc 0 _ rfl)), ?_⟩⟩
    refine ⟨_, _, _, fun w' hl => hl.cell_some (y7.hx.cell rfl), ⟨by omega, by omega⟩, Deref_some hA ⟨m.sec, fun w' hl => hl.cell_some (hc 1 _ rfl), ?_⟩⟩
    refine ⟨_, _, _, fun w' hl => hl.cell_some (y7.hx.cell rfl), ⟨by omega, by omega⟩, Deref_some hA ⟨m.mut_, fun w' hl => hl.cell_some (hc 2 _ rfl), ?_⟩⟩
    refine ⟨bitsH m, fun w' hl => ref30_bits_ok m.buf m.sec m.mut_ w', fun w8 g8 w9 h9 => ?_⟩
    have y8 := y7.later g8
    refine y8.push (bitsH m) (by omega) h9 fun b' c' w13 y13 => ⟨_, _, _, rfl, ?_⟩
    have htk : hdrL x ++ (x.params.take k).map bitsH ++ [bitsH m] = hdrL x ++ (x.params.take (k + 1)).map bitsH := by
      rw [List.take_add_one, hg]
      simp
    rw [htk] at y13 ⊢
    have hw : IntKind.i64.wrap ((k : Int) + 1) = ((k + 1 : Nat) : Int) := by rw [i64_in (by omega) (by omega)]; omega
    rw [hw]
    exact ⟨⟨k + 1, b', c', by omega, rfl, y13⟩, by show x.params.length - ((k + 1 : Nat) : Int).toNat < x.params.length - ((k : Nat) : Int).toNat; omega⟩
  have hkn : k = x.params.length := by simp only [decide_eq_false_iff_not] at h; omega
  subst hkn
  rw [List.take_length] at y7 hlen ⊢
  refine ⟨_, y7.hx.cell rfl, _, y7.hx.cell rfl, (ref30_bits_ok x.ret x.sec false w7).mono fun e w8 ⟨he, g8⟩ => ⟨_, he, fun w9 h9 => ?_⟩⟩
  have y8 := y7.later g8
  refine y8.push _ (by omega) h9 fun b2 cc2 w12 y12 => ⟨_, _, _, rfl, _, _, _, y12.hx.cell rfl, ?_⟩
  have hW : IntKind.u32.wrap ((x.code.length : Nat) : Int) = (x.code.length : Int) := u32_in (by omega) (by omega)
  rw [hW]
  refine (ref30_four_ok (n := (x.code.length : Int)) ⟨by omega, by omega⟩ w12).mono fun e w13 ⟨he, g13, o13⟩ => ⟨_, _, _, he, ?_⟩
  refine y12.fourR (news := fourL (x.code.length : Int)) g13 o13.row.all (by rw [List.length_append, List.length_singleton]; simp [fourL]; simp at hlen; omega) fun b3 cc3 w14 y14 => ⟨_, _, _, rfl, ?_⟩
  generalize hpre : hdrL x ++ x.params.map bitsH ++ [bitsS x.ret x.sec false] ++ fourL (x.code.length : Int) = pre at y14 ⊢
  have hprel : pre.length ≤ 3000 := by
    rw [← hpre]
    simp only [List.length_append, List.length_map] at hlen ⊢
    simp [fourL]
    omega
  refine ⟨fun vs w' => ∃ (k : Nat) (b : Option Addr) (c : Nat), k ≤ x.code.length ∧ vs = [.slice b (pre ++ codeB (x.code.take k)).length c, i64v k] ∧ Lay w w.heap.size (imgC A1 c1 A2 c2 x) w' b c (pre ++ codeB (x.code.take k)),
    fun vs _ => match vs with | [_, .int _ n] => x.code.length - n.toNat | _ => 0, ⟨0, b3, cc3, by omega, by simp [codeB], by simpa [codeB] using y14⟩, ?_⟩
  rintro g b bn bc s w15 ⟨k, b', c', hk, hs, y15⟩
  simp only [List.cons.injEq, Value.int.injEq, Value.slice.injEq, true_and, and_true] at hs
  obtain ⟨⟨rfl, rfl, rfl⟩, rfl⟩ := hs
  have hlen2 : (pre ++ codeB (x.code.take k)).length ≤ 1000000 := by
    rw [List.length_append, codeB_length, List.length_take]
    omega
  refine ⟨_, _, _, y15.hx.cell rfl, cnd_of (fun h => ?_) fun h => ?_⟩
  · have hlt : k < x.code.length := by simp only [decide_eq_true_eq] at h; omega
    have hg := List.getElem?_eq_getElem hlt
    generalize x.code[k] = m at hg
    obtain ⟨ad, hA, hc⟩ := (hr.2.later y15.to) k _ hg
    refine ⟨_, _, _, y15.hx.cell rfl, ⟨by omega, by omega⟩, Deref_some hA ⟨m, ?_, ?_⟩⟩
    · have := hc 0 _ rfl
      rw [addr_add_zero] at this
      exact this
    refine (ref30_four_ok (hx.code m (List.mem_of_getElem? hg)) w15).mono fun e w16 ⟨he, g16, o16⟩ => ⟨_, _, _, he, ?_⟩
    refine y15.fourR (news := fourL m) g16 o16.row.all (by simp [fourL]; simp at hlen2; omega) fun b4 cc4 w17 y17 => ⟨_, _, _, rfl, ?_⟩
    rw [List.append_assoc, codeB_take _ _ _ hg] at y17 ⊢
    have hw : IntKind.i64.wrap ((k : Int) + 1) = ((k + 1 : Nat) : Int) := by rw [i64_in (by omega) (by omega)]; omega
    rw [hw]
    exact ⟨⟨k + 1, b4, cc4, by omega, rfl, y17⟩, by show x.code.length - ((k + 1 : Nat) : Int).toNat < x.code.length - ((k : Nat) : Int).toNat; omega⟩
  · have hkn : k = x.code.length := by simp only [decide_eq_false_iff_not] at h; omega
    subst hkn
    rw [List.take_length] at y15 ⊢
    have hfin : pre ++ codeB x.code = putB x := by rw [← hpre]; rfl
    rw [hfin] at y15 ⊢
    have ho := y15.own
    unfold OwnE at ho
    rw [rowC_u8] at ho
    exact RunsV_own_string rtU8.under (by kernel_rfl) (by kernel_rfl) ho (by rw [putB_length]; omega) ⟨_, rfl, rfl, y15.to⟩
end Go.Proofs.Ytjoikaklincfoaa
