/-
Images, sixth part: bytes that are read one behind the other (package image).
Conditions: the string is not too long.
-/
import Derived.Test.YtjoikaklincfoaaImgE
import Derived.Lib.ConvBytes
namespace Go.Proofs.Ytjoikaklincfoaa
open Go Go.Vc Go.RowKit
set_option linter.unusedVariables false
set_option linter.unusedSimpArgs false
set_option linter.unnecessarySimpa false
set_option maxRecDepth 100000

/-- A string's bytes. -/
def bytesI (s : ByteArray) : List Int := s.data.toList.map fun b => (b.toNat : Int)
theorem bytesI_length (s : ByteArray) : (bytesI s).length = s.size := by
  unfold bytesI
  rw [List.length_map, Array.length_toList]
  rfl
theorem bytesI_range {s : ByteArray} {b : Int} (h : b ∈ bytesI s) : 0 ≤ b ∧ b < 256 := by
  obtain ⟨c, -, rfl⟩ := List.mem_map.1 h
  have : c.toNat < 256 := c.toNat_lt
  omega
/-- Bytes as a slice. -/
theorem bytes_slice {s : ByteArray} {w : World} {K : Value → World → Prop} (hK : ∀ c w', Later w w' → ERow u8T w' (some ⟨w.heap.size, 0, none⟩) (bytesI s) → K (.slice (some ⟨w.heap.size, 0, none⟩) s.size c) w') :
    RunsV Try.prog (convert 9 48 (.string s)) w K := by
  refine RunsV_of (Lib.run_convert_string_bytes (u := .string) w 9 48 5 s (by kernel_rfl) rtU8.under (by kernel_rfl)) (hK _ _ ?_ ?_)
  · refine ⟨rfl, rfl, rfl, ?_, fun k hk => Lib.bytesWorld_at_old w _ s k hk⟩
    rw [Lib.bytesWorld_size]
    omega
  · intro i m hi
    refine ⟨_, rfl, fun j v hv => ?_⟩
    have hil : i < s.size := by rw [← bytesI_length]; exact (List.getElem?_eq_some_iff.1 hi).1
    have hj : j = 0 := by
      have := (List.getElem?_eq_some_iff.1 hv).1
      have : j < 1 := this
      omega
    subst hj
    obtain rfl : Value.int .u8 m = v := by simpa [u8T] using hv
    have hm : m = ((s.data.toList.getD i 0).toNat : Int) := by
      have h1 : s.data.toList[i]?.map (fun b => (b.toNat : Int)) = some m := by simpa [bytesI] using hi
      obtain ⟨b, hb, rfl⟩ := Option.map_eq_some_iff.1 h1
      simp [List.getD, hb]
    have := Lib.bytesWorld_cell w 5 s i hil
    rw [hm, addr_add_add, add_block, Nat.zero_add]
    simpa [u8T] using this
/-- What the next bytes are; whether they are wanting; from where on the next ones. -/
def nextB (l : List Int) (at_ : Nat) (n : Nat) : List Int := (l.drop at_).take n
structure NextR (w0 w : World) (L : List Blk) (s : ByteArray) (shb atb : Nat) (sh : Bool) (at_ n : Nat) (e : Ending) (w' : World) : Prop where
  out : ∃ p c bs, e = .returned (.slice p bs.length c) ∧ ERow u8T w' p bs ∧ bs.length = n ∧ ((sh = false ∧ at_ + n ≤ s.size ∧ bs = nextB (bytesI s) at_ n ∧ Trk w0 w' ((L.set 3 (shb, [.bool false])).set 2 (atb, [i64v ((at_ + n : Nat) : Int)]))) ∨
    ((sh = true ∨ s.size < at_ + n) ∧ bs = List.replicate n 0 ∧ Trk w0 w' (L.set 3 (shb, [.bool true]))))
  kept : ∀ k, k < w.heap.size → k ≠ shb → k ≠ atb → w'.heap[k]? = w.heap[k]?
  size : w.heap.size ≤ w'.heap.size
theorem set_kept {w : World} {a : Nat} {v : Value} {k : Nat} (h : k ≠ a) : (w.setCell ⟨a, 0, none⟩ v).heap[k]? = w.heap[k]? := by
  simp [World.setCell, Array.getElem?_modify, Ne.symm h]
set_option maxHeartbeats 3200000 in
theorem image_next_ok {w0 w : World} {L : List Blk} {s : ByteArray} {sb shb atb : Nat} {sh : Bool} {at_ n : Nat} (hn : 1 ≤ n ∧ n ≤ 8) (hat : at_ ≤ 1000000) (hs : s.size ≤ 1000000) (hL : Trk w0 w L) (h0 : L[0]? = some (sb, [.string s])) (h2 : L[2]? = some (atb, [i64v (at_ : Int)])) (h3 : L[3]? = some (shb, [.bool sh])) :
    Calls Try.prog image_Get_1.N #[i64v (n : Int), .pointer (some ⟨shb, 0, none⟩), .pointer (some ⟨sb, 0, none⟩), .pointer (some ⟨atb, 0, none⟩)] w (NextR w0 w L s shb atb sh at_ n) := by
  have l3 : 3 < L.length := (List.getElem?_eq_some_iff.1 h3).1
  have hgm : gomin (n : Int) 8 = ((n : Nat) : Int) := by unfold gomin; split <;> omega
  refine image_Get_1.calls (c0 := some ⟨shb, 0, none⟩) (c1 := some ⟨sb, 0, none⟩) (c2 := some ⟨atb, 0, none⟩) ?_
  unfold image_Get_1.vc
  rw [hgm]
  have short : ∀ w1, Trk w0 w1 (L.set 3 (shb, [.bool true])) → w1 = w.setCell ⟨shb, 0, none⟩ (.bool true) → (sh = true ∨ s.size < at_ + n) → RunsV Try.prog (Instr.makeSlice 48 (i64v ((n : Nat) : Int)) (i64v ((n : Nat) : Int))) w1 fun v w' => ∃ p n1 c, v = .slice p n1 c ∧ NextR w0 w L s shb atb sh at_ n (.returned (.slice p n1 c)) w' := by
    intro w1 M e1 hc
    refine RunsV_makeSlice (size := 1) (bytes := 1) (e := 5) (.int .u8 0) rtU8.under (by kernel_rfl) rfl (by decide) (by decide) (by omega) fun b w' hb g hh => ⟨_, _, _, rfl, ?_⟩
    have hrow : Has w' b (rowC u8T (List.replicate n 0)) := hh.of_fcells (by
      rw [rowC_u8]
      have : ∀ m, repL (Value.int .u8 0).cells.toList m = (List.replicate m 0).map (Value.int .u8) := by
        intro m
        induction m with
        | zero => rfl
        | succ m ih => rw [repL, ih]; rfl
      exact this n)
    refine ⟨⟨_, n, _, by rw [List.length_replicate], hrow.erow, by simp, .inr ⟨hc, rfl, M.later g⟩⟩, fun k hk h1 h2 => ?_, ?_⟩
    · have hk1 : k < w1.heap.size := by rw [e1]; simpa using hk
      rw [Later.block g hk1, e1, set_kept h1]
    · have := Later.size g
      rw [e1] at this
      simpa using this
  have long : ∀ w1, Trk w0 w1 (L.set 3 (shb, [.bool false])) → (w1 = w ∨ w1 = w.setCell ⟨shb, 0, none⟩ (.bool false)) → sh = false → at_ + n ≤ s.size → ∃ m : Int, w1.cell? ⟨atb, 0, none⟩ = some (.int .i64 m) ∧ Deref (some (⟨atb, 0, none⟩ : Addr)) fun ad => ((w1.cell? ad).isSome = true ∧ w1.frozen? ad = false) ∧ ∀ w2, w2 = w1.setCell ad (.int .i64 (IntKind.i64.wrap (m + (n : Int)))) →
      Deref (some (⟨sb, 0, none⟩ : Addr)) fun ad => ∃ s1 : ByteArray, w2.cell? ad = some (.string s1) ∧ Deref (some (⟨atb, 0, none⟩ : Addr)) fun ad => ∃ m : Int, w2.cell? ad = some (.int .i64 m) ∧ Deref (some (⟨atb, 0, none⟩ : Addr)) fun ad => ∃ m1 : Int, w2.cell? ad = some (.int .i64 m1) ∧
        (0 ≤ m1 ∧ m1 ≤ (s1.size : Int)) ∧ (0 ≤ IntKind.i64.wrap (m - (n : Int)) ∧ IntKind.i64.wrap (m - (n : Int)) ≤ (m1.toNat : Int)) ∧ RunsV Try.prog (convert 9 48 (.string (s1.extract (IntKind.i64.wrap (m - (n : Int))).toNat m1.toNat))) w2 fun v w' => ∃ p n1 c, v = .slice p n1 c ∧ NextR w0 w L s shb atb sh at_ n (.returned (.slice p n1 c)) w' := by
    intro w1 M hw1 hsh hle
    have k1 : ∀ k, k ≠ shb → w1.heap[k]? = w.heap[k]? := by
      intro k hk
      rcases hw1 with rfl | rfl
      · rfl
      · exact set_kept hk
    have s1 : w1.heap.size = w.heap.size := by
      rcases hw1 with rfl | rfl
      · rfl
      · simp
    have e2 : (L.set 3 (shb, [.bool false]))[2]? = some (atb, [i64v (at_ : Int)]) := by rw [List.getElem?_set_ne (by decide)]; exact h2
    have hw : IntKind.i64.wrap ((at_ : Int) + (n : Int)) = ((at_ + n : Nat) : Int) := by rw [i64_in (by omega) (by omega)]; omega
    have hb : IntKind.i64.wrap (((at_ + n : Nat) : Int) - (n : Int)) = (at_ : Int) := by rw [i64_in (by omega) (by omega)]; omega
    refine ⟨_, M.cell 2 e2 rfl, Deref_some rfl ?_⟩
    rw [hw]
    refine M.set1E 2 e2 (by simp) fun w2 ew M2 => ?_
    have e20 : ((L.set 3 (shb, [.bool false])).set 2 (atb, [i64v ((at_ + n : Nat) : Int)]))[0]? = some (sb, [.string s]) := by
      rw [List.getElem?_set_ne (by decide), List.getElem?_set_ne (by decide)]; exact h0
    have e22 : ((L.set 3 (shb, [.bool false])).set 2 (atb, [i64v ((at_ + n : Nat) : Int)]))[2]? = some (atb, [i64v ((at_ + n : Nat) : Int)]) := by
      rw [List.getElem?_set_self (by simpa using (show 2 < L.length by omega))]
    have M2' : Trk w0 w2 ((L.set 3 (shb, [.bool false])).set 2 (atb, [i64v ((at_ + n : Nat) : Int)])) := M2
    refine Deref_some rfl ⟨s, M2'.cell 0 e20 rfl, Deref_some rfl ⟨_, M2'.cell 2 e22 rfl, Deref_some rfl ⟨_, M2'.cell 2 e22 rfl, ⟨by omega, by omega⟩, ?_⟩⟩⟩
    rw [hb]
    refine ⟨⟨by omega, by omega⟩, ?_⟩
    have hex : (bytesI (s.extract ((at_ : Int)).toNat (((at_ + n : Nat) : Int)).toNat)) = nextB (bytesI s) at_ n := by
      simp only [bytesI, nextB, Int.toNat_natCast]
      rw [← List.map_drop, ← List.map_take]
      congr 1
      simp [List.take_drop]
    have hlen : (nextB (bytesI s) at_ n).length = n := by
      simp only [nextB, List.length_take, List.length_drop, bytesI_length]
      omega
    refine bytes_slice fun c w' g hr => ⟨_, _, _, rfl, ?_⟩
    rw [hex] at hr
    have hsz : (s.extract ((at_ : Int)).toNat (((at_ + n : Nat) : Int)).toNat).size = (nextB (bytesI s) at_ n).length := by rw [← hex, bytesI_length]
    rw [hsz]
    refine ⟨⟨_, c, _, rfl, hr, hlen, .inl ⟨hsh, hle, rfl, M2'.later g⟩⟩, fun k hk h1 h2 => ?_, ?_⟩
    · have hk2 : k < w2.heap.size := by rw [ew]; simpa [s1] using hk
      rw [Later.block g hk2, ew, set_kept h2, k1 k h1]
    · have := Later.size g
      rw [ew] at this
      simp [s1] at this
      omega
  have set_same3 : sh = false → L.set 3 (shb, [.bool false]) = L := by
    intro h
    subst h
    apply List.ext_getElem?
    intro i
    by_cases hi : i = 3
    · subst hi
      rw [List.getElem?_set_self l3, h3]
    · rw [List.getElem?_set_ne (fun e => hi e.symm)]
  refine Deref_some rfl ⟨sh, hL.cell 3 h3 rfl, cnd_of (fun hsh => ?_) fun hsh => ?_⟩
  · refine Deref_some rfl (hL.set1E 3 h3 (by simp) fun w1 e1 M => Deref_some rfl ⟨true, ?_, cnd_true rfl (short w1 M e1 (.inl hsh))⟩)
    have : (L.set 3 (shb, [Value.bool true]))[3]? = some (shb, [.bool true]) := List.getElem?_set_self l3
    exact M.cell 3 this rfl
  · refine Deref_some rfl ⟨s, hL.cell 0 h0 rfl, Deref_some rfl ⟨_, hL.cell 2 h2 rfl, Deref_some rfl ?_⟩⟩
    have hd : decide ((n : Int) > IntKind.i64.wrap ((s.size : Int) - (at_ : Int))) = decide (s.size < at_ + n) := by
      rw [i64_in (by omega) (by omega)]
      by_cases h : s.size < at_ + n
      · rw [decide_eq_true h, decide_eq_true (by omega)]
      · rw [decide_eq_false h, decide_eq_false (by omega)]
    rw [hd]
    refine hL.set1E 3 h3 (by simp) fun w1 e1 M => Deref_some rfl ⟨decide (s.size < at_ + n), ?_, ?_⟩
    · have : (L.set 3 (shb, [Value.bool (decide (s.size < at_ + n))]))[3]? = some (shb, [.bool (decide (s.size < at_ + n))]) := List.getElem?_set_self l3
      exact M.cell 3 this rfl
    · refine cnd_of (fun h => ?_) fun h => ?_
      · rw [h] at M e1
        exact short w1 M e1 (.inr (by simpa using h))
      · rw [h] at M e1
        have hle : at_ + n ≤ s.size := by
          have : ¬ s.size < at_ + n := by simpa using h
          omega
        refine Deref_some rfl ?_
        exact long w1 M (.inr e1) hsh hle
/-- A number of four bytes. -/
def valueL (l : List Int) : Int := match l with | [a, b, c, d] => a + b * 256 + c * 65536 + d * 16777216 | _ => 0
theorem image_number_ok {bs : List Int} (hl : bs.length = 4) (hb : ∀ b ∈ bs, 0 ≤ b ∧ b < 256) {p : Option Addr} {c : Nat} {w : World} (hr : ERow u8T w p bs) : Calls Try.prog image_number.N #[.slice p bs.length c] w (Gives (u32v (valueL bs)) w) := by
  match bs, hl with
  | [a, b, d, e], _ =>
  have ha := hb a (by simp)
  have hb' := hb b (by simp)
  have hd := hb d (by simp)
  have he := hb e (by simp)
  refine image_number.calls ?_
  unfold image_number.vc
  obtain ⟨ad, hA, c0⟩ := hr 0 a rfl
  have at_ : ∀ (i : Nat) (x : Int), [a, b, d, e][i]? = some x → w.cell? (ad.add i) = some (.int .u8 x) := by
    intro i x hx
    obtain ⟨ad', hA', hc⟩ := hr i x hx
    rw [hA] at hA'
    obtain rfl := Option.some.inj hA'
    have := hc 0 _ rfl
    rw [addr_add_zero] at this
    simpa [u8T] using this
  refine ⟨⟨show (0 : Int) ≤ 0 by decide, by simp⟩, Deref_some hA ⟨a, fun w' g => ?_, ⟨show (0 : Int) ≤ 1 by decide, by simp⟩, Deref_some hA ⟨b, fun w' g => g.cell_some (at_ 1 b rfl), ⟨show (0 : Int) ≤ 2 by decide, by simp⟩, Deref_some hA ⟨d, fun w' g => g.cell_some (at_ 2 d rfl), ⟨show (0 : Int) ≤ 3 by decide, by simp⟩, Deref_some hA ⟨e, fun w' g => g.cell_some (at_ 3 e rfl), fun w' g => ⟨?_, g⟩⟩⟩⟩⟩⟩
  · have := g.cell_some (at_ 0 a rfl)
    rwa [addr_add_zero] at this
  · rw [u32_in (x := a) (by omega) (by omega), u32_in (x := b) (by omega) (by omega), u32_in (x := d) (by omega) (by omega), u32_in (x := e) (by omega) (by omega)]
    have e1 := or_high (x := a) (y := b) 8 ha.1 (by rw [show (2 : Int) ^ 8 = 256 from rfl]; omega) hb'.1 (by omega) (by rw [show (2 : Int) ^ 8 = 256 from rfl]; omega)
    have e2 := or_high (x := a + b * 256) (y := d) 16 (by omega) (by rw [show (2 : Int) ^ 16 = 65536 from rfl]; omega) hd.1 (by omega) (by rw [show (2 : Int) ^ 16 = 65536 from rfl]; omega)
    have e3 := or_high (x := a + b * 256 + d * 65536) (y := e) 24 (by omega) (by rw [show (2 : Int) ^ 24 = 16777216 from rfl]; omega) he.1 (by omega) (by rw [show (2 : Int) ^ 24 = 16777216 from rfl]; omega)
    rw [show (2 : Int) ^ 8 = 256 from rfl] at e1
    rw [show (2 : Int) ^ 16 = 65536 from rfl] at e2
    rw [show (2 : Int) ^ 24 = 16777216 from rfl] at e3
    rw [e1, e2, e3]
    rfl
theorem ref30_value_ok {s : ByteArray} {at_ : Nat} (h : at_ + 4 ≤ s.size) (hs : s.size ≤ 1000000) (w : World) : Calls Try.prog ref30_value.N #[.string s, i64v (at_ : Int)] w (Gives (u32v (valueL (nextB (bytesI s) at_ 4))) w) := by
  refine ref30_value.calls ?_
  unfold ref30_value.vc
  have g : ∀ i, at_ + i < s.size → ∃ b : UInt8, s[at_ + i]? = some b ∧ (bytesI s)[at_ + i]? = some (b.toNat : Int) ∧ b.toNat < 256 := by
    intro i hi
    have hl : at_ + i < s.data.toList.length := by rw [Array.length_toList]; exact hi
    exact ⟨s.data.toList[at_ + i], get_byte hi, by unfold bytesI; rw [List.getElem?_map, List.getElem?_eq_getElem hl]; rfl, UInt8.toNat_lt _⟩
  obtain ⟨b0, g0, f0, r0⟩ := g 0 (by omega)
  obtain ⟨b1, g1, f1, r1⟩ := g 1 (by omega)
  obtain ⟨b2, g2, f2, r2⟩ := g 2 (by omega)
  obtain ⟨b3, g3, f3, r3⟩ := g 3 (by omega)
  have hw : ∀ i : Nat, i ≤ 4 → IntKind.i64.wrap ((at_ : Int) + (i : Int)) = ((at_ + i : Nat) : Int) := fun i hi => by rw [i64_in (by omega) (by omega)]; omega
  have w1 := hw 1 (by omega)
  have w2 := hw 2 (by omega)
  have w3 := hw 3 (by omega)
  have hnx : nextB (bytesI s) at_ 4 = [(b0.toNat : Int), (b1.toNat : Int), (b2.toNat : Int), (b3.toNat : Int)] := by
    apply List.ext_getElem?
    intro i
    simp only [nextB, List.getElem?_take, List.getElem?_drop]
    by_cases hi : i < 4
    · rw [if_pos hi]
      have : i = 0 ∨ i = 1 ∨ i = 2 ∨ i = 3 := by omega
      rcases this with rfl | rfl | rfl | rfl
      · exact f0
      · exact f1
      · exact f2
      · exact f3
    · rw [if_neg hi, List.getElem?_eq_none (by simp; omega)]
  refine ⟨by omega, b0, g0, ?_⟩
  rw [show (1 : Int) = ((1 : Nat) : Int) from rfl, w1, show (2 : Int) = ((2 : Nat) : Int) from rfl, w2, show (3 : Int) = ((3 : Nat) : Int) from rfl, w3]
  refine ⟨by omega, b1, g1, by omega, b2, g2, by omega, b3, g3, fun w' hl => ⟨?_, hl⟩⟩
  rw [hnx]
  simp only [valueL, wrap_u32]
  congr 2
  omega
end Go.Proofs.Ytjoikaklincfoaa
