/-
Images, eleventh part: which image bytes are, or why none (package image's Get).
Conditions: the string is not too long.
-/
import Derived.Test.YtjoikaklincfoaaImgJ
namespace Go.Proofs.Ytjoikaklincfoaa
open Go Go.Vc Go.RowKit
set_option linter.unusedVariables false
set_option linter.unusedSimpArgs false
set_option linter.unnecessarySimpa false
set_option maxRecDepth 100000

/-- All is read as it is, or bytes are wanting. -/
def OkS (s : ByteArray) (sh : Bool) (at' : Nat) (x' : Img) (at_ : Nat) (x : Img) : Prop := (sh = false ∧ at' = at_ ∧ x' = x ∧ (at_ ≤ s.size ∨ at_ = 4)) ∨ (sh = true ∧ canRd (bytesI s) = false ∧ at' ≤ 1000000)
theorem OkS.at_le {s : ByteArray} (hs : s.size ≤ 100000) {sh : Bool} {at' : Nat} {x' : Img} {at_ : Nat} {x : Img} (h : OkS s sh at' x' at_ x) : at' ≤ 1000000 := by
  rcases h with ⟨_, rfl, _, h⟩ | ⟨_, _, h⟩ <;> omega
theorem Rd.next' {w0 w : World} {s : ByteArray} {sb rb atb shb xb : Nat} {L : List Blk} {at' : Nat} {sh : Bool} {A1 : Option Addr} {c1 : Nat} {A2 : Option Addr} {c2 : Nat} {x' : Img} (h : Rd w0 w s sb rb atb shb xb L at' sh A1 c1 A2 c2 x') {at_ : Nat} {x : Img} (ho : OkS s sh at' x' at_ x) {n : Nat} (hn : 1 ≤ n ∧ n ≤ 8) (hs : s.size ≤ 100000) (hsh : s.size < at_ + n → canRd (bytesI s) = false) :
    Calls Try.prog image_Get_1.N #[i64v (n : Int), .pointer (some ⟨shb, 0, none⟩), .pointer (some ⟨sb, 0, none⟩), .pointer (some ⟨atb, 0, none⟩)] w fun e w' => ∃ p c bs L' at'' sh', e = .returned (.slice p bs.length c) ∧ ERow u8T w' p bs ∧ bs.length = n ∧ Rd w0 w' s sb rb atb shb xb L' at'' sh' A1 c1 A2 c2 x' ∧ OkS s sh' at'' x' (at_ + n) x ∧
      ((sh' = false ∧ bs = nextB (bytesI s) at_ n) ∨ (sh' = true ∧ bs = List.replicate n 0)) ∧ (sh' = false → sh = false) := by
  refine (h.next hn (ho.at_le hs) hs).mono fun e w' ⟨p, c, bs, he, hr, hl, hc⟩ => ?_
  rcases hc with ⟨h1, h2, h3, L', y⟩ | ⟨h1, h2, L', y⟩
  · rcases ho with ⟨_, rfl, rfl, _⟩ | ⟨e1, _, _⟩
    · exact ⟨p, c, bs, L', _, false, he, hr, hl, y, .inl ⟨rfl, rfl, rfl, .inl h2⟩, .inl ⟨rfl, h3⟩, fun _ => h1⟩
    · rw [h1] at e1; cases e1
  · refine ⟨p, c, bs, L', _, true, he, hr, hl, y, .inr ⟨rfl, ?_, ho.at_le hs⟩, .inr ⟨rfl, h2⟩, fun h => by cases h⟩
    rcases ho with ⟨e1, rfl, rfl, _⟩ | ⟨_, e2, _⟩
    · rcases h1 with h1 | h1
      · rw [e1] at h1; cases h1
      · exact hsh h1
    · exact e2
theorem prefix_eq (s : ByteArray) : ((magicB.extract 0 (s.extract 0 (gomin (s.size : Int) 4).toNat).size).toList == (s.extract 0 (gomin (s.size : Int) 4).toNat).toList) = preOk s ∧ (s.extract 0 (gomin (s.size : Int) 4).toNat).size ≤ magicB.size := by
  have hm : (gomin (s.size : Int) 4).toNat ≤ s.size ∧ (gomin (s.size : Int) 4).toNat ≤ 4 := by unfold gomin; split <;> omega
  have hz : (s.extract 0 (gomin (s.size : Int) 4).toNat).size = (gomin (s.size : Int) 4).toNat := by rw [ByteArray.size_extract]; omega
  refine ⟨?_, by rw [hz]; exact hm.2⟩
  rw [hz]
  unfold preOk
  rw [Bool.eq_iff_iff, beq_iff_eq, beq_iff_eq]
  exact eq_comm
set_option maxHeartbeats 12800000 in
theorem image_Get_ok {s : ByteArray} (hs : s.size ≤ 100000) (w : World) : Calls Try.prog image_Get.N #[.string s] w (GetR s w) := by
  refine image_Get.calls ?_
  unfold image_Get.vc
  intro w1 h1 w2 h2
  have L := ((Trk.start w).alloc h1).alloc h2
  have hm : gomin (s.size : Int) 4 = if 4 < s.size then 4 else (s.size : Int) := by unfold gomin; split <;> split <;> omega
  have bl := bytesI_length s
  obtain ⟨pe, pz⟩ := prefix_eq s
  refine ⟨s, L.cell 0 rfl rfl, s, L.cell 0 rfl rfl, ⟨by rw [hm]; split <;> omega, by rw [hm]; split <;> omega⟩, ?_⟩
  refine (HasPrefix_ok magicB _ pz w2).mono fun e w3 ⟨he, g3⟩ => ⟨_, he, ?_⟩
  rw [pe]
  have L := L.later g3
  refine cnd_of (fun h => zeroOut L (k := 1) rfl rfl fun w' hl => get_zero ?_ (by decide) hl) fun h => ?_
  · have : preOk s = false := by simpa using h
    simp [getE, this]
  have hpre : preOk s = true := by simpa using h
  intro w4 h4 w5 h5
  have L := (L.alloc h4).alloc h5
  refine L.set1 2 rfl (by simp) fun w6 L => L.set1 3 rfl (by simp) fun w7 L => fun w8 h8 => ?_
  have L := L.alloc h8
  have y0 : Rd w w8 s w.heap.size w1.heap.size w3.heap.size w4.heap.size w7.heap.size _ 4 false none 0 none 0 zeroI := ⟨Mk.new L rfl, rfl, rfl, rfl, rfl⟩
  have k0 : OkS s false 4 zeroI 4 zeroI := .inl ⟨rfl, rfl, rfl, .inr rfl⟩
  have cr : ∀ m, m < 11 → s.size ≤ m → canRd (bytesI s) = false := fun m h1 h2 => by
    simp only [canRd, decide_eq_false_iff_not]
    omega
  have crP : ∀ m, m < 11 + nP (bytesI s) → s.size ≤ m → canRd (bytesI s) = false := fun m h1 h2 => by
    simp only [canRd, decide_eq_false_iff_not]
    omega
  -- slots
  refine (y0.next' k0 (n := 1) ⟨by omega, by omega⟩ hs fun h => cr 4 (by omega) (by omega)).mono fun e w9 ⟨p, c, bs, L1, at1, sh1, he, hr, hl, y1, k1, hb, _⟩ => ?_
  obtain ⟨a, b, hA, rfl, hcell⟩ := first_byte hr hl
  refine ⟨_, _, _, he, ⟨show (0 : Int) ≤ 0 by decide, by simp⟩, Deref_some hA ⟨b, hcell, ?_⟩⟩
  have fb : ∀ {sh : Bool} {at' : Nat} {x' x : Img} {m : Nat} {b : Int}, OkS s sh at' x' (m + 1) x → 4 ≤ m → ((sh = false ∧ [b] = nextB (bytesI s) m 1) ∨ (sh = true ∧ [b] = List.replicate 1 0)) → (0 ≤ b ∧ b < 256) ∧ (sh = false → b = bAt (bytesI s) m ∧ m + 1 ≤ s.size) ∧ (sh = true → b = 0) := by
    intro sh at' x' x m b hk h4 hb
    rcases hb with ⟨e1, e2⟩ | ⟨e1, e2⟩
    · have hle : m + 1 ≤ s.size := by
        rcases hk with ⟨_, _, _, h⟩ | ⟨e3, _, _⟩
        · omega
        · rw [e1] at e3; cases e3
      rw [nextB_one (by omega)] at e2
      obtain rfl : b = bAt (bytesI s) m := by simpa using e2
      exact ⟨bAt_range s m, fun _ => ⟨rfl, hle⟩, fun h => by rw [e1] at h; cases h⟩
    · obtain rfl : b = 0 := by simpa using e2
      exact ⟨⟨by omega, by omega⟩, (fun h => by rw [e1] at h; cases h), fun _ => rfl⟩
  obtain ⟨rb, gb, zb⟩ := fb k1 (by omega) hb
  rw [i64_in (x := b) (by omega) (by omega)]
  refine y1.im.cell (j := 0) (y := ⟨b, [], false, false, []⟩) (by decide) rfl rfl rfl fun w10 m10 _ => ?_
  have y2 := y1.set m10
  have k2 : OkS s sh1 at1 ⟨b, [], false, false, []⟩ 5 ⟨bAt (bytesI s) 4, [], false, false, []⟩ := by
    rcases k1 with ⟨e1, e2, e3, e4⟩ | ⟨e1, e2, e3⟩
    · exact .inl ⟨e1, e2, by rw [(gb e1).1], e4⟩
    · exact .inr ⟨e1, e2, e3⟩
  -- how many are handed in
  refine (y2.next' k2 (n := 1) ⟨by omega, by omega⟩ hs fun h => cr 5 (by omega) (by omega)).mono fun e w11 ⟨p, c, bs, L2, at2, sh2, he, hr, hl, y3, k3, hb, _⟩ => ?_
  obtain ⟨a, n, hA, rfl, hcell⟩ := first_byte hr hl
  refine ⟨_, _, _, he, ⟨show (0 : Int) ≤ 0 by decide, by simp⟩, Deref_some hA ⟨n, hcell, ?_⟩⟩
  obtain ⟨rn, gn, zn⟩ := fb k3 (by omega) hb
  rw [i64_in (x := n) (by omega) (by omega)]
  obtain ⟨nn, rfl⟩ := Int.eq_ofNat_of_zero_le rn.1
  have gnn : sh2 = false → nn = nP (bytesI s) := fun h => by
    unfold nP
    rw [← (gn h).1]
    rfl
  refine ⟨fun vs w' => ∃ (k : Nat) (L : List Blk) (at' : Nat) (sh : Bool) (A1 : Option Addr) (c1 : Nat) (A2 : Option Addr) (c2 : Nat) (x' : Img), k ≤ nn ∧ vs = [i64v k] ∧ Rd w w' s w.heap.size w1.heap.size w3.heap.size w4.heap.size w7.heap.size L at' sh A1 c1 A2 c2 x' ∧ OkS s sh at' x' (6 + k) ⟨bAt (bytesI s) 4, rdP (bytesI s) k, false, false, []⟩ ∧ x'.params.length ≤ k ∧ x'.code = [] ∧ (sh = false → nn = nP (bytesI s)),
    fun vs _ => match vs with | [.int _ n] => nn - n.toNat | _ => 0, ⟨0, L2, at2, sh2, _, _, _, _, _, by omega, rfl, y3, k3, Nat.le_refl _, rfl, gnn⟩, ?_⟩
  rintro g i w12 ⟨k, L, at', sh, A1, c1, A2, c2, x', hk, hvs, y, ky, lp, lc, gk⟩
  simp only [List.cons.injEq, Value.int.injEq, true_and, and_true] at hvs
  subst hvs
  have short : ∀ m, s.size ≤ 6 + k + m → k + m < 5 + nn → canRd (bytesI s) = false := by
    intro m h1 h2
    rcases ky with ⟨e1, _, _, _⟩ | ⟨_, e2, _⟩
    · exact crP (6 + k + m) (by rw [← gk e1]; omega) h1
    · exact e2
  refine cnd_of (fun h => ?_) fun h => ?_
  · have hlt : k < nn := by simp only [decide_eq_true_eq] at h; omega
    refine (y.next' ky (n := 1) ⟨by omega, by omega⟩ hs fun h => short 0 (by omega) (by omega)).mono fun e w13 ⟨p, c, bs, L3, at3, sh3, he, hr, hl, y3, k3, hb, back⟩ => ?_
    obtain ⟨a, v, hA, rfl, hcell⟩ := first_byte hr hl
    refine ⟨_, _, _, he, ⟨show (0 : Int) ≤ 0 by decide, by simp⟩, Deref_some hA ⟨v, hcell, _, _, _, y3.im.trk.cell 4 y3.im.at_ rfl, fun w14 h14 => ?_⟩⟩
    obtain ⟨rv, gv, zv⟩ := fb k3 (by omega) hb
    obtain ⟨a1, a2, a3⟩ := and_bits rv.1 rv.2
    rw [a1, a2, a3] at h14
    have g3 : sh3 = false → nn = nP (bytesI s) := fun h => gk (back h)
    refine y3.im.pushP (hdOf v) (by omega) h14 rfl fun b' c' w15 hK => ⟨_, _, _, rfl, hK.1, fun w16 h16 => ?_⟩
    have y4 := y3.set (hK.2 w16 h16)
    have hw : IntKind.i64.wrap ((k : Int) + 1) = ((k + 1 : Nat) : Int) := by rw [i64_in (by omega) (by omega)]; omega
    rw [hw]
    refine ⟨⟨k + 1, _, at3, sh3, b', c', A2, c2, _, by omega, rfl, y4, ?_, ?_, lc, g3⟩, by show nn - ((k + 1 : Nat) : Int).toNat < nn - ((k : Nat) : Int).toNat; omega⟩
    · rcases k3 with ⟨e1, e2, e3, e4⟩ | ⟨e1, e2, e3⟩
      · refine .inl ⟨e1, e2, ?_, e4⟩
        rw [e3, (gv e1).1, ← rdP_succ (by have := (gv e1).2; omega)]
      · exact .inr ⟨e1, e2, e3⟩
    · simp only [List.length_append, List.length_singleton]
      omega
  have hkn : k = nn := by simp only [decide_eq_false_iff_not] at h; omega
  subst hkn
  -- what it returns
  refine (y.next' ky (n := 1) ⟨by omega, by omega⟩ hs fun h => short 0 (by omega) (by omega)).mono fun e w13 ⟨p, c, bs, L3, at3, sh3, he, hr, hl, y3, k3, hb, back⟩ => ?_
  obtain ⟨a, v, hA, rfl, hcell⟩ := first_byte hr hl
  refine ⟨_, _, _, he, ⟨show (0 : Int) ≤ 0 by decide, by simp⟩, Deref_some hA ⟨v, hcell, ?_⟩⟩
  obtain ⟨rv, gv, zv⟩ := fb k3 (by omega) hb
  obtain ⟨a1, a2, a3⟩ := and_bits rv.1 rv.2
  rw [a1, a2]
  refine y3.im.cell (j := 2) (y := { x' with ret := v % 2 == 1 }) (by decide) rfl rfl rfl fun w14 m14 _ => ?_
  have y4 := y3.set m14
  refine y4.im.cell (j := 3) (y := { x' with ret := v % 2 == 1, sec := v / 2 % 2 == 1 }) (by decide) rfl rfl rfl fun w15 m15 _ => ?_
  have y5 := y4.set m15
  have g3 : sh3 = false → k = nP (bytesI s) := fun h => gk (back h)
  have k5 : OkS s sh3 at3 { x' with ret := v % 2 == 1, sec := v / 2 % 2 == 1 } (7 + k) ⟨bAt (bytesI s) 4, rdP (bytesI s) k, bAt (bytesI s) (6 + k) % 2 == 1, bAt (bytesI s) (6 + k) / 2 % 2 == 1, []⟩ := by
    rcases k3 with ⟨e1, e2, e3, e4⟩ | ⟨e1, e2, e3⟩
    · refine .inl ⟨e1, by omega, ?_, by omega⟩
      rw [e3, (gv e1).1]
    · exact .inr ⟨e1, e2, e3⟩
  have short2 : s.size < 11 + k → canRd (bytesI s) = false := by
    intro h1
    rcases ky with ⟨e1, _, _, _⟩ | ⟨_, e2, _⟩
    · exact crP s.size (by rw [← gk e1]; omega) (Nat.le_refl _)
    · exact e2
  refine (y5.next' k5 (n := 4) ⟨by omega, by omega⟩ hs fun h => short2 (by omega)).mono fun e w16 ⟨p, c, bs, L6, at6, sh6, he, hr, hl, y6, k6, hb6, back6⟩ => ⟨_, _, _, he, ?_⟩
  have rb4 : ∀ b ∈ bs, 0 ≤ b ∧ b < 256 := by
    intro b hb
    rcases hb6 with ⟨_, e2⟩ | ⟨_, e2⟩
    · rw [e2] at hb; exact bytesI_range (nextB_mem hb)
    · rw [e2] at hb; rw [(List.mem_replicate.1 hb).2]; omega
  have rv4 := valueL_range rb4
  refine (image_number_ok hl rb4 hr).mono fun e w17 ⟨he, g17⟩ => ⟨_, he, ?_⟩
  have y7 := y6.later g17
  obtain ⟨mm, hmm⟩ := Int.eq_ofNat_of_zero_le rv4.1
  rw [hmm]
  have g6 : sh6 = false → k = nP (bytesI s) ∧ mm = manyL (bytesI s) ∧ 11 + k ≤ s.size := fun h => by
    have hk6 := g3 (back6 h)
    refine ⟨hk6, ?_, ?_⟩
    · rcases hb6 with ⟨_, e2⟩ | ⟨e1, _⟩
      · unfold manyL
        rw [← hk6, ← e2, hmm]
        rfl
      · rw [h] at e1; cases e1
    · rcases k6 with ⟨_, _, _, e4⟩ | ⟨e1, _, _⟩
      · omega
      · rw [h] at e1; cases e1
  refine ⟨fun vs w' => ∃ (m i : Nat) (L : List Blk) (at' : Nat) (sh : Bool) (A1 : Option Addr) (c1 : Nat) (A2 : Option Addr) (c2 : Nat) (x' : Img), vs = [.int .u32 m] ∧ (m : Int) < 4294967296 ∧ Rd w w' s w.heap.size w1.heap.size w3.heap.size w4.heap.size w7.heap.size L at' sh A1 c1 A2 c2 x' ∧
      OkS s sh at' x' (11 + k + 4 * i) ⟨bAt (bytesI s) 4, rdP (bytesI s) k, bAt (bytesI s) (6 + k) % 2 == 1, bAt (bytesI s) (6 + k) / 2 % 2 == 1, rdC (bytesI s) i⟩ ∧ (sh = false → k = nP (bytesI s) ∧ m + i = manyL (bytesI s)),
    fun vs _ => match vs with | [.int _ n] => n.toNat | _ => 0, ⟨mm, 0, L6, at6, sh6, _, _, _, _, _, rfl, by omega, y7, ?_, fun h => ⟨(g6 h).1, by rw [(g6 h).2.1]; rfl⟩⟩, ?_⟩
  · have : 7 + k + 4 = 11 + k + 4 * 0 := by omega
    rw [← this]
    exact k6
  rintro g n w18 ⟨m, i, L, at', sh, A1, c1, A2, c2, x', hvs, hm32, y, ky, gk⟩
  simp only [List.cons.injEq, Value.int.injEq, true_and, and_true] at hvs
  subst hvs
  refine ⟨fun vs w' => vs = [.bool (decide (0 < m) && !sh)] ∧ w' = w18, ?_, ?_⟩
  · refine cnd_of (fun h => ⟨_, y.im.trk.cell 3 y.h3 rfl, ?_, rfl⟩) fun h => ⟨?_, rfl⟩
    · have : 0 < m := by simp only [decide_eq_true_eq] at h; omega
      simp [this]
    · have : ¬ 0 < m := by simp only [decide_eq_false_iff_not] at h; omega
      simp [this]
  rintro g s79 w' ⟨hvs, rfl⟩
  simp only [List.cons.injEq, Value.bool.injEq, and_true] at hvs
  subst hvs
  refine cnd_of (fun h => ?_) fun h => ?_
  · simp only [Bool.and_eq_true, decide_eq_true_eq, Bool.not_eq_true'] at h
    obtain ⟨hm0, hsh⟩ := h
    obtain ⟨gkP, gkM⟩ := gk hsh
    obtain ⟨hx', hle⟩ : x' = ⟨bAt (bytesI s) 4, rdP (bytesI s) k, bAt (bytesI s) (6 + k) % 2 == 1, bAt (bytesI s) (6 + k) / 2 % 2 == 1, rdC (bytesI s) i⟩ ∧ 11 + k + 4 * i ≤ s.size := by
      rcases ky with ⟨_, _, e3, e4⟩ | ⟨e1, _, _⟩
      · exact ⟨e3, by omega⟩
      · rw [hsh] at e1; cases e1
    have hcl : x'.code.length = i := by rw [hx']; exact rdC_length _ _
    refine ⟨fun w' => Has w' w7.heap.size (imgC A1 c1 A2 c2 x'), fun w' hl => (y.im.trk.has 4 y.im.at_).later hl, fun w' hl => ⟨A2, x'.code.length, c2, fun w' hh => hh.cell rfl, ?_⟩⟩
    have short4 : s.size < 11 + k + 4 * i + 4 → canRd (bytesI s) = false := fun h1 => by
      simp only [canRd, decide_eq_false_iff_not]
      omega
    refine ((y.later hl).next' ky (n := 4) ⟨by omega, by omega⟩ hs short4).mono fun e w19 ⟨p, c, bs, L7, at7, sh7, he, hr, hl7, y7', k7, hb7, back7⟩ => ⟨_, _, _, he, y7'.im.trk.has 4 y7'.im.at_, ?_⟩
    have rb7 : ∀ b ∈ bs, 0 ≤ b ∧ b < 256 := by
      intro b hb
      rcases hb7 with ⟨_, e2⟩ | ⟨_, e2⟩
      · rw [e2] at hb; exact bytesI_range (nextB_mem hb)
      · rw [e2] at hb; rw [(List.mem_replicate.1 hb).2]; omega
    refine (image_number_ok hl7 rb7 hr).mono fun e w20 ⟨he, g20⟩ => ⟨_, he, ?_⟩
    have y8 := y7'.later g20
    refine ⟨y8.im.trk.has 4 y8.im.at_, fun w21 h21 => ⟨(y8.im.trk.alloc h21).has 4 (by rw [List.getElem?_append_left (List.getElem?_eq_some_iff.1 y8.im.at_).1]; exact y8.im.at_), ?_⟩⟩
    refine y8.im.pushC (valueL bs) (by omega) h21 fun b' c' w22 t22 hK => ⟨_, _, _, rfl, t22.has 4 y8.im.at_, hK.1, fun w23 h23 => ?_⟩
    have y9 := y8.set (hK.2 w23 h23)
    have hw : IntKind.u32.wrap ((m : Int) - 1) = ((m - 1 : Nat) : Int) := by rw [u32_in (by omega) (by omega)]; omega
    rw [hw]
    refine ⟨⟨m - 1, i + 1, _, at7, sh7, A1, c1, b', c', _, rfl, by omega, y9, ?_, fun h => ⟨gkP, by omega⟩⟩, by show ((m - 1 : Nat) : Int).toNat < ((m : Nat) : Int).toNat; omega⟩
    have ea : 11 + k + 4 * i + 4 = 11 + k + 4 * (i + 1) := by omega
    rcases k7 with ⟨e1, e2, e3, e4⟩ | ⟨e1, e2, e3⟩
    · refine .inl ⟨e1, by omega, ?_, by omega⟩
      have hb : valueL bs = codeAt (bytesI s) i := by
        rcases hb7 with ⟨_, e⟩ | ⟨e5, _⟩
        · rw [e, codeAt, ← gkP]
        · rw [e1] at e5; cases e5
      rw [hb, e3, ← rdC_succ]
    · exact .inr ⟨e1, e2, e3⟩
  refine ⟨_, y.im.trk.cell 3 y.h3 rfl, ?_⟩
  refine cnd_of (fun hsh => zeroOut y.im.trk (k := 1) y.h1 rfl fun w' hl => get_zero ?_ (by decide) hl) fun hsh => ?_
  · have : canRd (bytesI s) = false := by
      rcases ky with ⟨e1, _, _, _⟩ | ⟨_, e2, _⟩
      · rw [hsh] at e1; cases e1
      · exact e2
    simp [getE, hpre, this]
  have hm0 : m = 0 := by
    rw [hsh] at h
    simp only [Bool.not_false, Bool.and_true, decide_eq_false_iff_not] at h
    omega
  subst hm0
  obtain ⟨gkP, gkM⟩ := gk hsh
  obtain rfl : i = manyL (bytesI s) := by omega
  obtain ⟨hx', hle⟩ : x' = rdI (bytesI s) ∧ 11 + k + 4 * manyL (bytesI s) ≤ s.size := by
    rcases ky with ⟨_, _, e3, e4⟩ | ⟨e1, _, _⟩
    · refine ⟨?_, by omega⟩
      rw [e3, gkP]
      rfl
    · rw [hsh] at e1; cases e1
  subst hx'
  have hc : canRd (bytesI s) = true := by
    simp only [canRd, decide_eq_true_eq]
    omega
  have hx := rdI_ok hs hc
  refine ⟨_, _, _, _, _, _, _, _, _, ⟨y.im.trk.cell 4 y.im.at_ rfl, y.im.trk.cell 4 y.im.at_ rfl, y.im.trk.cell 4 y.im.at_ rfl, y.im.trk.cell 4 y.im.at_ rfl, y.im.trk.cell 4 y.im.at_ rfl, trivial⟩, ?_⟩
  refine (image_Put_ok hx y.im.imAt).mono fun e w19 ⟨he, g19⟩ => ⟨_, _, he, ?_⟩
  have y := y.later g19
  refine cnd_of (fun h => zeroOut y.im.trk (k := 1) y.h1 rfl fun w' hl => get_zero (getE_7 hpre hc ?_) (by decide) hl) fun h => ?_
  · have hm : mayI (rdI (bytesI s)) = false := by
      cases hq : mayI (rdI (bytesI s)) with
      | false => rfl
      | true => simp [textE, hq] at h
    simp [okG, hm]
  have hm : mayI (rdI (bytesI s)) = true := by
    cases hq : mayI (rdI (bytesI s)) with
    | true => rfl
    | false => simp [textE, hq] at h
  have hput : putS (rdI (bytesI s)) = strOf (putB (rdI (bytesI s))) := by simp [putS, hm]
  refine ⟨_, y.im.trk.cell 0 y.h0 rfl, ?_⟩
  rw [hput]
  refine cnd_of (fun h => zeroOut y.im.trk (k := 1) y.h1 rfl fun w' hl => get_zero (getE_7 hpre hc ?_) (by decide) hl) fun h => ?_
  · have hq : ((strOf (putB (rdI (bytesI s)))).toList == s.toList) = false := by simpa using h
    simp [okG, hq]
  have hq : ((strOf (putB (rdI (bytesI s)))).toList == s.toList) = true := by simpa using h
  have hE : getE s = 0 := by simp [getE, hpre, hc, okG, hm, hq]
  refine y.im.out (k := 1) y.h1 rfl fun w' hl hi _ _ => ⟨hl, A1, c1, A2, c2, ?_, ?_⟩
  · rw [getX, hE, if_pos rfl]
  · rw [getX, hE, if_pos rfl]
    exact hi
end Go.Proofs.Ytjoikaklincfoaa
