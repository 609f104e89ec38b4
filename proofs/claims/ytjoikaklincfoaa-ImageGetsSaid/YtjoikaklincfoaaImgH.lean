/-
Images, eighth part: which image bytes are, as far as it can be told; the reference's read.
Conditions: the string is not too long.
-/
import Derived.Test.YtjoikaklincfoaaImgG
namespace Go.Proofs.Ytjoikaklincfoaa
open Go Go.Vc Go.RowKit
set_option linter.unusedVariables false
set_option linter.unusedSimpArgs false
set_option linter.unnecessarySimpa false
set_option maxRecDepth 100000

def bAt (l : List Int) (i : Nat) : Int := l.getD i 0
def hdOf (c : Int) : Hd := ⟨c % 2 == 1, c / 2 % 2 == 1, c / 4 % 2 == 1, 0, 0⟩
def nP (l : List Int) : Nat := (bAt l 5).toNat
def manyL (l : List Int) : Nat := (valueL (nextB l (7 + nP l) 4)).toNat
def canRd (l : List Int) : Bool := decide (11 + nP l ≤ l.length ∧ 4 * manyL l ≤ l.length - (11 + nP l))
def codeAt (l : List Int) (i : Nat) : Int := valueL (nextB l (11 + nP l + 4 * i) 4)
def rdP (l : List Int) (k : Nat) : List Hd := (nextB l 6 k).map hdOf
def rdC (l : List Int) (k : Nat) : List Int := (List.range k).map (codeAt l)
def rdI (l : List Int) : Img := ⟨bAt l 4, rdP l (nP l), bAt l (6 + nP l) % 2 == 1, bAt l (6 + nP l) / 2 % 2 == 1, rdC l (manyL l)⟩
theorem bAt_byte {s : ByteArray} {i : Nat} (hi : i < s.size) : ∃ b : UInt8, s[i]? = some b ∧ bAt (bytesI s) i = (b.toNat : Int) ∧ b.toNat < 256 := by
  have hl : i < s.data.toList.length := by rw [Array.length_toList]; exact hi
  refine ⟨s.data.toList[i], get_byte hi, ?_, UInt8.toNat_lt _⟩
  unfold bAt bytesI
  rw [List.getD_eq_getElem?_getD, List.getElem?_map, List.getElem?_eq_getElem hl]
  rfl
theorem bAt_range (s : ByteArray) (i : Nat) : 0 ≤ bAt (bytesI s) i ∧ bAt (bytesI s) i < 256 := by
  unfold bAt
  rw [List.getD_eq_getElem?_getD]
  cases h : (bytesI s)[i]? with
  | none => simp
  | some b => exact bytesI_range (List.mem_of_getElem? h)
theorem nextB_mem {l : List Int} {a n : Nat} {b : Int} (h : b ∈ nextB l a n) : b ∈ l := List.mem_of_mem_drop (List.mem_of_mem_take h)
theorem valueL_range {l : List Int} (h : ∀ b ∈ l, 0 ≤ b ∧ b < 256) : 0 ≤ valueL l ∧ valueL l < 4294967296 := by
  unfold valueL
  split
  · rename_i a b c d
    have ha := h a (by simp)
    have hb := h b (by simp)
    have hc := h c (by simp)
    have hd := h d (by simp)
    omega
  · omega
theorem next_value (s : ByteArray) (a : Nat) : 0 ≤ valueL (nextB (bytesI s) a 4) ∧ valueL (nextB (bytesI s) a 4) < 4294967296 := valueL_range fun b hb => bytesI_range (nextB_mem hb)
theorem nextB_one {l : List Int} {a : Nat} (h : a < l.length) : nextB l a 1 = [bAt l a] := by
  unfold nextB bAt
  rw [List.getD_eq_getElem?_getD, List.getElem?_eq_getElem h]
  apply List.ext_getElem?
  intro i
  rw [List.getElem?_take, List.getElem?_drop]
  by_cases hi : i < 1
  · obtain rfl : i = 0 := by omega
    rw [if_pos hi]
    simp [List.getElem?_eq_getElem h]
  · rw [if_neg hi, List.getElem?_eq_none (by simp; omega)]
theorem rdP_succ {l : List Int} {k : Nat} (h : 6 + k < l.length) : rdP l k ++ [hdOf (bAt l (6 + k))] = rdP l (k + 1) := by
  unfold rdP nextB
  rw [List.take_add_one, List.getElem?_drop, List.getElem?_eq_getElem h, List.map_append]
  congr 1
  unfold bAt
  rw [List.getD_eq_getElem?_getD, List.getElem?_eq_getElem h]
  rfl
theorem rdC_succ (l : List Int) (k : Nat) : rdC l k ++ [codeAt l k] = rdC l (k + 1) := by
  unfold rdC
  rw [List.range_succ, List.map_append]
  rfl
theorem rdP_length {l : List Int} {k : Nat} (h : 6 + k ≤ l.length) : (rdP l k).length = k := by
  unfold rdP nextB
  rw [List.length_map, List.length_take, List.length_drop]
  omega
theorem rdC_length (l : List Int) (k : Nat) : (rdC l k).length = k := by simp [rdC]
/-- What read answers. -/
def RdR (s : ByteArray) (w : World) (e : Ending) (w' : World) : Prop := Later w w' ∧
  ((canRd (bytesI s) = true ∧ ∃ A1 c1 A2 c2, e = .returned (.tuple #[imgV A1 c1 A2 c2 (rdI (bytesI s)), i64v ((11 + nP (bytesI s) + 4 * manyL (bytesI s) : Nat) : Int), .bool true]) ∧ OwnE hdT w w' 50 A1 c1 (rdI (bytesI s)).params ∧ OwnE u32T w w' 42 A2 c2 (rdI (bytesI s)).code ∧ ∀ k, rowB A1 = some k → rowB A2 ≠ some k) ∨
   (canRd (bytesI s) = false ∧ ∃ A1 c1 A2 c2 x, e = .returned (.tuple #[imgV A1 c1 A2 c2 x, i64v 0, .bool false])))
theorem Mk.new {w0 w : World} {L : List Blk} {xi xb : Nat} (ht : Trk w0 w L) (h : L[xi]? = some (xb, imgC none 0 none 0 ⟨0, [], false, false, []⟩)) : Mk w0 w L xi xb none 0 none 0 ⟨0, [], false, false, []⟩ :=
  ⟨ht, h, OwnE.nil _ _ _, OwnE.nil _ _ _, by simp, by simp, by simp⟩
set_option maxHeartbeats 6400000 in
theorem ref30_read_ok {s : ByteArray} (hs : s.size ≤ 100000) (w : World) : Calls Try.prog ref30_read.N #[.string s] w (RdR s w) := by
  refine ref30_read.calls ?_
  unfold ref30_read.vc
  intro w1 h1 w2 h2
  have L := ((Trk.start w).alloc h1).alloc h2
  refine L.setAll (l := imgC none 0 none 0 ⟨0, [], false, false, []⟩) 1 rfl rfl (ones rfl) fun w3 L => ?_
  have y : Mk w w3 _ 1 w1.heap.size none 0 none 0 ⟨0, [], false, false, []⟩ := Mk.new L rfl
  have bl := bytesI_length s
  have no : ∀ {A1 A2 : Option Addr} {c1 c2 : Nat} {x : Img} {w' : World}, canRd (bytesI s) = false → Later w w' → RdR s w (.returned (.tuple #[imgV A1 c1 A2 c2 x, i64v 0, .bool false])) w' := fun h hl => ⟨hl, .inr ⟨h, _, _, _, _, _, rfl⟩⟩
  rw [show IntKind.i64.wrap 6 = 6 from rfl, show IntKind.i64.wrap 5 = 5 from rfl]
  refine cnd_of (fun h => y.out (k := 0) rfl rfl fun w' hl _ _ _ => no ?_ hl) fun h => ?_
  · have h : (s.size : Int) < 6 := by simpa using h
    simp only [canRd, decide_eq_false_iff_not]
    omega
  have h6 : 6 ≤ s.size := by have : ¬ (s.size : Int) < 6 := by simpa using h
                             omega
  obtain ⟨b4, g4, e4, r4⟩ := bAt_byte (s := s) (i := 4) (by omega)
  obtain ⟨b5, g5, e5, r5⟩ := bAt_byte (s := s) (i := 5) (by omega)
  have hnP : nP (bytesI s) = b5.toNat := by unfold nP; rw [e5]; rfl
  have w4' : IntKind.i64.wrap ((b4.toNat : Nat) : Int) = (b4.toNat : Int) := i64_in (by omega) (by omega)
  have w5' : IntKind.i64.wrap ((b5.toNat : Nat) : Int) = (b5.toNat : Int) := i64_in (by omega) (by omega)
  refine ⟨show (0 : Int) ≤ 4 by decide, b4, g4, ?_⟩
  rw [w4', ← e4]
  refine y.cell (j := 0) (y := ⟨bAt (bytesI s) 4, [], false, false, []⟩) (by decide) rfl rfl rfl fun w4 y _ => ⟨show (0 : Int) ≤ 5 by decide, b5, g5, ?_⟩
  have wa : IntKind.i64.wrap (6 + IntKind.i64.wrap ((b5.toNat : Nat) : Int)) = ((6 + b5.toNat : Nat) : Int) := by rw [w5', i64_in (by omega) (by omega)]; omega
  have wb : IntKind.i64.wrap (((6 + b5.toNat : Nat) : Int) + 5) = ((11 + b5.toNat : Nat) : Int) := by rw [i64_in (by omega) (by omega)]; omega
  rw [wa, wb, w5']
  refine cnd_of (fun h => y.out (k := 0) rfl rfl fun w' hl _ _ _ => no ?_ hl) fun h => ?_
  · have h : (s.size : Int) < ((11 + b5.toNat : Nat) : Int) := by simpa using h
    simp only [canRd, decide_eq_false_iff_not]
    omega
  have h11 : 11 + b5.toNat ≤ s.size := by have : ¬ (s.size : Int) < ((11 + b5.toNat : Nat) : Int) := by simpa using h
                                          omega
  refine ⟨fun vs w' => ∃ (k : Nat) (A1 : Option Addr) (c1 : Nat) (M : List Blk), k ≤ b5.toNat ∧ vs = [i64v k] ∧ M[0]? = some (w.heap.size, [i64v 0, .slice none 0 0, .bool false, .bool false, .slice none 0 0]) ∧ Mk w w' M 1 w1.heap.size A1 c1 none 0 ⟨bAt (bytesI s) 4, rdP (bytesI s) k, false, false, []⟩,
    fun vs _ => match vs with | [.int _ n] => b5.toNat - n.toNat | _ => 0, ⟨0, none, 0, _, by omega, rfl, rfl, y⟩, ?_⟩
  rintro g i w5 ⟨k, A1, c1, M, hk, hs', hM0, y⟩
  simp only [List.cons.injEq, Value.int.injEq, true_and, and_true] at hs'
  subst hs'
  refine cnd_of (fun h => ?_) fun h => ?_
  · have hlt : k < b5.toNat := by simp only [decide_eq_true_eq] at h; omega
    obtain ⟨b, gb, eb, rb⟩ := bAt_byte (s := s) (i := 6 + k) (by omega)
    have wk : IntKind.i64.wrap (6 + (k : Int)) = ((6 + k : Nat) : Int) := by rw [i64_in (by omega) (by omega)]; omega
    rw [wk]
    refine ⟨by omega, b, gb, _, _, _, y.trk.cell 1 y.at_ rfl, fun w6 h6' => ?_⟩
    have hcs : (#[Value.bool ((b.toNat : Int).tmod 2 == 1), .bool ((IntKind.u8.wrap ((b.toNat : Int).tdiv 2)).tmod 2 == 1), .bool ((IntKind.u8.wrap ((b.toNat : Int).tdiv 4)).tmod 2 == 1), i64v 0, i64v 0] : Array Value).toList = hdC (hdOf (bAt (bytesI s) (6 + k))) := by
      rw [eb]
      have n0 : (0 : Int) ≤ (b.toNat : Int) := by omega
      simp only [u8_wrap, hdC, hdOf]
      rw [tdiv_nn _ n0, tdiv_nn _ n0, tmod_nn _ n0, tmod_nn _ (by omega), tmod_nn _ (by omega), Int.emod_eq_of_lt (a := (b.toNat : Int) / 2) (by omega) (by omega), Int.emod_eq_of_lt (a := (b.toNat : Int) / 4) (by omega) (by omega)]
    have lenk : (rdP (bytesI s) k).length = k := rdP_length (by omega)
    refine y.pushP (hdOf (bAt (bytesI s) (6 + k))) (by show (rdP (bytesI s) k).length ≤ _; omega) h6' hcs fun b' c' w7 hK => ⟨_, _, _, rfl, hK.1, fun w8 h8 => ?_⟩
    have y8 := hK.2 w8 h8
    have hw : IntKind.i64.wrap ((k : Int) + 1) = ((k + 1 : Nat) : Int) := by rw [i64_in (by omega) (by omega)]; omega
    rw [hw]
    have es : rdP (bytesI s) k ++ [hdOf (bAt (bytesI s) (6 + k))] = rdP (bytesI s) (k + 1) := rdP_succ (by omega)
    simp only [es] at y8
    exact ⟨⟨k + 1, b', c', _, by omega, rfl, by rw [List.getElem?_set_ne (by decide)]; exact hM0, y8⟩, by show b5.toNat - ((k + 1 : Nat) : Int).toNat < b5.toNat - ((k : Nat) : Int).toNat; omega⟩
  have hkn : k = b5.toNat := by simp only [decide_eq_false_iff_not] at h; omega
  subst hkn
  obtain ⟨bf, gf, ef, rf⟩ := bAt_byte (s := s) (i := 6 + b5.toNat) (by omega)
  have n0 : (0 : Int) ≤ (bf.toNat : Int) := by omega
  refine ⟨by omega, bf, gf, ?_⟩
  rw [tmod_nn _ n0, ← ef]
  refine y.cell (j := 2) (y := ⟨bAt (bytesI s) 4, rdP (bytesI s) b5.toNat, bAt (bytesI s) (6 + b5.toNat) % 2 == 1, false, []⟩) (by decide) rfl rfl rfl fun w6 y _ => ⟨by omega, bf, gf, ?_⟩
  have e3 : (IntKind.u8.wrap ((bf.toNat : Int).tdiv 2)).tmod 2 = bAt (bytesI s) (6 + b5.toNat) / 2 % 2 := by
    rw [ef, u8_wrap, tdiv_nn _ n0, tmod_nn _ (by omega), Int.emod_eq_of_lt (a := (bf.toNat : Int) / 2) (by omega) (by omega)]
  rw [e3]
  refine y.cell (j := 3) (y := ⟨bAt (bytesI s) 4, rdP (bytesI s) b5.toNat, bAt (bytesI s) (6 + b5.toNat) % 2 == 1, bAt (bytesI s) (6 + b5.toNat) / 2 % 2 == 1, []⟩) (by decide) rfl rfl rfl fun w7 y _ => ?_
  generalize hM1 : (M.set 1 _).set 1 _ = M1 at y
  have hM10 : M1[0]? = some (w.heap.size, [i64v 0, .slice none 0 0, .bool false, .bool false, .slice none 0 0]) := by
    rw [← hM1, List.getElem?_set_ne (by decide), List.getElem?_set_ne (by decide)]
    exact hM0
  have wc : IntKind.i64.wrap (((6 + b5.toNat : Nat) : Int) + 1) = ((7 + b5.toNat : Nat) : Int) := by rw [i64_in (by omega) (by omega)]; omega
  rw [wc]
  refine (ref30_value_ok (s := s) (at_ := 7 + b5.toNat) (by omega) (by omega) w7).mono fun e w8 ⟨he, g8⟩ => ⟨_, he, ?_⟩
  have y := y.later g8
  have hv := next_value s (7 + b5.toNat)
  have hmany : ((manyL (bytesI s) : Nat) : Int) = valueL (nextB (bytesI s) (7 + b5.toNat) 4) := by
    unfold manyL
    rw [hnP]
    omega
  rw [← hmany]
  have hm0 : manyL (bytesI s) < 4294967296 := by omega
  have wm : IntKind.i64.wrap ((manyL (bytesI s) : Nat) : Int) = ((manyL (bytesI s) : Nat) : Int) := i64_in (by omega) (by omega)
  have wq : IntKind.i64.wrap ((IntKind.i64.wrap ((s.size : Int) - ((11 + b5.toNat : Nat) : Int))).tdiv 4) = (((s.size - (11 + b5.toNat)) / 4 : Nat) : Int) := by
    rw [i64_in (x := (s.size : Int) - ((11 + b5.toNat : Nat) : Int)) (by omega) (by omega), tdiv_nn _ (by omega), i64_in (by omega) (by omega)]
    omega
  rw [wm, wq]
  refine cnd_of (fun h => y.out (k := 0) hM10 rfl fun w' hl _ _ _ => no ?_ hl) fun h => ?_
  · have h : ((manyL (bytesI s) : Nat) : Int) > (((s.size - (11 + b5.toNat)) / 4 : Nat) : Int) := by simpa using h
    simp only [canRd, decide_eq_false_iff_not, hnP]
    omega
  have hmany4 : 4 * manyL (bytesI s) ≤ s.size - (11 + b5.toNat) := by
    have : ¬ ((manyL (bytesI s) : Nat) : Int) > (((s.size - (11 + b5.toNat)) / 4 : Nat) : Int) := by simpa using h
    omega
  refine ⟨fun vs w' => ∃ (k : Nat) (A2 : Option Addr) (c2 : Nat) (M : List Blk), k ≤ manyL (bytesI s) ∧ vs = [i64v k] ∧ M[0]? = some (w.heap.size, [i64v 0, .slice none 0 0, .bool false, .bool false, .slice none 0 0]) ∧ Mk w w' M 1 w1.heap.size A1 c1 A2 c2 ⟨bAt (bytesI s) 4, rdP (bytesI s) b5.toNat, bAt (bytesI s) (6 + b5.toNat) % 2 == 1, bAt (bytesI s) (6 + b5.toNat) / 2 % 2 == 1, rdC (bytesI s) k⟩,
    fun vs _ => match vs with | [.int _ n] => manyL (bytesI s) - n.toNat | _ => 0, ⟨0, none, 0, M1, by omega, rfl, hM10, y⟩, ?_⟩
  rintro g i w9 ⟨k, A2, c2, M, hk, hs', hM0, y⟩
  simp only [List.cons.injEq, Value.int.injEq, true_and, and_true] at hs'
  subst hs'
  refine cnd_of (fun h => ?_) fun h => ?_
  · have hlt : k < manyL (bytesI s) := by simp only [decide_eq_true_eq] at h; omega
    refine ⟨fun w' => Has w' w1.heap.size (imgC A1 c1 A2 c2 ⟨bAt (bytesI s) 4, rdP (bytesI s) b5.toNat, bAt (bytesI s) (6 + b5.toNat) % 2 == 1, bAt (bytesI s) (6 + b5.toNat) / 2 % 2 == 1, rdC (bytesI s) k⟩), fun w' g => (y.trk.has 1 y.at_).later g, fun w10 g10 => ⟨_, _, _, fun w' h => h.cell rfl, ?_⟩⟩
    have y10 := y.later g10
    have w4k : IntKind.i64.wrap (4 * (k : Int)) = ((4 * k : Nat) : Int) := by rw [i64_in (by omega) (by omega)]; omega
    have wpos : IntKind.i64.wrap (((11 + b5.toNat : Nat) : Int) + ((4 * k : Nat) : Int)) = ((11 + b5.toNat + 4 * k : Nat) : Int) := by rw [i64_in (by omega) (by omega)]; omega
    rw [w4k, wpos]
    refine (ref30_value_ok (s := s) (at_ := 11 + b5.toNat + 4 * k) (by omega) (by omega) w10).mono fun e w11 ⟨he, g11⟩ => ⟨_, he, (y10.trk.has 1 y10.at_).later g11, fun w12 h12 => ?_⟩
    have y11 := y10.later g11
    have hca : codeAt (bytesI s) k = valueL (nextB (bytesI s) (11 + b5.toNat + 4 * k) 4) := by unfold codeAt; rw [hnP]
    rw [← hca] at h12
    have g12 : Later w11 w12 := h12 ▸ Later.alloc' _ _
    have hlen : (rdC (bytesI s) k).length = k := rdC_length _ _
    refine ⟨(y11.trk.has 1 y11.at_).later g12, y11.pushC (codeAt (bytesI s) k) (by show (rdC (bytesI s) k).length ≤ _; omega) h12 fun b' c' w13 t13 hK => ⟨_, _, _, rfl, t13.has 1 y11.at_, hK.1, fun w14 h14 => ?_⟩⟩
    have y14 := hK.2 w14 h14
    have hw : IntKind.i64.wrap ((k : Int) + 1) = ((k + 1 : Nat) : Int) := by rw [i64_in (by omega) (by omega)]; omega
    rw [hw]
    simp only [rdC_succ] at y14
    exact ⟨⟨k + 1, b', c', _, by omega, rfl, by rw [List.getElem?_set_ne (by decide)]; exact hM0, y14⟩, by show manyL (bytesI s) - ((k + 1 : Nat) : Int).toNat < manyL (bytesI s) - ((k : Nat) : Int).toNat; omega⟩
  · have hkn : k = manyL (bytesI s) := by simp only [decide_eq_false_iff_not] at h; omega
    subst hkn
    have w4k : IntKind.i64.wrap (4 * ((manyL (bytesI s) : Nat) : Int)) = ((4 * manyL (bytesI s) : Nat) : Int) := by rw [i64_in (by omega) (by omega)]; omega
    have wpos : IntKind.i64.wrap (((11 + b5.toNat : Nat) : Int) + ((4 * manyL (bytesI s) : Nat) : Int)) = ((11 + b5.toNat + 4 * manyL (bytesI s) : Nat) : Int) := by rw [i64_in (by omega) (by omega)]; omega
    rw [w4k, wpos]
    refine y.out (k := 0) hM0 rfl fun w' hl hi o1 o2 => ⟨hl, .inl ⟨?_, A1, c1, A2, c2, ?_, ?_, ?_, y.n12⟩⟩
    · simp only [canRd, decide_eq_true_eq, hnP]
      omega
    · unfold rdI
      rw [hnP]
    · unfold rdI
      rw [hnP]
      exact o1
    · exact o2
end Go.Proofs.Ytjoikaklincfoaa
