/-
Images, ninth part: which image bytes are, or why none (the reference's Get).
Conditions: the string is not too long.
-/
import Derived.Test.YtjoikaklincfoaaImgH
import Derived.Laws.Strings
namespace Go.Proofs.Ytjoikaklincfoaa
open Go Go.Vc Go.RowKit
set_option linter.unusedVariables false
set_option linter.unusedSimpArgs false
set_option linter.unnecessarySimpa false
set_option maxRecDepth 100000

def zeroI : Img := ⟨0, [], false, false, []⟩
def magicB : ByteArray := ByteArray.mk #[83, 67, 82, 49]
def preOk (s : ByteArray) : Bool := (s.extract 0 (gomin (s.size : Int) 4).toNat).toList == (magicB.extract 0 (gomin (s.size : Int) 4).toNat).toList
def okG (s : ByteArray) : Bool := mayI (rdI (bytesI s)) && ((strOf (putB (rdI (bytesI s)))).toList == s.toList)
def getE (s : ByteArray) : Int := if preOk s = true then (if canRd (bytesI s) = true then (if okG s = true then 0 else 7) else 6) else 7
def getX (s : ByteArray) : Img := if getE s = 0 then rdI (bytesI s) else zeroI
def GetR (s : ByteArray) (w : World) (e : Ending) (w' : World) : Prop := Later w w' ∧ ∃ A1 c1 A2 c2, e = .returned (.tuple #[imgV A1 c1 A2 c2 (getX s), i64v (getE s)]) ∧ ImAt w' A1 A2 (getX s)
theorem zero_at (w : World) : ImAt w none none zeroI := ⟨ERow.nil _ _, ERow.nil _ _⟩
theorem get_zero {s : ByteArray} {w w' : World} {k : Int} (h : getE s = k) (hk : k ≠ 0) (hl : Later w w') : GetR s w (.returned (.tuple #[imgV none 0 none 0 zeroI, i64v k])) w' := by
  refine ⟨hl, none, 0, none, 0, ?_, ?_⟩
  · rw [getX, h, if_neg hk]
  · rw [getX, h, if_neg hk]
    exact zero_at _
/-- No image goes out by way of a block. -/
theorem zeroOut {w0 w : World} {L : List Blk} (h : Trk w0 w L) {k rb : Nat} {cs : List Value} (hk : L[k]? = some (rb, cs)) (hc : cs.length = 5) {R : Int → Option Addr → Nat → Nat → Bool → Bool → Option Addr → Nat → Nat → World → Prop}
    (hR : ∀ w', Later w0 w' → R 0 none 0 0 false false none 0 0 w') :
    SetsAt w ⟨rb, 0, none⟩ 0 [i64v 0, .slice none 0 0, .bool false, .bool false, .slice none 0 0] ∧ ∀ w', w' = setCellsAt w ⟨rb, 0, none⟩ 0 [i64v 0, .slice none 0 0, .bool false, .bool false, .slice none 0 0] →
        ∃ n p n1 c b b1 p1 n2 cc1, (w'.cell? ⟨rb, 0, none⟩ = some (i64v n) ∧ w'.cell? ⟨rb, 1, none⟩ = some (.slice p n1 c) ∧ w'.cell? ⟨rb, 2, none⟩ = some (.bool b) ∧ w'.cell? ⟨rb, 3, none⟩ = some (.bool b1) ∧ w'.cell? ⟨rb, 4, none⟩ = some (.slice p1 n2 cc1) ∧ True) ∧ R n p n1 c b b1 p1 n2 cc1 w' := by
  have hkl : k < L.length := (List.getElem?_eq_some_iff.1 hk).1
  refine h.setAllE (l := [i64v 0, .slice none 0 0, .bool false, .bool false, .slice none 0 0]) k hk (by rw [hc]; rfl) (ones rfl) fun w' e t => ?_
  have ek : (L.set k (rb, [i64v 0, .slice none 0 0, .bool false, .bool false, .slice none 0 0]))[k]? = some (rb, [i64v 0, .slice none 0 0, .bool false, .bool false, .slice none 0 0]) := List.getElem?_set_self hkl
  exact ⟨_, _, _, _, _, _, _, _, _, ⟨t.cell k ek rfl, t.cell k ek rfl, t.cell k ek rfl, t.cell k ek rfl, t.cell k ek rfl, trivial⟩, hR w' t.to⟩
theorem eq_size {a b : ByteArray} (h : (a.toList == b.toList) = true) : a.size = b.size := by
  rw [ByteArray.toList_eq, ByteArray.toList_eq] at h
  have := congrArg List.length (eq_of_beq h)
  rwa [Array.length_toList, Array.length_toList] at this
theorem rdI_ok {s : ByteArray} (hs : s.size ≤ 100000) (h : canRd (bytesI s) = true) : ImOk (rdI (bytesI s)) := by
  have bl := bytesI_length s
  simp only [canRd, decide_eq_true_eq] at h
  have b4 := bAt_range s 4
  have b5 := bAt_range s 5
  have hp : nP (bytesI s) ≤ 255 := by unfold nP; omega
  refine ⟨⟨by show -9223372036854775808 ≤ bAt (bytesI s) 4; omega, by show bAt (bytesI s) 4 < 9223372036854775808; omega⟩, fun h hm => ?_, fun c hc => ?_, ?_, ?_⟩
  · obtain ⟨b, -, rfl⟩ := List.mem_map.1 hm
    have z : I64 0 := ⟨by decide, by decide⟩
    exact ⟨z, z⟩
  · obtain ⟨i, -, rfl⟩ := List.mem_map.1 hc
    exact next_value s _
  · show (rdP (bytesI s) (nP (bytesI s))).length ≤ 1000
    rw [rdP_length (by omega)]
    omega
  · show (rdC (bytesI s) (manyL (bytesI s))).length ≤ 100000
    rw [rdC_length]
    omega
theorem put_size {s : ByteArray} (h : canRd (bytesI s) = true) (he : ((strOf (putB (rdI (bytesI s)))).toList == s.toList) = true) : 11 + nP (bytesI s) + 4 * manyL (bytesI s) = s.size := by
  have h1 := eq_size he
  simp only [canRd, decide_eq_true_eq] at h
  rw [strOf_size, putB_length] at h1
  have e1 : (rdI (bytesI s)).params.length = nP (bytesI s) := rdP_length (by omega)
  have e2 : (rdI (bytesI s)).code.length = manyL (bytesI s) := rdC_length _ _
  omega
theorem getE_7 {s : ByteArray} (h : preOk s = true) (hc : canRd (bytesI s) = true) (ho : okG s = false) : getE s = 7 := by simp [getE, h, hc, ho]
set_option maxHeartbeats 6400000 in
theorem ref30_Get_ok {s : ByteArray} (hs : s.size ≤ 100000) (w : World) : Calls Try.prog ref30_Get.N #[.string s] w (GetR s w) := by
  refine ref30_Get.calls ?_
  unfold ref30_Get.vc
  intro w1 h1
  have L := (Trk.start w).alloc h1
  have hm : gomin (s.size : Int) 4 = if 4 < s.size then 4 else (s.size : Int) := by unfold gomin; split <;> split <;> omega
  refine ⟨⟨by rw [hm]; split <;> omega, by rw [hm]; split <;> omega⟩, ⟨by rw [hm]; split <;> omega, by rw [hm]; split <;> omega⟩, fun w2 g2 => ?_⟩
  have L := L.later g2
  refine cnd_of (fun h => zeroOut L (k := 0) rfl rfl fun w' hl => get_zero ?_ (by decide) hl) fun h => ?_
  · have : preOk s = false := by simpa [preOk, magicB] using h
    simp [getE, this]
  have hpre : preOk s = true := by simpa [preOk, magicB] using h
  refine (ref30_read_ok hs w2).mono fun e w3 ⟨g3, hr⟩ => ?_
  rcases hr.symm with ⟨hc, A1, c1, A2, c2, x, he⟩ | ⟨hc, A1, c1, A2, c2, he, o1, o2, n12⟩
  · refine ⟨_, _, _, _, _, _, _, _, _, _, _, he, fun w4 h4 => ?_⟩
    have L := (L.later g3).alloc h4
    refine L.setAll (l := imgC A1 c1 A2 c2 x) 1 rfl rfl (ones rfl) fun w5 L => cnd_true rfl ?_
    exact zeroOut L (k := 0) rfl rfl fun w' hl => get_zero (by simp [getE, hpre, hc]) (by decide) hl
  refine ⟨_, _, _, _, _, _, _, _, _, _, _, he, fun w4 h4 => ?_⟩
  have hx := rdI_ok hs hc
  have L := (L.later g3).alloc h4
  have s2 : w.heap.size < w2.heap.size := ((((Trk.start w).alloc h1).later g2).has 0 rfl).lt
  have sw : w.heap.size ≤ w2.heap.size := by omega
  refine L.setAllE (l := imgC A1 c1 A2 c2 (rdI (bytesI s))) 1 rfl rfl (ones rfl) fun w5 e5 L => cnd_false rfl ?_
  have b1 : ∀ k, rowB A1 = some k → w2.heap.size ≤ k ∧ k < w3.heap.size := fun k h => o1.lt h
  have b2 : ∀ k, rowB A2 = some k → w2.heap.size ≤ k ∧ k < w3.heap.size := fun k h => o2.lt h
  have ne1 : rowB A1 ≠ some w3.heap.size := fun h => by have := b1 _ h; omega
  have ne2 : rowB A2 ≠ some w3.heap.size := fun h => by have := b2 _ h; omega
  have y : Mk w w5 [(w.heap.size, [i64v 0, .slice none 0 0, .bool false, .bool false, .slice none 0 0]), (w3.heap.size, imgC A1 c1 A2 c2 (rdI (bytesI s)))] 1 w3.heap.size A1 c1 A2 c2 (rdI (bytesI s)) := by
    refine ⟨L, rfl, ?_, ?_, ?_, ?_, n12⟩
    · have := OwnS.sets_other ne1 (imgC A1 c1 A2 c2 (rdI (bytesI s))) 0 (h4 ▸ o1.alloc _)
      rw [e5]
      exact this.weak sw
    · have := OwnS.sets_other ne2 (imgC A1 c1 A2 c2 (rdI (bytesI s))) 0 (h4 ▸ o2.alloc _)
      rw [e5]
      exact this.weak sw
    · intro z hz
      simp only [List.mem_cons, List.not_mem_nil, or_false] at hz
      rcases hz with rfl | rfl
      · intro h; have := b1 _ h; simp only at this; omega
      · exact ne1
    · intro z hz
      simp only [List.mem_cons, List.not_mem_nil, or_false] at hz
      rcases hz with rfl | rfl
      · intro h; have := b2 _ h; simp only at this; omega
      · exact ne2
  refine cnd_of (fun h => zeroOut y.trk (k := 0) rfl rfl fun w' hl => get_zero (getE_7 hpre hc ?_) (by decide) hl) fun h => ?_
  · have hne : ¬ ((11 + nP (bytesI s) + 4 * manyL (bytesI s) : Nat) : Int) = (s.size : Int) := by simpa using h
    cases hq : ((strOf (putB (rdI (bytesI s)))).toList == s.toList) with
    | false => simp [okG, hq]
    | true => exact absurd (by exact_mod_cast put_size hc hq) hne
  refine ⟨_, _, _, _, _, _, _, _, _, ⟨y.trk.cell 1 y.at_ rfl, y.trk.cell 1 y.at_ rfl, y.trk.cell 1 y.at_ rfl, y.trk.cell 1 y.at_ rfl, y.trk.cell 1 y.at_ rfl, trivial⟩, ?_⟩
  refine (ref30_May_ok hx y.imAt).mono fun e w6 ⟨he, g6⟩ => ⟨_, he, ?_⟩
  have y := y.later g6
  refine cnd_of (fun h => zeroOut y.trk (k := 0) rfl rfl fun w' hl => get_zero (getE_7 hpre hc ?_) (by decide) hl) fun h => ?_
  · have hm : mayI (rdI (bytesI s)) = false := by simpa using h
    simp [okG, hm]
  have hm : mayI (rdI (bytesI s)) = true := by simpa using h
  refine ⟨_, _, _, _, _, _, _, _, _, ⟨y.trk.cell 1 y.at_ rfl, y.trk.cell 1 y.at_ rfl, y.trk.cell 1 y.at_ rfl, y.trk.cell 1 y.at_ rfl, y.trk.cell 1 y.at_ rfl, trivial⟩, ?_⟩
  refine (ref30_Put_ok hx y.imAt).mono fun e w7 ⟨he, g7⟩ => ⟨_, he, ?_⟩
  have y := y.later g7
  refine cnd_of (fun h => zeroOut y.trk (k := 0) rfl rfl fun w' hl => get_zero (getE_7 hpre hc ?_) (by decide) hl) fun h => ?_
  · have hq : ((strOf (putB (rdI (bytesI s)))).toList == s.toList) = false := by simpa using h
    simp [okG, hq]
  have hq : ((strOf (putB (rdI (bytesI s)))).toList == s.toList) = true := by simpa using h
  have hE : getE s = 0 := by simp [getE, hpre, hc, okG, hm, hq]
  refine y.out (k := 0) rfl rfl fun w' hl hi _ _ => ⟨hl, A1, c1, A2, c2, ?_, ?_⟩
  · rw [getX, hE, if_pos rfl]
  · rw [getX, hE, if_pos rfl]
    exact hi
end Go.Proofs.Ytjoikaklincfoaa
