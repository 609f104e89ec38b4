/-
Texts of this claim, merged: Ref03D, VcGrow, VcRows, ImgA, ImgB, ImgC, VcEq, ImgD, ImgE, ImgF, ImgG, ImgH, ImgI, ImgJ, ImgK, Law30, Law30T, ImgP.
Conditions: each theorem's own.
-/
import Derived.Test.YtjoikaklincfoaaPkImageBackD
import Derived.Laws.CopyRow
import Derived.Laws.CopyOwn
import Derived.Deep.Upon
import Derived.Lib.SlBytesConst
import Derived.Laws.StructEq
import Derived.Lib.ConvBytes
import Derived.Laws.Strings

/-
The contracts of package sacristyref03 as far as its Decode: it answers as disas does.
Conditions: the word is one of 32 bits.
-/
namespace Go.Proofs.Ytjoikaklincfoaa
open Go Go.Vc Go.RowKit
set_option linter.unusedVariables false
set_option linter.unusedSimpArgs false
set_option linter.unnecessarySimpa false
set_option maxRecDepth 100000

theorem ref03_field_ok {w : Int} (hw : W32 w) (at_ n : Nat) (ha : at_ ≤ 32) (hn : n ≤ 31) (w0 : World) : Calls Try.prog ref03_field.N #[u32v w, i64v at_, i64v n] w0 (Gives (u32v (fldI w at_ n)) w0) := by
  refine ref03_field.calls ?_
  unfold ref03_field.vc
  obtain ⟨p0, p1⟩ := pow_le31 n hn
  have e1 : IntKind.u64.wrap ((at_ : Nat) : Int) = at_ := by rw [u64_in (by omega) (by omega)]
  have e2 : IntKind.u64.wrap ((n : Nat) : Int) = n := by rw [u64_in (by omega) (by omega)]
  rw [e1, e2]
  have e3 : min ((at_ : Nat) : Int).toNat 32 = at_ := by omega
  have e4 : min ((n : Nat) : Int).toNat 32 = n := by omega
  have e5 : ((2 : Int) ^ n) = ((2 ^ n : Nat) : Int) := by simp
  rw [e3, e4, Int.one_mul, e5, u32_in (x := ((2 ^ n : Nat) : Int)) (by omega) (by omega), ← e5]
  have hp := two_pow_pos n
  refine cnd_false (by simp) (cnd_false (by simp) (cnd_false (by simp; omega) ⟨?_, Later.refl _⟩))
  rw [fdiv_nn _ (Int.le_of_lt (two_pow_pos _)), tmod_nn _ (Int.ediv_nonneg hw.1 (Int.le_of_lt (two_pow_pos _)))]
  rfl
theorem ref03_signed_ok {v : Int} (hv : W32 v) (n : Int) (hn : 0 ≤ n ∧ n ≤ 64) (w0 : World) : Calls Try.prog ref03_signed.N #[u32v v, i64v n] w0 (Gives (i64v (sgn v n)) w0) := by
  refine ref03_signed.calls ?_
  unfold ref03_signed.vc
  rw [wrap_u64, Int.emod_eq_of_lt hv.1 (Int.lt_trans hv.2 (by decide))]
  exact (ref01_Sign_ok v n hv.1 (by omega) (by omega) w0).mono fun e w1 ⟨he, l1⟩ => ⟨_, _, he, rfl, l1⟩

/-! ### guess: by its form -/
def numK (k : Nat) (w : Int) : Int :=
  if k = 1 then sgn (fldI w 20 12) 12
  else if k = 2 then fldI w 20 6
  else if k = 3 then sgn (fldI w 12 20 * 4096) 32
  else if k = 4 then sgn (fldI w 25 7 * 32 + fldI w 7 5) 12
  else if k = 5 then sgn (fldI w 8 4 * 2 + fldI w 25 6 * 32 + fldI w 7 1 * 2048 + fldI w 31 1 * 4096) 13
  else if k = 6 then sgn (fldI w 21 10 * 2 + fldI w 20 1 * 2048 + fldI w 12 8 * 4096 + fldI w 31 1 * 1048576) 21
  else 0
def numC (o : Int) : Nat := if (15 ≤ o ∧ o ≤ 19) ∨ o = 24 ∨ o = 25 ∨ o = 33 then 1 else if 20 ≤ o ∧ o ≤ 22 then 2 else if o = 23 then 3 else if o = 26 ∨ o = 27 then 4 else if 28 ≤ o ∧ o ≤ 31 then 5 else if o = 32 then 6 else 0
theorem numS_K (o w : Int) : numS o w = numK (numC o) w := by
  unfold numS numC
  repeat' split
  all_goals rfl
def fK (m : Int) : Nat := (m - 1).toNat
def fRd (m w : Int) : Int := if m = 1 ∨ m = 2 ∨ m = 3 ∨ m = 4 ∨ m = 7 then fldI w 7 5 else 0
def fR1 (m w : Int) : Int := if m = 1 ∨ m = 2 ∨ m = 3 ∨ m = 5 ∨ m = 6 then fldI w 15 5 else 0
def fR2 (m w : Int) : Int := if m = 1 ∨ m = 5 ∨ m = 6 then fldI w 20 5 else 0
def fNum (m w : Int) : Int := if m = 8 then 0 else numK (fK m) w
def fCells (o m w : Int) : List Value := [u8v o, u8v (fRd m w), u8v (fR1 m w), u8v (fR2 m w), i64v (fNum m w)]
theorem forms_all : ∀ k : Fin 34, ∃ x, tabR[k.1]? = some x ∧ (1 ≤ x.2.2.2 ∧ x.2.2.2 ≤ 8) ∧ hasRdS ((k.1 : Int) + 1) = decide (x.2.2.2 = 1 ∨ x.2.2.2 = 2 ∨ x.2.2.2 = 3 ∨ x.2.2.2 = 4 ∨ x.2.2.2 = 7) ∧
    hasRs1S ((k.1 : Int) + 1) = decide (x.2.2.2 = 1 ∨ x.2.2.2 = 2 ∨ x.2.2.2 = 3 ∨ x.2.2.2 = 5 ∨ x.2.2.2 = 6) ∧ hasRs2S ((k.1 : Int) + 1) = decide (x.2.2.2 = 1 ∨ x.2.2.2 = 5 ∨ x.2.2.2 = 6) ∧ numC ((k.1 : Int) + 1) = (if x.2.2.2 = 8 then 0 else fK x.2.2.2) := by
  have h : ∀ k : Fin 34, (match tabR[k.1]? with | some x => decide ((1 ≤ x.2.2.2 ∧ x.2.2.2 ≤ 8) ∧ hasRdS ((k.1 : Int) + 1) = decide (x.2.2.2 = 1 ∨ x.2.2.2 = 2 ∨ x.2.2.2 = 3 ∨ x.2.2.2 = 4 ∨ x.2.2.2 = 7) ∧
    hasRs1S ((k.1 : Int) + 1) = decide (x.2.2.2 = 1 ∨ x.2.2.2 = 2 ∨ x.2.2.2 = 3 ∨ x.2.2.2 = 5 ∨ x.2.2.2 = 6) ∧ hasRs2S ((k.1 : Int) + 1) = decide (x.2.2.2 = 1 ∨ x.2.2.2 = 5 ∨ x.2.2.2 = 6) ∧ numC ((k.1 : Int) + 1) = (if x.2.2.2 = 8 then 0 else fK x.2.2.2)) | none => false) = true := by decide
  intro k
  have := h k
  split at this
  · rename_i x hx
    exact ⟨x, hx, by simpa using this⟩
  · cases this
theorem forms_gs {k : Fin 34} {x : Int × Int × Int × Int} (hx : tabR[k.1]? = some x) (w : Int) : (1 ≤ x.2.2.2 ∧ x.2.2.2 ≤ 8) ∧ fCells ((k.1 : Int) + 1) x.2.2.2 w = gsCells ((k.1 : Int) + 1) w := by
  obtain ⟨y, hy, h0, h1, h2, h3, h4⟩ := forms_all k
  rw [hx] at hy
  obtain rfl := Option.some.inj hy
  refine ⟨h0, ?_⟩
  unfold fCells gsCells gRd gR1 gR2 fRd fR1 fR2 fNum
  rw [h1, h2, h3, numS_K, h4]
  simp only [decide_eq_true_eq]
  by_cases h8 : x.2.2.2 = 8
  · rw [if_pos h8, if_pos h8]
    rfl
  · rw [if_neg h8, if_neg h8]
theorem ret5 {w0 w : World} {L : List Blk} (h : Trk w0 w L) (j k : Nat) {b c : Nat} {cs : List Value} {o d x y v : Int} (hj : L[j]? = some (c, [u8v o, u8v d, u8v x, u8v y, i64v v])) (hk : L[k]? = some (b, cs)) (hc : cs.length = 5) {R : Int → Int → Int → Int → Int → World → Prop} (hR : ∀ w', Trk w0 w' (L.set k (b, [u8v o, u8v d, u8v x, u8v y, i64v v])) → R o d x y v w') :
    ∃ m m1 m2 m3 m4, (w.cell? ⟨c, 0, none⟩ = some (u8v m) ∧ w.cell? ⟨c, 1, none⟩ = some (u8v m1) ∧ w.cell? ⟨c, 2, none⟩ = some (u8v m2) ∧ w.cell? ⟨c, 3, none⟩ = some (u8v m3) ∧ w.cell? ⟨c, 4, none⟩ = some (i64v m4) ∧ True) ∧
    SetsAt w ⟨b, 0, none⟩ 0 [u8v m, u8v m1, u8v m2, u8v m3, i64v m4] ∧ ∀ w', w' = setCellsAt w ⟨b, 0, none⟩ 0 [u8v m, u8v m1, u8v m2, u8v m3, i64v m4] →
      ∃ n n1 n2 n3 n4, (w'.cell? ⟨b, 0, none⟩ = some (u8v n) ∧ w'.cell? ⟨b, 1, none⟩ = some (u8v n1) ∧ w'.cell? ⟨b, 2, none⟩ = some (u8v n2) ∧ w'.cell? ⟨b, 3, none⟩ = some (u8v n3) ∧ w'.cell? ⟨b, 4, none⟩ = some (i64v n4) ∧ True) ∧ R n n1 n2 n3 n4 w' := by
  have hkl : k < L.length := (List.getElem?_eq_some_iff.1 hk).1
  refine ⟨o, d, x, y, v, ⟨h.cell j hj rfl, h.cell j hj rfl, h.cell j hj rfl, h.cell j hj rfl, h.cell j hj rfl, trivial⟩, ?_⟩
  refine h.setAll k hk (by simp [hc]) (ones rfl) fun w' h' => ?_
  have hk' : (L.set k (b, [u8v o, u8v d, u8v x, u8v y, i64v v]))[k]? = some (b, [u8v o, u8v d, u8v x, u8v y, i64v v]) := by rw [List.getElem?_set]; simp [hkl]
  exact ⟨o, d, x, y, v, ⟨h'.cell k hk' rfl, h'.cell k hk' rfl, h'.cell k hk' rfl, h'.cell k hk' rfl, h'.cell k hk' rfl, trivial⟩, hR w' h'⟩
set_option maxHeartbeats 6400000 in
theorem ref03_guess_ok (o m : Int) (hm : 1 ≤ m ∧ m ≤ 8) {w : Int} (hw : W32 w) (w0 : World) : Calls Try.prog ref03_guess.N #[u8v o, i64v m, u32v w] w0 (Gives (.agg (fCells o m w).toArray) w0) := by
  have f (at_ n : Nat) (ha : at_ ≤ 32) (hn : n ≤ 31) := fun w1 => ref03_field_ok hw at_ n ha hn w1
  refine ref03_guess.calls ?_
  unfold ref03_guess.vc
  intro w1 h1 w2 h2
  have L := ((Trk.start w0).alloc h1).alloc h2
  refine L.setAll (l := [u8v o, u8v 0, u8v 0, u8v 0, i64v 0]) 1 rfl rfl (ones rfl) fun w3 L => ?_
  refine (f 7 5 (by omega) (by omega) w3).mono fun e w4 ⟨he, g4⟩ => ⟨_, he, (f 15 5 (by omega) (by omega) w4).mono fun e w5 ⟨he, g5⟩ => ⟨_, he, (f 20 5 (by omega) (by omega) w5).mono fun e w6 ⟨he, g6⟩ => ⟨_, he, ?_⟩⟩⟩
  have L := ((L.later g4).later g5).later g6
  rw [u8_fld, u8_fld, u8_fld]
  have r0 := fldI_range w 20 12
  simp only [show (2 : Int) ^ 12 = 4096 from rfl] at r0
  have : m = 1 ∨ m = 2 ∨ m = 3 ∨ m = 4 ∨ m = 5 ∨ m = 6 ∨ m = 7 ∨ m = 8 := by omega
  rcases this with rfl | rfl | rfl | rfl | rfl | rfl | rfl | rfl
  · refine cnd_true rfl (L.set1 1 rfl (by simp) fun w7 L => L.set1 1 rfl (by simp) fun w8 L => L.set1 1 rfl (by simp) fun w9 L => ret5 L 1 0 rfl rfl rfl fun w' h' => ⟨rfl, h'.to⟩)
  · refine cnd_false rfl (cnd_true rfl ((f 20 12 (by omega) (by omega) w6).mono fun e w7 ⟨he, g7⟩ => ⟨_, he, (ref03_signed_ok ⟨r0.1, by omega⟩ 12 (by omega) w7).mono fun e w8 ⟨he, g8⟩ => ⟨_, he, ?_⟩⟩))
    exact ((L.later g7).later g8).set1 1 rfl (by simp) fun w7 L => L.set1 1 rfl (by simp) fun w8 L => L.set1 1 rfl (by simp) fun w9 L => ret5 L 1 0 rfl rfl rfl fun w' h' => ⟨rfl, h'.to⟩
  · refine cnd_false rfl (cnd_false rfl (cnd_true rfl ((f 20 6 (by omega) (by omega) w6).mono fun e w7 ⟨he, g7⟩ => ⟨_, he, ?_⟩)))
    have r := fldI_range w 20 6
    simp only [show (2 : Int) ^ 6 = 64 from rfl] at r
    rw [i64_in (by omega) (by omega)]
    exact (L.later g7).set1 1 rfl (by simp) fun w7 L => L.set1 1 rfl (by simp) fun w8 L => L.set1 1 rfl (by simp) fun w9 L => ret5 L 1 0 rfl rfl rfl fun w' h' => ⟨rfl, h'.to⟩
  · refine cnd_false rfl (cnd_false rfl (cnd_false rfl (cnd_true rfl ((f 12 20 (by omega) (by omega) w6).mono fun e w7 ⟨he, g7⟩ => ⟨_, he, ?_⟩))))
    have r := fldI_range w 12 20
    simp only [show (2 : Int) ^ 20 = 1048576 from rfl] at r
    rw [u32_in (by omega) (by omega)]
    refine (ref03_signed_ok ⟨by omega, by omega⟩ 32 (by omega) w7).mono fun e w8 ⟨he, g8⟩ => ⟨_, he, ?_⟩
    exact ((L.later g7).later g8).set1 1 rfl (by simp) fun w7 L => L.set1 1 rfl (by simp) fun w8 L => ret5 L 1 0 rfl rfl rfl fun w' h' => ⟨rfl, h'.to⟩
  · refine cnd_false rfl (cnd_false rfl (cnd_false rfl (cnd_false rfl (cnd_true rfl ((f 7 5 (by omega) (by omega) w6).mono fun e w7 ⟨he, g7⟩ => ⟨_, he, (f 25 7 (by omega) (by omega) w7).mono fun e w8 ⟨he, g8⟩ => ⟨_, he, ?_⟩⟩)))))
    have a := fldI_range w 7 5
    have b := fldI_range w 25 7
    simp only [show (2 : Int) ^ 5 = 32 from rfl, show (2 : Int) ^ 7 = 128 from rfl] at a b
    rw [u32_in (x := fldI w 25 7 * 32) (by omega) (by omega), u32_in (by omega) (by omega), Int.add_comm]
    refine (ref03_signed_ok ⟨by omega, by omega⟩ 12 (by omega) w8).mono fun e w9 ⟨he, g9⟩ => ⟨_, he, ?_⟩
    exact (((L.later g7).later g8).later g9).set1 1 rfl (by simp) fun w7 L => L.set1 1 rfl (by simp) fun w8 L => L.set1 1 rfl (by simp) fun w9 L => ret5 L 1 0 rfl rfl rfl fun w' h' => ⟨rfl, h'.to⟩
  · refine cnd_false rfl (cnd_false rfl (cnd_false rfl (cnd_false rfl (cnd_false rfl (cnd_true rfl ((f 8 4 (by omega) (by omega) w6).mono fun e w7 ⟨he, g7⟩ => ⟨_, he, (f 25 6 (by omega) (by omega) w7).mono fun e w8 ⟨he, g8⟩ => ⟨_, he, (f 7 1 (by omega) (by omega) w8).mono fun e w9 ⟨he, g9⟩ => ⟨_, he, (f 31 1 (by omega) (by omega) w9).mono fun e w10 ⟨he, g10⟩ => ⟨_, he, ?_⟩⟩⟩⟩))))))
    have a := fldI_range w 8 4
    have b := fldI_range w 25 6
    have c := fldI_range w 7 1
    have d := fldI_range w 31 1
    simp only [show (2 : Int) ^ 4 = 16 from rfl, show (2 : Int) ^ 6 = 64 from rfl, show (2 : Int) ^ 1 = 2 from rfl] at a b c d
    rw [u32_in (x := fldI w 8 4 * 2) (by omega) (by omega), u32_in (x := fldI w 25 6 * 32) (by omega) (by omega), u32_in (x := fldI w 7 1 * 2048) (by omega) (by omega), u32_in (x := fldI w 31 1 * 4096) (by omega) (by omega),
      u32_in (x := fldI w 8 4 * 2 + fldI w 25 6 * 32) (by omega) (by omega), u32_in (x := fldI w 8 4 * 2 + fldI w 25 6 * 32 + fldI w 7 1 * 2048) (by omega) (by omega), u32_in (by omega) (by omega)]
    refine (ref03_signed_ok ⟨by omega, by omega⟩ 13 (by omega) w10).mono fun e w11 ⟨he, g11⟩ => ⟨_, he, ?_⟩
    exact (((((L.later g7).later g8).later g9).later g10).later g11).set1 1 rfl (by simp) fun w7 L => L.set1 1 rfl (by simp) fun w8 L => L.set1 1 rfl (by simp) fun w9 L => ret5 L 1 0 rfl rfl rfl fun w' h' => ⟨rfl, h'.to⟩
  · refine cnd_false rfl (cnd_false rfl (cnd_false rfl (cnd_false rfl (cnd_false rfl (cnd_false rfl (cnd_true rfl ((f 21 10 (by omega) (by omega) w6).mono fun e w7 ⟨he, g7⟩ => ⟨_, he, (f 20 1 (by omega) (by omega) w7).mono fun e w8 ⟨he, g8⟩ => ⟨_, he, (f 12 8 (by omega) (by omega) w8).mono fun e w9 ⟨he, g9⟩ => ⟨_, he, (f 31 1 (by omega) (by omega) w9).mono fun e w10 ⟨he, g10⟩ => ⟨_, he, ?_⟩⟩⟩⟩)))))))
    have a := fldI_range w 21 10
    have b := fldI_range w 20 1
    have c := fldI_range w 12 8
    have d := fldI_range w 31 1
    simp only [show (2 : Int) ^ 10 = 1024 from rfl, show (2 : Int) ^ 8 = 256 from rfl, show (2 : Int) ^ 1 = 2 from rfl] at a b c d
    rw [u32_in (x := fldI w 21 10 * 2) (by omega) (by omega), u32_in (x := fldI w 20 1 * 2048) (by omega) (by omega), u32_in (x := fldI w 12 8 * 4096) (by omega) (by omega), u32_in (x := fldI w 31 1 * 1048576) (by omega) (by omega),
      u32_in (x := fldI w 21 10 * 2 + fldI w 20 1 * 2048) (by omega) (by omega), u32_in (x := fldI w 21 10 * 2 + fldI w 20 1 * 2048 + fldI w 12 8 * 4096) (by omega) (by omega), u32_in (by omega) (by omega)]
    refine (ref03_signed_ok ⟨by omega, by omega⟩ 21 (by omega) w10).mono fun e w11 ⟨he, g11⟩ => ⟨_, he, ?_⟩
    exact (((((L.later g7).later g8).later g9).later g10).later g11).set1 1 rfl (by simp) fun w7 L => L.set1 1 rfl (by simp) fun w8 L => ret5 L 1 0 rfl rfl rfl fun w' h' => ⟨rfl, h'.to⟩
  · exact cnd_false rfl (cnd_false rfl (cnd_false rfl (cnd_false rfl (cnd_false rfl (cnd_false rfl (cnd_false rfl (ret5 L 1 0 rfl rfl rfl fun w' h' => ⟨rfl, h'.to⟩)))))))

/-! ### Decode -/
theorem decK_at {w : Int} {k : Fin 34} (h : ∀ y : Fin 34, y.1 < k.1 → fitG w y = false) (hk : fitG w k = true) : decK w = some k := by
  have hp : (List.finRange 34).take k.1 ++ [k] <+: List.finRange 34 := by
    have : (List.finRange 34).take k.1 ++ [k] = (List.finRange 34).take (k.1 + 1) := by
      rw [List.take_add_one, List.getElem?_eq_getElem (by rw [List.length_finRange]; exact k.2)]
      simp
    rw [this]
    exact List.take_prefix _ _
  refine decK_some hp (fun y hy => h y ?_) hk
  obtain ⟨i, hi, e⟩ := List.getElem_of_mem hy
  rw [List.getElem_take, List.getElem_finRange] at e
  simp at hi
  rw [← e]
  simp
  omega
set_option maxHeartbeats 3200000 in
theorem ref03_Decode_ok {wv : Int} (hw : W32 wv) (w0 : World) : Calls Try.prog ref03_Decode.N #[u32v wv] w0 (Gives (.tuple #[.agg (decI wv).toArray, i64v (decE wv)]) w0) := by
  refine ref03_Decode.calls ?_
  unfold ref03_Decode.vc
  intro w1 h1
  have L := (Trk.start w0).alloc h1
  refine ⟨fun vs w' => ∃ k : Nat, k ≤ 34 ∧ vs = [.int .u8 ((k : Int) + 1)] ∧ (∀ y : Fin 34, y.1 < k → fitG wv y = false) ∧ Later w1 w', fun vs _ => match vs with | [.int _ n] => (40 - n).toNat | _ => 0, ⟨0, by omega, rfl, fun y hy => by omega, Later.refl _⟩, ?_⟩
  rintro g op w2 ⟨k, hk, hs, hj, hl⟩
  simp only [List.cons.injEq, Value.int.injEq, true_and, and_true] at hs
  subst hs
  have L2 := L.later hl
  refine cnd_of (fun h => ?_) fun h => ?_
  · have h34 : k < 34 := by simp only [decide_eq_true_eq] at h; omega
    obtain ⟨x, hx, -⟩ := forms_all ⟨k, h34⟩
    obtain ⟨hm, hgs⟩ := forms_gs hx wv
    have hx' : tabR[(((k : Int) + 1) - 1).toNat]? = some x := by rw [show (((k : Int) + 1) - 1).toNat = k by omega]; exact hx
    refine (ref02_Of_yes ((k : Int) + 1) (by omega) (by omega) x hx' w2).mono fun e w3 ⟨he, g3⟩ => ⟨_, _, _, _, _, he, fun w4 h4 => ?_⟩
    have M := (Trk.here g3).alloc h4
    refine M.setAll (l := [u32v x.1, u32v x.2.1, u32v x.2.2.1, i64v x.2.2.2]) 0 rfl rfl (ones rfl) fun w5 M => ?_
    refine ⟨_, M.cell 0 rfl rfl, (ref03_guess_ok ((k : Int) + 1) x.2.2.2 hm hw w5).mono fun e w6 ⟨he, g6⟩ => ⟨_, _, _, _, _, he, fun w7 h7 => ?_⟩⟩
    have hc : fCells ((k : Int) + 1) x.2.2.2 wv = gsCells ((k : Int) + 1) wv := hgs
    simp only [fCells, gsCells, List.cons.injEq, Value.int.injEq, true_and, and_true] at hc
    obtain ⟨c1, c2, c3, c4⟩ := hc
    rw [c1, c2, c3, c4]
    have M := (M.later g6).alloc h7
    refine M.setAll (l := gsCells ((k : Int) + 1) wv) 1 rfl rfl (ones rfl) fun w8 M => ?_
    refine ⟨_, _, _, _, _, ⟨M.cell 1 rfl rfl, M.cell 1 rfl rfl, M.cell 1 rfl rfl, M.cell 1 rfl rfl, M.cell 1 rfl rfl, trivial⟩, ?_⟩
    have r1 : U8 (gRd ((k : Int) + 1) wv) := by unfold gRd U8; have := fld5 wv 7; split <;> omega
    have r2 : U8 (gR1 ((k : Int) + 1) wv) := by unfold gR1 U8; have := fld5 wv 15; split <;> omega
    have r3 : U8 (gR2 ((k : Int) + 1) wv) := by unfold gR2 U8; have := fld5 wv 20; split <;> omega
    refine (ref02_Encode_ok _ _ _ _ _ ⟨by omega, by omega⟩ r1 r2 r3 (numS_range _ _) w8).mono fun e w9 ⟨he, g9⟩ => ?_
    have M := M.later g9
    have hfit : fitG wv ⟨k, h34⟩ = decide (encG ((k : Int) + 1) wv = some wv) := rfl
    change e = .returned (encR (encG ((k : Int) + 1) wv)) at he
    have out : fitG wv ⟨k, h34⟩ = false → Goes (fun vs w' => ∃ k : Nat, k ≤ 34 ∧ vs = [.int .u8 ((k : Int) + 1)] ∧ (∀ y : Fin 34, y.1 < k → fitG wv y = false) ∧ Later w1 w') (fun vs _ => match vs with | [.int _ n] => (40 - n).toNat | _ => 0) [.int .u8 ((k : Int) + 1)] w2 [.int .u8 (IntKind.u8.wrap ((k : Int) + 1 + 1))] w9 := by
      intro hf
      rw [u8_in (x := (k : Int) + 1 + 1) (by omega) (by omega)]
      refine ⟨⟨k + 1, by omega, by simp, fun y hy => ?_, hl.trans M.to⟩, ?_⟩
      · by_cases h : y.1 = k
        · obtain rfl : y = ⟨k, h34⟩ := Fin.ext h
          exact hf
        · exact hj y (by omega)
      · show (40 - ((k : Int) + 1 + 1)).toNat < (40 - ((k : Int) + 1)).toNat
        omega
    cases hG : encG ((k : Int) + 1) wv with
    | none =>
      rw [hG] at he
      exact ⟨_, _, he, cnd_false rfl (out (by rw [hfit, hG]; simp))⟩
    | some v =>
      rw [hG] at he
      refine ⟨_, _, he, cnd_true rfl (cnd_of (fun hv => ?_) fun hv => out (by rw [hfit, hG]; simpa using hv))⟩
      have hv : v = wv := by simpa using hv
      have hf : fitG wv ⟨k, h34⟩ = true := by rw [hfit, hG, hv]; simp
      have hK := decK_at hj hf
      refine ⟨_, _, _, _, _, ⟨M.cell 1 rfl rfl, M.cell 1 rfl rfl, M.cell 1 rfl rfl, M.cell 1 rfl rfl, M.cell 1 rfl rfl, trivial⟩, ?_⟩
      refine (L2.later M.to).setAll (l := gsCells ((k : Int) + 1) wv) 0 rfl rfl (ones rfl) fun w10 L => ?_
      refine ⟨_, _, _, _, _, ⟨L.cell 0 rfl rfl, L.cell 0 rfl rfl, L.cell 0 rfl rfl, L.cell 0 rfl rfl, L.cell 0 rfl rfl, trivial⟩, ?_, L.to⟩
      rw [decI, decE, hK]
      rfl
  · have : k = 34 := by simp only [decide_eq_false_iff_not] at h; omega
    subst this
    have hK := decK_none (w := wv) fun y _ => hj y y.2
    refine L2.setAll (l := [u8v 0, u8v 0, u8v 0, u8v 0, i64v 0]) 0 rfl rfl (ones rfl) fun w10 L => ?_
    refine ⟨_, _, _, _, _, ⟨L.cell 0 rfl rfl, L.cell 0 rfl rfl, L.cell 0 rfl rfl, L.cell 0 rfl rfl, L.cell 0 rfl rfl, trivial⟩, ?_, L.to⟩
    rw [decI, decE, hK]
end Go.Proofs.Ytjoikaklincfoaa

/-
Own rows beside other blocks: a row is grown, a cell of it is written, elements are taken out; each other block stays and stays another one.
Conditions: each theorem's hypotheses; nothing is asked of a program but closed facts of its types.
-/
namespace Go.Vc
open Go.RowKit
set_option linter.unusedVariables false
set_option linter.unusedSimpArgs false
set_option linter.unnecessarySimpa false

/-- The block of a row. -/
abbrev rowB (b : Option Addr) : Option Nat := b.map (·.block)
theorem ownBlock_rowB (b : Option Addr) (n c : Nat) : (Value.slice b n c).ownBlock = rowB b := by cases b <;> rfl
theorem OwnS.kept {w0 w w' : World} {e : TypeId} {size : Nat} {b : Option Addr} {bn bc n : Nat} {xs : List Value} (h : OwnS w0 w e size (.slice b bn bc) n xs) (hk : ∀ k, rowB b = some k → w'.heap[k]? = w.heap[k]?) : OwnS w0 w' e size (.slice b bn bc) n xs := by
  obtain ⟨h1, h | ⟨g, cap, cur, h2, h3, h4, h5⟩⟩ := h
  · exact ⟨h1, .inl h⟩
  · refine ⟨h1, .inr ⟨g, cap, cur, h2, h3, ?_, h5⟩⟩
    cases h2
    rw [hk g rfl]; exact h4
theorem OwnS.lt {w0 w : World} {e : TypeId} {size : Nat} {b : Option Addr} {bn bc n : Nat} {xs : List Value} (h : OwnS w0 w e size (.slice b bn bc) n xs) {k : Nat} (hk : rowB b = some k) : w0.heap.size ≤ k ∧ k < w.heap.size :=
  World.ownsRow.lt h k (by rw [ownBlock_rowB]; exact hk)
/-- A row is grown: each block that was there and is not the row's stays and is not the new row's. -/
theorem RunsV_append_apart {P : Program} {w0 w : World} {t e : TypeId} {size bytes : Nat} (ty : TypeId) (hT : RowTy P t e size bytes) {b : Option Addr} {bn bc n : Nat} {xs : List Value} (hown : OwnS w0 w e size (.slice b bn bc) n xs) (hl : Later w0 w)
    {a : Addr} {m c : Nat} {news : List Value} (hlen : news.length = m * size) (hnews : CellsAt w a 0 news) (h1 : ∀ u ∈ news, u.oneCell' = true) (h63 : n + m ≤ maxLen) (hbytes : (n + m) * bytes ≤ 140737488355328)
    {K : Value → World → Prop}
    (hK : ∀ b' bn' bc' w', OwnS w0 w' e size (.slice b' bn' bc') (n + m) (xs ++ news) → Later w0 w' → (∀ k, k < w.heap.size → rowB b ≠ some k → w'.heap[k]? = w.heap[k]? ∧ rowB b' ≠ some k) → K (.slice b' bn' bc') w') :
    RunsV P (Builtin.append_ #[t, t] ty #[.slice b bn bc, .slice (some a) m c]) w K := by
  obtain ⟨i, z, hi, hz, hs, hby, hzs⟩ := hT.info
  have hnews' : ∀ j u, news[j]? = some u → w.cell? (a.add j) = some u := fun j u hj => by have := CellsAt_get hnews j u hj; rwa [Nat.zero_add] at this
  obtain ⟨v', w', hr, ho, hg, _⟩ := run_append_own (P := P) w w0.heap.size t ty e i z size bytes hT.under hi hz hs hby hzs hT.pos _ n xs hown a m c news hlen hnews' h1 h63 hbytes hl.size
  rw [ownBlock_rowB] at hg
  have hlt := World.ownsRow.lt hown
  have hb : Later w0 w' := Below.grown hl hg hl.size (fun k hk => (hlt k (by rw [ownBlock_rowB]; exact hk)).1)
  -- where the new row is
  have hap : ∀ k, k < w.heap.size → rowB b ≠ some k → v'.ownBlock ≠ some k := by
    intro k hk hbk hv
    have hsm : n + m ≤ 9223372036854775807 := by simp only [maxLen] at h63; omega
    have hw := hown
    obtain ⟨hx0, h | ⟨g, cap, cur, h, hbg, hgb, hnc, hcm, hcs, htk⟩⟩ := hw
    · obtain ⟨hbb, rfl⟩ := h
      have hnil : w.ownsRow w.heap.size e size (.slice b bn bc) 0 xs := ⟨hx0, .inl ⟨hbb, rfl⟩⟩
      obtain ⟨v2, w2, hr2, ho2, _, _⟩ := run_append_own (P := P) w w.heap.size t ty e i z size bytes hT.under hi hz hs hby hzs hT.pos _ 0 xs hnil a m c news hlen hnews' h1 h63 hbytes (Nat.le_refl _)
      rw [hr] at hr2
      cases hr2
      have := (World.ownsRow.lt ho2 k hv).1
      omega
    · cases h
      by_cases hroom : bn + m ≤ bc
      · obtain ⟨w2, hr2, _, _⟩ := run_append_fits (P := P) w w0.heap.size t ty e i size hT.under hi hs g bn bc xs hown a m c news hlen hnews' h1 hroom
        rw [hr] at hr2
        cases hr2
        exact hbk hv
      · have hr2 := run_append_grow (P := P) w t ty e i z hT.under hi hz ⟨g, 0, none⟩ bn bc xs (by rw [hs]; exact hx0) (fun j u hj => World.ownsRow.cells hown (g := g) rfl j u hj) a m c news (by rw [hs]; exact hlen) hnews' (by omega) (by omega) (growslice_fits (by omega) (by rw [hby]; exact hbytes))
        rw [hr] at hr2
        cases hr2
        simp only [Value.ownBlock, Option.some.injEq] at hv
        omega
  refine RunsV_of hr ?_
  obtain ⟨hxs, h | ⟨g, cap, cur, h2, h3⟩⟩ := ho
  · obtain ⟨rfl, hn⟩ := h
    exact hK _ _ _ _ ⟨hxs, .inl ⟨rfl, hn⟩⟩ hb fun k hk hne => ⟨hg.block k hk (fun h => hne h.symm), by simp⟩
  · subst h2
    exact hK _ _ _ _ ⟨hxs, .inr ⟨g, cap, cur, rfl, h3⟩⟩ hb fun k hk hne => ⟨hg.block k hk (fun h => hne h.symm), hap k hk hne⟩
/-- A cell of an own row is written. -/
theorem OwnS.store {w0 w : World} {e : TypeId} {size g n cap : Nat} {xs : List Value} (h : OwnS w0 w e size (.slice (some ⟨g, 0, none⟩) n cap) n xs) (j : Nat) (u : Value) :
    OwnS w0 (w.setCell ⟨g, j, none⟩ u) e size (.slice (some ⟨g, 0, none⟩) n cap) n (xs.set j u) ∧ (∀ k, k ≠ g → (w.setCell ⟨g, j, none⟩ u).heap[k]? = w.heap[k]?) := by
  have h2 := World.ownsRow.stored (h := h) j u
  refine ⟨h2.1, fun k hk => ?_⟩
  simp only [World.setCell, Array.getElem?_modify]
  rw [if_neg (fun e => hk e.symm)]
theorem OwnS.split {w0 w : World} {e : TypeId} {size : Nat} {b : Option Addr} {bn bc n : Nat} {xs : List Value} (h : OwnS w0 w e size (.slice b bn bc) n xs) (hn : 0 < n) : ∃ g, b = some ⟨g, 0, none⟩ ∧ bn = n ∧ n ≤ bc ∧ bc ≤ maxLen ∧ ∃ cur, w.heap[g]? = some (.cells cur e (0, 0)) ∧ cur.size = bc * size ∧ cur.toList.take (n * size) = xs := by
  obtain ⟨h1, h | ⟨g, cap, cur, h2, h3, h4, h5, h6, h7, h8⟩⟩ := h
  · omega
  · cases h2
    exact ⟨g, rfl, rfl, h5, h6, cur, h4, h7, h8⟩
/-- The first elements of an own row are one. -/
theorem OwnS.front {w0 w : World} {e : TypeId} {size g n cap : Nat} {xs : List Value} (h : OwnS w0 w e size (.slice (some ⟨g, 0, none⟩) n cap) n xs) (i : Nat) (hi : i ≤ n) : OwnS w0 w e size (.slice (some ⟨g, 0, none⟩) i cap) i (xs.take (i * size)) := by
  obtain ⟨h1, h | ⟨g', cap', cur, h2, h3, h4, h5, h6, h7, h8⟩⟩ := h
  · cases h.1
  · cases h2
    have hm : i * size ≤ n * size := Nat.mul_le_mul_right _ hi
    refine ⟨by rw [List.length_take, h1]; omega, .inr ⟨g, cap, cur, rfl, h3, h4, by omega, h6, h7, ?_⟩⟩
    rw [← h8, List.take_take]
    congr 1
    omega
theorem zeroCells_length (z : Array Value) (n : Nat) : (Builtin.zeroCells z n).toList.length = n * z.size := by simp [Builtin.zeroCells]
theorem zeroCells_mem (z : Array Value) (n : Nat) (hz : 0 < z.size) (h : ∀ u ∈ z.toList, u.oneCell' = true) : ∀ u ∈ (Builtin.zeroCells z n).toList, u.oneCell' = true := by
  intro u hu
  simp only [Builtin.zeroCells, Array.toList_map, Array.toList_range, List.mem_map, List.mem_range] at hu
  obtain ⟨i, _, rfl⟩ := hu
  have hlt : i % z.size < z.size := Nat.mod_lt _ hz
  rw [getElem!_pos z _ hlt]
  exact h _ (by simp)
/-- What is behind an own row's elements is cleared: the row stays. -/
theorem RunsV_clear_behind {P : Program} {w0 w : World} {t e ty : TypeId} {size g n m cap c k : Nat} {xs : List Value} {z : Value} (ht : P.underlying t = some (.slice e)) (hz : ∀ w : World, (zeroValue e).run P w = .ok z w) (hzs : z.cells.size = size) (hpos : 0 < size) (hz1 : ∀ u ∈ z.cells.toList, u.oneCell' = true)
    (hown : OwnS w0 w e size (.slice (some ⟨g, 0, none⟩) n cap) n xs) (hl : Later w0 w) (hnm : n ≤ k) (hmc : k + m ≤ cap) {K : Value → World → Prop}
    (hK : ∀ w', OwnS w0 w' e size (.slice (some ⟨g, 0, none⟩) n cap) n xs → Later w0 w' → (∀ j, j ≠ g → w'.heap[j]? = w.heap[j]?) → w'.heap.size = w.heap.size → K (.tuple #[]) w') :
    RunsV P (Builtin.clear_ #[t] ty #[.slice (some ⟨g, k * size, none⟩) m c]) w K := by
  cases m with
  | zero =>
    refine RunsV_of (v := .tuple #[]) (w' := w) ?_ (hK w hown hl (fun _ _ => rfl) rfl)
    simp [Builtin.clear_, run_underlying ht]
  | succ m =>
    have hbg := (World.ownsRow.lt hown g rfl).1
    obtain ⟨h1, h | ⟨g', cap', cur, h2, h3, h4, h5, h6, h7, h8⟩⟩ := hown
    · cases h.1
    · cases h2
      have hfit : k * size + 0 + (Builtin.zeroCells z.cells (m + 1)).toList.length ≤ cur.size := by
        rw [zeroCells_length, hzs, h7, Nat.add_zero, ← Nat.add_mul]
        exact Nat.mul_le_mul_right _ hmc
      have hr := run_storeCells_at (P := P) g (k * size) e (Builtin.zeroCells z.cells (m + 1)).toList 0 cur w h4 hfit (zeroCells_mem _ _ (by omega) hz1)
      refine RunsV_of (v := .tuple #[]) (w' := w.setRow g (cur.toList.take (k * size + 0) ++ (Builtin.zeroCells z.cells (m + 1)).toList ++ cur.toList.drop (k * size + 0 + (Builtin.zeroCells z.cells (m + 1)).toList.length)).toArray) ?_ (hK _ ?_ (below_setRow hl hbg _) (fun j hj => setRow_other w g j _ hj) (size_setRow _ _ _))
      · simp only [Builtin.clear_, List.getElem?_toArray, Sem.run_bind, run_underlying ht, hz]
        simp [hz, hr, run_underlying ht, Result.andThen]
      · have hkn : n * size ≤ k * size := Nat.mul_le_mul_right _ hnm
        refine ⟨h1, .inr ⟨g, cap, _, rfl, h3, setRow_heap w g cur _ e _ h4, h5, h6, ?_, ?_⟩⟩
        · simp only [List.size_toArray, List.length_append, List.length_take, List.length_drop, Array.length_toList] at hfit ⊢
          omega
        · simp only [Nat.add_zero, List.append_assoc]
          rw [List.take_append_of_le_length (by simp only [List.length_take, Array.length_toList]; simp only [Nat.add_zero] at hfit; omega), List.take_take, ← h8]
          congr 1
          omega
end Go.Vc

/-
Rows of elements of some cells each, whatever they are: handed in, or own; grown, copied, written.
Conditions: each theorem's hypotheses.
-/
namespace Go.Vc
open Go.RowKit
set_option linter.unusedVariables false
set_option linter.unusedSimpArgs false
set_option linter.unnecessarySimpa false

theorem addr_add_add (a : Addr) (i j : Nat) : (a.add i).add j = a.add (i + j) := by
  unfold Addr.add
  by_cases hi : i = 0
  · subst hi; simp
  · by_cases hj : j = 0
    · subst hj; simp
    · rw [if_neg hi, if_neg hj, if_neg (by omega)]
      simp only [Nat.add_assoc]
theorem addr_add_zero (a : Addr) : a.add 0 = a := by simp [Addr.add]
/-- What an element is in cells. -/
structure ElT (α : Type) where
  sz : Nat
  pos : 0 < sz
  enc : α → List Value
  len : ∀ a, (enc a).length = sz
  one : ∀ a, ∀ u ∈ enc a, u.oneCell' = true
section
variable {α : Type} (T : ElT α)
def rowC (l : List α) : List Value := l.flatMap T.enc
theorem rowC_cons (m : α) (l : List α) : rowC T (m :: l) = T.enc m ++ rowC T l := by simp [rowC]
theorem rowC_append (l k : List α) : rowC T (l ++ k) = rowC T l ++ rowC T k := by simp [rowC]
theorem rowC_one (m : α) : rowC T [m] = T.enc m := by simp [rowC]
theorem rowC_length : ∀ l : List α, (rowC T l).length = l.length * T.sz
  | [] => by simp [rowC]
  | m :: l => by rw [rowC_cons, List.length_append, rowC_length l, T.len, List.length_cons, Nat.add_mul]; omega
theorem rowC_get : ∀ (l : List α) (i j : Nat) (m : α), l[i]? = some m → j < T.sz → (rowC T l)[i * T.sz + j]? = (T.enc m)[j]?
  | [], i, j, m, h, _ => by simp at h
  | x :: l, 0, j, m, h, hj => by
    obtain rfl : x = m := by simpa using h
    rw [rowC_cons, List.getElem?_append_left (by rw [T.len]; omega)]
    congr 1; omega
  | x :: l, i + 1, j, m, h, hj => by
    have e : (i + 1) * T.sz + j = T.sz + (i * T.sz + j) := by rw [Nat.add_mul]; omega
    rw [rowC_cons, e, List.getElem?_append_right (by rw [T.len]; omega), T.len, show T.sz + (i * T.sz + j) - T.sz = i * T.sz + j by omega]
    exact rowC_get l i j m (by simpa using h) hj
theorem rowC_all (l : List α) : ∀ u ∈ rowC T l, u.oneCell' = true := by
  intro u hu
  obtain ⟨m, _, hm⟩ := List.mem_flatMap.1 hu
  exact T.one m u hm
/-- A row's elements stand there. -/
def ERow (w : World) (A : Option Addr) (l : List α) : Prop := ∀ i m, l[i]? = some m → ∃ ad, A = some ad ∧ ∀ j v, (T.enc m)[j]? = some v → w.cell? ((ad.add (i * T.sz)).add j) = some v
variable {T}
theorem ERow.later {w w' : World} {A : Option Addr} {l : List α} (h : ERow T w A l) (hl : Later w w') : ERow T w' A l := by
  intro i m hi
  obtain ⟨ad, h1, h2⟩ := h i m hi
  exact ⟨ad, h1, fun j v hv => hl.cell_some (h2 j v hv)⟩
theorem ERow.nil (w : World) (A : Option Addr) : ERow T w A [] := fun i m h => by simp at h
theorem ERow.addr {w : World} {A : Option Addr} {l : List α} (h : ERow T w A l) (hl : 0 < l.length) : ∃ ad, A = some ad := by
  obtain ⟨ad, h1, _⟩ := h 0 _ (List.getElem?_eq_getElem hl)
  exact ⟨ad, h1⟩
theorem ERow.front {w : World} {ad : Addr} {l : List α} (h : ERow T w (some ad) l) (k : Nat) : CellsAt w ad 0 (rowC T (l.take k)) := by
  have hp := T.pos
  refine CellsAt_of_get fun j u hj => ?_
  have hjl : j < (rowC T (l.take k)).length := (List.getElem?_eq_some_iff.1 hj).1
  rw [rowC_length] at hjl
  have hq : j / T.sz < (l.take k).length := (Nat.div_lt_iff_lt_mul hp).2 hjl
  have e1 := List.getElem?_eq_getElem hq
  have e2 := rowC_get T (l.take k) (j / T.sz) (j % T.sz) _ e1 (Nat.mod_lt _ hp)
  rw [show j / T.sz * T.sz + j % T.sz = j by rw [Nat.mul_comm]; exact Nat.div_add_mod j T.sz, hj] at e2
  have e3 : l[j / T.sz]? = some (l.take k)[j / T.sz] := by
    rw [List.getElem?_take] at e1
    split at e1
    · exact e1
    · cases e1
  obtain ⟨ae, hae, hc⟩ := h _ _ e3
  obtain rfl := Option.some.inj hae
  have := hc (j % T.sz) u e2.symm
  rw [addr_add_add, show j / T.sz * T.sz + j % T.sz = j by rw [Nat.mul_comm]; exact Nat.div_add_mod j T.sz] at this
  rw [Nat.zero_add]; exact this
theorem ERow.drop {w : World} {ad : Addr} {l : List α} (h : ERow T w (some ad) l) (k : Nat) : ERow T w (some (ad.add (k * T.sz))) (l.drop k) := by
  intro i m hi
  rw [List.getElem?_drop] at hi
  obtain ⟨ae, hae, hc⟩ := h _ _ hi
  obtain rfl := Option.some.inj hae
  refine ⟨_, rfl, fun j v hv => ?_⟩
  have := hc j v hv
  rw [Nat.add_mul, addr_add_add, Nat.add_assoc] at this
  rw [addr_add_add, addr_add_add]
  exact this
theorem ERow.all {w : World} {ad : Addr} {l : List α} (h : ERow T w (some ad) l) : CellsAt w ad 0 (rowC T l) := by
  have := h.front l.length
  rwa [List.take_length] at this
theorem Has.erow {w : World} {k : Nat} {l : List α} (h : Has w k (rowC T l)) : ERow T w (some ⟨k, 0, none⟩) l := by
  intro i m hi
  refine ⟨_, rfl, fun j v hv => ?_⟩
  have hj : j < T.sz := by rw [← T.len m]; exact (List.getElem?_eq_some_iff.1 hv).1
  rw [addr_add_add, add_block, Nat.zero_add]
  exact h.cell (by rw [rowC_get T l i j m hi hj]; exact hv)
/-- A row that the call made. -/
abbrev OwnE (T : ElT α) (w0 w : World) (e : TypeId) (b : Option Addr) (c : Nat) (l : List α) : Prop := OwnS w0 w e T.sz (.slice b l.length c) l.length (rowC T l)
theorem OwnE.row {w0 w : World} {e : TypeId} {b : Option Addr} {c : Nat} {l : List α} (h : OwnE T w0 w e b c l) : ERow T w b l := by
  intro i m hi
  have hil : i < l.length := (List.getElem?_eq_some_iff.1 hi).1
  obtain ⟨g, rfl, -⟩ := h.split (by omega)
  refine ⟨_, rfl, fun j v hv => ?_⟩
  have hj : j < T.sz := by rw [← T.len m]; exact (List.getElem?_eq_some_iff.1 hv).1
  have hc := CellsAt_get h.cells (i * T.sz + j) v (by rw [rowC_get T l i j m hi hj]; exact hv)
  rw [Nat.zero_add] at hc
  rw [addr_add_add]; exact hc
theorem OwnE.nil (w0 w : World) (e : TypeId) : OwnE T w0 w e none 0 [] := ⟨by simp [rowC], .inl ⟨rfl, rfl⟩⟩
theorem OwnE.cap {w0 w : World} {e : TypeId} {b : Option Addr} {c : Nat} {l : List α} (h : OwnE T w0 w e b c l) : l.length ≤ c := by
  obtain ⟨_, h | ⟨g, cap, cur, h2, h3, h4, h5, _⟩⟩ := h
  · omega
  · cases h2; exact h5
/-- Some are appended. -/
theorem OwnE.append {P : Program} {t e : TypeId} {bytes : Nat} (ty : TypeId) (hT : RowTy P t e T.sz bytes) {w0 w : World} {b : Option Addr} {c : Nat} {l news : List α} {a : Addr} {c2 : Nat} (hown : OwnE T w0 w e b c l) (hl : Later w0 w) (hb : l.length + news.length ≤ maxLen) (hby : (l.length + news.length) * bytes ≤ 140737488355328)
    (hc : CellsAt w a 0 (rowC T news)) {K : Value → World → Prop}
    (hK : ∀ b' c' w', OwnE T w0 w' e b' c' (l ++ news) → Later w0 w' → (∀ k, k < w.heap.size → rowB b ≠ some k → w'.heap[k]? = w.heap[k]? ∧ rowB b' ≠ some k) → K (.slice b' (l ++ news).length c') w') :
    RunsV P (Builtin.append_ #[t, t] ty #[.slice b l.length c, .slice (some a) news.length c2]) w K := by
  refine RunsV_append_apart ty hT hown hl (m := news.length) (news := rowC T news) (rowC_length T _) hc (rowC_all T _) hb hby ?_
  intro p pn pc w' ho hl' hk
  obtain rfl := ho.len
  rw [← rowC_append, ← List.length_append] at ho
  rw [← List.length_append]
  exact hK _ _ _ ho hl' hk
/-- One is appended, that was laid as a block. -/
theorem OwnE.push {P : Program} {t e : TypeId} {bytes : Nat} (ty : TypeId) (hT : RowTy P t e T.sz bytes) {w0 w w1 : World} {b : Option Addr} {c : Nat} {l : List α} (m : α) (hown : OwnE T w0 w e b c l) (hl : Later w0 w) (hb : l.length + 1 ≤ maxLen) (hby : (l.length + 1) * bytes ≤ 140737488355328)
    {cs : Array Value} (e1 : w1 = w.alloc (.cells cs e)) (hcs : cs.toList = T.enc m) {K : Value → World → Prop}
    (hK : ∀ b' c' w', OwnE T w0 w' e b' c' (l ++ [m]) → Later w0 w' → (∀ k, k < w.heap.size → rowB b ≠ some k → w'.heap[k]? = w.heap[k]? ∧ rowB b' ≠ some k) → K (.slice b' (l ++ [m]).length c') w') :
    RunsV P (Builtin.append_ #[t, t] ty #[.slice b l.length c, .slice (some ⟨w.heap.size, 0, none⟩) 1 1]) w1 K := by
  subst e1
  have hcells : CellsAt (w.alloc (.cells cs e)) ⟨w.heap.size, 0, none⟩ 0 (rowC T [m]) := by
    rw [rowC_one, ← hcs]
    exact CellsAt_new' w e (0, 0) cs
  have := OwnE.append (news := [m]) (c2 := 1) ty hT (hown.alloc (.cells cs e)) (hl.alloc _) hb hby hcells (K := K) fun b' c' w' ho hl' hk => hK b' c' w' ho hl' fun k hk1 hk2 => by
    obtain ⟨h1, h2⟩ := hk k (Nat.lt_of_lt_of_le hk1 (Later.size (Later.alloc' w _))) hk2
    exact ⟨h1.trans (Later.block (Later.alloc' w _) hk1), h2⟩
  exact this
/-- A copy of what is there. -/
theorem ERow.copy {P : Program} {t e : TypeId} {bytes : Nat} (ty : TypeId) (hT : RowTy P t e T.sz bytes) {A : Option Addr} {cap : Nat} {l : List α} {w : World} (hn : l.length ≤ maxLen) (hby : l.length * bytes ≤ 140737488355328) (hR : ERow T w A l) {K : Value → World → Prop}
    (hK : ∀ b c w', OwnE T w w' e b c l → Later w w' → K (.slice b l.length c) w') :
    RunsV P (Builtin.append_ #[t, t] ty #[.slice none 0 0, .slice A l.length cap]) w K := by
  cases A with
  | none =>
    have : l = [] := by
      cases l with
      | nil => rfl
      | cons m l => obtain ⟨ad, he, _⟩ := hR 0 m rfl; cases he
    subst this
    obtain ⟨i, z, hi, hz, hs, hby, hzs⟩ := hT.info
    refine RunsV_of (v := .slice none 0 0) (w' := w) ?_ (hK none 0 w (OwnE.nil _ _ _) (Below.refl _ _))
    exact run_append_nothing w _ _ _ _ i hT.under hi none 0 0 (Nat.le_refl 0) (.slice none 0 cap) ⟨.inl ⟨_, hT.under⟩, fun w' => by simp [Builtin.lenOf], by simp [Builtin.firstCells], by simp [Builtin.firstCells], by simp, by simp⟩
  | some ad =>
    refine OwnE.append (w0 := w) (b := none) (c := 0) (l := []) ty hT (OwnE.nil _ _ _) (Later.refl w) (by simpa using hn) (by simpa using hby) hR.all fun b c w' ho hl _ => ?_
    rw [List.nil_append] at ho ⊢
    exact hK b c w' ho hl
/-- A full row that lies anywhere is grown: a new one. -/
theorem OwnE.grow {P : Program} {t e : TypeId} {bytes : Nat} (ty : TypeId) (hT : RowTy P t e T.sz bytes) {w0 w : World} (hl : Later w0 w) {a b : Addr} {l news : List α} {sCap c2 : Nat} (ho : CellsAt w b 0 (rowC T l)) (hc : CellsAt w a 0 (rowC T news)) (hg : sCap < l.length + news.length)
    (hb : l.length + news.length ≤ maxLen) (hby : (l.length + news.length) * bytes ≤ 140737488355328) {K : Value → World → Prop}
    (hK : ∀ b' c' w', OwnE T w0 w' e b' c' (l ++ news) → Later w w' → K (.slice b' (l ++ news).length c') w') :
    RunsV P (Builtin.append_ #[t, t] ty #[.slice (some b) l.length sCap, .slice (some a) news.length c2]) w K := by
  obtain ⟨i, z, hi, hz, hs, hby', hzs⟩ := hT.info
  have hge := grownCap_ge w (l.length + news.length) sCap e
  have hcm : grownCap w (l.length + news.length) sCap e ≤ maxLen := grownCap_le_maxLen w _ sCap e hb
  have hfit : Builtin.nextslicecap (l.length + news.length) sCap * i.bytes ≤ 281474976710656 := by
    have h1 := Nat.mul_le_mul_right i.bytes (nextslicecap_le hg)
    rw [hby'] at h1 ⊢
    rw [Nat.mul_assoc] at h1
    omega
  have hrun := run_append_grow w t ty e i z hT.under hi hz b l.length sCap (rowC T l) (by rw [rowC_length, hs]) (fun j v hv => by have := CellsAt_get ho j v hv; rwa [Nat.zero_add] at this)
    a news.length c2 (rowC T news) (by rw [rowC_length, hs]) (fun j v hv => by have := CellsAt_get hc j v hv; rwa [Nat.zero_add] at this) hg (by simp only [maxLen] at hb; omega) hfit
  have hlw : Later w (w.drew.alloc (.cells ((rowC T l).toArray ++ (rowC T news).toArray ++ Builtin.zeroCells z.cells (grownCap w (l.length + news.length) sCap e - (l.length + news.length))) e)) := ((Below.refl _ w).drew).alloc (Nat.le_refl _) _
  refine RunsV_of hrun ?_
  rw [← List.length_append] at hge hcm hlw ⊢
  have hlen : (rowC T (l ++ news)).length = (l ++ news).length * T.sz := rowC_length T _
  refine hK _ _ _ ⟨hlen, .inr ⟨w.heap.size, _, _, rfl, Later.size hl, heap_alloc_new w.drew _, hge, hcm, ?_, ?_⟩⟩ hlw
  · simp only [Array.size_append, List.size_toArray, size_zeroCells, hzs, rowC_length]
    rw [← Nat.add_mul, ← Nat.add_mul, ← List.length_append]
    congr 1
    omega
  · simp only [Array.toList_append]
    rw [rowC_append] at hlen ⊢
    rw [← hlen]
    exact List.take_left' rfl
/-- A block that was laid just now is a row. -/
theorem OwnE.new {w0 w w1 : World} {e : TypeId} (hl : Later w0 w) {cs : Array Value} (e1 : w1 = w.alloc (.cells cs e)) {l : List α} (hcs : cs.toList = rowC T l) (hb : l.length ≤ maxLen) : OwnE T w0 w1 e (some ⟨w.heap.size, 0, none⟩) l.length l := by
  subst e1
  refine ⟨rowC_length T _, .inr ⟨w.heap.size, l.length, cs, rfl, Later.size hl, heap_alloc_new w _, Nat.le_refl _, hb, ?_, ?_⟩⟩
  · have := congrArg List.length hcs
    rw [rowC_length] at this
    simpa using this
  · rw [hcs, List.take_of_length_le (by rw [rowC_length]; omega)]
end
end Go.Vc

/-
Images, first part: rows of bytes, of words, of what is handed in; a number's bytes, bits of a byte; a row of instructions that grows.
Conditions: each theorem's hypotheses.
-/
namespace Go.Proofs.Ytjoikaklincfoaa
open Go Go.Vc Go.RowKit
set_option linter.unusedVariables false
set_option linter.unusedSimpArgs false
set_option linter.unnecessarySimpa false
set_option maxRecDepth 100000

/-! ### rows -/
def u8T : ElT Int := ⟨1, by decide, fun a => [.int .u8 a], fun _ => rfl, fun a u hu => by rw [List.mem_singleton.1 hu]; rfl⟩
def u32T : ElT Int := ⟨1, by decide, fun a => [.int .u32 a], fun _ => rfl, fun a u hu => by rw [List.mem_singleton.1 hu]; rfl⟩
def boolT1 : ElT Bool := ⟨1, by decide, fun a => [.bool a], fun _ => rfl, fun a u hu => by rw [List.mem_singleton.1 hu]; rfl⟩
structure Hd where
  buf : Bool
  sec : Bool
  mut_ : Bool
  d : Int
  len : Int
  deriving DecidableEq
def hdC (h : Hd) : List Value := [.bool h.buf, .bool h.sec, .bool h.mut_, i64v h.d, i64v h.len]
def hdT : ElT Hd := ⟨5, by decide, hdC, fun _ => rfl, fun a u hu => by
  simp only [hdC, List.mem_cons, List.not_mem_nil, or_false] at hu
  rcases hu with rfl | rfl | rfl | rfl | rfl <;> rfl⟩
/-- An instruction: Op, Rd, Rs1, Rs2, Imm. -/
abbrev Ins := Int × Int × Int × Int × Int
def insC (x : Ins) : List Value := [u8v x.1, u8v x.2.1, u8v x.2.2.1, u8v x.2.2.2.1, i64v x.2.2.2.2]
def insT : ElT Ins := ⟨5, by decide, insC, fun _ => rfl, fun a u hu => by
  simp only [insC, List.mem_cons, List.not_mem_nil, or_false] at hu
  rcases hu with rfl | rfl | rfl | rfl | rfl <;> rfl⟩
theorem rtU8 : RowTy Try.prog 48 5 1 1 := RowTy.of (.int .u8 0) (by kernel_rfl) (by kernel_rfl) rfl (by decide)
theorem rtU32 : RowTy Try.prog 23 42 1 4 := RowTy.of (.int .u32 0) (by kernel_rfl) (by kernel_rfl) rfl (by decide)
theorem rtHd : RowTy Try.prog 22 50 5 24 := RowTy.of (.agg #[.bool false, .bool false, .bool false, i64v 0, i64v 0]) (by kernel_rfl) (by kernel_rfl) rfl (by decide)
theorem rtIns : RowTy Try.prog 33 39 5 16 := RowTy.of (.agg #[u8v 0, u8v 0, u8v 0, u8v 0, i64v 0]) (by kernel_rfl) (by kernel_rfl) rfl (by decide)
theorem rowC_u8 (l : List Int) : rowC u8T l = l.map (Value.int .u8) := by
  induction l with
  | nil => rfl
  | cons a l ih => rw [rowC_cons, ih]; rfl

/-! ### a number's bytes -/
def fourL (n : Int) : List Int := [n % 256, n / 256 % 256, n / 65536 % 256, n / 16777216]
theorem u8_wrap (x : Int) : IntKind.u8.wrap x = x % 256 := by simp [IntKind.wrap, IntKind.bits, IntKind.signed]
theorem ref30_four_ok {n : Int} (hn : W32 n) (w : World) : Calls Try.prog ref30_four.N #[u32v n] w fun e w' => e = .returned (.slice (some ⟨w.heap.size, 0, none⟩) 4 4) ∧ Later w w' ∧ OwnE u8T w w' 5 (some ⟨w.heap.size, 0, none⟩) 4 (fourL n) := by
  refine ref30_four.calls ?_
  unfold ref30_four.vc
  intro w1 h1
  obtain ⟨h0, hlt⟩ := hn
  refine ⟨rfl, h1 ▸ Later.alloc' _ _, OwnE.new (l := fourL n) (Later.refl w) h1 ?_ (by simp [fourL, maxLen])⟩
  rw [rowC_u8]
  simp only [fourL, List.map_cons, List.map_nil, u8_wrap, wrap_u32]
  rw [tmod_nn _ h0, tdiv_nn _ h0, tdiv_nn _ h0, tdiv_nn _ h0, tmod_nn _ (by omega), tmod_nn _ (by omega)]
  simp only [List.cons.injEq, Value.int.injEq, true_and, and_true]
  omega
theorem image_four_ok {n : Int} (hn : W32 n) {w0 w : World} {b : Option Addr} {c : Nat} {l : List Int} (ho : OwnE u8T w0 w 5 b c l) (hl : Later w0 w) (hb : l.length ≤ 10000000) :
    Calls Try.prog image_four.N #[.slice b l.length c, u32v n] w fun e w' => ∃ b' c', e = .returned (.slice b' (l ++ fourL n).length c') ∧ Later w0 w' ∧ OwnE u8T w0 w' 5 b' c' (l ++ fourL n) ∧ (∀ k, k < w.heap.size → rowB b ≠ some k → w'.heap[k]? = w.heap[k]? ∧ rowB b' ≠ some k) := by
  refine image_four.calls ?_
  unfold image_four.vc
  intro w1 h1
  obtain ⟨h0, hlt⟩ := hn
  have hcs : CellsAt w1 ⟨w.heap.size, 0, none⟩ 0 (rowC u8T (fourL n)) := by
    have := (OwnE.new (w0 := w) (l := fourL n) (T := u8T) (Later.refl w) h1 ?_ (by simp [fourL, maxLen])).row
    · exact this.all
    · rw [rowC_u8]
      simp only [fourL, List.map_cons, List.map_nil, u8_wrap]
      rw [fdiv_nn _ (by omega), fdiv_nn _ (by omega), fdiv_nn _ (by omega)]
      simp only [List.cons.injEq, Value.int.injEq, true_and, and_true]
      omega
  have hw1 : Later w w1 := h1 ▸ Later.alloc' _ _
  refine OwnE.append (news := fourL n) 48 rtU8 (h1 ▸ ho.alloc _) (hl.trans hw1) (by simp [fourL, maxLen]; omega) (by simp [fourL]; omega) hcs fun b' c' w' ho' hl' hk => ?_
  refine ⟨_, _, _, rfl, _, _, rfl, hl', ho', fun k hk1 hk2 => ?_⟩
  obtain ⟨e1, e2⟩ := hk k (Nat.lt_of_lt_of_le hk1 (Later.size hw1)) hk2
  exact ⟨e1.trans (Later.block hw1 hk1), e2⟩

/-! ### bits of a byte -/
def bitV (b : Bool) (v : Int) : Int := if b = true then v else 0
def bitsS (a b c : Bool) : Int := bitV a 1 + bitV b 2 + bitV c 4
theorem ref30_bits_ok (a b c : Bool) (w : World) : Calls Try.prog ref30_bits.N #[.bool a, .bool b, .bool c] w fun e w' => e = .returned (u8v (bitsS a b c)) ∧ Later w w' := by
  refine ref30_bits.calls ?_
  unfold ref30_bits.vc
  cases a <;> cases b <;> cases c <;> exact ⟨rfl, Later.refl _⟩
def bitsF : List Bool → Int → Int
  | [], _ => 0
  | b :: l, v => bitV b v + bitsF l (v * 2)
theorem bits_step : ∀ l : List Bool, l.length ≤ 3 → ∀ k : Nat, k < l.length → ∀ b, l[k]? = some b → (if b = true then bits .or .u8 (bitsF (l.take k) 1) (IntKind.u8.wrap (1 * 2 ^ min ((k : Int)).toNat 8)) else bitsF (l.take k) 1) = bitsF (l.take (k + 1)) 1 := by
  intro l hl k hk b hb
  match l, hl with
  | [], _ => cases hk
  | [x], _ =>
    obtain rfl : k = 0 := by simp at hk; omega
    obtain rfl : x = b := by simpa using hb
    cases x <;> rfl
  | [x, y], _ =>
    have : k = 0 ∨ k = 1 := by simp at hk; omega
    rcases this with rfl | rfl
    · obtain rfl : x = b := by simpa using hb
      cases x <;> cases y <;> rfl
    · obtain rfl : y = b := by simpa using hb
      cases x <;> cases y <;> rfl
  | [x, y, z], _ =>
    have : k = 0 ∨ k = 1 ∨ k = 2 := by simp at hk; omega
    rcases this with rfl | rfl | rfl
    · obtain rfl : x = b := by simpa using hb
      cases x <;> cases y <;> cases z <;> rfl
    · obtain rfl : y = b := by simpa using hb
      cases x <;> cases y <;> cases z <;> rfl
    · obtain rfl : z = b := by simpa using hb
      cases x <;> cases y <;> cases z <;> rfl
theorem image_bits_ok (l : List Bool) (hl3 : l.length ≤ 3) {A : Option Addr} {c : Nat} {w : World} (hr : ERow boolT1 w A l) :
    Calls Try.prog image_bits.N #[.slice A l.length c] w fun e w' => e = .returned (u8v (bitsF l 1)) ∧ w' = w := by
  refine image_bits.calls ?_
  unfold image_bits.vc
  refine ⟨fun vs w' => ∃ k : Nat, k ≤ l.length ∧ vs = [u8v (bitsF (l.take k) 1), i64v k] ∧ w' = w, fun vs _ => match vs with | [_, .int _ n] => l.length - n.toNat | _ => 0, ⟨0, by omega, rfl, rfl⟩, ?_⟩
  rintro g b s w' ⟨k, hk, hs, rfl⟩
  simp only [List.cons.injEq, Value.int.injEq, true_and, and_true] at hs
  obtain ⟨rfl, rfl⟩ := hs
  refine cnd_of (fun h => ?_) fun h => ?_
  · have hlt : k < l.length := by simp only [decide_eq_true_eq] at h; omega
    obtain ⟨ad, rfl, hc⟩ := hr k _ (List.getElem?_eq_getElem hlt)
    have hc := hc 0 _ rfl
    rw [addr_add_zero] at hc
    refine ⟨⟨by omega, by omega⟩, Deref_some rfl ⟨l[k], hc, ?_⟩⟩
    have st := bits_step l hl3 k hlt _ (List.getElem?_eq_getElem hlt)
    have hw : IntKind.i64.wrap ((k : Int) + 1) = ((k + 1 : Nat) : Int) := by rw [i64_in (by omega) (by omega)]; omega
    refine cnd_of (fun hb => cnd_false (by simp) ?_) fun hb => ?_
    · rw [if_pos hb] at st
      rw [st, hw]
      exact ⟨⟨k + 1, by omega, rfl, rfl⟩, by show l.length - ((k + 1 : Nat) : Int).toNat < l.length - ((k : Nat) : Int).toNat; omega⟩
    · rw [if_neg (by simp [hb])] at st
      rw [st, hw]
      exact ⟨⟨k + 1, by omega, rfl, rfl⟩, by show l.length - ((k + 1 : Nat) : Int).toNat < l.length - ((k : Nat) : Int).toNat; omega⟩
  · have : k = l.length := by simp only [decide_eq_false_iff_not] at h; omega
    subst this
    exact ⟨by rw [List.take_length], rfl⟩
theorem bits3 (a b c : Bool) : bitsF [a, b, c] 1 = bitsS a b c := by cases a <;> cases b <;> cases c <;> rfl
theorem bits2 (a b : Bool) : bitsF [a, b] 1 = bitsS a b false := by cases a <;> cases b <;> rfl

/-! ### a row of instructions that grows -/
def decN (w : Int) : Ins := match decK w with | some k => ((k.1 : Int) + 1, gRd ((k.1 : Int) + 1) w, gR1 ((k.1 : Int) + 1) w, gR2 ((k.1 : Int) + 1) w, numS ((k.1 : Int) + 1) w) | none => (0, 0, 0, 0, 0)
theorem decI_is (w : Int) : decI w = insC (decN w) := by
  unfold decI decN
  cases decK w <;> rfl
theorem text_put_ok {wv : Int} (hw : W32 wv) {w0 w : World} {tb : Nat} {b : Option Addr} {c : Nat} {l : List Ins} (ht : Has w tb [.slice b l.length c]) (hbt : rowB b ≠ some tb) (ho : OwnE insT w0 w 39 b c l) (hl : Later w0 w) (hb : l.length ≤ 1000000) (htb : w0.heap.size ≤ tb) :
    Calls Try.prog sacristy_image_text_put.N #[.pointer (some ⟨tb, 0, none⟩), u32v wv] w fun e w' => e = .returned (.bool (decide (decE wv = 0))) ∧ Later w0 w' ∧ ∃ b' c', Has w' tb [.slice b' (l ++ [decN wv]).length c'] ∧ rowB b' ≠ some tb ∧ OwnE insT w0 w' 39 b' c' (l ++ [decN wv]) ∧
      (∀ k, k < w.heap.size → k ≠ tb → rowB b ≠ some k → w'.heap[k]? = w.heap[k]? ∧ rowB b' ≠ some k) := by
  refine sacristy_image_text_put.calls ?_
  unfold sacristy_image_text_put.vc
  refine (disas_Decode_ok hw w).mono fun e w1 ⟨he, g1⟩ => ?_
  rw [decI_is] at he
  refine ⟨_, _, _, _, _, _, he, fun w2 h2 => ?_⟩
  have M := (Trk.here g1).alloc h2
  refine M.setAll (l := insC (decN wv)) 0 rfl rfl (ones rfl) fun w3 M => ?_
  have hx : Has w3 w1.heap.size (insC (decN wv)) := M.has 0 rfl
  have ht3 : Has w3 tb [.slice b l.length c] := ht.later M.to
  refine ⟨fun w' => Has w' tb [.slice b l.length c] ∧ Has w' w1.heap.size (insC (decN wv)), fun w' h => ⟨ht3.later h, hx.later h⟩, fun w4 h4 => ?_⟩
  have hl4 : Later w0 w4 := hl.trans (M.to.trans h4)
  have s4 : w.heap.size ≤ w4.heap.size := Later.size (M.to.trans h4)
  refine Deref_some rfl ⟨_, _, _, fun w' h => h.1.cell rfl, ?_⟩
  refine ⟨_, _, _, _, _, fun w' h => ⟨h.2.cell rfl, h.2.cell rfl, h.2.cell rfl, h.2.cell rfl, h.2.cell rfl, trivial⟩, fun w5 h5 => ?_⟩
  have g5 : Later w4 w5 := h5 ▸ Later.alloc' _ _
  refine ⟨⟨(ht3.later h4).later g5, (hx.later h4).later g5⟩, ?_⟩
  have hx1 : w1.heap.size < w4.heap.size := Nat.lt_of_lt_of_le hx.lt (Later.size h4)
  have ho4 := OwnS.later ho (M.to.trans h4)
  have hbx : rowB b ≠ some w1.heap.size := fun h => by
    have := (ho.lt h).2
    have := Later.size g1
    omega
  refine OwnE.push 33 rtIns (decN wv) ho4 hl4 (by simp [maxLen]; omega) (by omega) h5 rfl fun b' c' w6 ho6 hl6 hk => ?_
  have htlt : tb < w4.heap.size := Nat.lt_of_lt_of_le ht.lt s4
  have ht6 : Has w6 tb [.slice b l.length c] := (ht3.later h4).kept (hk tb htlt hbt).1
  have hx6 : Has w6 w1.heap.size (insC (decN wv)) := (hx.later h4).kept (hk _ hx1 hbx).1
  have hbt' := (hk tb htlt hbt).2
  refine ⟨_, _, _, rfl, ⟨ht6, hx6⟩, Deref_some rfl ⟨⟨by rw [ht6.cell rfl]; rfl, ht6.frozen 0⟩, fun w7 h7 => ⟨?_, ?_⟩⟩⟩
  · by_cases h0 : decE wv = 0 <;> simp [h0]
  subst h7
  refine ⟨hl6.setCell htb _, b', c', ht6.set 0 _, hbt', OwnS.set_other ho6 hbt' 0 _, fun k hk1 hk2 hk3 => ?_⟩
  obtain ⟨e1, e2⟩ := hk k (Nat.lt_of_lt_of_le hk1 s4) hk3
  refine ⟨?_, e2⟩
  rw [← Later.block (M.to.trans h4) hk1, ← e1]
  simp [World.setCell, Array.getElem?_modify, Ne.symm hk2]
end Go.Proofs.Ytjoikaklincfoaa

/-
Images, second part: what an image is; which instructions it has (package image).
Conditions: an image's numbers are of their kinds, its rows of at most so many elements.
-/
namespace Go.Proofs.Ytjoikaklincfoaa
open Go Go.Vc Go.RowKit
set_option linter.unusedVariables false
set_option linter.unusedSimpArgs false
set_option linter.unnecessarySimpa false
set_option maxRecDepth 100000

structure Img where
  slots : Int
  params : List Hd
  ret : Bool
  sec : Bool
  code : List Int
  deriving DecidableEq
def imgC (A1 : Option Addr) (c1 : Nat) (A2 : Option Addr) (c2 : Nat) (x : Img) : List Value := [i64v x.slots, .slice A1 x.params.length c1, .bool x.ret, .bool x.sec, .slice A2 x.code.length c2]
abbrev imgV (A1 : Option Addr) (c1 : Nat) (A2 : Option Addr) (c2 : Nat) (x : Img) : Value := .agg #[i64v x.slots, .slice A1 x.params.length c1, .bool x.ret, .bool x.sec, .slice A2 x.code.length c2]
def ImAt (w : World) (A1 A2 : Option Addr) (x : Img) : Prop := ERow hdT w A1 x.params ∧ ERow u32T w A2 x.code
theorem ImAt.later {w w' : World} {A1 A2 : Option Addr} {x : Img} (h : ImAt w A1 A2 x) (hl : Later w w') : ImAt w' A1 A2 x := ⟨h.1.later hl, h.2.later hl⟩
structure ImOk (x : Img) : Prop where
  slots : I64 x.slots
  params : ∀ h ∈ x.params, I64 h.d ∧ I64 h.len
  code : ∀ c ∈ x.code, W32 c
  np : x.params.length ≤ 1000
  nc : x.code.length ≤ 100000

def okH (h : Hd) : Bool := decide (h.d = 0) && (decide (h.len = 0) && !(h.mut_ && !h.buf))
def wordsL : List Hd → Int
  | [] => 0
  | h :: l => (if h.buf = true then 2 else 1) + wordsL l
theorem wordsL_append : ∀ (l m : List Hd), wordsL (l ++ m) = wordsL l + wordsL m
  | [], m => by simp [wordsL]
  | h :: l, m => by simp only [List.cons_append, wordsL, wordsL_append l m]; omega
theorem wordsL_range : ∀ l : List Hd, 0 ≤ wordsL l ∧ wordsL l ≤ 2 * l.length
  | [] => by simp [wordsL]
  | h :: l => by
    have := wordsL_range l
    simp only [wordsL, List.length_cons]
    split <;> omega
theorem wordsL_take (l : List Hd) (k : Nat) (h : Hd) (hk : l[k]? = some h) : wordsL (l.take (k + 1)) = wordsL (l.take k) + (if h.buf = true then 2 else 1) := by
  rw [List.take_add_one, hk, wordsL_append]
  simp [wordsL]
def mayI (x : Img) : Bool := x.params.all okH && (decide (0 ≤ x.slots ∧ x.slots ≤ 255) && (decide (wordsL x.params ≤ 8) && (!(x.sec && !x.ret) && (decide (1 ≤ x.code.length ∧ x.code.length ≤ 131072) && x.code.all fun c => decide (decE c = 0)))))
def textE (x : Img) : Int := if mayI x = true then 0 else 2
def textL (x : Img) : List Ins := if mayI x = true then x.code.map decN else []
def TextR (x : Img) (w : World) (e : Ending) (w' : World) : Prop := Later w w' ∧ ∃ b c, e = .returned (.tuple #[.slice b (textL x).length c, i64v (textE x)]) ∧ OwnE insT w w' 39 b c (textL x)
theorem may_not {x : Img} {w w' : World} (h : mayI x = false) (hl : Later w w') : TextR x w (.returned (.tuple #[.slice none 0 0, i64v 2])) w' := by
  refine ⟨hl, none, 0, ?_, ?_⟩
  · simp [textE, textL, h]
  · simp only [textL, h]
    exact OwnE.nil _ _ _
theorem all_not {α : Type} {l : List α} {p : α → Bool} {k : Nat} {a : α} (h : l[k]? = some a) (hp : p a = false) : l.all p = false := by
  rw [List.all_eq_false]
  exact ⟨a, List.mem_of_getElem? h, by rw [hp]; simp⟩
theorem all_of {α : Type} {l : List α} {p : α → Bool} (h : ∀ (k : Nat) (a : α), l[k]? = some a → p a = true) : l.all p = true := by
  rw [List.all_eq_true]
  intro a ha
  obtain ⟨k, hk⟩ := List.getElem?_of_mem ha
  exact h k a hk
theorem bad_param {x : Img} {k : Nat} {h : Hd} (hk : x.params[k]? = some h) (hb : okH h = false) : mayI x = false := by
  simp [mayI, all_not hk hb]
set_option maxHeartbeats 6400000 in
theorem image_Text_ok {x : Img} (hx : ImOk x) {A1 A2 : Option Addr} {c1 c2 : Nat} {w : World} (hr : ImAt w A1 A2 x) : Calls Try.prog image_Text.N #[imgV A1 c1 A2 c2 x] w (TextR x w) := by
  refine image_Text.calls ?_
  unfold image_Text.vc
  intro w1 h1
  have L := (Trk.start w).alloc h1
  refine ⟨_, _, _, L.cell 0 rfl rfl, ?_⟩
  refine ⟨fun vs w' => ∃ k : Nat, k ≤ x.params.length ∧ vs = [i64v (wordsL (x.params.take k)), i64v k] ∧ (∀ i h, i < k → x.params[i]? = some h → okH h = true) ∧ Later w1 w', fun vs _ => match vs with | [_, .int _ n] => x.params.length - n.toNat | _ => 0, ⟨0, by omega, rfl, fun i h hi => by omega, Later.refl _⟩, ?_⟩
  rintro g words s w2 ⟨k, hk, hs, hok, g2⟩
  simp only [List.cons.injEq, Value.int.injEq, true_and, and_true] at hs
  obtain ⟨rfl, rfl⟩ := hs
  have L2 := L.later g2
  refine cnd_of (fun h => ?_) fun h => ?_
  · have hlt : k < x.params.length := by simp only [decide_eq_true_eq] at h; omega
    have hg := List.getElem?_eq_getElem hlt
    generalize x.params[k] = m at hg
    have st := wordsL_take x.params k m hg
    have wr := wordsL_range (x.params.take k)
    have hle := List.length_take_le k x.params
    have np := hx.np
    obtain ⟨ad, rfl, hc⟩ := (hr.1.later (L2.to)) k _ hg
    refine ⟨⟨by omega, by omega⟩, Deref_some rfl ⟨m.buf, m.sec, m.mut_, m.d, m.len, ⟨?_, hc 1 _ rfl, hc 2 _ rfl, hc 3 _ rfl, hc 4 _ rfl, trivial⟩, fun w3 h3 => ?_⟩⟩
    · have := hc 0 _ rfl
      rw [addr_add_zero] at this
      exact this
    have M := (Trk.here g2).alloc h3
    refine M.setAll (l := hdC m) 0 rfl rfl (ones rfl) fun w4 M => ?_
    have g4 : Later w1 w4 := M.to
    have no : okH m = false → TextR x w (.returned (.tuple #[.slice none 0 0, i64v 2])) w4 := fun h => may_not (bad_param hg h) (L.to.trans g4)
    have go : okH m = true → Goes (fun vs w' => ∃ k : Nat, k ≤ x.params.length ∧ vs = [i64v (wordsL (x.params.take k)), i64v k] ∧ (∀ i h, i < k → x.params[i]? = some h → okH h = true) ∧ Later w1 w') (fun vs _ => match vs with | [_, .int _ n] => x.params.length - n.toNat | _ => 0)
        [i64v (wordsL (x.params.take k)), i64v k] w2 [i64v (wordsL (x.params.take (k + 1))), i64v (IntKind.i64.wrap ((k : Int) + 1))] w4 := by
      intro hokm
      have hw : IntKind.i64.wrap ((k : Int) + 1) = ((k + 1 : Nat) : Int) := by rw [i64_in (by omega) (by omega)]; omega
      rw [hw]
      refine ⟨⟨k + 1, by omega, rfl, fun i h hi hh => ?_, g4⟩, by show x.params.length - ((k + 1 : Nat) : Int).toNat < x.params.length - ((k : Nat) : Int).toNat; omega⟩
      by_cases hik : i = k
      · subst hik
        rw [hg] at hh
        obtain rfl := Option.some.inj hh
        exact hokm
      · exact hok i h (by omega) hh
    refine ⟨_, M.cell 0 rfl rfl, ?_⟩
    cases hb : m.buf with
    | true =>
      have hw : IntKind.i64.wrap (IntKind.i64.wrap (wordsL (x.params.take k) + 1) + 1) = wordsL (x.params.take (k + 1)) := by
        rw [st, if_pos hb, i64_in (x := wordsL (x.params.take k) + 1) (by omega) (by omega), i64_in (by omega) (by omega)]; omega
      rw [hw]
      refine cnd_true rfl ⟨_, M.cell 0 rfl rfl, cnd_of (fun h => no ?_) fun h => ⟨_, M.cell 0 rfl rfl, cnd_of (fun h2 => no ?_) fun h2 => ⟨_, M.cell 0 rfl rfl, cnd_of (fun h3 => ⟨_, M.cell 0 rfl rfl, cnd_false (by rw [hb]; rfl) (go ?_)⟩) fun h3 => go ?_⟩⟩⟩
      · have : ¬ m.d = 0 := by simpa using h
        simp [okH, this]
      · have : ¬ m.len = 0 := by simpa using h2
        simp [okH, this]
      · have e1 : m.d = 0 := by simpa using h
        have e2 : m.len = 0 := by simpa using h2
        simp [okH, e1, e2, hb]
      · have e1 : m.d = 0 := by simpa using h
        have e2 : m.len = 0 := by simpa using h2
        simp [okH, e1, e2, h3]
    | false =>
      have hw : IntKind.i64.wrap (wordsL (x.params.take k) + 1) = wordsL (x.params.take (k + 1)) := by
        rw [st, if_neg (by simp [hb]), i64_in (x := wordsL (x.params.take k) + 1) (by omega) (by omega)]
      rw [hw]
      refine cnd_false rfl ⟨_, M.cell 0 rfl rfl, cnd_of (fun h => no ?_) fun h => ⟨_, M.cell 0 rfl rfl, cnd_of (fun h2 => no ?_) fun h2 => ⟨_, M.cell 0 rfl rfl, cnd_of (fun h3 => ⟨_, M.cell 0 rfl rfl, cnd_true (by rw [hb]; rfl) (no ?_)⟩) fun h3 => go ?_⟩⟩⟩
      · have : ¬ m.d = 0 := by simpa using h
        simp [okH, this]
      · have : ¬ m.len = 0 := by simpa using h2
        simp [okH, this]
      · simp [okH, h3, hb]
      · have e1 : m.d = 0 := by simpa using h
        have e2 : m.len = 0 := by simpa using h2
        simp [okH, e1, e2, h3]
  have hkn : k = x.params.length := by simp only [decide_eq_false_iff_not] at h; omega
  subst hkn
  have hokP : x.params.all okH = true := all_of fun i h hi => hok i h (List.getElem?_eq_some_iff.1 hi).1 hi
  rw [List.take_length]
  have no : mayI x = false → TextR x w (.returned (.tuple #[.slice none 0 0, i64v 2])) w2 := fun h => may_not h L2.to
  refine ⟨_, L2.cell 0 rfl rfl, cnd_of (fun h => no ?_) fun h1 => ⟨_, L2.cell 0 rfl rfl, cnd_of (fun h => no ?_) fun h2 => cnd_of (fun h => no ?_) fun h3 => ?_⟩⟩
  · have h : x.slots < 0 := by simpa using h
    have : ¬ (0 ≤ x.slots ∧ x.slots ≤ 255) := by omega
    simp [mayI, this]
  · have h : x.slots > 255 := by simpa using h
    have : ¬ (0 ≤ x.slots ∧ x.slots ≤ 255) := by omega
    simp [mayI, this]
  · have h : wordsL x.params > 8 := by simpa using h
    have : ¬ wordsL x.params ≤ 8 := by omega
    simp [mayI, this]
  have hsl : 0 ≤ x.slots ∧ x.slots ≤ 255 := by
    have a : ¬ x.slots < 0 := by simpa using h1
    have b : ¬ x.slots > 255 := by simpa using h2
    omega
  have hwd : wordsL x.params ≤ 8 := by
    have a : ¬ wordsL x.params > 8 := by simpa using h3
    omega
  have np := hx.np
  have nc := hx.nc
  have tail : (!(x.sec && !x.ret)) = true → ∃ (p : Option Addr) (n : Nat) (c : Nat), w2.cell? ⟨w.heap.size, 4, none⟩ = some (.slice p n c) ∧
      cnd (decide ((n : Int) < 1)) (TextR x w (.returned (.tuple #[.slice none 0 0, i64v 2])) w2) (∃ (p : Option Addr) (n : Nat) (c : Nat), w2.cell? ⟨w.heap.size, 4, none⟩ = some (.slice p n c) ∧
        cnd (decide ((n : Int) > 131072)) (TextR x w (.returned (.tuple #[.slice none 0 0, i64v 2])) w2) (∀ w3, w3 = w2.alloc (Obj.cells #[Value.slice none 0 0] 54) →
          ∃ (p : Option Addr) (n : Nat) (c : Nat), w3.cell? ⟨w.heap.size, 4, none⟩ = some (.slice p n c) ∧ ∃ (I : List Value → World → Prop) (μ : List Value → World → Nat), I [i64v 0] w3 ∧ ∀ (g : Nat → Value) (s : Int) (w4 : World), I [i64v s] w4 →
            cnd (decide (s < (n : Int))) ((0 ≤ s ∧ s < (n : Int)) ∧ Deref p fun a => ∃ n : Int, w4.cell? (a.add (s.toNat * 1)) = some (u32v n) ∧ Calls Try.prog sacristy_image_text_put.N #[.pointer (some ⟨w2.heap.size, 0, none⟩), u32v n] w4 fun e w5 => ∃ b : Bool, e = .returned (.bool b) ∧
              cnd (!b) (TextR x w (.returned (.tuple #[.slice none 0 0, i64v 2])) w5) (Goes I μ [i64v s] w4 [i64v (IntKind.i64.wrap (s + 1))] w5))
              (∃ (p : Option Addr) (n : Nat) (c : Nat), w4.cell? ⟨w2.heap.size, 0, none⟩ = some (.slice p n c) ∧ TextR x w (.returned (.tuple #[.slice p n c, i64v 0])) w4))) := by
    intro hsr
    refine ⟨_, _, _, L2.cell 0 rfl rfl, cnd_of (fun h => no ?_) fun h4 => ⟨_, _, _, L2.cell 0 rfl rfl, cnd_of (fun h => no ?_) fun h5 => ?_⟩⟩
    · have h : (x.code.length : Int) < 1 := by simpa using h
      have : ¬ (1 ≤ x.code.length ∧ x.code.length ≤ 131072) := by omega
      simp [mayI, this]
    · have h : (x.code.length : Int) > 131072 := by simpa using h
      have : ¬ (1 ≤ x.code.length ∧ x.code.length ≤ 131072) := by omega
      simp [mayI, this]
    have hcl : 1 ≤ x.code.length ∧ x.code.length ≤ 131072 := by
      have a : ¬ (x.code.length : Int) < 1 := by simpa using h4
      have b : ¬ (x.code.length : Int) > 131072 := by simpa using h5
      omega
    intro w3 h3
    have g3 : Later w2 w3 := h3 ▸ Later.alloc' _ _
    have T := (Trk.here (Later.refl w2)).alloc h3
    refine ⟨_, _, _, (L2.later g3).cell 0 rfl rfl, fun vs w' => ∃ k : Nat, k ≤ x.code.length ∧ vs = [i64v k] ∧ (∀ i c, i < k → x.code[i]? = some c → decE c = 0) ∧ Later w w' ∧ ∃ b c, Has w' w2.heap.size [.slice b ((x.code.take k).map decN).length c] ∧ rowB b ≠ some w2.heap.size ∧ OwnE insT w w' 39 b c ((x.code.take k).map decN),
      fun vs _ => match vs with | [.int _ n] => x.code.length - n.toNat | _ => 0, ⟨0, by omega, rfl, fun i c hi => by omega, L2.to.trans g3, none, 0, T.has 0 rfl, by simp, OwnE.nil _ _ _⟩, ?_⟩
    rintro g s w4 ⟨k, hk, hs, hdk, hl4, b, c, ht, hbt, ho⟩
    simp only [List.cons.injEq, Value.int.injEq, true_and, and_true] at hs
    subst hs
    refine cnd_of (fun h => ?_) fun h => ?_
    · have hlt : k < x.code.length := by simp only [decide_eq_true_eq] at h; omega
      have hg := List.getElem?_eq_getElem hlt
      generalize x.code[k] = m at hg
      obtain ⟨ad, rfl, hc⟩ := (hr.2.later hl4) k _ hg
      have hm := hx.code m (List.mem_of_getElem? hg)
      refine ⟨⟨by omega, by omega⟩, Deref_some rfl ⟨m, ?_, ?_⟩⟩
      · have := hc 0 _ rfl
        rw [addr_add_zero] at this
        exact this
      refine (text_put_ok hm ht hbt ho hl4 (by rw [List.length_map, List.length_take]; omega) (Later.size L2.to)).mono fun e w5 ⟨he, hl5, b', c', ht', hbt', ho', _⟩ => ⟨_, he, cnd_of (fun h => may_not ?_ hl5) fun h => ?_⟩
      · have : decide (decE m = 0) = false := by simpa using h
        have : x.code.all (fun c => decide (decE c = 0)) = false := all_not hg this
        simp [mayI, this]
      · have hd : decE m = 0 := by simpa using h
        have hw : IntKind.i64.wrap ((k : Int) + 1) = ((k + 1 : Nat) : Int) := by rw [i64_in (by omega) (by omega)]; omega
        have htk : (x.code.take k).map decN ++ [decN m] = (x.code.take (k + 1)).map decN := by rw [List.take_add_one, hg]; simp
        rw [htk] at ht' ho'
        rw [hw]
        refine ⟨⟨k + 1, by omega, rfl, fun i c hi hh => ?_, hl5, b', c', ht', hbt', ho'⟩, by show x.code.length - ((k + 1 : Nat) : Int).toNat < x.code.length - ((k : Nat) : Int).toNat; omega⟩
        by_cases hik : i = k
        · subst hik
          rw [hg] at hh
          obtain rfl := Option.some.inj hh
          exact hd
        · exact hdk i c (by omega) hh
    · have hkn : k = x.code.length := by simp only [decide_eq_false_iff_not] at h; omega
      subst hkn
      have hall : x.code.all (fun c => decide (decE c = 0)) = true := all_of fun i c hi => by
        rw [hdk i c (List.getElem?_eq_some_iff.1 hi).1 hi]; rfl
      have hm : mayI x = true := by
        simp only [mayI, hokP, hall, Bool.true_and, Bool.and_true, Bool.and_eq_true, decide_eq_true_eq]
        exact ⟨hsl, hwd, hsr, hcl⟩
      rw [List.take_length] at ht ho
      refine ⟨_, _, _, ht.cell rfl, hl4, b, c, ?_, ?_⟩
      · simp [textE, textL, hm]
      · simp only [textL, hm]
        exact ho
  refine ⟨_, L2.cell 0 rfl rfl, cnd_of (fun h => ⟨_, L2.cell 0 rfl rfl, cnd_of (fun h2 => no ?_) fun h2 => tail ?_⟩) fun h => tail ?_⟩
  · have : x.ret = false := by simpa using h2
    simp [mayI, h, this]
  · have : x.ret = true := by simpa using h2
    simp [this]
  · simp [h]
theorem image_Check_ok {x : Img} (hx : ImOk x) {A1 A2 : Option Addr} {c1 c2 : Nat} {w : World} (hr : ImAt w A1 A2 x) : Calls Try.prog image_Check.N #[imgV A1 c1 A2 c2 x] w (Gives (i64v (textE x)) w) := by
  refine image_Check.calls ?_
  unfold image_Check.vc
  intro w1 h1
  have L := (Trk.start w).alloc h1
  refine ⟨_, _, _, _, _, _, _, _, _, ⟨L.cell 0 rfl rfl, L.cell 0 rfl rfl, L.cell 0 rfl rfl, L.cell 0 rfl rfl, L.cell 0 rfl rfl, trivial⟩, ?_⟩
  exact (image_Text_ok hx (hr.later L.to)).mono fun e w2 ⟨g2, b, c, he, ho⟩ => ⟨_, _, _, _, he, rfl, L.to.trans g2⟩
end Go.Proofs.Ytjoikaklincfoaa

/-
Images, third part: which bytes an image has (package image).
Conditions: an image's numbers are of their kinds, its rows of at most so many elements.
-/
namespace Go.Proofs.Ytjoikaklincfoaa
open Go Go.Vc Go.RowKit
set_option linter.unusedVariables false
set_option linter.unusedSimpArgs false
set_option linter.unnecessarySimpa false
set_option maxRecDepth 100000

def magicL : List Int := [83, 67, 82, 49]
def bitsH (h : Hd) : Int := bitsS h.buf h.sec h.mut_
def hdrL (x : Img) : List Int := magicL ++ [x.slots % 256, (x.params.length : Int) % 256]
def codeB (l : List Int) : List Int := l.flatMap fourL
def putB (x : Img) : List Int := hdrL x ++ x.params.map bitsH ++ [bitsS x.ret x.sec false] ++ fourL (x.code.length : Int) ++ codeB x.code
def putS (x : Img) : ByteArray := if mayI x = true then strOf (putB x) else ByteArray.mk #[]
theorem codeB_length : ∀ l : List Int, (codeB l).length = 4 * l.length
  | [] => rfl
  | a :: l => by
    have := codeB_length l
    simp only [codeB, List.flatMap_cons, List.length_append, List.length_cons] at this ⊢
    rw [this]
    simp [fourL]
    omega
theorem codeB_take (l : List Int) (k : Nat) (c : Int) (h : l[k]? = some c) : codeB (l.take k) ++ fourL c = codeB (l.take (k + 1)) := by
  rw [List.take_add_one, h]
  simp [codeB]
theorem putB_length (x : Img) : (putB x).length = 11 + x.params.length + 4 * x.code.length := by
  simp only [putB, hdrL, magicL, List.length_append, List.length_map, List.length_cons, List.length_nil, codeB_length]
  simp [fourL]
  omega
/-- Bytes of a constant, as a slice. -/
theorem const_start {w0 w w1 : World} (hl : Later w0 w) (e1 : w1 = w.alloc (.cells #[.int .u8 83, .int .u8 67, .int .u8 82, .int .u8 49] 5)) {K : Value → World → Prop}
    (hK : ∀ w2, Later w w2 → CellsAt w2 ⟨w.heap.size, 0, none⟩ 0 (rowC u8T magicL) → K (.slice (some ⟨w.heap.size, 0, none⟩) 4 4) w2) : RunsV Try.prog (convert 48 48 (.slice (some ⟨w.heap.size, 0, none⟩) 4 4)) w1 K := by
  subst e1
  refine RunsV_of (Lib.run_convert_bytes_const w 48 5 _ 4 4 rtU8.under (by kernel_rfl)) (hK _ (Later.alloc' _ _) ?_)
  exact CellsAt_new' w 5 _ _
/-- What is held while bytes are laid behind bytes. -/
structure Lay (w0 : World) (xb : Nat) (xc : List Value) (w : World) (b : Option Addr) (c : Nat) (l : List Int) : Prop where
  to : Later w0 w
  own : OwnE u8T w0 w 5 b c l
  hx : Has w xb xc
  ne : rowB b ≠ some xb
theorem Lay.later {w0 : World} {xb : Nat} {xc : List Value} {w w' : World} {b : Option Addr} {c : Nat} {l : List Int} (h : Lay w0 xb xc w b c l) (hl : Later w w') : Lay w0 xb xc w' b c l :=
  ⟨h.to.trans hl, OwnS.later h.own hl, h.hx.later hl, h.ne⟩
theorem Lay.push {w0 : World} {xb : Nat} {xc : List Value} {w w1 : World} {b : Option Addr} {c : Nat} {l : List Int} (h : Lay w0 xb xc w b c l) (m : Int) (hb : l.length ≤ 10000000) (e1 : w1 = w.alloc (.cells #[.int .u8 m] 5)) {K : Value → World → Prop}
    (hK : ∀ b' c' w', Lay w0 xb xc w' b' c' (l ++ [m]) → K (.slice b' (l ++ [m]).length c') w') : RunsV Try.prog (Builtin.append_ #[48, 48] 48 #[.slice b l.length c, .slice (some ⟨w.heap.size, 0, none⟩) 1 1]) w1 K := by
  refine OwnE.push 48 rtU8 m h.own h.to (by simp [maxLen]; omega) (by omega) e1 rfl fun b' c' w' ho hl hk => hK b' c' w' ⟨hl, ho, h.hx.kept (hk _ h.hx.lt h.ne).1, (hk _ h.hx.lt h.ne).2⟩
theorem Lay.four {w0 : World} {xb : Nat} {xc : List Value} {w : World} {b : Option Addr} {c : Nat} {l : List Int} (h : Lay w0 xb xc w b c l) {n : Int} (hn : W32 n) (hb : l.length ≤ 10000000) :
    Calls Try.prog image_four.N #[.slice b l.length c, u32v n] w fun e w' => ∃ b' c', e = .returned (.slice b' (l ++ fourL n).length c') ∧ Lay w0 xb xc w' b' c' (l ++ fourL n) :=
  (image_four_ok hn h.own h.to hb).mono fun e w' ⟨b', c', he, hl, ho, hk⟩ => ⟨b', c', he, hl, ho, h.hx.kept (hk _ h.hx.lt h.ne).1, (hk _ h.hx.lt h.ne).2⟩
/-- The start: the constant's bytes, and two behind them. -/
theorem Lay.start {w0 w w1 w2 : World} {xb : Nat} {xc : List Value} (hl : Later w0 w) (hx : Has w xb xc) (hw1 : Later w w1) (hc : CellsAt w1 ⟨w.heap.size, 0, none⟩ 0 (rowC u8T magicL)) {p q : Int} (e2 : w2 = w1.alloc (.cells #[.int .u8 p, .int .u8 q] 5)) {K : Value → World → Prop}
    (hK : ∀ b' c' w', Lay w0 xb xc w' b' c' (magicL ++ [p, q]) → K (.slice b' (magicL ++ [p, q]).length c') w') : RunsV Try.prog (Builtin.append_ #[48, 48] 48 #[.slice (some ⟨w.heap.size, 0, none⟩) 4 4, .slice (some ⟨w1.heap.size, 0, none⟩) 2 2]) w2 K := by
  have g2 : Later w1 w2 := e2 ▸ Later.alloc' _ _
  have hn : CellsAt w2 ⟨w1.heap.size, 0, none⟩ 0 (rowC u8T [p, q]) := by subst e2; exact CellsAt_new' w1 5 _ _
  have ho : CellsAt w2 ⟨w.heap.size, 0, none⟩ 0 (rowC u8T magicL) := by
    refine CellsAt_of_get fun j u hj => ?_
    exact g2.cell_some (CellsAt_get hc j u hj)
  refine OwnE.grow (l := magicL) (news := [p, q]) (w0 := w2) 48 rtU8 (Later.refl w2) ho hn (by simp [magicL]) (by simp [magicL, maxLen]) (by simp [magicL]) fun b' c' w' ho hl' => hK b' c' w' ⟨((hl.trans hw1).trans g2).trans hl', ho.weak (Later.size ((hl.trans hw1).trans g2)), ((hx.later hw1).later g2).later hl', fun h => ?_⟩
  have := (ho.lt h).1
  have := ((hx.later hw1).later g2).lt
  omega
set_option maxHeartbeats 6400000 in
theorem image_Put_ok {x : Img} (hx : ImOk x) {A1 A2 : Option Addr} {c1 c2 : Nat} {w : World} (hr : ImAt w A1 A2 x) : Calls Try.prog image_Put.N #[imgV A1 c1 A2 c2 x] w (Gives (.tuple #[.string (putS x), i64v (textE x)]) w) := by
  refine image_Put.calls ?_
  unfold image_Put.vc
  intro w1 h1
  have L := (Trk.start w).alloc h1
  refine ⟨_, _, _, _, _, _, _, _, _, ⟨L.cell 0 rfl rfl, L.cell 0 rfl rfl, L.cell 0 rfl rfl, L.cell 0 rfl rfl, L.cell 0 rfl rfl, trivial⟩, ?_⟩
  refine (image_Check_ok hx (hr.later L.to)).mono fun e w2 ⟨he, g2⟩ => ⟨_, he, ?_⟩
  have L := L.later g2
  have np := hx.np
  have nc := hx.nc
  cases hm : mayI x with
  | false =>
    refine cnd_true (by simp [textE, hm]) ⟨?_, L.to⟩
    simp [putS, textE, hm]
  | true =>
  refine cnd_false (by simp [textE, hm]) fun w3 h3 => ?_
  have hxc : Has w2 w.heap.size (imgC A1 c1 A2 c2 x) := L.has 0 rfl
  refine const_start L.to h3 fun w4 g4 hcs => ⟨_, _, _, rfl, ?_⟩
  have hx4 := hxc.later g4
  refine ⟨_, hx4.cell rfl, _, _, _, hx4.cell rfl, fun w5 h5 => ?_⟩
  rw [u8_wrap, u8_wrap] at h5
  refine Lay.start L.to hxc g4 hcs h5 fun b c w6 y6 => ⟨_, _, _, rfl, _, _, _, y6.hx.cell rfl, ?_⟩
  refine ⟨fun vs w' => ∃ (k : Nat) (b : Option Addr) (c : Nat), k ≤ x.params.length ∧ vs = [.slice b (hdrL x ++ (x.params.take k).map bitsH).length c, i64v k] ∧ Lay w w.heap.size (imgC A1 c1 A2 c2 x) w' b c (hdrL x ++ (x.params.take k).map bitsH),
    fun vs _ => match vs with | [_, .int _ n] => x.params.length - n.toNat | _ => 0, ⟨0, b, c, by omega, by simp [hdrL], by simpa [hdrL] using y6⟩, ?_⟩
  rintro g b bn bc s w7 ⟨k, b', c', hk, hs, y7⟩
  simp only [List.cons.injEq, Value.int.injEq, Value.slice.injEq, true_and, and_true] at hs
  obtain ⟨⟨rfl, rfl, rfl⟩, rfl⟩ := hs
  have hlen : (hdrL x ++ (x.params.take k).map bitsH).length ≤ 2000 := by
    simp only [hdrL, magicL, List.length_append, List.length_map, List.length_take, List.length_cons, List.length_nil]
    omega
  refine cnd_of (fun h => ?_) fun h => ?_
  · have hlt : k < x.params.length := by simp only [decide_eq_true_eq] at h; omega
    have hg := List.getElem?_eq_getElem hlt
    generalize x.params[k] = m at hg
    obtain ⟨ad, hA, hc⟩ := (hr.1.later y7.to) k _ hg
    refine ⟨⟨by omega, by omega⟩, Deref_some hA ⟨m.buf, m.sec, m.mut_, m.d, m.len, ⟨?_, hc 1 _ rfl, hc 2 _ rfl, hc 3 _ rfl, hc 4 _ rfl, trivial⟩, fun w8 h8 => ?_⟩⟩
    · have := hc 0 _ rfl
      rw [addr_add_zero] at this
      exact this
    have M := (Trk.start w7).alloc h8
    refine M.setAll (l := hdC m) 0 rfl rfl (ones rfl) fun w9 M => ?_
    refine ⟨_, M.cell 0 rfl rfl, _, M.cell 0 rfl rfl, _, M.cell 0 rfl rfl, fun w10 h10 => ?_⟩
    have hb3 : ERow boolT1 w10 (some ⟨w9.heap.size, 0, none⟩) [m.buf, m.sec, m.mut_] := Has.erow (((Trk.start w9).alloc h10).has 0 rfl)
    refine (image_bits_ok [m.buf, m.sec, m.mut_] (by simp) hb3 (c := 3)).mono fun e w11 ⟨he, e11⟩ => ⟨_, he, fun w12 h12 => ?_⟩
    rw [bits3] at h12
    have g10 : Later w7 w10 := M.to.trans (h10 ▸ Later.alloc' _ _)
    have y11 : Lay w w.heap.size (imgC A1 c1 A2 c2 x) w11 b _ _ := e11 ▸ y7.later g10
    refine y11.push (bitsH m) (by omega) h12 fun b' c' w13 y13 => ⟨_, _, _, rfl, ?_⟩
    have htk : hdrL x ++ (x.params.take k).map bitsH ++ [bitsH m] = hdrL x ++ (x.params.take (k + 1)).map bitsH := by
      rw [List.take_add_one, hg]
      simp
    rw [htk] at y13 ⊢
    have hw : IntKind.i64.wrap ((k : Int) + 1) = ((k + 1 : Nat) : Int) := by rw [i64_in (by omega) (by omega)]; omega
    rw [hw]
    exact ⟨⟨k + 1, b', c', by omega, rfl, y13⟩, by show x.params.length - ((k + 1 : Nat) : Int).toNat < x.params.length - ((k : Nat) : Int).toNat; omega⟩
  have hkn : k = x.params.length := by simp only [decide_eq_false_iff_not] at h; omega
  subst hkn
  rw [List.take_length] at y7 hlen ⊢
  refine ⟨fun w' => Has w' w.heap.size (imgC A1 c1 A2 c2 x), fun w' h => y7.hx.later h, fun w8 h8 => ?_⟩
  refine ⟨_, fun w' h => h.cell rfl, _, fun w' h => h.cell rfl, _, _, _, fun w' h => h.cell rfl, fun w9 h9 => ?_⟩
  have y8 := y7.later h8
  have g9 : Later w8 w9 := h9 ▸ Later.alloc' _ _
  have y9 := y8.later g9
  have hb2 : ERow boolT1 w9 (some ⟨w8.heap.size, 0, none⟩) [x.ret, x.sec] := Has.erow (((Trk.start w8).alloc h9).has 0 rfl)
  refine ⟨y9.hx, (image_bits_ok [x.ret, x.sec] (by simp) hb2 (c := 2)).mono fun e w10 ⟨he, e10⟩ => ⟨_, he, e10 ▸ y9.hx, fun w11 h11 => ?_⟩⟩
  rw [bits2] at h11
  have y10 : Lay w w.heap.size (imgC A1 c1 A2 c2 x) w10 b _ _ := e10 ▸ y9
  have g11 : Later w10 w11 := h11 ▸ Later.alloc' _ _
  refine ⟨(y10.later g11).hx, y10.push _ (by omega) h11 fun b2 cc2 w12 y12 => ⟨_, _, _, rfl, y12.hx, ?_⟩⟩
  have hW : IntKind.u32.wrap ((x.code.length : Nat) : Int) = (x.code.length : Int) := u32_in (by omega) (by omega)
  rw [hW]
  refine (y12.four (n := (x.code.length : Int)) ⟨by omega, by omega⟩ (by rw [List.length_append, List.length_singleton]; omega)).mono fun e w13 ⟨b3, cc3, he, y13⟩ => ⟨_, _, _, he, y13.hx, _, _, _, y13.hx.cell rfl, ?_⟩
  generalize hpre : hdrL x ++ x.params.map bitsH ++ [bitsS x.ret x.sec false] ++ fourL (x.code.length : Int) = pre at y13 ⊢
  have hprel : pre.length ≤ 3000 := by
    rw [← hpre]
    simp only [List.length_append, List.length_map] at hlen ⊢
    simp [fourL]
    omega
  refine ⟨fun vs w' => ∃ (k : Nat) (b : Option Addr) (c : Nat), k ≤ x.code.length ∧ vs = [.slice b (pre ++ codeB (x.code.take k)).length c, i64v k] ∧ Lay w w.heap.size (imgC A1 c1 A2 c2 x) w' b c (pre ++ codeB (x.code.take k)),
    fun vs _ => match vs with | [_, .int _ n] => x.code.length - n.toNat | _ => 0, ⟨0, b3, cc3, by omega, by simp [codeB], by simpa [codeB] using y13⟩, ?_⟩
  rintro g b bn bc s w14 ⟨k, b', c', hk, hs, y14⟩
  simp only [List.cons.injEq, Value.int.injEq, Value.slice.injEq, true_and, and_true] at hs
  obtain ⟨⟨rfl, rfl, rfl⟩, rfl⟩ := hs
  have hlen2 : (pre ++ codeB (x.code.take k)).length ≤ 1000000 := by
    rw [List.length_append, codeB_length, List.length_take]
    omega
  refine cnd_of (fun h => ?_) fun h => ?_
  · have hlt : k < x.code.length := by simp only [decide_eq_true_eq] at h; omega
    have hg := List.getElem?_eq_getElem hlt
    generalize x.code[k] = m at hg
    obtain ⟨ad, hA, hc⟩ := (hr.2.later y14.to) k _ hg
    refine ⟨⟨by omega, by omega⟩, Deref_some hA ⟨m, ?_, ?_⟩⟩
    · have := hc 0 _ rfl
      rw [addr_add_zero] at this
      exact this
    refine (y14.four (hx.code m (List.mem_of_getElem? hg)) (by omega)).mono fun e w15 ⟨b4, cc4, he, y15⟩ => ⟨_, _, _, he, ?_⟩
    rw [List.append_assoc, codeB_take _ _ _ hg] at y15 ⊢
    have hw : IntKind.i64.wrap ((k : Int) + 1) = ((k + 1 : Nat) : Int) := by rw [i64_in (by omega) (by omega)]; omega
    rw [hw]
    exact ⟨⟨k + 1, b4, cc4, by omega, rfl, y15⟩, by show x.code.length - ((k + 1 : Nat) : Int).toNat < x.code.length - ((k : Nat) : Int).toNat; omega⟩
  · have hkn : k = x.code.length := by simp only [decide_eq_false_iff_not] at h; omega
    subst hkn
    rw [List.take_length] at y14 ⊢
    have hfin : pre ++ codeB x.code = putB x := by rw [← hpre]; rfl
    rw [hfin] at y14 ⊢
    have ho := y14.own
    unfold OwnE at ho
    rw [rowC_u8] at ho
    refine RunsV_own_string rtU8.under (by kernel_rfl) (by kernel_rfl) ho (by rw [putB_length]; omega) ⟨_, rfl, ?_, y14.to⟩
    simp [putS, textE, hm]
end Go.Proofs.Ytjoikaklincfoaa

/-
'==' of two structs whose fields are numbers, bools or texts, of one cell each.
Conditions: closed facts of the struct's type; the cells are of the fields' kinds.
-/
namespace Go.Vc
open Go.RowKit
set_option linter.unusedVariables false
set_option linter.unusedSimpArgs false
set_option linter.unnecessarySimpa false

def eq1 : Value → Value → Bool
  | .int _ a, .int _ b => a == b
  | .bool a, .bool b => a == b
  | .string a, .string b => a.toList == b.toList
  | _, _ => false
def eqL : List Value → List Value → Bool
  | v :: vs, u :: us => eq1 v u && eqL vs us
  | _, _ => true
/-- Two cells of a type: numbers of its kind, bools, texts. -/
def ty2 (P : Program) (t : TypeId) (v u : Value) : Bool :=
  match P.underlying t, v, u with
  | some (.int k), .int k1 _, .int k2 _ => decide (k = k1) && decide (k = k2)
  | some .bool, .bool _, .bool _ => true
  | some .string, .string _, .string _ => true
  | _, _, _ => false
def flatL (P : Program) : Nat → List Field → List Value → List Value → Bool
  | _, [], [], [] => true
  | k, f :: fs, v :: vs, u :: us => !(f.name == "_") && Nat.beq f.offset k && ty2 P f.type v u && flatL P (k + 1) fs vs us
  | _, _, _, _ => false
theorem ty2_run {P : Program} {t : TypeId} {v u : Value} (h : ty2 P t v u = true) (d : Nat) (w : World) : (isAgg t).run P w = .ok false w ∧ (Op.equalIn (d + 1) t v u).run P w = .ok (eq1 v u) w := by
  unfold ty2 at h
  split at h
  · rename_i k k1 a k2 b hu
    simp only [Bool.and_eq_true, decide_eq_true_eq] at h
    obtain ⟨rfl, rfl⟩ := h
    exact ⟨by rw [run_isAgg hu]; simp [isAggT, hu], run_equalIn_int w d t _ _ a b hu⟩
  · rename_i a b hu
    exact ⟨by rw [run_isAgg hu]; simp [isAggT, hu], run_equalIn_bool' w d t a b hu⟩
  · rename_i a b hu
    exact ⟨by rw [run_isAgg hu]; simp [isAggT, hu], run_equalIn_string w d t a b hu⟩
  · cases h
theorem flat_run {P : Program} (d : Nat) (w : World) (xs ys : Array Value) : ∀ (fs : List Field) (k : Nat) (vs us : List Value), (∀ i, xs[k + i]? = vs[i]?) → (∀ i, ys[k + i]? = us[i]?) → flatL P k fs vs us = true →
    (Op.eqFields (d + 1) xs ys fs).run P w = .ok (eqL vs us) w := by
  intro fs
  induction fs with
  | nil =>
    intro k vs us _ _ h
    cases vs <;> cases us <;> first | (simp [Op.eqFields, eqL]; done) | (simp [flatL] at h)
  | cons f fs ih =>
    intro k vs us hx hy h
    cases vs with
    | nil => simp [flatL] at h
    | cons v vs =>
      cases us with
      | nil => simp [flatL] at h
      | cons u us =>
        simp only [flatL, Bool.and_eq_true, Bool.not_eq_true'] at h
        obtain ⟨⟨⟨hn, ho⟩, ht⟩, hr⟩ := h
        have ho : f.offset = k := Nat.eq_of_beq_eq_true ho
        obtain ⟨h1, h2⟩ := ty2_run ht d w
        have hv : xs[f.offset]? = some v := by have := hx 0; rw [ho]; simpa using this
        have hu : ys[f.offset]? = some u := by have := hy 0; rw [ho]; simpa using this
        have hn' : f.name ≠ "_" := by simpa using hn
        have := ih (k + 1) vs us (fun i => by have := hx (i + 1); simpa [Nat.add_assoc, Nat.add_comm 1 i] using this) (fun i => by have := hy (i + 1); simpa [Nat.add_assoc, Nat.add_comm 1 i] using this) hr
        simp only [Op.eqFields, if_pos hn', Sem.run_bind, part, h1, Result.andThen_ok, Bool.false_eq_true, if_false, hv, hu, Sem.run_pure, h2, Sem.run_ite, this, eqL]
        cases eq1 v u <;> simp
theorem eq_flat {P : Program} {t : TypeId} {fs : Array Field} {vs us : List Value} (xo yo : Operand) (hu : P.underlying t = some (.struct fs)) (hp : P.stoodInHeld t = false) (hm : P.eqGuardType P.depth t = false) (h : flatL P 0 fs.toList vs us = true) :
    EqRuns P .eql t xo yo (.agg vs.toArray) (.agg us.toArray) (eqL vs us) ∧ EqRuns P .neq t xo yo (.agg vs.toArray) (.agg us.toArray) (!eqL vs us) := by
  have hf : P.fieldsOf t = fs := by simp [Program.fieldsOf, hu]
  have main : ∀ w : World, (Op.equalIn 10000 t (.agg vs.toArray) (.agg us.toArray)).run P w = .ok (eqL vs us) w := fun w => by
    rw [show (10000 : Nat) = 9998 + 1 + 1 from rfl, run_equalIn_struct w (9998 + 1) t _ _ (by rw [hf]; exact hu) hp, hf]
    exact flat_run 9998 w _ _ _ 0 vs us (by simp) (by simp) h
  constructor
  · intro w
    simp only [Sem.run_bind, run_eqGuard_agg w .eql t xo yo _ _ hm, Result.andThen_ok, run_eql_struct, main w]
  · intro w
    simp only [Sem.run_bind, run_eqGuard_agg w .neq t xo yo _ _ hm, Result.andThen_ok, run_neq_struct, main w]
/-- As flatL, and a field may be a struct of such fields. -/
def flat2 (P : Program) : Nat → List Field → List Value → List Value → Bool
  | _, [], [], [] => true
  | _, [], _, _ => false
  | k, f :: fs, vs, us => !(f.name == "_") && Nat.beq f.offset k && (match P.underlying f.type with
    | some (.struct gs) => (match cellsT P f.type with
      | some n => isAggT P f.type && !P.stoodInHeld f.type && Nat.ble n vs.length && Nat.ble n us.length && flatL P 0 gs.toList (vs.take n) (us.take n) && flat2 P (k + n) fs (vs.drop n) (us.drop n)
      | none => false)
    | _ => (match vs, us with
      | v :: vs, u :: us => ty2 P f.type v u && flat2 P (k + 1) fs vs us
      | _, _ => false))
theorem eqL_split : ∀ (n : Nat) (vs us : List Value), n ≤ vs.length → n ≤ us.length → eqL vs us = (eqL (vs.take n) (us.take n) && eqL (vs.drop n) (us.drop n))
  | 0, vs, us, _, _ => by simp [eqL]
  | n + 1, [], us, h, _ => by simp at h
  | n + 1, _ :: _, [], _, h => by simp at h
  | n + 1, v :: vs, u :: us, h, h' => by
    simp only [List.length_cons, Nat.add_le_add_iff_right] at h h'
    simp only [eqL, List.take_succ_cons, List.drop_succ_cons, eqL_split n vs us h h', Bool.and_assoc]
theorem flat2_run {P : Program} (d : Nat) (w : World) (xs ys : Array Value) : ∀ (fs : List Field) (k : Nat) (vs us : List Value), (∀ i, xs[k + i]? = vs[i]?) → (∀ i, ys[k + i]? = us[i]?) → flat2 P k fs vs us = true →
    (Op.eqFields (d + 1 + 1) xs ys fs).run P w = .ok (eqL vs us) w := by
  intro fs
  induction fs with
  | nil =>
    intro k vs us _ _ h
    cases vs <;> cases us <;> first | (simp [Op.eqFields, eqL]; done) | (simp [flat2] at h)
  | cons f fs ih =>
    intro k vs us hx hy h
    unfold flat2 at h
    simp only [Bool.and_eq_true, Bool.not_eq_true'] at h
    obtain ⟨⟨hn, ho⟩, h⟩ := h
    have ho : f.offset = k := Nat.eq_of_beq_eq_true ho
    have hn' : f.name ≠ "_" := by simpa using hn
    split at h
    · rename_i gs hu
      split at h
      · rename_i n hc
        simp only [Bool.and_eq_true, Bool.not_eq_true'] at h
        obtain ⟨⟨⟨⟨⟨ha, hp⟩, hlv⟩, hlu⟩, hin⟩, hr⟩ := h
        have hlv := Nat.le_of_ble_eq_true hlv
        have hlu := Nat.le_of_ble_eq_true hlu
        have hfo : P.fieldsOf f.type = gs := by simp [Program.fieldsOf, hu]
        have get : ∀ (zs : Array Value) (ls : List Value), (∀ i, zs[k + i]? = ls[i]?) → n ≤ ls.length → zs.extract k (k + n) = (ls.take n).toArray := by
          intro zs ls hz hl
          apply Array.ext_getElem?
          intro i
          rw [Array.getElem?_extract]
          by_cases hi : i < n
          · have := hz i
            have hb : ls[i]? = some ls[i] := List.getElem?_eq_getElem (by omega)
            have hzk : k + i < zs.size := by
              rw [hb] at this
              exact (Array.getElem?_eq_some_iff.1 this).1
            rw [if_pos (by omega), this]
            simp [List.getElem?_take, hi]
          · have hzs : ¬ i < min (k + n) zs.size - k := by omega
            rw [if_neg hzs]
            simp [List.getElem?_take, hi]
        have px : (part f.type xs f.offset).run P w = .ok (.agg (vs.take n).toArray) w := by
          rw [ho, ← get xs vs hx hlv]
          simp [part, run_isAgg hu, ha, run_sizeOf hc]
        have py : (part f.type ys f.offset).run P w = .ok (.agg (us.take n).toArray) w := by
          rw [ho, ← get ys us hy hlu]
          simp [part, run_isAgg hu, ha, run_sizeOf hc]
        have he : (Op.equalIn (d + 1 + 1) f.type (.agg (vs.take n).toArray) (.agg (us.take n).toArray)).run P w = .ok (eqL (vs.take n) (us.take n)) w := by
          rw [run_equalIn_struct w (d + 1) f.type _ _ (by rw [hfo]; exact hu) hp, hfo]
          exact flat_run d w _ _ _ 0 _ _ (by simp) (by simp) hin
        have := ih (k + n) (vs.drop n) (us.drop n) (fun i => by rw [Nat.add_assoc, hx]; simp) (fun i => by rw [Nat.add_assoc, hy]; simp) hr
        rw [eqL_split n vs us hlv hlu]
        simp only [Op.eqFields, if_pos hn', Sem.run_bind, px, py, Result.andThen_ok, he, Sem.run_ite, Sem.run_pure, this]
        cases eqL (vs.take n) (us.take n) <;> simp
      · cases h
    · split at h
      · rename_i v vs' u us'
        simp only [Bool.and_eq_true] at h
        obtain ⟨ht, hr⟩ := h
        obtain ⟨h1, h2⟩ := ty2_run ht (d + 1) w
        have hv : xs[f.offset]? = some v := by have := hx 0; rw [ho]; simpa using this
        have hu : ys[f.offset]? = some u := by have := hy 0; rw [ho]; simpa using this
        have := ih (k + 1) vs' us' (fun i => by have := hx (i + 1); simpa [Nat.add_assoc, Nat.add_comm 1 i] using this) (fun i => by have := hy (i + 1); simpa [Nat.add_assoc, Nat.add_comm 1 i] using this) hr
        simp only [Op.eqFields, if_pos hn', Sem.run_bind, part, h1, Result.andThen_ok, Bool.false_eq_true, if_false, hv, hu, Sem.run_pure, h2, Sem.run_ite, this, eqL]
        cases eq1 v u <;> simp
      · cases h
theorem eq_flat2 {P : Program} {t : TypeId} {fs : Array Field} {vs us : List Value} (xo yo : Operand) (hu : P.underlying t = some (.struct fs)) (hp : P.stoodInHeld t = false) (hm : P.eqGuardType P.depth t = false) (h : flat2 P 0 fs.toList vs us = true) :
    EqRuns P .eql t xo yo (.agg vs.toArray) (.agg us.toArray) (eqL vs us) ∧ EqRuns P .neq t xo yo (.agg vs.toArray) (.agg us.toArray) (!eqL vs us) := by
  have hf : P.fieldsOf t = fs := by simp [Program.fieldsOf, hu]
  have main : ∀ w : World, (Op.equalIn 10000 t (.agg vs.toArray) (.agg us.toArray)).run P w = .ok (eqL vs us) w := fun w => by
    rw [show (10000 : Nat) = 9997 + 1 + 1 + 1 from rfl, run_equalIn_struct w (9997 + 1 + 1) t _ _ (by rw [hf]; exact hu) hp, hf]
    exact flat2_run 9997 w _ _ _ 0 vs us (by simp) (by simp) h
  constructor
  · intro w
    simp only [Sem.run_bind, run_eqGuard_agg w .eql t xo yo _ _ hm, Result.andThen_ok, run_eql_struct, main w]
  · intro w
    simp only [Sem.run_bind, run_eqGuard_agg w .neq t xo yo _ _ hm, Result.andThen_ok, run_neq_struct, main w]
end Go.Vc

/-
Images, fourth part: the reference's Words, May, Copy, Same, Put.
Conditions: an image's numbers are of their kinds, its rows of at most so many elements.
-/
namespace Go.Proofs.Ytjoikaklincfoaa
open Go Go.Vc Go.RowKit
set_option linter.unusedVariables false
set_option linter.unusedSimpArgs false
set_option linter.unnecessarySimpa false
set_option maxRecDepth 100000

theorem ref30_Words_ok {l : List Hd} (hn : l.length ≤ 1000) {A : Option Addr} {c : Nat} {w : World} (hr : ERow hdT w A l) : Calls Try.prog ref30_Words.N #[.slice A l.length c] w (Gives (i64v (wordsL l)) w) := by
  refine ref30_Words.calls ?_
  unfold ref30_Words.vc
  refine ⟨fun vs w' => ∃ k : Nat, k ≤ l.length ∧ vs = [i64v (wordsL (l.take k)), i64v k] ∧ w' = w, fun vs _ => match vs with | [_, .int _ n] => l.length - n.toNat | _ => 0, ⟨0, by omega, rfl, rfl⟩, ?_⟩
  rintro g n i w' ⟨k, hk, hs, rfl⟩
  simp only [List.cons.injEq, Value.int.injEq, true_and, and_true] at hs
  obtain ⟨rfl, rfl⟩ := hs
  refine cnd_of (fun h => ?_) fun h => ?_
  · have hlt : k < l.length := by simp only [decide_eq_true_eq] at h; omega
    have hg := List.getElem?_eq_getElem hlt
    generalize l[k] = m at hg
    have st := wordsL_take l k m hg
    have wr := wordsL_range (l.take k)
    have hle := List.length_take_le k l
    obtain ⟨ad, hA, hc⟩ := hr k _ hg
    have hw : IntKind.i64.wrap ((k : Int) + 1) = ((k + 1 : Nat) : Int) := by rw [i64_in (by omega) (by omega)]; omega
    rw [hw]
    have fin : Goes (fun vs w'' => ∃ k : Nat, k ≤ l.length ∧ vs = [i64v (wordsL (l.take k)), i64v k] ∧ w'' = w') (fun vs _ => match vs with | [_, .int _ n] => l.length - n.toNat | _ => 0) [i64v (wordsL (l.take k)), i64v k] w' [i64v (wordsL (l.take (k + 1))), i64v ((k + 1 : Nat) : Int)] w' :=
      ⟨⟨k + 1, by omega, rfl, rfl⟩, by show l.length - ((k + 1 : Nat) : Int).toNat < l.length - ((k : Nat) : Int).toNat; omega⟩
    refine ⟨⟨by omega, by omega⟩, Deref_some hA ⟨m.buf, ?_, cnd_of (fun hb => ?_) fun hb => ?_⟩⟩
    · have := hc 0 _ rfl
      rw [addr_add_zero] at this
      exact this
    · rw [i64_in (x := wordsL (l.take k) + 1) (by omega) (by omega), i64_in (by omega) (by omega)]
      rw [if_pos hb] at st
      rw [show wordsL (l.take k) + 1 + 1 = wordsL (l.take (k + 1)) by omega]
      exact fin
    · rw [i64_in (x := wordsL (l.take k) + 1) (by omega) (by omega)]
      rw [if_neg (by simp [hb])] at st
      rw [← st]
      exact fin
  · have hkn : k = l.length := by simp only [decide_eq_false_iff_not] at h; omega
    subst hkn
    exact ⟨by rw [List.take_length], Later.refl _⟩
def frontI (x : Img) : Bool := decide (0 ≤ x.slots ∧ x.slots ≤ 255) && (decide (wordsL x.params ≤ 8) && (!(x.sec && !x.ret) && decide (1 ≤ x.code.length ∧ x.code.length ≤ 131072)))
theorem words_ge : ∀ l : List Hd, (l.length : Int) ≤ wordsL l
  | [] => by simp [wordsL]
  | h :: l => by
    have := words_ge l
    simp only [wordsL, List.length_cons]
    split <;> omega
theorem mayI_eq (x : Img) : mayI x = (x.params.all okH && (frontI x && x.code.all fun c => decide (decE c = 0))) := by
  unfold mayI frontI
  cases x.params.all okH <;> cases decide (0 ≤ x.slots ∧ x.slots ≤ 255) <;> cases decide (wordsL x.params ≤ 8) <;> cases (!(x.sec && !x.ret)) <;> cases decide (1 ≤ x.code.length ∧ x.code.length ≤ 131072) <;> rfl
set_option maxHeartbeats 6400000 in
theorem ref30_May_ok {x : Img} (hx : ImOk x) {A1 A2 : Option Addr} {c1 c2 : Nat} {w : World} (hr : ImAt w A1 A2 x) : Calls Try.prog ref30_May.N #[imgV A1 c1 A2 c2 x] w (Gives (.bool (mayI x)) w) := by
  refine ref30_May.calls ?_
  unfold ref30_May.vc
  intro w1 h1
  have L := (Trk.start w).alloc h1
  have np := hx.np
  have nc := hx.nc
  refine ⟨fun vs w' => vs = [.bool (!(frontI x))] ∧ Later w1 w', ?_, ?_⟩
  · have bad : frontI x = false → ∀ w', Later w1 w' → ([Value.bool true] : List Value) = [.bool (!(frontI x))] ∧ Later w1 w' := fun h w' hl => ⟨by rw [h]; rfl, hl⟩
    refine ⟨_, L.cell 0 rfl rfl, cnd_of (fun h => bad ?_ _ (Later.refl _)) fun h1 => ⟨_, L.cell 0 rfl rfl, cnd_of (fun h => bad ?_ _ (Later.refl _)) fun h2 => ⟨_, _, _, L.cell 0 rfl rfl, cnd_of (fun h => bad ?_ _ (Later.refl _)) fun h3 => ⟨_, _, _, L.cell 0 rfl rfl, ?_⟩⟩⟩⟩
    · have h : x.slots < 0 := by simpa using h
      have : ¬ (0 ≤ x.slots ∧ x.slots ≤ 255) := by omega
      simp [frontI, this]
    · have h : x.slots > 255 := by simpa using h
      have : ¬ (0 ≤ x.slots ∧ x.slots ≤ 255) := by omega
      simp [frontI, this]
    · have h : (x.params.length : Int) > 8 := by simpa using h
      have := words_ge x.params
      have : ¬ wordsL x.params ≤ 8 := by omega
      simp [frontI, this]
    refine (ref30_Words_ok hx.np (hr.1.later L.to)).mono fun e w2 ⟨he, g2⟩ => ⟨_, he, cnd_of (fun h => bad ?_ _ g2) fun h4 => ?_⟩
    · have h : wordsL x.params > 8 := by simpa using h
      have : ¬ wordsL x.params ≤ 8 := by omega
      simp [frontI, this]
    have L2 := L.later g2
    have e1 : 0 ≤ x.slots ∧ x.slots ≤ 255 := by
      have a : ¬ x.slots < 0 := by simpa using h1
      have b : ¬ x.slots > 255 := by simpa using h2
      omega
    have e2 : wordsL x.params ≤ 8 := by
      have a : ¬ wordsL x.params > 8 := by simpa using h4
      omega
    have tl : (!(x.sec && !x.ret)) = true → ∃ (p : Option Addr) (n : Nat) (c : Nat), w2.cell? ⟨w.heap.size, 4, none⟩ = some (.slice p n c) ∧ cnd (decide ((n : Int) < 1)) (([Value.bool true] : List Value) = [.bool (!(frontI x))] ∧ Later w1 w2)
        (∃ (p : Option Addr) (n : Nat) (c : Nat), w2.cell? ⟨w.heap.size, 4, none⟩ = some (.slice p n c) ∧ (([Value.bool (decide ((n : Int) > 131072))] : List Value) = [.bool (!(frontI x))] ∧ Later w1 w2)) := by
      intro hsr
      refine ⟨_, _, _, L2.cell 0 rfl rfl, cnd_of (fun h => bad ?_ _ g2) fun h => ⟨_, _, _, L2.cell 0 rfl rfl, bl ?_, g2⟩⟩
      · have h : (x.code.length : Int) < 1 := by simpa using h
        have : ¬ (1 ≤ x.code.length ∧ x.code.length ≤ 131072) := by omega
        simp [frontI, this]
      · have h : ¬ (x.code.length : Int) < 1 := by simpa using h
        rw [frontI, hsr, decide_eq_true e1, decide_eq_true e2]
        simp only [Bool.true_and, Bool.not_eq_true', decide_eq_false_iff_not, decide_eq_true_eq]
        omega
    refine ⟨_, L2.cell 0 rfl rfl, cnd_of (fun h => ⟨_, L2.cell 0 rfl rfl, cnd_of (fun h2 => bad ?_ _ g2) fun h2 => tl ?_⟩) fun h => tl ?_⟩
    · have : x.ret = false := by simpa using h2
      simp [frontI, h, this]
    · have : x.ret = true := by simpa using h2
      simp [this]
    · simp [h]
  rintro g s w2 ⟨hs, g2⟩
  simp only [List.cons.injEq, Value.bool.injEq, and_true] at hs
  subst hs
  have L2 := L.later g2
  refine cnd_of (fun h => ⟨?_, L2.to⟩) fun hf => ?_
  · have : frontI x = false := by simpa using h
    rw [mayI_eq, this]
    simp
  have hf : frontI x = true := by simpa using hf
  refine ⟨fun vs w' => ∃ k : Nat, k ≤ x.params.length ∧ vs = [i64v k] ∧ (∀ i h, i < k → x.params[i]? = some h → okH h = true) ∧ Later w1 w', fun vs _ => match vs with | [.int _ n] => x.params.length - n.toNat | _ => 0, ⟨0, by omega, rfl, fun i h hi => by omega, g2⟩, ?_⟩
  rintro g s w3 ⟨k, hk, hs, hok, g3⟩
  simp only [List.cons.injEq, Value.int.injEq, true_and, and_true] at hs
  subst hs
  have L3 := L.later g3
  refine ⟨_, _, _, L3.cell 0 rfl rfl, cnd_of (fun h => ?_) fun h => ?_⟩
  · have hlt : k < x.params.length := by simp only [decide_eq_true_eq] at h; omega
    have hg := List.getElem?_eq_getElem hlt
    generalize x.params[k] = m at hg
    obtain ⟨ad, hA, hc⟩ := (hr.1.later (L3.to)) k _ hg
    refine ⟨_, _, _, L3.cell 0 rfl rfl, ⟨by omega, by omega⟩, Deref_some hA ⟨m.buf, m.sec, m.mut_, m.d, m.len, ⟨?_, hc 1 _ rfl, hc 2 _ rfl, hc 3 _ rfl, hc 4 _ rfl, trivial⟩, fun w4 h4 => ?_⟩⟩
    · have := hc 0 _ rfl
      rw [addr_add_zero] at this
      exact this
    have M := (Trk.here g3).alloc h4
    refine M.setAll (l := hdC m) 0 rfl rfl (ones rfl) fun w5 M => ?_
    have g5 : Later w1 w5 := M.to
    have no : okH m = false → Gives (.bool (mayI x)) w (.returned (.bool false)) w5 := fun h => ⟨by rw [bad_param hg h], L.to.trans g5⟩
    have hw : IntKind.i64.wrap ((k : Int) + 1) = ((k + 1 : Nat) : Int) := by rw [i64_in (by omega) (by omega)]; omega
    have go : okH m = true → Goes (fun vs w' => ∃ k : Nat, k ≤ x.params.length ∧ vs = [i64v k] ∧ (∀ i h, i < k → x.params[i]? = some h → okH h = true) ∧ Later w1 w') (fun vs _ => match vs with | [.int _ n] => x.params.length - n.toNat | _ => 0)
        [i64v k] w3 [i64v (IntKind.i64.wrap ((k : Int) + 1))] w5 := by
      intro hokm
      rw [hw]
      refine ⟨⟨k + 1, by omega, rfl, fun i h hi hh => ?_, g5⟩, by show x.params.length - ((k + 1 : Nat) : Int).toNat < x.params.length - ((k : Nat) : Int).toNat; omega⟩
      by_cases hik : i = k
      · subst hik
        rw [hg] at hh
        obtain rfl := Option.some.inj hh
        exact hokm
      · exact hok i h (by omega) hh
    refine ⟨_, M.cell 0 rfl rfl, cnd_of (fun h => no ?_) fun h => ⟨_, M.cell 0 rfl rfl, cnd_of (fun h2 => no ?_) fun h2 => ⟨_, M.cell 0 rfl rfl, cnd_of (fun h3 => ⟨_, M.cell 0 rfl rfl, cnd_of (fun h4 => no ?_) fun h4 => go ?_⟩) fun h3 => go ?_⟩⟩⟩
    · have : ¬ m.d = 0 := by simpa using h
      simp [okH, this]
    · have : ¬ m.len = 0 := by simpa using h2
      simp [okH, this]
    · have : m.buf = false := by simpa using h4
      simp [okH, h3, this]
    · have e1 : m.d = 0 := by simpa using h
      have e2 : m.len = 0 := by simpa using h2
      have e3 : m.buf = true := by simpa using h4
      simp [okH, e1, e2, e3]
    · have e1 : m.d = 0 := by simpa using h
      have e2 : m.len = 0 := by simpa using h2
      simp [okH, e1, e2, h3]
  have hkn : k = x.params.length := by simp only [decide_eq_false_iff_not] at h; omega
  subst hkn
  have hokP : x.params.all okH = true := all_of fun i h hi => hok i h (List.getElem?_eq_some_iff.1 hi).1 hi
  refine ⟨fun vs w' => ∃ k : Nat, k ≤ x.code.length ∧ vs = [i64v k] ∧ (∀ i c, i < k → x.code[i]? = some c → decE c = 0) ∧ Later w1 w', fun vs _ => match vs with | [.int _ n] => x.code.length - n.toNat | _ => 0, ⟨0, by omega, rfl, fun i h hi => by omega, g3⟩, ?_⟩
  rintro g s w4 ⟨k, hk, hs, hdk, g4⟩
  simp only [List.cons.injEq, Value.int.injEq, true_and, and_true] at hs
  subst hs
  have L4 := L.later g4
  refine ⟨_, _, _, L4.cell 0 rfl rfl, cnd_of (fun h => ?_) fun h => ?_⟩
  · have hlt : k < x.code.length := by simp only [decide_eq_true_eq] at h; omega
    have hg := List.getElem?_eq_getElem hlt
    generalize x.code[k] = m at hg
    obtain ⟨ad, hA, hc⟩ := (hr.2.later L4.to) k _ hg
    refine ⟨_, _, _, L4.cell 0 rfl rfl, ⟨by omega, by omega⟩, Deref_some hA ⟨m, ?_, ?_⟩⟩
    · have := hc 0 _ rfl
      rw [addr_add_zero] at this
      exact this
    refine (ref03_Decode_ok (hx.code m (List.mem_of_getElem? hg)) w4).mono fun e w5 ⟨he, g5⟩ => ?_
    rw [decI_is] at he
    refine ⟨_, _, _, _, _, _, he, fun w6 h6 => ?_⟩
    have M := (Trk.here (g4.trans g5)).alloc h6
    refine M.setAll (l := insC (decN m)) 0 rfl rfl (ones rfl) fun w7 M => cnd_of (fun h => ⟨?_, L.to.trans M.to⟩) fun h => ?_
    · have h : ¬ decE m = 0 := by simpa using h
      have : x.code.all (fun c => decide (decE c = 0)) = false := all_not hg (decide_eq_false h)
      rw [mayI_eq, this]
      simp
    · have hd : decE m = 0 := by simpa using h
      have hw : IntKind.i64.wrap ((k : Int) + 1) = ((k + 1 : Nat) : Int) := by rw [i64_in (by omega) (by omega)]; omega
      rw [hw]
      refine ⟨⟨k + 1, by omega, rfl, fun i c hi hh => ?_, M.to⟩, by show x.code.length - ((k + 1 : Nat) : Int).toNat < x.code.length - ((k : Nat) : Int).toNat; omega⟩
      by_cases hik : i = k
      · subst hik
        rw [hg] at hh
        obtain rfl := Option.some.inj hh
        exact hd
      · exact hdk i c (by omega) hh
  · have hkn : k = x.code.length := by simp only [decide_eq_false_iff_not] at h; omega
    subst hkn
    have hall : x.code.all (fun c => decide (decE c = 0)) = true := all_of fun i c hi => by
      rw [hdk i c (List.getElem?_eq_some_iff.1 hi).1 hi]; rfl
    exact ⟨by rw [mayI_eq, hokP, hf, hall]; rfl, L4.to⟩
/-! ### Copy -/
/-- An image of the call's own. -/
def CopyR (x : Img) (w : World) (e : Ending) (w' : World) : Prop := Later w w' ∧ ∃ A1 c1 A2 c2, e = .returned (imgV A1 c1 A2 c2 x) ∧ ImAt w' A1 A2 x ∧ OwnE hdT w w' 50 A1 c1 x.params ∧ OwnE u32T w w' 42 A2 c2 x.code
theorem ref30_Copy_ok {x : Img} (hx : ImOk x) {A1 A2 : Option Addr} {c1 c2 : Nat} {w : World} (hr : ImAt w A1 A2 x) : Calls Try.prog ref30_Copy.N #[imgV A1 c1 A2 c2 x] w (CopyR x w) := by
  have np := hx.np
  have nc := hx.nc
  refine ref30_Copy.calls ?_
  unfold ref30_Copy.vc
  intro w1 h1 w2 h2
  have L := ((Trk.start w).alloc h1).alloc h2
  refine ⟨_, _, _, L.cell 0 rfl rfl, ?_⟩
  refine ERow.copy 22 rtHd (by simp [maxLen]; omega) (by omega) (hr.1.later L.to) fun b1 cc1 w3 o1 g3 => ⟨_, _, _, rfl, ?_⟩
  have L := L.later g3
  refine L.set1E 0 rfl (by simp) fun w4 e4 L => ?_
  have hb1 : ∀ j, j < w2.heap.size → rowB b1 ≠ some j := fun j hj h => by have := (o1.lt h).1; omega
  have n0 : rowB b1 ≠ some w.heap.size := hb1 _ (by have := (((Trk.start w).alloc h1).alloc h2).has 0 rfl; exact this.lt)
  have n1 : rowB b1 ≠ some w1.heap.size := hb1 _ (by have := (((Trk.start w).alloc h1).alloc h2).has 1 rfl; exact this.lt)
  have o1 : OwnE hdT w2 w4 50 b1 cc1 x.params := e4 ▸ OwnS.set_other o1 n0 _ _
  refine ⟨_, _, _, L.cell 0 rfl rfl, ?_⟩
  refine ERow.copy 23 rtU32 (by simp [maxLen]; omega) (by omega) (hr.2.later L.to) fun b2 cc2 w5 o2 g5 => ⟨_, _, _, rfl, ?_⟩
  have o1 := OwnS.later o1 g5
  have L := L.later g5
  have hb2 : ∀ j, j < w4.heap.size → rowB b2 ≠ some j := fun j hj h => by have := (o2.lt h).1; omega
  have hlt0 : w.heap.size < w4.heap.size := by rw [e4]; exact Nat.lt_of_lt_of_le ((((Trk.start w).alloc h1).alloc h2).has 0 rfl).lt (by simpa using Later.size g3)
  have hlt1 : w1.heap.size < w4.heap.size := by rw [e4]; exact Nat.lt_of_lt_of_le ((((Trk.start w).alloc h1).alloc h2).has 1 rfl).lt (by simpa using Later.size g3)
  refine L.set1E 0 rfl (by simp) fun w6 e6 L => ?_
  have o1 : OwnE hdT w2 w6 50 b1 cc1 x.params := e6 ▸ OwnS.set_other o1 n0 _ _
  have o2 : OwnE u32T w4 w6 42 b2 cc2 x.code := e6 ▸ OwnS.set_other o2 (hb2 _ hlt0) _ _
  refine ⟨_, _, _, _, _, _, _, _, _, ⟨L.cell 0 rfl rfl, L.cell 0 rfl rfl, L.cell 0 rfl rfl, L.cell 0 rfl rfl, L.cell 0 rfl rfl, trivial⟩, ?_⟩
  refine L.setAllE (l := imgC b1 cc1 b2 cc2 x) 1 rfl rfl (ones rfl) fun w7 e7 L => ?_
  have o1 : OwnE hdT w2 w7 50 b1 cc1 x.params := e7 ▸ OwnS.sets_other n1 _ _ o1
  have o2 : OwnE u32T w4 w7 42 b2 cc2 x.code := e7 ▸ OwnS.sets_other (hb2 _ hlt1) _ _ o2
  have s2 : w.heap.size ≤ w2.heap.size := Later.size (((Trk.start w).alloc h1).alloc h2).to
  have s4 : w.heap.size ≤ w4.heap.size := by omega
  exact ⟨_, _, _, _, _, _, _, _, _, ⟨L.cell 1 rfl rfl, L.cell 1 rfl rfl, L.cell 1 rfl rfl, L.cell 1 rfl rfl, L.cell 1 rfl rfl, trivial⟩, L.to, b1, cc1, b2, cc2, rfl, ⟨o1.row, o2.row⟩, o1.weak s2, o2.weak s4⟩
end Go.Proofs.Ytjoikaklincfoaa

/-
Images, fifth part: two images the same; which bytes an image has (the reference).
Conditions: an image's numbers are of their kinds, its rows of at most so many elements.
-/
namespace Go.Proofs.Ytjoikaklincfoaa
open Go Go.Vc Go.RowKit
set_option linter.unusedVariables false
set_option linter.unusedSimpArgs false
set_option linter.unnecessarySimpa false
set_option maxRecDepth 100000

theorem img_eq : ∀ {x y : Img}, x.slots = y.slots → x.ret = y.ret → x.sec = y.sec → x.params = y.params → x.code = y.code → x = y
  | ⟨_, _, _, _, _⟩, ⟨_, _, _, _, _⟩, rfl, rfl, rfl, rfl, rfl => rfl
abbrev hdV (h : Hd) : Value := .agg #[.bool h.buf, .bool h.sec, .bool h.mut_, i64v h.d, i64v h.len]
theorem hd_ne (xo yo : Operand) (a b : Hd) : EqRuns Try.prog .neq 50 xo yo (hdV a) (hdV b) (!decide (a = b)) := by
  have := (eq_flat (P := Try.prog) (vs := hdC a) (us := hdC b) xo yo Try.underlying50 (by kernel_rfl) (by kernel_rfl) (by kernel_rfl)).2
  have e : eqL (hdC a) (hdC b) = decide (a = b) := by
    rw [Bool.eq_iff_iff]
    cases a
    cases b
    simp [eqL, eq1, hdC]
  rw [e] at this
  exact this
set_option maxHeartbeats 6400000 in
theorem ref30_Same_ok {x y : Img} (hx : ImOk x) {A1 A2 B1 B2 : Option Addr} {c1 c2 d1 d2 : Nat} {w : World} (hr : ImAt w A1 A2 x) (hq : ImAt w B1 B2 y) :
    Calls Try.prog ref30_Same.N #[imgV A1 c1 A2 c2 x, imgV B1 d1 B2 d2 y] w (Gives (.bool (decide (x = y))) w) := by
  refine ref30_Same.calls ?_
  unfold ref30_Same.vc
  intro w1 h1 w2 h2
  have L := ((Trk.start w).alloc h1).alloc h2
  have np := hx.np
  have nc := hx.nc
  have no : ¬ x = y → ∀ w', Later w w' → Gives (.bool (decide (x = y))) w (.returned (.bool false)) w' := fun h w' hl => ⟨by rw [decide_eq_false h], hl⟩
  refine ⟨_, L.cell 0 rfl rfl, _, L.cell 1 rfl rfl, cnd_of (fun h => no (fun e => ?_) _ L.to) fun e1 => ⟨_, L.cell 0 rfl rfl, _, L.cell 1 rfl rfl, cnd_of (fun h => no (fun e => ?_) _ L.to) fun e2 => ⟨_, L.cell 0 rfl rfl, _, L.cell 1 rfl rfl, cnd_of (fun h => no (fun e => ?_) _ L.to) fun e3 =>
    ⟨_, _, _, L.cell 0 rfl rfl, _, _, _, L.cell 1 rfl rfl, cnd_of (fun h => no (fun e => ?_) _ L.to) fun e4 => ⟨_, _, _, L.cell 0 rfl rfl, _, _, _, L.cell 1 rfl rfl, cnd_of (fun h => no (fun e => ?_) _ L.to) fun e5 => ?_⟩⟩⟩⟩⟩
  · subst e; simp at h
  · subst e; simp at h
  · subst e; simp at h
  · subst e; simp at h
  · subst e; simp at h
  have e1 : x.slots = y.slots := by simpa using e1
  have e2 : x.ret = y.ret := by simpa using e2
  have e3 : x.sec = y.sec := by simpa using e3
  have e4 : x.params.length = y.params.length := by have := e4; simp at this; omega
  have e5 : x.code.length = y.code.length := by have := e5; simp at this; omega
  refine ⟨fun vs w' => ∃ k : Nat, k ≤ x.params.length ∧ vs = [i64v k] ∧ (∀ i, i < k → x.params[i]? = y.params[i]?) ∧ Later w2 w', fun vs _ => match vs with | [.int _ n] => x.params.length - n.toNat | _ => 0, ⟨0, by omega, rfl, fun i hi => by omega, Later.refl _⟩, ?_⟩
  rintro g s w3 ⟨k, hk, hs, hok, g3⟩
  simp only [List.cons.injEq, Value.int.injEq, true_and, and_true] at hs
  subst hs
  have L3 := L.later g3
  refine ⟨_, _, _, L3.cell 0 rfl rfl, cnd_of (fun h => ?_) fun h => ?_⟩
  · have hlt : k < x.params.length := by simp only [decide_eq_true_eq] at h; omega
    have hg := List.getElem?_eq_getElem hlt
    have hg2 := List.getElem?_eq_getElem (show k < y.params.length by omega)
    generalize x.params[k] = m at hg
    generalize y.params[k] = m2 at hg2
    obtain ⟨ad, hA, hc⟩ := (hr.1.later (L3.to)) k _ hg
    obtain ⟨bd, hB, hd⟩ := (hq.1.later (L3.to)) k _ hg2
    have at0 : ∀ {a : Addr} {n : Nat} {v : Value}, w3.cell? ((a.add n).add 0) = some v → w3.cell? (a.add n) = some v := fun h => by rwa [addr_add_zero] at h
    refine ⟨_, _, _, fun w' hl => hl.cell_some (L3.cell 0 rfl rfl), ⟨by omega, by omega⟩, Deref_some hA ⟨m.buf, m.sec, m.mut_, m.d, m.len, fun w' hl => ⟨hl.cell_some (at0 (hc 0 _ rfl)), hl.cell_some (hc 1 _ rfl), hl.cell_some (hc 2 _ rfl), hl.cell_some (hc 3 _ rfl), hl.cell_some (hc 4 _ rfl), trivial⟩, ?_⟩⟩
    refine ⟨_, _, _, fun w' hl => hl.cell_some (L3.cell 1 rfl rfl), ⟨by omega, by omega⟩, Deref_some hB ⟨m2.buf, m2.sec, m2.mut_, m2.d, m2.len, fun w' hl => ⟨hl.cell_some (at0 (hd 0 _ rfl)), hl.cell_some (hd 1 _ rfl), hl.cell_some (hd 2 _ rfl), hl.cell_some (hd 3 _ rfl), hl.cell_some (hd 4 _ rfl), trivial⟩, _, hd_ne _ _ m m2, fun w4 g4 => ?_⟩⟩
    refine cnd_of (fun h => no (fun e => ?_) _ (L3.to.trans g4)) fun h => ?_
    · subst e
      rw [hg] at hg2
      obtain rfl := Option.some.inj hg2
      simp at h
    · have hm : m = m2 := by simpa using h
      have hw : IntKind.i64.wrap ((k : Int) + 1) = ((k + 1 : Nat) : Int) := by rw [i64_in (by omega) (by omega)]; omega
      rw [hw]
      refine ⟨⟨k + 1, by omega, rfl, fun i hi => ?_, g3.trans g4⟩, by show x.params.length - ((k + 1 : Nat) : Int).toNat < x.params.length - ((k : Nat) : Int).toNat; omega⟩
      by_cases hik : i = k
      · subst hik
        rw [hg, hg2, hm]
      · exact hok i (by omega)
  have hkn : k = x.params.length := by simp only [decide_eq_false_iff_not] at h; omega
  subst hkn
  have eP : x.params = y.params := List.ext_getElem? fun i => by
    by_cases hi : i < x.params.length
    · exact hok i hi
    · rw [List.getElem?_eq_none (by omega), List.getElem?_eq_none (by omega)]
  refine ⟨fun vs w' => ∃ k : Nat, k ≤ x.code.length ∧ vs = [i64v k] ∧ (∀ i, i < k → x.code[i]? = y.code[i]?) ∧ Later w2 w', fun vs _ => match vs with | [.int _ n] => x.code.length - n.toNat | _ => 0, ⟨0, by omega, rfl, fun i hi => by omega, g3⟩, ?_⟩
  rintro g s w4 ⟨k, hk, hs, hdk, g4⟩
  simp only [List.cons.injEq, Value.int.injEq, true_and, and_true] at hs
  subst hs
  have L4 := L.later g4
  refine ⟨_, _, _, L4.cell 0 rfl rfl, cnd_of (fun h => ?_) fun h => ?_⟩
  · have hlt : k < x.code.length := by simp only [decide_eq_true_eq] at h; omega
    have hg := List.getElem?_eq_getElem hlt
    have hg2 := List.getElem?_eq_getElem (show k < y.code.length by omega)
    generalize x.code[k] = m at hg
    generalize y.code[k] = m2 at hg2
    obtain ⟨ad, hA, hc⟩ := (hr.2.later (L4.to)) k _ hg
    obtain ⟨bd, hB, hd⟩ := (hq.2.later (L4.to)) k _ hg2
    have at0 : ∀ {a : Addr} {n : Nat} {v : Value}, w4.cell? ((a.add n).add 0) = some v → w4.cell? (a.add n) = some v := fun h => by rwa [addr_add_zero] at h
    refine ⟨_, _, _, fun w' hl => hl.cell_some (L4.cell 0 rfl rfl), ⟨by omega, by omega⟩, Deref_some hA ⟨m, fun w' hl => hl.cell_some (at0 (hc 0 _ rfl)), ?_⟩⟩
    refine ⟨_, _, _, fun w' hl => hl.cell_some (L4.cell 1 rfl rfl), ⟨by omega, by omega⟩, Deref_some hB ⟨m2, fun w' hl => hl.cell_some (at0 (hd 0 _ rfl)), fun w5 g5 => ?_⟩⟩
    refine cnd_of (fun h => no (fun e => ?_) _ (L4.to.trans g5)) fun h => ?_
    · subst e
      rw [hg] at hg2
      obtain rfl := Option.some.inj hg2
      simp at h
    · have hm : m = m2 := by simpa using h
      have hw : IntKind.i64.wrap ((k : Int) + 1) = ((k + 1 : Nat) : Int) := by rw [i64_in (by omega) (by omega)]; omega
      rw [hw]
      refine ⟨⟨k + 1, by omega, rfl, fun i hi => ?_, g4.trans g5⟩, by show x.code.length - ((k + 1 : Nat) : Int).toNat < x.code.length - ((k : Nat) : Int).toNat; omega⟩
      by_cases hik : i = k
      · subst hik
        rw [hg, hg2, hm]
      · exact hdk i (by omega)
  · have hkn : k = x.code.length := by simp only [decide_eq_false_iff_not] at h; omega
    subst hkn
    have eC : x.code = y.code := List.ext_getElem? fun i => by
      by_cases hi : i < x.code.length
      · exact hdk i hi
      · rw [List.getElem?_eq_none (by omega), List.getElem?_eq_none (by omega)]
    have : x = y := img_eq e1 e2 e3 eP eC
    exact ⟨by rw [decide_eq_true this], L4.to⟩

/-! ### Put -/
theorem Lay.fourR {w0 : World} {xb : Nat} {xc : List Value} {w w' : World} {b : Option Addr} {c : Nat} {l news : List Int} (h : Lay w0 xb xc w b c l) (hl : Later w w') {a : Addr} {c2 : Nat} (hc : CellsAt w' a 0 (rowC u8T news)) (hb : l.length + news.length ≤ 10000000) {K : Value → World → Prop}
    (hK : ∀ b' c' w'', Lay w0 xb xc w'' b' c' (l ++ news) → K (.slice b' (l ++ news).length c') w'') : RunsV Try.prog (Builtin.append_ #[48, 48] 48 #[.slice b l.length c, .slice (some a) news.length c2]) w' K := by
  have h' := h.later hl
  refine OwnE.append (news := news) 48 rtU8 h'.own h'.to (by simp [maxLen]; omega) (by omega) hc fun b' c' w'' ho' hl' hk => hK b' c' w'' ⟨hl', ho', h'.hx.kept (hk _ h'.hx.lt h'.ne).1, (hk _ h'.hx.lt h'.ne).2⟩
set_option maxHeartbeats 6400000 in
theorem ref30_Put_ok {x : Img} (hx : ImOk x) {A1 A2 : Option Addr} {c1 c2 : Nat} {w : World} (hr : ImAt w A1 A2 x) : Calls Try.prog ref30_Put.N #[imgV A1 c1 A2 c2 x] w (Gives (.string (strOf (putB x))) w) := by
  refine ref30_Put.calls ?_
  unfold ref30_Put.vc
  intro w1 h1 w3 h3
  have L := (Trk.start w).alloc h1
  have np := hx.np
  have nc := hx.nc
  have hxc : Has w1 w.heap.size (imgC A1 c1 A2 c2 x) := L.has 0 rfl
  refine const_start L.to h3 fun w4 g4 hcs => ⟨_, _, _, rfl, ?_⟩
  have hx4 := hxc.later g4
  refine ⟨_, hx4.cell rfl, _, _, _, hx4.cell rfl, fun w5 h5 => ?_⟩
  rw [u8_wrap, u8_wrap] at h5
  refine Lay.start L.to hxc g4 hcs h5 fun b c w6 y6 => ⟨_, _, _, rfl, ?_⟩
  refine ⟨fun vs w' => ∃ (k : Nat) (b : Option Addr) (c : Nat), k ≤ x.params.length ∧ vs = [.slice b (hdrL x ++ (x.params.take k).map bitsH).length c, i64v k] ∧ Lay w w.heap.size (imgC A1 c1 A2 c2 x) w' b c (hdrL x ++ (x.params.take k).map bitsH),
    fun vs _ => match vs with | [_, .int _ n] => x.params.length - n.toNat | _ => 0, ⟨0, b, c, by omega, by simp [hdrL], by simpa [hdrL] using y6⟩, ?_⟩
  rintro g b bn bc s w7 ⟨k, b', c', hk, hs, y7⟩
  simp only [List.cons.injEq, Value.int.injEq, Value.slice.injEq, true_and, and_true] at hs
  obtain ⟨⟨rfl, rfl, rfl⟩, rfl⟩ := hs
  have hlen : (hdrL x ++ (x.params.take k).map bitsH).length ≤ 2000 := by
    simp only [hdrL, magicL, List.length_append, List.length_map, List.length_take, List.length_cons, List.length_nil]
    omega
  refine ⟨_, _, _, y7.hx.cell rfl, cnd_of (fun h => ?_) fun h => ?_⟩
  · have hlt : k < x.params.length := by simp only [decide_eq_true_eq] at h; omega
    have hg := List.getElem?_eq_getElem hlt
    generalize x.params[k] = m at hg
    obtain ⟨ad, hA, hc⟩ := (hr.1.later y7.to) k _ hg
    have at0 : ∀ {a : Addr} {n : Nat} {v : Value}, w7.cell? ((a.add n).add 0) = some v → w7.cell? (a.add n) = some v := fun h => by rwa [addr_add_zero] at h
    refine ⟨_, _, _, fun w' hl => hl.cell_some (y7.hx.cell rfl), ⟨by omega, by omega⟩, Deref_some hA ⟨m.buf, fun w' hl => hl.cell_some (at0 (hc 0 _ rfl)), ?_⟩⟩
    refine ⟨_, _, _, fun w' hl => hl.cell_some (y7.hx.cell rfl), ⟨by omega, by omega⟩, Deref_some hA ⟨m.sec, fun w' hl => hl.cell_some (hc 1 _ rfl), ?_⟩⟩
    refine ⟨_, _, _, fun w' hl => hl.cell_some (y7.hx.cell rfl), ⟨by omega, by omega⟩, Deref_some hA ⟨m.mut_, fun w' hl => hl.cell_some (hc 2 _ rfl), ?_⟩⟩
    refine ⟨bitsH m, fun w' hl => ref30_bits_ok m.buf m.sec m.mut_ w', fun w8 g8 w9 h9 => ?_⟩
    have y8 := y7.later g8
    refine y8.push (bitsH m) (by omega) h9 fun b' c' w13 y13 => ⟨_, _, _, rfl, ?_⟩
    have htk : hdrL x ++ (x.params.take k).map bitsH ++ [bitsH m] = hdrL x ++ (x.params.take (k + 1)).map bitsH := by
      rw [List.take_add_one, hg]
      simp
    rw [htk] at y13 ⊢
    have hw : IntKind.i64.wrap ((k : Int) + 1) = ((k + 1 : Nat) : Int) := by rw [i64_in (by omega) (by omega)]; omega
    rw [hw]
    exact ⟨⟨k + 1, b', c', by omega, rfl, y13⟩, by show x.params.length - ((k + 1 : Nat) : Int).toNat < x.params.length - ((k : Nat) : Int).toNat; omega⟩
  have hkn : k = x.params.length := by simp only [decide_eq_false_iff_not] at h; omega
  subst hkn
  rw [List.take_length] at y7 hlen ⊢
  refine ⟨_, y7.hx.cell rfl, _, y7.hx.cell rfl, (ref30_bits_ok x.ret x.sec false w7).mono fun e w8 ⟨he, g8⟩ => ⟨_, he, fun w9 h9 => ?_⟩⟩
  have y8 := y7.later g8
  refine y8.push _ (by omega) h9 fun b2 cc2 w12 y12 => ⟨_, _, _, rfl, _, _, _, y12.hx.cell rfl, ?_⟩
  have hW : IntKind.u32.wrap ((x.code.length : Nat) : Int) = (x.code.length : Int) := u32_in (by omega) (by omega)
  rw [hW]
  refine (ref30_four_ok (n := (x.code.length : Int)) ⟨by omega, by omega⟩ w12).mono fun e w13 ⟨he, g13, o13⟩ => ⟨_, _, _, he, ?_⟩
  refine y12.fourR (news := fourL (x.code.length : Int)) g13 o13.row.all (by rw [List.length_append, List.length_singleton]; simp [fourL]; simp at hlen; omega) fun b3 cc3 w14 y14 => ⟨_, _, _, rfl, ?_⟩
  generalize hpre : hdrL x ++ x.params.map bitsH ++ [bitsS x.ret x.sec false] ++ fourL (x.code.length : Int) = pre at y14 ⊢
  have hprel : pre.length ≤ 3000 := by
    rw [← hpre]
    simp only [List.length_append, List.length_map] at hlen ⊢
    simp [fourL]
    omega
  refine ⟨fun vs w' => ∃ (k : Nat) (b : Option Addr) (c : Nat), k ≤ x.code.length ∧ vs = [.slice b (pre ++ codeB (x.code.take k)).length c, i64v k] ∧ Lay w w.heap.size (imgC A1 c1 A2 c2 x) w' b c (pre ++ codeB (x.code.take k)),
    fun vs _ => match vs with | [_, .int _ n] => x.code.length - n.toNat | _ => 0, ⟨0, b3, cc3, by omega, by simp [codeB], by simpa [codeB] using y14⟩, ?_⟩
  rintro g b bn bc s w15 ⟨k, b', c', hk, hs, y15⟩
  simp only [List.cons.injEq, Value.int.injEq, Value.slice.injEq, true_and, and_true] at hs
  obtain ⟨⟨rfl, rfl, rfl⟩, rfl⟩ := hs
  have hlen2 : (pre ++ codeB (x.code.take k)).length ≤ 1000000 := by
    rw [List.length_append, codeB_length, List.length_take]
    omega
  refine ⟨_, _, _, y15.hx.cell rfl, cnd_of (fun h => ?_) fun h => ?_⟩
  · have hlt : k < x.code.length := by simp only [decide_eq_true_eq] at h; omega
    have hg := List.getElem?_eq_getElem hlt
    generalize x.code[k] = m at hg
    obtain ⟨ad, hA, hc⟩ := (hr.2.later y15.to) k _ hg
    refine ⟨_, _, _, y15.hx.cell rfl, ⟨by omega, by omega⟩, Deref_some hA ⟨m, ?_, ?_⟩⟩
    · have := hc 0 _ rfl
      rw [addr_add_zero] at this
      exact this
    refine (ref30_four_ok (hx.code m (List.mem_of_getElem? hg)) w15).mono fun e w16 ⟨he, g16, o16⟩ => ⟨_, _, _, he, ?_⟩
    refine y15.fourR (news := fourL m) g16 o16.row.all (by simp [fourL]; simp at hlen2; omega) fun b4 cc4 w17 y17 => ⟨_, _, _, rfl, ?_⟩
    rw [List.append_assoc, codeB_take _ _ _ hg] at y17 ⊢
    have hw : IntKind.i64.wrap ((k : Int) + 1) = ((k + 1 : Nat) : Int) := by rw [i64_in (by omega) (by omega)]; omega
    rw [hw]
    exact ⟨⟨k + 1, b4, cc4, by omega, rfl, y17⟩, by show x.code.length - ((k + 1 : Nat) : Int).toNat < x.code.length - ((k : Nat) : Int).toNat; omega⟩
  · have hkn : k = x.code.length := by simp only [decide_eq_false_iff_not] at h; omega
    subst hkn
    rw [List.take_length] at y15 ⊢
    have hfin : pre ++ codeB x.code = putB x := by rw [← hpre]; rfl
    rw [hfin] at y15 ⊢
    have ho := y15.own
    unfold OwnE at ho
    rw [rowC_u8] at ho
    exact RunsV_own_string rtU8.under (by kernel_rfl) (by kernel_rfl) ho (by rw [putB_length]; omega) ⟨_, rfl, rfl, y15.to⟩
end Go.Proofs.Ytjoikaklincfoaa

/-
Images, sixth part: bytes that are read one behind the other (package image).
Conditions: the string is not too long.
-/
namespace Go.Proofs.Ytjoikaklincfoaa
open Go Go.Vc Go.RowKit
set_option linter.unusedVariables false
set_option linter.unusedSimpArgs false
set_option linter.unnecessarySimpa false
set_option maxRecDepth 100000

/-- A string's bytes. -/
def bytesI (s : ByteArray) : List Int := s.data.toList.map fun b => (b.toNat : Int)
theorem bytesI_length (s : ByteArray) : (bytesI s).length = s.size := by
  unfold bytesI
  rw [List.length_map, Array.length_toList]
  rfl
theorem bytesI_range {s : ByteArray} {b : Int} (h : b ∈ bytesI s) : 0 ≤ b ∧ b < 256 := by
  obtain ⟨c, -, rfl⟩ := List.mem_map.1 h
  have : c.toNat < 256 := c.toNat_lt
  omega
/-- Bytes as a slice. -/
theorem bytes_slice {s : ByteArray} {w : World} {K : Value → World → Prop} (hK : ∀ c w', Later w w' → ERow u8T w' (some ⟨w.heap.size, 0, none⟩) (bytesI s) → K (.slice (some ⟨w.heap.size, 0, none⟩) s.size c) w') :
    RunsV Try.prog (convert 9 48 (.string s)) w K := by
  refine RunsV_of (Lib.run_convert_string_bytes (u := .string) w 9 48 5 s (by kernel_rfl) rtU8.under (by kernel_rfl)) (hK _ _ ?_ ?_)
  · refine ⟨rfl, rfl, rfl, ?_, fun k hk => Lib.bytesWorld_at_old w _ s k hk⟩
    rw [Lib.bytesWorld_size]
    omega
  · intro i m hi
    refine ⟨_, rfl, fun j v hv => ?_⟩
    have hil : i < s.size := by rw [← bytesI_length]; exact (List.getElem?_eq_some_iff.1 hi).1
    have hj : j = 0 := by
      have := (List.getElem?_eq_some_iff.1 hv).1
      have : j < 1 := this
      omega
    subst hj
    obtain rfl : Value.int .u8 m = v := by simpa [u8T] using hv
    have hm : m = ((s.data.toList.getD i 0).toNat : Int) := by
      have h1 : s.data.toList[i]?.map (fun b => (b.toNat : Int)) = some m := by simpa [bytesI] using hi
      obtain ⟨b, hb, rfl⟩ := Option.map_eq_some_iff.1 h1
      simp [List.getD, hb]
    have := Lib.bytesWorld_cell w 5 s i hil
    rw [hm, addr_add_add, add_block, Nat.zero_add]
    simpa [u8T] using this
/-- What the next bytes are; whether they are wanting; from where on the next ones. -/
def nextB (l : List Int) (at_ : Nat) (n : Nat) : List Int := (l.drop at_).take n
structure NextR (w0 w : World) (L : List Blk) (s : ByteArray) (shb atb : Nat) (sh : Bool) (at_ n : Nat) (e : Ending) (w' : World) : Prop where
  out : ∃ p c bs, e = .returned (.slice p bs.length c) ∧ ERow u8T w' p bs ∧ bs.length = n ∧ ((sh = false ∧ at_ + n ≤ s.size ∧ bs = nextB (bytesI s) at_ n ∧ Trk w0 w' ((L.set 3 (shb, [.bool false])).set 2 (atb, [i64v ((at_ + n : Nat) : Int)]))) ∨
    ((sh = true ∨ s.size < at_ + n) ∧ bs = List.replicate n 0 ∧ Trk w0 w' (L.set 3 (shb, [.bool true]))))
  kept : ∀ k, k < w.heap.size → k ≠ shb → k ≠ atb → w'.heap[k]? = w.heap[k]?
  size : w.heap.size ≤ w'.heap.size
theorem set_kept {w : World} {a : Nat} {v : Value} {k : Nat} (h : k ≠ a) : (w.setCell ⟨a, 0, none⟩ v).heap[k]? = w.heap[k]? := by
  simp [World.setCell, Array.getElem?_modify, Ne.symm h]
set_option maxHeartbeats 3200000 in
theorem image_next_ok {w0 w : World} {L : List Blk} {s : ByteArray} {sb shb atb : Nat} {sh : Bool} {at_ n : Nat} (hn : 1 ≤ n ∧ n ≤ 8) (hat : at_ ≤ 1000000) (hs : s.size ≤ 1000000) (hL : Trk w0 w L) (h0 : L[0]? = some (sb, [.string s])) (h2 : L[2]? = some (atb, [i64v (at_ : Int)])) (h3 : L[3]? = some (shb, [.bool sh])) :
    Calls Try.prog image_Get_1.N #[i64v (n : Int), .pointer (some ⟨shb, 0, none⟩), .pointer (some ⟨sb, 0, none⟩), .pointer (some ⟨atb, 0, none⟩)] w (NextR w0 w L s shb atb sh at_ n) := by
  have l3 : 3 < L.length := (List.getElem?_eq_some_iff.1 h3).1
  have hgm : gomin (n : Int) 8 = ((n : Nat) : Int) := by unfold gomin; split <;> omega
  refine image_Get_1.calls (c0 := some ⟨shb, 0, none⟩) (c1 := some ⟨sb, 0, none⟩) (c2 := some ⟨atb, 0, none⟩) ?_
  unfold image_Get_1.vc
  rw [hgm]
  have short : ∀ w1, Trk w0 w1 (L.set 3 (shb, [.bool true])) → w1 = w.setCell ⟨shb, 0, none⟩ (.bool true) → (sh = true ∨ s.size < at_ + n) → RunsV Try.prog (Instr.makeSlice 48 (i64v ((n : Nat) : Int)) (i64v ((n : Nat) : Int))) w1 fun v w' => ∃ p n1 c, v = .slice p n1 c ∧ NextR w0 w L s shb atb sh at_ n (.returned (.slice p n1 c)) w' := by
    intro w1 M e1 hc
    refine RunsV_makeSlice (size := 1) (bytes := 1) (e := 5) (.int .u8 0) rtU8.under (by kernel_rfl) rfl (by decide) (by decide) (by omega) fun b w' hb g hh => ⟨_, _, _, rfl, ?_⟩
    have hrow : Has w' b (rowC u8T (List.replicate n 0)) := hh.of_fcells (by
      rw [rowC_u8]
      have : ∀ m, repL (Value.int .u8 0).cells.toList m = (List.replicate m 0).map (Value.int .u8) := by
        intro m
        induction m with
        | zero => rfl
        | succ m ih => rw [repL, ih]; rfl
      exact this n)
    refine ⟨⟨_, n, _, by rw [List.length_replicate], hrow.erow, by simp, .inr ⟨hc, rfl, M.later g⟩⟩, fun k hk h1 h2 => ?_, ?_⟩
    · have hk1 : k < w1.heap.size := by rw [e1]; simpa using hk
      rw [Later.block g hk1, e1, set_kept h1]
    · have := Later.size g
      rw [e1] at this
      simpa using this
  have long : ∀ w1, Trk w0 w1 (L.set 3 (shb, [.bool false])) → (w1 = w ∨ w1 = w.setCell ⟨shb, 0, none⟩ (.bool false)) → sh = false → at_ + n ≤ s.size → ∃ m : Int, w1.cell? ⟨atb, 0, none⟩ = some (.int .i64 m) ∧ Deref (some (⟨atb, 0, none⟩ : Addr)) fun ad => ((w1.cell? ad).isSome = true ∧ w1.frozen? ad = false) ∧ ∀ w2, w2 = w1.setCell ad (.int .i64 (IntKind.i64.wrap (m + (n : Int)))) →
      Deref (some (⟨sb, 0, none⟩ : Addr)) fun ad => ∃ s1 : ByteArray, w2.cell? ad = some (.string s1) ∧ Deref (some (⟨atb, 0, none⟩ : Addr)) fun ad => ∃ m : Int, w2.cell? ad = some (.int .i64 m) ∧ Deref (some (⟨atb, 0, none⟩ : Addr)) fun ad => ∃ m1 : Int, w2.cell? ad = some (.int .i64 m1) ∧
        (0 ≤ m1 ∧ m1 ≤ (s1.size : Int)) ∧ (0 ≤ IntKind.i64.wrap (m - (n : Int)) ∧ IntKind.i64.wrap (m - (n : Int)) ≤ (m1.toNat : Int)) ∧ RunsV Try.prog (convert 9 48 (.string (s1.extract (IntKind.i64.wrap (m - (n : Int))).toNat m1.toNat))) w2 fun v w' => ∃ p n1 c, v = .slice p n1 c ∧ NextR w0 w L s shb atb sh at_ n (.returned (.slice p n1 c)) w' := by
    intro w1 M hw1 hsh hle
    have k1 : ∀ k, k ≠ shb → w1.heap[k]? = w.heap[k]? := by
      intro k hk
      rcases hw1 with rfl | rfl
      · rfl
      · exact set_kept hk
    have s1 : w1.heap.size = w.heap.size := by
      rcases hw1 with rfl | rfl
      · rfl
      · simp
    have e2 : (L.set 3 (shb, [.bool false]))[2]? = some (atb, [i64v (at_ : Int)]) := by rw [List.getElem?_set_ne (by decide)]; exact h2
    have hw : IntKind.i64.wrap ((at_ : Int) + (n : Int)) = ((at_ + n : Nat) : Int) := by rw [i64_in (by omega) (by omega)]; omega
    have hb : IntKind.i64.wrap (((at_ + n : Nat) : Int) - (n : Int)) = (at_ : Int) := by rw [i64_in (by omega) (by omega)]; omega
    refine ⟨_, M.cell 2 e2 rfl, Deref_some rfl ?_⟩
    rw [hw]
    refine M.set1E 2 e2 (by simp) fun w2 ew M2 => ?_
    have e20 : ((L.set 3 (shb, [.bool false])).set 2 (atb, [i64v ((at_ + n : Nat) : Int)]))[0]? = some (sb, [.string s]) := by
      rw [List.getElem?_set_ne (by decide), List.getElem?_set_ne (by decide)]; exact h0
    have e22 : ((L.set 3 (shb, [.bool false])).set 2 (atb, [i64v ((at_ + n : Nat) : Int)]))[2]? = some (atb, [i64v ((at_ + n : Nat) : Int)]) := by
      rw [List.getElem?_set_self (by simpa using (show 2 < L.length by omega))]
    have M2' : Trk w0 w2 ((L.set 3 (shb, [.bool false])).set 2 (atb, [i64v ((at_ + n : Nat) : Int)])) := M2
    refine Deref_some rfl ⟨s, M2'.cell 0 e20 rfl, Deref_some rfl ⟨_, M2'.cell 2 e22 rfl, Deref_some rfl ⟨_, M2'.cell 2 e22 rfl, ⟨by omega, by omega⟩, ?_⟩⟩⟩
    rw [hb]
    refine ⟨⟨by omega, by omega⟩, ?_⟩
    have hex : (bytesI (s.extract ((at_ : Int)).toNat (((at_ + n : Nat) : Int)).toNat)) = nextB (bytesI s) at_ n := by
      simp only [bytesI, nextB, Int.toNat_natCast]
      rw [← List.map_drop, ← List.map_take]
      congr 1
      simp [List.take_drop]
    have hlen : (nextB (bytesI s) at_ n).length = n := by
      simp only [nextB, List.length_take, List.length_drop, bytesI_length]
      omega
    refine bytes_slice fun c w' g hr => ⟨_, _, _, rfl, ?_⟩
    rw [hex] at hr
    have hsz : (s.extract ((at_ : Int)).toNat (((at_ + n : Nat) : Int)).toNat).size = (nextB (bytesI s) at_ n).length := by rw [← hex, bytesI_length]
    rw [hsz]
    refine ⟨⟨_, c, _, rfl, hr, hlen, .inl ⟨hsh, hle, rfl, M2'.later g⟩⟩, fun k hk h1 h2 => ?_, ?_⟩
    · have hk2 : k < w2.heap.size := by rw [ew]; simpa [s1] using hk
      rw [Later.block g hk2, ew, set_kept h2, k1 k h1]
    · have := Later.size g
      rw [ew] at this
      simp [s1] at this
      omega
  have set_same3 : sh = false → L.set 3 (shb, [.bool false]) = L := by
    intro h
    subst h
    apply List.ext_getElem?
    intro i
    by_cases hi : i = 3
    · subst hi
      rw [List.getElem?_set_self l3, h3]
    · rw [List.getElem?_set_ne (fun e => hi e.symm)]
  refine Deref_some rfl ⟨sh, hL.cell 3 h3 rfl, cnd_of (fun hsh => ?_) fun hsh => ?_⟩
  · refine Deref_some rfl (hL.set1E 3 h3 (by simp) fun w1 e1 M => Deref_some rfl ⟨true, ?_, cnd_true rfl (short w1 M e1 (.inl hsh))⟩)
    have : (L.set 3 (shb, [Value.bool true]))[3]? = some (shb, [.bool true]) := List.getElem?_set_self l3
    exact M.cell 3 this rfl
  · refine Deref_some rfl ⟨s, hL.cell 0 h0 rfl, Deref_some rfl ⟨_, hL.cell 2 h2 rfl, Deref_some rfl ?_⟩⟩
    have hd : decide ((n : Int) > IntKind.i64.wrap ((s.size : Int) - (at_ : Int))) = decide (s.size < at_ + n) := by
      rw [i64_in (by omega) (by omega)]
      by_cases h : s.size < at_ + n
      · rw [decide_eq_true h, decide_eq_true (by omega)]
      · rw [decide_eq_false h, decide_eq_false (by omega)]
    rw [hd]
    refine hL.set1E 3 h3 (by simp) fun w1 e1 M => Deref_some rfl ⟨decide (s.size < at_ + n), ?_, ?_⟩
    · have : (L.set 3 (shb, [Value.bool (decide (s.size < at_ + n))]))[3]? = some (shb, [.bool (decide (s.size < at_ + n))]) := List.getElem?_set_self l3
      exact M.cell 3 this rfl
    · refine cnd_of (fun h => ?_) fun h => ?_
      · rw [h] at M e1
        exact short w1 M e1 (.inr (by simpa using h))
      · rw [h] at M e1
        have hle : at_ + n ≤ s.size := by
          have : ¬ s.size < at_ + n := by simpa using h
          omega
        refine Deref_some rfl ?_
        exact long w1 M (.inr e1) hsh hle
/-- A number of four bytes. -/
def valueL (l : List Int) : Int := match l with | [a, b, c, d] => a + b * 256 + c * 65536 + d * 16777216 | _ => 0
theorem image_number_ok {bs : List Int} (hl : bs.length = 4) (hb : ∀ b ∈ bs, 0 ≤ b ∧ b < 256) {p : Option Addr} {c : Nat} {w : World} (hr : ERow u8T w p bs) : Calls Try.prog image_number.N #[.slice p bs.length c] w (Gives (u32v (valueL bs)) w) := by
  match bs, hl with
  | [a, b, d, e], _ =>
  have ha := hb a (by simp)
  have hb' := hb b (by simp)
  have hd := hb d (by simp)
  have he := hb e (by simp)
  refine image_number.calls ?_
  unfold image_number.vc
  obtain ⟨ad, hA, c0⟩ := hr 0 a rfl
  have at_ : ∀ (i : Nat) (x : Int), [a, b, d, e][i]? = some x → w.cell? (ad.add i) = some (.int .u8 x) := by
    intro i x hx
    obtain ⟨ad', hA', hc⟩ := hr i x hx
    rw [hA] at hA'
    obtain rfl := Option.some.inj hA'
    have := hc 0 _ rfl
    rw [addr_add_zero] at this
    simpa [u8T] using this
  refine ⟨⟨show (0 : Int) ≤ 0 by decide, by simp⟩, Deref_some hA ⟨a, fun w' g => ?_, ⟨show (0 : Int) ≤ 1 by decide, by simp⟩, Deref_some hA ⟨b, fun w' g => g.cell_some (at_ 1 b rfl), ⟨show (0 : Int) ≤ 2 by decide, by simp⟩, Deref_some hA ⟨d, fun w' g => g.cell_some (at_ 2 d rfl), ⟨show (0 : Int) ≤ 3 by decide, by simp⟩, Deref_some hA ⟨e, fun w' g => g.cell_some (at_ 3 e rfl), fun w' g => ⟨?_, g⟩⟩⟩⟩⟩⟩
  · have := g.cell_some (at_ 0 a rfl)
    rwa [addr_add_zero] at this
  · rw [u32_in (x := a) (by omega) (by omega), u32_in (x := b) (by omega) (by omega), u32_in (x := d) (by omega) (by omega), u32_in (x := e) (by omega) (by omega)]
    have e1 := or_high (x := a) (y := b) 8 ha.1 (by rw [show (2 : Int) ^ 8 = 256 from rfl]; omega) hb'.1 (by omega) (by rw [show (2 : Int) ^ 8 = 256 from rfl]; omega)
    have e2 := or_high (x := a + b * 256) (y := d) 16 (by omega) (by rw [show (2 : Int) ^ 16 = 65536 from rfl]; omega) hd.1 (by omega) (by rw [show (2 : Int) ^ 16 = 65536 from rfl]; omega)
    have e3 := or_high (x := a + b * 256 + d * 65536) (y := e) 24 (by omega) (by rw [show (2 : Int) ^ 24 = 16777216 from rfl]; omega) he.1 (by omega) (by rw [show (2 : Int) ^ 24 = 16777216 from rfl]; omega)
    rw [show (2 : Int) ^ 8 = 256 from rfl] at e1
    rw [show (2 : Int) ^ 16 = 65536 from rfl] at e2
    rw [show (2 : Int) ^ 24 = 16777216 from rfl] at e3
    rw [e1, e2, e3]
    rfl
theorem ref30_value_ok {s : ByteArray} {at_ : Nat} (h : at_ + 4 ≤ s.size) (hs : s.size ≤ 1000000) (w : World) : Calls Try.prog ref30_value.N #[.string s, i64v (at_ : Int)] w (Gives (u32v (valueL (nextB (bytesI s) at_ 4))) w) := by
  refine ref30_value.calls ?_
  unfold ref30_value.vc
  have g : ∀ i, at_ + i < s.size → ∃ b : UInt8, s[at_ + i]? = some b ∧ (bytesI s)[at_ + i]? = some (b.toNat : Int) ∧ b.toNat < 256 := by
    intro i hi
    have hl : at_ + i < s.data.toList.length := by rw [Array.length_toList]; exact hi
    exact ⟨s.data.toList[at_ + i], get_byte hi, by unfold bytesI; rw [List.getElem?_map, List.getElem?_eq_getElem hl]; rfl, UInt8.toNat_lt _⟩
  obtain ⟨b0, g0, f0, r0⟩ := g 0 (by omega)
  obtain ⟨b1, g1, f1, r1⟩ := g 1 (by omega)
  obtain ⟨b2, g2, f2, r2⟩ := g 2 (by omega)
  obtain ⟨b3, g3, f3, r3⟩ := g 3 (by omega)
  have hw : ∀ i : Nat, i ≤ 4 → IntKind.i64.wrap ((at_ : Int) + (i : Int)) = ((at_ + i : Nat) : Int) := fun i hi => by rw [i64_in (by omega) (by omega)]; omega
  have w1 := hw 1 (by omega)
  have w2 := hw 2 (by omega)
  have w3 := hw 3 (by omega)
  have hnx : nextB (bytesI s) at_ 4 = [(b0.toNat : Int), (b1.toNat : Int), (b2.toNat : Int), (b3.toNat : Int)] := by
    apply List.ext_getElem?
    intro i
    simp only [nextB, List.getElem?_take, List.getElem?_drop]
    by_cases hi : i < 4
    · rw [if_pos hi]
      have : i = 0 ∨ i = 1 ∨ i = 2 ∨ i = 3 := by omega
      rcases this with rfl | rfl | rfl | rfl
      · exact f0
      · exact f1
      · exact f2
      · exact f3
    · rw [if_neg hi, List.getElem?_eq_none (by simp; omega)]
  refine ⟨by omega, b0, g0, ?_⟩
  rw [show (1 : Int) = ((1 : Nat) : Int) from rfl, w1, show (2 : Int) = ((2 : Nat) : Int) from rfl, w2, show (3 : Int) = ((3 : Nat) : Int) from rfl, w3]
  refine ⟨by omega, b1, g1, by omega, b2, g2, by omega, b3, g3, fun w' hl => ⟨?_, hl⟩⟩
  rw [hnx]
  simp only [valueL, wrap_u32]
  congr 2
  omega
end Go.Proofs.Ytjoikaklincfoaa

/-
Images, seventh part: an image in the making; which image bytes are, as far as it can be told (the reference's read).
Conditions: the string is not too long.
-/
namespace Go.Proofs.Ytjoikaklincfoaa
open Go Go.Vc Go.RowKit
set_option linter.unusedVariables false
set_option linter.unusedSimpArgs false
set_option linter.unnecessarySimpa false
set_option maxRecDepth 100000

theorem Trk.keptB {w0 w w' : World} {L : List Blk} (h : Trk w0 w L) (hl : Later w0 w') (hk : ∀ x ∈ L, w'.heap[x.1]? = w.heap[x.1]?) : Trk w0 w' L :=
  ⟨hl, fun x hx => ⟨(h.2.1 x hx).1, (h.2.1 x hx).2.kept (hk x hx)⟩, h.2.2⟩
/-- An image in the making: block number xi holds it; its rows are the call's own, and apart. -/
structure Mk (w0 w : World) (L : List Blk) (xi xb : Nat) (A1 : Option Addr) (c1 : Nat) (A2 : Option Addr) (c2 : Nat) (x : Img) : Prop where
  trk : Trk w0 w L
  at_ : L[xi]? = some (xb, imgC A1 c1 A2 c2 x)
  o1 : OwnE hdT w0 w 50 A1 c1 x.params
  o2 : OwnE u32T w0 w 42 A2 c2 x.code
  n1 : ∀ y ∈ L, rowB A1 ≠ some y.1
  n2 : ∀ y ∈ L, rowB A2 ≠ some y.1
  n12 : ∀ k, rowB A1 = some k → rowB A2 ≠ some k
section
variable {w0 w : World} {L : List Blk} {xi xb : Nat} {A1 : Option Addr} {c1 : Nat} {A2 : Option Addr} {c2 : Nat} {x : Img}
theorem Mk.later {w' : World} (h : Mk w0 w L xi xb A1 c1 A2 c2 x) (hl : Later w w') : Mk w0 w' L xi xb A1 c1 A2 c2 x :=
  ⟨h.trk.later hl, h.at_, OwnS.later h.o1 hl, OwnS.later h.o2 hl, h.n1, h.n2, h.n12⟩
theorem Mk.imAt (h : Mk w0 w L xi xb A1 c1 A2 c2 x) : ImAt w A1 A2 x := ⟨h.o1.row, h.o2.row⟩
theorem mem_set {L : List Blk} {i b : Nat} {cs : List Value} {ds : List Value} (hi : L[i]? = some (b, cs)) {y : Blk} (hy : y ∈ L.set i (b, ds)) : ∃ z ∈ L, z.1 = y.1 := by
  rcases List.mem_or_eq_of_mem_set hy with h | h
  · exact ⟨y, h, rfl⟩
  · exact ⟨_, List.mem_of_getElem? hi, by rw [h]⟩
/-- Another block than the image's is turned: it is tracked. -/
theorem Mk.other {w' : World} (h : Mk w0 w L xi xb A1 c1 A2 c2 x) {i b : Nat} {cs ds : List Value} (hi : L[i]? = some (b, cs)) (hne : i ≠ xi) (ht : Trk w0 w' (L.set i (b, ds))) (hk : ∀ k, k < w.heap.size → (∀ y ∈ L, y.1 ≠ k) → w'.heap[k]? = w.heap[k]?) :
    Mk w0 w' (L.set i (b, ds)) xi xb A1 c1 A2 c2 x := by
  refine ⟨ht, by rw [List.getElem?_set_ne hne]; exact h.at_, h.o1.kept fun k hr => hk k (h.o1.lt hr).2 fun y hy e => h.n1 y hy (by rw [hr, e]), h.o2.kept fun k hr => hk k (h.o2.lt hr).2 fun y hy e => h.n2 y hy (by rw [hr, e]), fun y hy e => ?_, fun y hy e => ?_, h.n12⟩
  · obtain ⟨z, hz, e2⟩ := mem_set hi hy
    exact h.n1 z hz (by rw [e, e2])
  · obtain ⟨z, hz, e2⟩ := mem_set hi hy
    exact h.n2 z hz (by rw [e, e2])
/-- A cell of the image is turned that is no row. -/
theorem Mk.cell {y : Img} {j : Nat} {v : Value} (h : Mk w0 w L xi xb A1 c1 A2 c2 x) (hj : j < 5) (hv : (imgC A1 c1 A2 c2 x).set j v = imgC A1 c1 A2 c2 y) (hp : y.params = x.params) (hc : y.code = x.code) {K : World → Prop}
    (hK : ∀ w', Mk w0 w' (L.set xi (xb, imgC A1 c1 A2 c2 y)) xi xb A1 c1 A2 c2 y → w'.heap.size = w.heap.size → K w') :
    ((w.cell? ⟨xb, j, none⟩).isSome = true ∧ w.frozen? ⟨xb, j, none⟩ = false) ∧ ∀ w', w' = w.setCell ⟨xb, j, none⟩ v → K w' := by
  have hl : xi < L.length := (List.getElem?_eq_some_iff.1 h.at_).1
  have m : (xb, imgC A1 c1 A2 c2 x) ∈ L := List.mem_of_getElem? h.at_
  refine h.trk.set1E xi h.at_ (by simpa [imgC] using hj) fun w' e t => hK w' ⟨by rw [← hv]; exact t, List.getElem?_set_self hl, ?_, ?_, fun y hy e => ?_, fun y hy e => ?_, h.n12⟩ (by rw [e]; simp)
  · rw [hp, e]
    exact OwnS.set_other h.o1 (h.n1 _ m) _ _
  · rw [hc, e]
    exact OwnS.set_other h.o2 (h.n2 _ m) _ _
  · obtain ⟨z, hz, e2⟩ := mem_set h.at_ hy
    exact h.n1 z hz (by rw [e, e2])
  · obtain ⟨z, hz, e2⟩ := mem_set h.at_ hy
    exact h.n2 z hz (by rw [e, e2])
/-- One more that is handed in. -/
theorem Mk.pushP (h : Mk w0 w L xi xb A1 c1 A2 c2 x) (m : Hd) (hb : x.params.length ≤ 100000) {w1 : World} {cs : Array Value} (e1 : w1 = w.alloc (.cells cs 50)) (hcs : cs.toList = hdC m) {K : Value → World → Prop}
    (hK : ∀ b' c' w2, (((w2.cell? ⟨xb, 1, none⟩).isSome = true ∧ w2.frozen? ⟨xb, 1, none⟩ = false) ∧ ∀ w3, w3 = w2.setCell ⟨xb, 1, none⟩ (.slice b' (x.params ++ [m]).length c') → Mk w0 w3 (L.set xi (xb, imgC b' c' A2 c2 { x with params := x.params ++ [m] })) xi xb b' c' A2 c2 { x with params := x.params ++ [m] }) → K (.slice b' (x.params ++ [m]).length c') w2) :
    RunsV Try.prog (Builtin.append_ #[22, 22] 22 #[.slice A1 x.params.length c1, .slice (some ⟨w.heap.size, 0, none⟩) 1 1]) w1 K := by
  refine OwnE.push 22 rtHd m h.o1 h.trk.to (by simp [maxLen]; omega) (by omega) e1 hcs fun b' c' w2 ho hl hk => hK b' c' w2 ?_
  have lt : ∀ y ∈ L, y.1 < w.heap.size := fun y hy => (h.trk.2.1 y hy).2.lt
  have t2 : Trk w0 w2 L := Trk.keptB h.trk hl fun y hy => (hk _ (lt y hy) (h.n1 y hy)).1
  have m' : (xb, imgC A1 c1 A2 c2 x) ∈ L := List.mem_of_getElem? h.at_
  have hli : xi < L.length := (List.getElem?_eq_some_iff.1 h.at_).1
  have o2 : OwnE u32T w0 w2 42 A2 c2 x.code := h.o2.kept fun k hr => (hk k (h.o2.lt hr).2 fun e => h.n12 k e hr).1
  have nb : ∀ y ∈ L, rowB b' ≠ some y.1 := fun y hy => (hk _ (lt y hy) (h.n1 y hy)).2
  refine t2.set1E xi h.at_ (by simp [imgC]) fun w3 e t => ⟨t, List.getElem?_set_self hli, ?_, ?_, fun y hy e => ?_, fun y hy e => ?_, fun k e1 e2 => ?_⟩
  · rw [e]; exact OwnS.set_other ho (nb _ m') _ _
  · rw [e]; exact OwnS.set_other o2 (h.n2 _ m') _ _
  · obtain ⟨z, hz, e2⟩ := mem_set h.at_ hy
    exact nb z hz (by rw [e, e2])
  · obtain ⟨z, hz, e2⟩ := mem_set h.at_ hy
    exact h.n2 z hz (by rw [e, e2])
  · have hlt := (h.o2.lt e2).2
    exact (hk k hlt fun e => h.n12 k e e2).2 e1
/-- One more word. -/
theorem Mk.pushC (h : Mk w0 w L xi xb A1 c1 A2 c2 x) (m : Int) (hb : x.code.length ≤ 1000000) {w1 : World} (e1 : w1 = w.alloc (.cells #[.int .u32 m] 42)) {K : Value → World → Prop}
    (hK : ∀ b' c' w2, Trk w0 w2 L → (((w2.cell? ⟨xb, 4, none⟩).isSome = true ∧ w2.frozen? ⟨xb, 4, none⟩ = false) ∧ ∀ w3, w3 = w2.setCell ⟨xb, 4, none⟩ (.slice b' (x.code ++ [m]).length c') → Mk w0 w3 (L.set xi (xb, imgC A1 c1 b' c' { x with code := x.code ++ [m] })) xi xb A1 c1 b' c' { x with code := x.code ++ [m] }) → K (.slice b' (x.code ++ [m]).length c') w2) :
    RunsV Try.prog (Builtin.append_ #[23, 23] 23 #[.slice A2 x.code.length c2, .slice (some ⟨w.heap.size, 0, none⟩) 1 1]) w1 K := by
  refine OwnE.push 23 rtU32 m h.o2 h.trk.to (by simp [maxLen]; omega) (by omega) e1 rfl fun b' c' w2 ho hl hk => ?_
  have lt : ∀ y ∈ L, y.1 < w.heap.size := fun y hy => (h.trk.2.1 y hy).2.lt
  have t2 : Trk w0 w2 L := Trk.keptB h.trk hl fun y hy => (hk _ (lt y hy) (h.n2 y hy)).1
  refine hK b' c' w2 t2 ?_
  have m' : (xb, imgC A1 c1 A2 c2 x) ∈ L := List.mem_of_getElem? h.at_
  have hli : xi < L.length := (List.getElem?_eq_some_iff.1 h.at_).1
  have o1 : OwnE hdT w0 w2 50 A1 c1 x.params := h.o1.kept fun k hr => (hk k (h.o1.lt hr).2 fun e => h.n12 k hr e).1
  have nb : ∀ y ∈ L, rowB b' ≠ some y.1 := fun y hy => (hk _ (lt y hy) (h.n2 y hy)).2
  refine t2.set1E xi h.at_ (by simp [imgC]) fun w3 e t => ⟨t, List.getElem?_set_self hli, ?_, ?_, fun y hy e => ?_, fun y hy e => ?_, fun k e1 e2 => ?_⟩
  · rw [e]; exact OwnS.set_other o1 (h.n1 _ m') _ _
  · rw [e]; exact OwnS.set_other ho (nb _ m') _ _
  · obtain ⟨z, hz, e2⟩ := mem_set h.at_ hy
    exact h.n1 z hz (by rw [e, e2])
  · obtain ⟨z, hz, e2⟩ := mem_set h.at_ hy
    exact nb z hz (by rw [e, e2])
  · have hlt := (h.o1.lt e1).2
    exact (hk k hlt fun e => h.n12 k e1 e).2 e2
/-- The image goes out by way of a block of its own. -/
theorem Mk.out (h : Mk w0 w L xi xb A1 c1 A2 c2 x) {k rb : Nat} {cs : List Value} (hk : L[k]? = some (rb, cs)) (hc : cs.length = 5) {R : Int → Option Addr → Nat → Nat → Bool → Bool → Option Addr → Nat → Nat → World → Prop}
    (hR : ∀ w', Later w0 w' → ImAt w' A1 A2 x → OwnE hdT w0 w' 50 A1 c1 x.params → OwnE u32T w0 w' 42 A2 c2 x.code → R x.slots A1 x.params.length c1 x.ret x.sec A2 x.code.length c2 w') :
    ∃ n p n1 c b b1 p1 n2 cc1, (w.cell? ⟨xb, 0, none⟩ = some (i64v n) ∧ w.cell? ⟨xb, 1, none⟩ = some (.slice p n1 c) ∧ w.cell? ⟨xb, 2, none⟩ = some (.bool b) ∧ w.cell? ⟨xb, 3, none⟩ = some (.bool b1) ∧ w.cell? ⟨xb, 4, none⟩ = some (.slice p1 n2 cc1) ∧ True) ∧
      SetsAt w ⟨rb, 0, none⟩ 0 [i64v n, .slice p n1 c, .bool b, .bool b1, .slice p1 n2 cc1] ∧ ∀ w', w' = setCellsAt w ⟨rb, 0, none⟩ 0 [i64v n, .slice p n1 c, .bool b, .bool b1, .slice p1 n2 cc1] →
        ∃ n p n1 c b b1 p1 n2 cc1, (w'.cell? ⟨rb, 0, none⟩ = some (i64v n) ∧ w'.cell? ⟨rb, 1, none⟩ = some (.slice p n1 c) ∧ w'.cell? ⟨rb, 2, none⟩ = some (.bool b) ∧ w'.cell? ⟨rb, 3, none⟩ = some (.bool b1) ∧ w'.cell? ⟨rb, 4, none⟩ = some (.slice p1 n2 cc1) ∧ True) ∧ R n p n1 c b b1 p1 n2 cc1 w' := by
  have mk : (rb, cs) ∈ L := List.mem_of_getElem? hk
  have hkl : k < L.length := (List.getElem?_eq_some_iff.1 hk).1
  have c := fun (i : Nat) (v : Value) (hv : (imgC A1 c1 A2 c2 x)[i]? = some v) => h.trk.cell xi h.at_ hv
  refine ⟨_, _, _, _, _, _, _, _, _, ⟨c 0 _ rfl, c 1 _ rfl, c 2 _ rfl, c 3 _ rfl, c 4 _ rfl, trivial⟩, ?_⟩
  refine h.trk.setAllE (l := imgC A1 c1 A2 c2 x) k hk (by rw [hc]; rfl) (ones rfl) fun w' e t => ?_
  have ek : (L.set k (rb, imgC A1 c1 A2 c2 x))[k]? = some (rb, imgC A1 c1 A2 c2 x) := List.getElem?_set_self hkl
  have o1 : OwnE hdT w0 w' 50 A1 c1 x.params := e ▸ OwnS.sets_other (h.n1 _ mk) _ _ h.o1
  have o2 : OwnE u32T w0 w' 42 A2 c2 x.code := e ▸ OwnS.sets_other (h.n2 _ mk) _ _ h.o2
  exact ⟨_, _, _, _, _, _, _, _, _, ⟨t.cell k ek rfl, t.cell k ek rfl, t.cell k ek rfl, t.cell k ek rfl, t.cell k ek rfl, trivial⟩, hR w' t.to ⟨o1.row, o2.row⟩ o1 o2⟩
end
end Go.Proofs.Ytjoikaklincfoaa

/-
Images, eighth part: which image bytes are, as far as it can be told; the reference's read.
Conditions: the string is not too long.
-/
namespace Go.Proofs.Ytjoikaklincfoaa
open Go Go.Vc Go.RowKit
set_option linter.unusedVariables false
set_option linter.unusedSimpArgs false
set_option linter.unnecessarySimpa false
set_option maxRecDepth 100000

def bAt (l : List Int) (i : Nat) : Int := l.getD i 0
def hdOf (c : Int) : Hd := ⟨c % 2 == 1, c / 2 % 2 == 1, c / 4 % 2 == 1, 0, 0⟩
def nP (l : List Int) : Nat := (bAt l 5).toNat
def manyL (l : List Int) : Nat := (valueL (nextB l (7 + nP l) 4)).toNat
def canRd (l : List Int) : Bool := decide (11 + nP l ≤ l.length ∧ 4 * manyL l ≤ l.length - (11 + nP l))
def codeAt (l : List Int) (i : Nat) : Int := valueL (nextB l (11 + nP l + 4 * i) 4)
def rdP (l : List Int) (k : Nat) : List Hd := (nextB l 6 k).map hdOf
def rdC (l : List Int) (k : Nat) : List Int := (List.range k).map (codeAt l)
def rdI (l : List Int) : Img := ⟨bAt l 4, rdP l (nP l), bAt l (6 + nP l) % 2 == 1, bAt l (6 + nP l) / 2 % 2 == 1, rdC l (manyL l)⟩
theorem bAt_byte {s : ByteArray} {i : Nat} (hi : i < s.size) : ∃ b : UInt8, s[i]? = some b ∧ bAt (bytesI s) i = (b.toNat : Int) ∧ b.toNat < 256 := by
  have hl : i < s.data.toList.length := by rw [Array.length_toList]; exact hi
  refine ⟨s.data.toList[i], get_byte hi, ?_, UInt8.toNat_lt _⟩
  unfold bAt bytesI
  rw [List.getD_eq_getElem?_getD, List.getElem?_map, List.getElem?_eq_getElem hl]
  rfl
theorem bAt_range (s : ByteArray) (i : Nat) : 0 ≤ bAt (bytesI s) i ∧ bAt (bytesI s) i < 256 := by
  unfold bAt
  rw [List.getD_eq_getElem?_getD]
  cases h : (bytesI s)[i]? with
  | none => simp
  | some b => exact bytesI_range (List.mem_of_getElem? h)
theorem nextB_mem {l : List Int} {a n : Nat} {b : Int} (h : b ∈ nextB l a n) : b ∈ l := List.mem_of_mem_drop (List.mem_of_mem_take h)
theorem valueL_range {l : List Int} (h : ∀ b ∈ l, 0 ≤ b ∧ b < 256) : 0 ≤ valueL l ∧ valueL l < 4294967296 := by
  unfold valueL
  split
  · rename_i a b c d
    have ha := h a (by simp)
    have hb := h b (by simp)
    have hc := h c (by simp)
    have hd := h d (by simp)
    omega
  · omega
theorem next_value (s : ByteArray) (a : Nat) : 0 ≤ valueL (nextB (bytesI s) a 4) ∧ valueL (nextB (bytesI s) a 4) < 4294967296 := valueL_range fun b hb => bytesI_range (nextB_mem hb)
theorem nextB_one {l : List Int} {a : Nat} (h : a < l.length) : nextB l a 1 = [bAt l a] := by
  unfold nextB bAt
  rw [List.getD_eq_getElem?_getD, List.getElem?_eq_getElem h]
  apply List.ext_getElem?
  intro i
  rw [List.getElem?_take, List.getElem?_drop]
  by_cases hi : i < 1
  · obtain rfl : i = 0 := by omega
    rw [if_pos hi]
    simp [List.getElem?_eq_getElem h]
  · rw [if_neg hi, List.getElem?_eq_none (by simp; omega)]
theorem rdP_succ {l : List Int} {k : Nat} (h : 6 + k < l.length) : rdP l k ++ [hdOf (bAt l (6 + k))] = rdP l (k + 1) := by
  unfold rdP nextB
  rw [List.take_add_one, List.getElem?_drop, List.getElem?_eq_getElem h, List.map_append]
  congr 1
  unfold bAt
  rw [List.getD_eq_getElem?_getD, List.getElem?_eq_getElem h]
  rfl
theorem rdC_succ (l : List Int) (k : Nat) : rdC l k ++ [codeAt l k] = rdC l (k + 1) := by
  unfold rdC
  rw [List.range_succ, List.map_append]
  rfl
theorem rdP_length {l : List Int} {k : Nat} (h : 6 + k ≤ l.length) : (rdP l k).length = k := by
  unfold rdP nextB
  rw [List.length_map, List.length_take, List.length_drop]
  omega
theorem rdC_length (l : List Int) (k : Nat) : (rdC l k).length = k := by simp [rdC]
/-- What read answers. -/
def RdR (s : ByteArray) (w : World) (e : Ending) (w' : World) : Prop := Later w w' ∧
  ((canRd (bytesI s) = true ∧ ∃ A1 c1 A2 c2, e = .returned (.tuple #[imgV A1 c1 A2 c2 (rdI (bytesI s)), i64v ((11 + nP (bytesI s) + 4 * manyL (bytesI s) : Nat) : Int), .bool true]) ∧ OwnE hdT w w' 50 A1 c1 (rdI (bytesI s)).params ∧ OwnE u32T w w' 42 A2 c2 (rdI (bytesI s)).code ∧ ∀ k, rowB A1 = some k → rowB A2 ≠ some k) ∨
   (canRd (bytesI s) = false ∧ ∃ A1 c1 A2 c2 x, e = .returned (.tuple #[imgV A1 c1 A2 c2 x, i64v 0, .bool false])))
theorem Mk.new {w0 w : World} {L : List Blk} {xi xb : Nat} (ht : Trk w0 w L) (h : L[xi]? = some (xb, imgC none 0 none 0 ⟨0, [], false, false, []⟩)) : Mk w0 w L xi xb none 0 none 0 ⟨0, [], false, false, []⟩ :=
  ⟨ht, h, OwnE.nil _ _ _, OwnE.nil _ _ _, by simp, by simp, by simp⟩
set_option maxHeartbeats 6400000 in
theorem ref30_read_ok {s : ByteArray} (hs : s.size ≤ 100000) (w : World) : Calls Try.prog ref30_read.N #[.string s] w (RdR s w) := by
  refine ref30_read.calls ?_
  unfold ref30_read.vc
  intro w1 h1 w2 h2
  have L := ((Trk.start w).alloc h1).alloc h2
  refine L.setAll (l := imgC none 0 none 0 ⟨0, [], false, false, []⟩) 1 rfl rfl (ones rfl) fun w3 L => ?_
  have y : Mk w w3 _ 1 w1.heap.size none 0 none 0 ⟨0, [], false, false, []⟩ := Mk.new L rfl
  have bl := bytesI_length s
  have no : ∀ {A1 A2 : Option Addr} {c1 c2 : Nat} {x : Img} {w' : World}, canRd (bytesI s) = false → Later w w' → RdR s w (.returned (.tuple #[imgV A1 c1 A2 c2 x, i64v 0, .bool false])) w' := fun h hl => ⟨hl, .inr ⟨h, _, _, _, _, _, rfl⟩⟩
  rw [show IntKind.i64.wrap 6 = 6 from rfl, show IntKind.i64.wrap 5 = 5 from rfl]
  refine cnd_of (fun h => y.out (k := 0) rfl rfl fun w' hl _ _ _ => no ?_ hl) fun h => ?_
  · have h : (s.size : Int) < 6 := by simpa using h
    simp only [canRd, decide_eq_false_iff_not]
    omega
  have h6 : 6 ≤ s.size := by have : ¬ (s.size : Int) < 6 := by simpa using h
                             omega
  obtain ⟨b4, g4, e4, r4⟩ := bAt_byte (s := s) (i := 4) (by omega)
  obtain ⟨b5, g5, e5, r5⟩ := bAt_byte (s := s) (i := 5) (by omega)
  have hnP : nP (bytesI s) = b5.toNat := by unfold nP; rw [e5]; rfl
  have w4' : IntKind.i64.wrap ((b4.toNat : Nat) : Int) = (b4.toNat : Int) := i64_in (by omega) (by omega)
  have w5' : IntKind.i64.wrap ((b5.toNat : Nat) : Int) = (b5.toNat : Int) := i64_in (by omega) (by omega)
  refine ⟨show (0 : Int) ≤ 4 by decide, b4, g4, ?_⟩
  rw [w4', ← e4]
  refine y.cell (j := 0) (y := ⟨bAt (bytesI s) 4, [], false, false, []⟩) (by decide) rfl rfl rfl fun w4 y _ => ⟨show (0 : Int) ≤ 5 by decide, b5, g5, ?_⟩
  have wa : IntKind.i64.wrap (6 + IntKind.i64.wrap ((b5.toNat : Nat) : Int)) = ((6 + b5.toNat : Nat) : Int) := by rw [w5', i64_in (by omega) (by omega)]; omega
  have wb : IntKind.i64.wrap (((6 + b5.toNat : Nat) : Int) + 5) = ((11 + b5.toNat : Nat) : Int) := by rw [i64_in (by omega) (by omega)]; omega
  rw [wa, wb, w5']
  refine cnd_of (fun h => y.out (k := 0) rfl rfl fun w' hl _ _ _ => no ?_ hl) fun h => ?_
  · have h : (s.size : Int) < ((11 + b5.toNat : Nat) : Int) := by simpa using h
    simp only [canRd, decide_eq_false_iff_not]
    omega
  have h11 : 11 + b5.toNat ≤ s.size := by have : ¬ (s.size : Int) < ((11 + b5.toNat : Nat) : Int) := by simpa using h
                                          omega
  refine ⟨fun vs w' => ∃ (k : Nat) (A1 : Option Addr) (c1 : Nat) (M : List Blk), k ≤ b5.toNat ∧ vs = [i64v k] ∧ M[0]? = some (w.heap.size, [i64v 0, .slice none 0 0, .bool false, .bool false, .slice none 0 0]) ∧ Mk w w' M 1 w1.heap.size A1 c1 none 0 ⟨bAt (bytesI s) 4, rdP (bytesI s) k, false, false, []⟩,
    fun vs _ => match vs with | [.int _ n] => b5.toNat - n.toNat | _ => 0, ⟨0, none, 0, _, by omega, rfl, rfl, y⟩, ?_⟩
  rintro g i w5 ⟨k, A1, c1, M, hk, hs', hM0, y⟩
  simp only [List.cons.injEq, Value.int.injEq, true_and, and_true] at hs'
  subst hs'
  refine cnd_of (fun h => ?_) fun h => ?_
  · have hlt : k < b5.toNat := by simp only [decide_eq_true_eq] at h; omega
    obtain ⟨b, gb, eb, rb⟩ := bAt_byte (s := s) (i := 6 + k) (by omega)
    have wk : IntKind.i64.wrap (6 + (k : Int)) = ((6 + k : Nat) : Int) := by rw [i64_in (by omega) (by omega)]; omega
    rw [wk]
    refine ⟨by omega, b, gb, _, _, _, y.trk.cell 1 y.at_ rfl, fun w6 h6' => ?_⟩
    have hcs : (#[Value.bool ((b.toNat : Int).tmod 2 == 1), .bool ((IntKind.u8.wrap ((b.toNat : Int).tdiv 2)).tmod 2 == 1), .bool ((IntKind.u8.wrap ((b.toNat : Int).tdiv 4)).tmod 2 == 1), i64v 0, i64v 0] : Array Value).toList = hdC (hdOf (bAt (bytesI s) (6 + k))) := by
      rw [eb]
      have n0 : (0 : Int) ≤ (b.toNat : Int) := by omega
      simp only [u8_wrap, hdC, hdOf]
      rw [tdiv_nn _ n0, tdiv_nn _ n0, tmod_nn _ n0, tmod_nn _ (by omega), tmod_nn _ (by omega), Int.emod_eq_of_lt (a := (b.toNat : Int) / 2) (by omega) (by omega), Int.emod_eq_of_lt (a := (b.toNat : Int) / 4) (by omega) (by omega)]
    have lenk : (rdP (bytesI s) k).length = k := rdP_length (by omega)
    refine y.pushP (hdOf (bAt (bytesI s) (6 + k))) (by show (rdP (bytesI s) k).length ≤ _; omega) h6' hcs fun b' c' w7 hK => ⟨_, _, _, rfl, hK.1, fun w8 h8 => ?_⟩
    have y8 := hK.2 w8 h8
    have hw : IntKind.i64.wrap ((k : Int) + 1) = ((k + 1 : Nat) : Int) := by rw [i64_in (by omega) (by omega)]; omega
    rw [hw]
    have es : rdP (bytesI s) k ++ [hdOf (bAt (bytesI s) (6 + k))] = rdP (bytesI s) (k + 1) := rdP_succ (by omega)
    simp only [es] at y8
    exact ⟨⟨k + 1, b', c', _, by omega, rfl, by rw [List.getElem?_set_ne (by decide)]; exact hM0, y8⟩, by show b5.toNat - ((k + 1 : Nat) : Int).toNat < b5.toNat - ((k : Nat) : Int).toNat; omega⟩
  have hkn : k = b5.toNat := by simp only [decide_eq_false_iff_not] at h; omega
  subst hkn
  obtain ⟨bf, gf, ef, rf⟩ := bAt_byte (s := s) (i := 6 + b5.toNat) (by omega)
  have n0 : (0 : Int) ≤ (bf.toNat : Int) := by omega
  refine ⟨by omega, bf, gf, ?_⟩
  rw [tmod_nn _ n0, ← ef]
  refine y.cell (j := 2) (y := ⟨bAt (bytesI s) 4, rdP (bytesI s) b5.toNat, bAt (bytesI s) (6 + b5.toNat) % 2 == 1, false, []⟩) (by decide) rfl rfl rfl fun w6 y _ => ⟨by omega, bf, gf, ?_⟩
  have e3 : (IntKind.u8.wrap ((bf.toNat : Int).tdiv 2)).tmod 2 = bAt (bytesI s) (6 + b5.toNat) / 2 % 2 := by
    rw [ef, u8_wrap, tdiv_nn _ n0, tmod_nn _ (by omega), Int.emod_eq_of_lt (a := (bf.toNat : Int) / 2) (by omega) (by omega)]
  rw [e3]
  refine y.cell (j := 3) (y := ⟨bAt (bytesI s) 4, rdP (bytesI s) b5.toNat, bAt (bytesI s) (6 + b5.toNat) % 2 == 1, bAt (bytesI s) (6 + b5.toNat) / 2 % 2 == 1, []⟩) (by decide) rfl rfl rfl fun w7 y _ => ?_
  generalize hM1 : (M.set 1 _).set 1 _ = M1 at y
  have hM10 : M1[0]? = some (w.heap.size, [i64v 0, .slice none 0 0, .bool false, .bool false, .slice none 0 0]) := by
    rw [← hM1, List.getElem?_set_ne (by decide), List.getElem?_set_ne (by decide)]
    exact hM0
  have wc : IntKind.i64.wrap (((6 + b5.toNat : Nat) : Int) + 1) = ((7 + b5.toNat : Nat) : Int) := by rw [i64_in (by omega) (by omega)]; omega
  rw [wc]
  refine (ref30_value_ok (s := s) (at_ := 7 + b5.toNat) (by omega) (by omega) w7).mono fun e w8 ⟨he, g8⟩ => ⟨_, he, ?_⟩
  have y := y.later g8
  have hv := next_value s (7 + b5.toNat)
  have hmany : ((manyL (bytesI s) : Nat) : Int) = valueL (nextB (bytesI s) (7 + b5.toNat) 4) := by
    unfold manyL
    rw [hnP]
    omega
  rw [← hmany]
  have hm0 : manyL (bytesI s) < 4294967296 := by omega
  have wm : IntKind.i64.wrap ((manyL (bytesI s) : Nat) : Int) = ((manyL (bytesI s) : Nat) : Int) := i64_in (by omega) (by omega)
  have wq : IntKind.i64.wrap ((IntKind.i64.wrap ((s.size : Int) - ((11 + b5.toNat : Nat) : Int))).tdiv 4) = (((s.size - (11 + b5.toNat)) / 4 : Nat) : Int) := by
    rw [i64_in (x := (s.size : Int) - ((11 + b5.toNat : Nat) : Int)) (by omega) (by omega), tdiv_nn _ (by omega), i64_in (by omega) (by omega)]
    omega
  rw [wm, wq]
  refine cnd_of (fun h => y.out (k := 0) hM10 rfl fun w' hl _ _ _ => no ?_ hl) fun h => ?_
  · have h : ((manyL (bytesI s) : Nat) : Int) > (((s.size - (11 + b5.toNat)) / 4 : Nat) : Int) := by simpa using h
    simp only [canRd, decide_eq_false_iff_not, hnP]
    omega
  have hmany4 : 4 * manyL (bytesI s) ≤ s.size - (11 + b5.toNat) := by
    have : ¬ ((manyL (bytesI s) : Nat) : Int) > (((s.size - (11 + b5.toNat)) / 4 : Nat) : Int) := by simpa using h
    omega
  refine ⟨fun vs w' => ∃ (k : Nat) (A2 : Option Addr) (c2 : Nat) (M : List Blk), k ≤ manyL (bytesI s) ∧ vs = [i64v k] ∧ M[0]? = some (w.heap.size, [i64v 0, .slice none 0 0, .bool false, .bool false, .slice none 0 0]) ∧ Mk w w' M 1 w1.heap.size A1 c1 A2 c2 ⟨bAt (bytesI s) 4, rdP (bytesI s) b5.toNat, bAt (bytesI s) (6 + b5.toNat) % 2 == 1, bAt (bytesI s) (6 + b5.toNat) / 2 % 2 == 1, rdC (bytesI s) k⟩,
    fun vs _ => match vs with | [.int _ n] => manyL (bytesI s) - n.toNat | _ => 0, ⟨0, none, 0, M1, by omega, rfl, hM10, y⟩, ?_⟩
  rintro g i w9 ⟨k, A2, c2, M, hk, hs', hM0, y⟩
  simp only [List.cons.injEq, Value.int.injEq, true_and, and_true] at hs'
  subst hs'
  refine cnd_of (fun h => ?_) fun h => ?_
  · have hlt : k < manyL (bytesI s) := by simp only [decide_eq_true_eq] at h; omega
    refine ⟨fun w' => Has w' w1.heap.size (imgC A1 c1 A2 c2 ⟨bAt (bytesI s) 4, rdP (bytesI s) b5.toNat, bAt (bytesI s) (6 + b5.toNat) % 2 == 1, bAt (bytesI s) (6 + b5.toNat) / 2 % 2 == 1, rdC (bytesI s) k⟩), fun w' g => (y.trk.has 1 y.at_).later g, fun w10 g10 => ⟨_, _, _, fun w' h => h.cell rfl, ?_⟩⟩
    have y10 := y.later g10
    have w4k : IntKind.i64.wrap (4 * (k : Int)) = ((4 * k : Nat) : Int) := by rw [i64_in (by omega) (by omega)]; omega
    have wpos : IntKind.i64.wrap (((11 + b5.toNat : Nat) : Int) + ((4 * k : Nat) : Int)) = ((11 + b5.toNat + 4 * k : Nat) : Int) := by rw [i64_in (by omega) (by omega)]; omega
    rw [w4k, wpos]
    refine (ref30_value_ok (s := s) (at_ := 11 + b5.toNat + 4 * k) (by omega) (by omega) w10).mono fun e w11 ⟨he, g11⟩ => ⟨_, he, (y10.trk.has 1 y10.at_).later g11, fun w12 h12 => ?_⟩
    have y11 := y10.later g11
    have hca : codeAt (bytesI s) k = valueL (nextB (bytesI s) (11 + b5.toNat + 4 * k) 4) := by unfold codeAt; rw [hnP]
    rw [← hca] at h12
    have g12 : Later w11 w12 := h12 ▸ Later.alloc' _ _
    have hlen : (rdC (bytesI s) k).length = k := rdC_length _ _
    refine ⟨(y11.trk.has 1 y11.at_).later g12, y11.pushC (codeAt (bytesI s) k) (by show (rdC (bytesI s) k).length ≤ _; omega) h12 fun b' c' w13 t13 hK => ⟨_, _, _, rfl, t13.has 1 y11.at_, hK.1, fun w14 h14 => ?_⟩⟩
    have y14 := hK.2 w14 h14
    have hw : IntKind.i64.wrap ((k : Int) + 1) = ((k + 1 : Nat) : Int) := by rw [i64_in (by omega) (by omega)]; omega
    rw [hw]
    simp only [rdC_succ] at y14
    exact ⟨⟨k + 1, b', c', _, by omega, rfl, by rw [List.getElem?_set_ne (by decide)]; exact hM0, y14⟩, by show manyL (bytesI s) - ((k + 1 : Nat) : Int).toNat < manyL (bytesI s) - ((k : Nat) : Int).toNat; omega⟩
  · have hkn : k = manyL (bytesI s) := by simp only [decide_eq_false_iff_not] at h; omega
    subst hkn
    have w4k : IntKind.i64.wrap (4 * ((manyL (bytesI s) : Nat) : Int)) = ((4 * manyL (bytesI s) : Nat) : Int) := by rw [i64_in (by omega) (by omega)]; omega
    have wpos : IntKind.i64.wrap (((11 + b5.toNat : Nat) : Int) + ((4 * manyL (bytesI s) : Nat) : Int)) = ((11 + b5.toNat + 4 * manyL (bytesI s) : Nat) : Int) := by rw [i64_in (by omega) (by omega)]; omega
    rw [w4k, wpos]
    refine y.out (k := 0) hM0 rfl fun w' hl hi o1 o2 => ⟨hl, .inl ⟨?_, A1, c1, A2, c2, ?_, ?_, ?_, y.n12⟩⟩
    · simp only [canRd, decide_eq_true_eq, hnP]
      omega
    · unfold rdI
      rw [hnP]
    · unfold rdI
      rw [hnP]
      exact o1
    · exact o2
end Go.Proofs.Ytjoikaklincfoaa

/-
Images, ninth part: which image bytes are, or why none (the reference's Get).
Conditions: the string is not too long.
-/
namespace Go.Proofs.Ytjoikaklincfoaa
open Go Go.Vc Go.RowKit
set_option linter.unusedVariables false
set_option linter.unusedSimpArgs false
set_option linter.unnecessarySimpa false
set_option maxRecDepth 100000

def zeroI : Img := ⟨0, [], false, false, []⟩
def magicB : ByteArray := ByteArray.mk #[83, 67, 82, 49]
def preOk (s : ByteArray) : Bool := (s.extract 0 (gomin (s.size : Int) 4).toNat).toList == (magicB.extract 0 (gomin (s.size : Int) 4).toNat).toList
def okG (s : ByteArray) : Bool := mayI (rdI (bytesI s)) && ((strOf (putB (rdI (bytesI s)))).toList == s.toList)
def getE (s : ByteArray) : Int := if preOk s = true then (if canRd (bytesI s) = true then (if okG s = true then 0 else 7) else 6) else 7
def getX (s : ByteArray) : Img := if getE s = 0 then rdI (bytesI s) else zeroI
def GetR (s : ByteArray) (w : World) (e : Ending) (w' : World) : Prop := Later w w' ∧ ∃ A1 c1 A2 c2, e = .returned (.tuple #[imgV A1 c1 A2 c2 (getX s), i64v (getE s)]) ∧ ImAt w' A1 A2 (getX s)
theorem zero_at (w : World) : ImAt w none none zeroI := ⟨ERow.nil _ _, ERow.nil _ _⟩
theorem get_zero {s : ByteArray} {w w' : World} {k : Int} (h : getE s = k) (hk : k ≠ 0) (hl : Later w w') : GetR s w (.returned (.tuple #[imgV none 0 none 0 zeroI, i64v k])) w' := by
  refine ⟨hl, none, 0, none, 0, ?_, ?_⟩
  · rw [getX, h, if_neg hk]
  · rw [getX, h, if_neg hk]
    exact zero_at _
/-- No image goes out by way of a block. -/
theorem zeroOut {w0 w : World} {L : List Blk} (h : Trk w0 w L) {k rb : Nat} {cs : List Value} (hk : L[k]? = some (rb, cs)) (hc : cs.length = 5) {R : Int → Option Addr → Nat → Nat → Bool → Bool → Option Addr → Nat → Nat → World → Prop}
    (hR : ∀ w', Later w0 w' → R 0 none 0 0 false false none 0 0 w') :
    SetsAt w ⟨rb, 0, none⟩ 0 [i64v 0, .slice none 0 0, .bool false, .bool false, .slice none 0 0] ∧ ∀ w', w' = setCellsAt w ⟨rb, 0, none⟩ 0 [i64v 0, .slice none 0 0, .bool false, .bool false, .slice none 0 0] →
        ∃ n p n1 c b b1 p1 n2 cc1, (w'.cell? ⟨rb, 0, none⟩ = some (i64v n) ∧ w'.cell? ⟨rb, 1, none⟩ = some (.slice p n1 c) ∧ w'.cell? ⟨rb, 2, none⟩ = some (.bool b) ∧ w'.cell? ⟨rb, 3, none⟩ = some (.bool b1) ∧ w'.cell? ⟨rb, 4, none⟩ = some (.slice p1 n2 cc1) ∧ True) ∧ R n p n1 c b b1 p1 n2 cc1 w' := by
  have hkl : k < L.length := (List.getElem?_eq_some_iff.1 hk).1
  refine h.setAllE (l := [i64v 0, .slice none 0 0, .bool false, .bool false, .slice none 0 0]) k hk (by rw [hc]; rfl) (ones rfl) fun w' e t => ?_
  have ek : (L.set k (rb, [i64v 0, .slice none 0 0, .bool false, .bool false, .slice none 0 0]))[k]? = some (rb, [i64v 0, .slice none 0 0, .bool false, .bool false, .slice none 0 0]) := List.getElem?_set_self hkl
  exact ⟨_, _, _, _, _, _, _, _, _, ⟨t.cell k ek rfl, t.cell k ek rfl, t.cell k ek rfl, t.cell k ek rfl, t.cell k ek rfl, trivial⟩, hR w' t.to⟩
theorem eq_size {a b : ByteArray} (h : (a.toList == b.toList) = true) : a.size = b.size := by
  rw [ByteArray.toList_eq, ByteArray.toList_eq] at h
  have := congrArg List.length (eq_of_beq h)
  rwa [Array.length_toList, Array.length_toList] at this
theorem rdI_ok {s : ByteArray} (hs : s.size ≤ 100000) (h : canRd (bytesI s) = true) : ImOk (rdI (bytesI s)) := by
  have bl := bytesI_length s
  simp only [canRd, decide_eq_true_eq] at h
  have b4 := bAt_range s 4
  have b5 := bAt_range s 5
  have hp : nP (bytesI s) ≤ 255 := by unfold nP; omega
  refine ⟨⟨by show -9223372036854775808 ≤ bAt (bytesI s) 4; omega, by show bAt (bytesI s) 4 < 9223372036854775808; omega⟩, fun h hm => ?_, fun c hc => ?_, ?_, ?_⟩
  · obtain ⟨b, -, rfl⟩ := List.mem_map.1 hm
    have z : I64 0 := ⟨by decide, by decide⟩
    exact ⟨z, z⟩
  · obtain ⟨i, -, rfl⟩ := List.mem_map.1 hc
    exact next_value s _
  · show (rdP (bytesI s) (nP (bytesI s))).length ≤ 1000
    rw [rdP_length (by omega)]
    omega
  · show (rdC (bytesI s) (manyL (bytesI s))).length ≤ 100000
    rw [rdC_length]
    omega
theorem put_size {s : ByteArray} (h : canRd (bytesI s) = true) (he : ((strOf (putB (rdI (bytesI s)))).toList == s.toList) = true) : 11 + nP (bytesI s) + 4 * manyL (bytesI s) = s.size := by
  have h1 := eq_size he
  simp only [canRd, decide_eq_true_eq] at h
  rw [strOf_size, putB_length] at h1
  have e1 : (rdI (bytesI s)).params.length = nP (bytesI s) := rdP_length (by omega)
  have e2 : (rdI (bytesI s)).code.length = manyL (bytesI s) := rdC_length _ _
  omega
theorem getE_7 {s : ByteArray} (h : preOk s = true) (hc : canRd (bytesI s) = true) (ho : okG s = false) : getE s = 7 := by simp [getE, h, hc, ho]
set_option maxHeartbeats 6400000 in
theorem ref30_Get_ok {s : ByteArray} (hs : s.size ≤ 100000) (w : World) : Calls Try.prog ref30_Get.N #[.string s] w (GetR s w) := by
  refine ref30_Get.calls ?_
  unfold ref30_Get.vc
  intro w1 h1
  have L := (Trk.start w).alloc h1
  have hm : gomin (s.size : Int) 4 = if 4 < s.size then 4 else (s.size : Int) := by unfold gomin; split <;> split <;> omega
  refine ⟨⟨by rw [hm]; split <;> omega, by rw [hm]; split <;> omega⟩, ⟨by rw [hm]; split <;> omega, by rw [hm]; split <;> omega⟩, fun w2 g2 => ?_⟩
  have L := L.later g2
  refine cnd_of (fun h => zeroOut L (k := 0) rfl rfl fun w' hl => get_zero ?_ (by decide) hl) fun h => ?_
  · have : preOk s = false := by simpa [preOk, magicB] using h
    simp [getE, this]
  have hpre : preOk s = true := by simpa [preOk, magicB] using h
  refine (ref30_read_ok hs w2).mono fun e w3 ⟨g3, hr⟩ => ?_
  rcases hr.symm with ⟨hc, A1, c1, A2, c2, x, he⟩ | ⟨hc, A1, c1, A2, c2, he, o1, o2, n12⟩
  · refine ⟨_, _, _, _, _, _, _, _, _, _, _, he, fun w4 h4 => ?_⟩
    have L := (L.later g3).alloc h4
    refine L.setAll (l := imgC A1 c1 A2 c2 x) 1 rfl rfl (ones rfl) fun w5 L => cnd_true rfl ?_
    exact zeroOut L (k := 0) rfl rfl fun w' hl => get_zero (by simp [getE, hpre, hc]) (by decide) hl
  refine ⟨_, _, _, _, _, _, _, _, _, _, _, he, fun w4 h4 => ?_⟩
  have hx := rdI_ok hs hc
  have L := (L.later g3).alloc h4
  have s2 : w.heap.size < w2.heap.size := ((((Trk.start w).alloc h1).later g2).has 0 rfl).lt
  have sw : w.heap.size ≤ w2.heap.size := by omega
  refine L.setAllE (l := imgC A1 c1 A2 c2 (rdI (bytesI s))) 1 rfl rfl (ones rfl) fun w5 e5 L => cnd_false rfl ?_
  have b1 : ∀ k, rowB A1 = some k → w2.heap.size ≤ k ∧ k < w3.heap.size := fun k h => o1.lt h
  have b2 : ∀ k, rowB A2 = some k → w2.heap.size ≤ k ∧ k < w3.heap.size := fun k h => o2.lt h
  have ne1 : rowB A1 ≠ some w3.heap.size := fun h => by have := b1 _ h; omega
  have ne2 : rowB A2 ≠ some w3.heap.size := fun h => by have := b2 _ h; omega
  have y : Mk w w5 [(w.heap.size, [i64v 0, .slice none 0 0, .bool false, .bool false, .slice none 0 0]), (w3.heap.size, imgC A1 c1 A2 c2 (rdI (bytesI s)))] 1 w3.heap.size A1 c1 A2 c2 (rdI (bytesI s)) := by
    refine ⟨L, rfl, ?_, ?_, ?_, ?_, n12⟩
    · have := OwnS.sets_other ne1 (imgC A1 c1 A2 c2 (rdI (bytesI s))) 0 (h4 ▸ o1.alloc _)
      rw [e5]
      exact this.weak sw
    · have := OwnS.sets_other ne2 (imgC A1 c1 A2 c2 (rdI (bytesI s))) 0 (h4 ▸ o2.alloc _)
      rw [e5]
      exact this.weak sw
    · intro z hz
      simp only [List.mem_cons, List.not_mem_nil, or_false] at hz
      rcases hz with rfl | rfl
      · intro h; have := b1 _ h; simp only at this; omega
      · exact ne1
    · intro z hz
      simp only [List.mem_cons, List.not_mem_nil, or_false] at hz
      rcases hz with rfl | rfl
      · intro h; have := b2 _ h; simp only at this; omega
      · exact ne2
  refine cnd_of (fun h => zeroOut y.trk (k := 0) rfl rfl fun w' hl => get_zero (getE_7 hpre hc ?_) (by decide) hl) fun h => ?_
  · have hne : ¬ ((11 + nP (bytesI s) + 4 * manyL (bytesI s) : Nat) : Int) = (s.size : Int) := by simpa using h
    cases hq : ((strOf (putB (rdI (bytesI s)))).toList == s.toList) with
    | false => simp [okG, hq]
    | true => exact absurd (by exact_mod_cast put_size hc hq) hne
  refine ⟨_, _, _, _, _, _, _, _, _, ⟨y.trk.cell 1 y.at_ rfl, y.trk.cell 1 y.at_ rfl, y.trk.cell 1 y.at_ rfl, y.trk.cell 1 y.at_ rfl, y.trk.cell 1 y.at_ rfl, trivial⟩, ?_⟩
  refine (ref30_May_ok hx y.imAt).mono fun e w6 ⟨he, g6⟩ => ⟨_, he, ?_⟩
  have y := y.later g6
  refine cnd_of (fun h => zeroOut y.trk (k := 0) rfl rfl fun w' hl => get_zero (getE_7 hpre hc ?_) (by decide) hl) fun h => ?_
  · have hm : mayI (rdI (bytesI s)) = false := by simpa using h
    simp [okG, hm]
  have hm : mayI (rdI (bytesI s)) = true := by simpa using h
  refine ⟨_, _, _, _, _, _, _, _, _, ⟨y.trk.cell 1 y.at_ rfl, y.trk.cell 1 y.at_ rfl, y.trk.cell 1 y.at_ rfl, y.trk.cell 1 y.at_ rfl, y.trk.cell 1 y.at_ rfl, trivial⟩, ?_⟩
  refine (ref30_Put_ok hx y.imAt).mono fun e w7 ⟨he, g7⟩ => ⟨_, he, ?_⟩
  have y := y.later g7
  refine cnd_of (fun h => zeroOut y.trk (k := 0) rfl rfl fun w' hl => get_zero (getE_7 hpre hc ?_) (by decide) hl) fun h => ?_
  · have hq : ((strOf (putB (rdI (bytesI s)))).toList == s.toList) = false := by simpa using h
    simp [okG, hq]
  have hq : ((strOf (putB (rdI (bytesI s)))).toList == s.toList) = true := by simpa using h
  have hE : getE s = 0 := by simp [getE, hpre, hc, okG, hm, hq]
  refine y.out (k := 0) rfl rfl fun w' hl hi _ _ => ⟨hl, A1, c1, A2, c2, ?_, ?_⟩
  · rw [getX, hE, if_pos rfl]
  · rw [getX, hE, if_pos rfl]
    exact hi
end Go.Proofs.Ytjoikaklincfoaa

/-
Images, tenth part: which image bytes are, or why none (package image's Get).
Conditions: the string is not too long.
-/
namespace Go.Proofs.Ytjoikaklincfoaa
open Go Go.Vc Go.RowKit
set_option linter.unusedVariables false
set_option linter.unusedSimpArgs false
set_option linter.unnecessarySimpa false
set_option maxRecDepth 100000

theorem and_bit1 : ∀ n : Fin 256, decide (bits .and .u8 (n.1 : Int) 1 > 0) = ((n.1 : Int) % 2 == 1) ∧ decide (bits .and .u8 (n.1 : Int) 2 > 0) = ((n.1 : Int) / 2 % 2 == 1) ∧ decide (bits .and .u8 (n.1 : Int) 4 > 0) = ((n.1 : Int) / 4 % 2 == 1) := by decide
theorem and_bits {n : Int} (h0 : 0 ≤ n) (h1 : n < 256) : decide (bits .and .u8 n 1 > 0) = (n % 2 == 1) ∧ decide (bits .and .u8 n 2 > 0) = (n / 2 % 2 == 1) ∧ decide (bits .and .u8 n 4 > 0) = (n / 4 % 2 == 1) := by
  obtain ⟨m, rfl⟩ := Int.eq_ofNat_of_zero_le h0
  exact and_bit1 ⟨m, by omega⟩
theorem HasPrefix_ok (s p : ByteArray) (hp : p.size ≤ s.size) (w : World) : Calls Try.prog strings_HasPrefix.N #[.string s, .string p] w (Gives (.bool ((s.extract 0 p.size).toList == p.toList)) w) := by
  refine strings_HasPrefix.calls ?_
  unfold strings_HasPrefix.vc
  have h2 : Calls Try.prog internal_stringslite_HasPrefix.N #[.string s, .string p] w (Gives (.bool ((s.extract 0 p.size).toList == p.toList)) w) := by
    refine internal_stringslite_HasPrefix.calls ?_
    unfold internal_stringslite_HasPrefix.vc
    exact cnd_true (decide_eq_true (by omega)) ⟨⟨by omega, by omega⟩, rfl, Later.refl _⟩
  exact h2.mono fun e w' ⟨he, hl⟩ => ⟨_, he, rfl, hl⟩
/-- What Get holds while it reads. -/
structure Rd (w0 w : World) (s : ByteArray) (sb rb atb shb xb : Nat) (L : List Blk) (at_ : Nat) (sh : Bool) (A1 : Option Addr) (c1 : Nat) (A2 : Option Addr) (c2 : Nat) (x : Img) : Prop where
  im : Mk w0 w L 4 xb A1 c1 A2 c2 x
  h0 : L[0]? = some (sb, [.string s])
  h1 : L[1]? = some (rb, [i64v 0, .slice none 0 0, .bool false, .bool false, .slice none 0 0])
  h2 : L[2]? = some (atb, [i64v (at_ : Int)])
  h3 : L[3]? = some (shb, [.bool sh])
section
variable {w0 w : World} {s : ByteArray} {sb rb atb shb xb : Nat} {L : List Blk} {at_ : Nat} {sh : Bool} {A1 : Option Addr} {c1 : Nat} {A2 : Option Addr} {c2 : Nat} {x : Img}
theorem Rd.later {w' : World} (h : Rd w0 w s sb rb atb shb xb L at_ sh A1 c1 A2 c2 x) (hl : Later w w') : Rd w0 w' s sb rb atb shb xb L at_ sh A1 c1 A2 c2 x := ⟨h.im.later hl, h.h0, h.h1, h.h2, h.h3⟩
theorem Rd.set {w' : World} {B1 B2 : Option Addr} {d1 d2 : Nat} {y : Img} {cs : List Value} (h : Rd w0 w s sb rb atb shb xb L at_ sh A1 c1 A2 c2 x) (m : Mk w0 w' (L.set 4 (xb, cs)) 4 xb B1 d1 B2 d2 y) : Rd w0 w' s sb rb atb shb xb (L.set 4 (xb, cs)) at_ sh B1 d1 B2 d2 y :=
  ⟨m, by rw [List.getElem?_set_ne (by decide)]; exact h.h0, by rw [List.getElem?_set_ne (by decide)]; exact h.h1, by rw [List.getElem?_set_ne (by decide)]; exact h.h2, by rw [List.getElem?_set_ne (by decide)]; exact h.h3⟩
/-- The next bytes. -/
theorem Rd.next (h : Rd w0 w s sb rb atb shb xb L at_ sh A1 c1 A2 c2 x) {n : Nat} (hn : 1 ≤ n ∧ n ≤ 8) (hat : at_ ≤ 1000000) (hs : s.size ≤ 100000) :
    Calls Try.prog image_Get_1.N #[i64v (n : Int), .pointer (some ⟨shb, 0, none⟩), .pointer (some ⟨sb, 0, none⟩), .pointer (some ⟨atb, 0, none⟩)] w fun e w' => ∃ p c bs, e = .returned (.slice p bs.length c) ∧ ERow u8T w' p bs ∧ bs.length = n ∧
      ((sh = false ∧ at_ + n ≤ s.size ∧ bs = nextB (bytesI s) at_ n ∧ ∃ L', Rd w0 w' s sb rb atb shb xb L' (at_ + n) false A1 c1 A2 c2 x) ∨ ((sh = true ∨ s.size < at_ + n) ∧ bs = List.replicate n 0 ∧ ∃ L', Rd w0 w' s sb rb atb shb xb L' at_ true A1 c1 A2 c2 x)) := by
  have l4 : 4 < L.length := (List.getElem?_eq_some_iff.1 h.im.at_).1
  have m2 : (atb, [i64v (at_ : Int)]) ∈ L := List.mem_of_getElem? h.h2
  have m3 : (shb, [Value.bool sh]) ∈ L := List.mem_of_getElem? h.h3
  refine (image_next_ok hn hat (by omega) h.im.trk h.h0 h.h2 h.h3).mono fun e w' ⟨⟨p, c, bs, he, hr, hl, hc⟩, hk, hsz⟩ => ⟨p, c, bs, he, hr, hl, ?_⟩
  have o1 : OwnE hdT w0 w' 50 A1 c1 x.params := h.im.o1.kept fun k hr => hk k (h.im.o1.lt hr).2 (fun e => h.im.n1 _ m3 (by rw [hr, e])) (fun e => h.im.n1 _ m2 (by rw [hr, e]))
  have o2 : OwnE u32T w0 w' 42 A2 c2 x.code := h.im.o2.kept fun k hr => hk k (h.im.o2.lt hr).2 (fun e => h.im.n2 _ m3 (by rw [hr, e])) (fun e => h.im.n2 _ m2 (by rw [hr, e]))
  rcases hc with ⟨h1, h2, h3, t⟩ | ⟨h1, h2, t⟩
  · refine .inl ⟨h1, h2, h3, _, ⟨⟨t, ?_, o1, o2, ?_, ?_, h.im.n12⟩, ?_, ?_, ?_, ?_⟩⟩
    · rw [List.getElem?_set_ne (by decide), List.getElem?_set_ne (by decide)]; exact h.im.at_
    · intro y hy e
      have e23 : (L.set 3 (shb, [Value.bool false]))[2]? = some (atb, [i64v (at_ : Int)]) := by rw [List.getElem?_set_ne (by decide)]; exact h.h2
      obtain ⟨z, hz, e2⟩ := mem_set e23 hy
      obtain ⟨u, hu, e3⟩ := mem_set h.h3 hz
      exact h.im.n1 u hu (by rw [e, ← e2, e3])
    · intro y hy e
      have e23 : (L.set 3 (shb, [Value.bool false]))[2]? = some (atb, [i64v (at_ : Int)]) := by rw [List.getElem?_set_ne (by decide)]; exact h.h2
      obtain ⟨z, hz, e2⟩ := mem_set e23 hy
      obtain ⟨u, hu, e3⟩ := mem_set h.h3 hz
      exact h.im.n2 u hu (by rw [e, ← e2, e3])
    · rw [List.getElem?_set_ne (by decide), List.getElem?_set_ne (by decide)]; exact h.h0
    · rw [List.getElem?_set_ne (by decide), List.getElem?_set_ne (by decide)]; exact h.h1
    · rw [List.getElem?_set_self (by simpa using (show 2 < L.length by omega))]
    · rw [List.getElem?_set_ne (by decide), List.getElem?_set_self (by omega)]
  · refine .inr ⟨h1, h2, _, ⟨⟨t, ?_, o1, o2, ?_, ?_, h.im.n12⟩, ?_, ?_, ?_, ?_⟩⟩
    · rw [List.getElem?_set_ne (by decide)]; exact h.im.at_
    · intro y hy e
      obtain ⟨u, hu, e3⟩ := mem_set h.h3 hy
      exact h.im.n1 u hu (by rw [e, ← e3])
    · intro y hy e
      obtain ⟨u, hu, e3⟩ := mem_set h.h3 hy
      exact h.im.n2 u hu (by rw [e, ← e3])
    · rw [List.getElem?_set_ne (by decide)]; exact h.h0
    · rw [List.getElem?_set_ne (by decide)]; exact h.h1
    · rw [List.getElem?_set_ne (by decide)]; exact h.h2
    · rw [List.getElem?_set_self (by omega)]
/-- The first of the next bytes. -/
theorem first_byte {w : World} {p : Option Addr} {bs : List Int} (hr : ERow u8T w p bs) (hl : bs.length = 1) : ∃ a b, p = some a ∧ bs = [b] ∧ w.cell? a = some (.int .u8 b) := by
  match bs, hl with
  | [b], _ =>
    obtain ⟨a, rfl, hc⟩ := hr 0 b rfl
    refine ⟨a, b, rfl, rfl, ?_⟩
    have := hc 0 _ rfl
    rw [addr_add_zero] at this
    simpa [u8T, addr_add_zero] using this
end
end Go.Proofs.Ytjoikaklincfoaa

/-
Images, eleventh part: which image bytes are, or why none (package image's Get).
Conditions: the string is not too long.
-/
namespace Go.Proofs.Ytjoikaklincfoaa
open Go Go.Vc Go.RowKit
set_option linter.unusedVariables false
set_option linter.unusedSimpArgs false
set_option linter.unnecessarySimpa false
set_option maxRecDepth 100000

/-- All is read as it is, or bytes are wanting. -/
def OkS (s : ByteArray) (sh : Bool) (at' : Nat) (x' : Img) (at_ : Nat) (x : Img) : Prop := (sh = false ∧ at' = at_ ∧ x' = x ∧ (at_ ≤ s.size ∨ at_ = 4)) ∨ (sh = true ∧ canRd (bytesI s) = false ∧ at' ≤ 1000000)
theorem OkS.at_le {s : ByteArray} (hs : s.size ≤ 100000) {sh : Bool} {at' : Nat} {x' : Img} {at_ : Nat} {x : Img} (h : OkS s sh at' x' at_ x) : at' ≤ 1000000 := by
  rcases h with ⟨_, rfl, _, h⟩ | ⟨_, _, h⟩ <;> omega
theorem Rd.next' {w0 w : World} {s : ByteArray} {sb rb atb shb xb : Nat} {L : List Blk} {at' : Nat} {sh : Bool} {A1 : Option Addr} {c1 : Nat} {A2 : Option Addr} {c2 : Nat} {x' : Img} (h : Rd w0 w s sb rb atb shb xb L at' sh A1 c1 A2 c2 x') {at_ : Nat} {x : Img} (ho : OkS s sh at' x' at_ x) {n : Nat} (hn : 1 ≤ n ∧ n ≤ 8) (hs : s.size ≤ 100000) (hsh : s.size < at_ + n → canRd (bytesI s) = false) :
    Calls Try.prog image_Get_1.N #[i64v (n : Int), .pointer (some ⟨shb, 0, none⟩), .pointer (some ⟨sb, 0, none⟩), .pointer (some ⟨atb, 0, none⟩)] w fun e w' => ∃ p c bs L' at'' sh', e = .returned (.slice p bs.length c) ∧ ERow u8T w' p bs ∧ bs.length = n ∧ Rd w0 w' s sb rb atb shb xb L' at'' sh' A1 c1 A2 c2 x' ∧ OkS s sh' at'' x' (at_ + n) x ∧
      ((sh' = false ∧ bs = nextB (bytesI s) at_ n) ∨ (sh' = true ∧ bs = List.replicate n 0)) ∧ (sh' = false → sh = false) := by
  refine (h.next hn (ho.at_le hs) hs).mono fun e w' ⟨p, c, bs, he, hr, hl, hc⟩ => ?_
  rcases hc with ⟨h1, h2, h3, L', y⟩ | ⟨h1, h2, L', y⟩
  · rcases ho with ⟨_, rfl, rfl, _⟩ | ⟨e1, _, _⟩
    · exact ⟨p, c, bs, L', _, false, he, hr, hl, y, .inl ⟨rfl, rfl, rfl, .inl h2⟩, .inl ⟨rfl, h3⟩, fun _ => h1⟩
    · rw [h1] at e1; cases e1
  · refine ⟨p, c, bs, L', _, true, he, hr, hl, y, .inr ⟨rfl, ?_, ho.at_le hs⟩, .inr ⟨rfl, h2⟩, fun h => by cases h⟩
    rcases ho with ⟨e1, rfl, rfl, _⟩ | ⟨_, e2, _⟩
    · rcases h1 with h1 | h1
      · rw [e1] at h1; cases h1
      · exact hsh h1
    · exact e2
theorem prefix_eq (s : ByteArray) : ((magicB.extract 0 (s.extract 0 (gomin (s.size : Int) 4).toNat).size).toList == (s.extract 0 (gomin (s.size : Int) 4).toNat).toList) = preOk s ∧ (s.extract 0 (gomin (s.size : Int) 4).toNat).size ≤ magicB.size := by
  have hm : (gomin (s.size : Int) 4).toNat ≤ s.size ∧ (gomin (s.size : Int) 4).toNat ≤ 4 := by unfold gomin; split <;> omega
  have hz : (s.extract 0 (gomin (s.size : Int) 4).toNat).size = (gomin (s.size : Int) 4).toNat := by rw [ByteArray.size_extract]; omega
  refine ⟨?_, by rw [hz]; exact hm.2⟩
  rw [hz]
  unfold preOk
  rw [Bool.eq_iff_iff, beq_iff_eq, beq_iff_eq]
  exact eq_comm
set_option maxHeartbeats 12800000 in
theorem image_Get_ok {s : ByteArray} (hs : s.size ≤ 100000) (w : World) : Calls Try.prog image_Get.N #[.string s] w (GetR s w) := by
  refine image_Get.calls ?_
  unfold image_Get.vc
  intro w1 h1 w2 h2
  have L := ((Trk.start w).alloc h1).alloc h2
  have hm : gomin (s.size : Int) 4 = if 4 < s.size then 4 else (s.size : Int) := by unfold gomin; split <;> split <;> omega
  have bl := bytesI_length s
  obtain ⟨pe, pz⟩ := prefix_eq s
  refine ⟨s, L.cell 0 rfl rfl, s, L.cell 0 rfl rfl, ⟨by rw [hm]; split <;> omega, by rw [hm]; split <;> omega⟩, ?_⟩
  refine (HasPrefix_ok magicB _ pz w2).mono fun e w3 ⟨he, g3⟩ => ⟨_, he, ?_⟩
  rw [pe]
  have L := L.later g3
  refine cnd_of (fun h => zeroOut L (k := 1) rfl rfl fun w' hl => get_zero ?_ (by decide) hl) fun h => ?_
  · have : preOk s = false := by simpa using h
    simp [getE, this]
  have hpre : preOk s = true := by simpa using h
  intro w4 h4 w5 h5
  have L := (L.alloc h4).alloc h5
  refine L.set1 2 rfl (by simp) fun w6 L => L.set1 3 rfl (by simp) fun w7 L => fun w8 h8 => ?_
  have L := L.alloc h8
  have y0 : Rd w w8 s w.heap.size w1.heap.size w3.heap.size w4.heap.size w7.heap.size _ 4 false none 0 none 0 zeroI := ⟨Mk.new L rfl, rfl, rfl, rfl, rfl⟩
  have k0 : OkS s false 4 zeroI 4 zeroI := .inl ⟨rfl, rfl, rfl, .inr rfl⟩
  have cr : ∀ m, m < 11 → s.size ≤ m → canRd (bytesI s) = false := fun m h1 h2 => by
    simp only [canRd, decide_eq_false_iff_not]
    omega
  have crP : ∀ m, m < 11 + nP (bytesI s) → s.size ≤ m → canRd (bytesI s) = false := fun m h1 h2 => by
    simp only [canRd, decide_eq_false_iff_not]
    omega
  -- slots
  refine (y0.next' k0 (n := 1) ⟨by omega, by omega⟩ hs fun h => cr 4 (by omega) (by omega)).mono fun e w9 ⟨p, c, bs, L1, at1, sh1, he, hr, hl, y1, k1, hb, _⟩ => ?_
  obtain ⟨a, b, hA, rfl, hcell⟩ := first_byte hr hl
  refine ⟨_, _, _, he, ⟨show (0 : Int) ≤ 0 by decide, by simp⟩, Deref_some hA ⟨b, hcell, ?_⟩⟩
  have fb : ∀ {sh : Bool} {at' : Nat} {x' x : Img} {m : Nat} {b : Int}, OkS s sh at' x' (m + 1) x → 4 ≤ m → ((sh = false ∧ [b] = nextB (bytesI s) m 1) ∨ (sh = true ∧ [b] = List.replicate 1 0)) → (0 ≤ b ∧ b < 256) ∧ (sh = false → b = bAt (bytesI s) m ∧ m + 1 ≤ s.size) ∧ (sh = true → b = 0) := by
    intro sh at' x' x m b hk h4 hb
    rcases hb with ⟨e1, e2⟩ | ⟨e1, e2⟩
    · have hle : m + 1 ≤ s.size := by
        rcases hk with ⟨_, _, _, h⟩ | ⟨e3, _, _⟩
        · omega
        · rw [e1] at e3; cases e3
      rw [nextB_one (by omega)] at e2
      obtain rfl : b = bAt (bytesI s) m := by simpa using e2
      exact ⟨bAt_range s m, fun _ => ⟨rfl, hle⟩, fun h => by rw [e1] at h; cases h⟩
    · obtain rfl : b = 0 := by simpa using e2
      exact ⟨⟨by omega, by omega⟩, (fun h => by rw [e1] at h; cases h), fun _ => rfl⟩
  obtain ⟨rb, gb, zb⟩ := fb k1 (by omega) hb
  rw [i64_in (x := b) (by omega) (by omega)]
  refine y1.im.cell (j := 0) (y := ⟨b, [], false, false, []⟩) (by decide) rfl rfl rfl fun w10 m10 _ => ?_
  have y2 := y1.set m10
  have k2 : OkS s sh1 at1 ⟨b, [], false, false, []⟩ 5 ⟨bAt (bytesI s) 4, [], false, false, []⟩ := by
    rcases k1 with ⟨e1, e2, e3, e4⟩ | ⟨e1, e2, e3⟩
    · exact .inl ⟨e1, e2, by rw [(gb e1).1], e4⟩
    · exact .inr ⟨e1, e2, e3⟩
  -- how many are handed in
  refine (y2.next' k2 (n := 1) ⟨by omega, by omega⟩ hs fun h => cr 5 (by omega) (by omega)).mono fun e w11 ⟨p, c, bs, L2, at2, sh2, he, hr, hl, y3, k3, hb, _⟩ => ?_
  obtain ⟨a, n, hA, rfl, hcell⟩ := first_byte hr hl
  refine ⟨_, _, _, he, ⟨show (0 : Int) ≤ 0 by decide, by simp⟩, Deref_some hA ⟨n, hcell, ?_⟩⟩
  obtain ⟨rn, gn, zn⟩ := fb k3 (by omega) hb
  rw [i64_in (x := n) (by omega) (by omega)]
  obtain ⟨nn, rfl⟩ := Int.eq_ofNat_of_zero_le rn.1
  have gnn : sh2 = false → nn = nP (bytesI s) := fun h => by
    unfold nP
    rw [← (gn h).1]
    rfl
  refine ⟨fun vs w' => ∃ (k : Nat) (L : List Blk) (at' : Nat) (sh : Bool) (A1 : Option Addr) (c1 : Nat) (A2 : Option Addr) (c2 : Nat) (x' : Img), k ≤ nn ∧ vs = [i64v k] ∧ Rd w w' s w.heap.size w1.heap.size w3.heap.size w4.heap.size w7.heap.size L at' sh A1 c1 A2 c2 x' ∧ OkS s sh at' x' (6 + k) ⟨bAt (bytesI s) 4, rdP (bytesI s) k, false, false, []⟩ ∧ x'.params.length ≤ k ∧ x'.code = [] ∧ (sh = false → nn = nP (bytesI s)),
    fun vs _ => match vs with | [.int _ n] => nn - n.toNat | _ => 0, ⟨0, L2, at2, sh2, _, _, _, _, _, by omega, rfl, y3, k3, Nat.le_refl _, rfl, gnn⟩, ?_⟩
  rintro g i w12 ⟨k, L, at', sh, A1, c1, A2, c2, x', hk, hvs, y, ky, lp, lc, gk⟩
  simp only [List.cons.injEq, Value.int.injEq, true_and, and_true] at hvs
  subst hvs
  have short : ∀ m, s.size ≤ 6 + k + m → k + m < 5 + nn → canRd (bytesI s) = false := by
    intro m h1 h2
    rcases ky with ⟨e1, _, _, _⟩ | ⟨_, e2, _⟩
    · exact crP (6 + k + m) (by rw [← gk e1]; omega) h1
    · exact e2
  refine cnd_of (fun h => ?_) fun h => ?_
  · have hlt : k < nn := by simp only [decide_eq_true_eq] at h; omega
    refine (y.next' ky (n := 1) ⟨by omega, by omega⟩ hs fun h => short 0 (by omega) (by omega)).mono fun e w13 ⟨p, c, bs, L3, at3, sh3, he, hr, hl, y3, k3, hb, back⟩ => ?_
    obtain ⟨a, v, hA, rfl, hcell⟩ := first_byte hr hl
    refine ⟨_, _, _, he, ⟨show (0 : Int) ≤ 0 by decide, by simp⟩, Deref_some hA ⟨v, hcell, _, _, _, y3.im.trk.cell 4 y3.im.at_ rfl, fun w14 h14 => ?_⟩⟩
    obtain ⟨rv, gv, zv⟩ := fb k3 (by omega) hb
    obtain ⟨a1, a2, a3⟩ := and_bits rv.1 rv.2
    rw [a1, a2, a3] at h14
    have g3 : sh3 = false → nn = nP (bytesI s) := fun h => gk (back h)
    refine y3.im.pushP (hdOf v) (by omega) h14 rfl fun b' c' w15 hK => ⟨_, _, _, rfl, hK.1, fun w16 h16 => ?_⟩
    have y4 := y3.set (hK.2 w16 h16)
    have hw : IntKind.i64.wrap ((k : Int) + 1) = ((k + 1 : Nat) : Int) := by rw [i64_in (by omega) (by omega)]; omega
    rw [hw]
    refine ⟨⟨k + 1, _, at3, sh3, b', c', A2, c2, _, by omega, rfl, y4, ?_, ?_, lc, g3⟩, by show nn - ((k + 1 : Nat) : Int).toNat < nn - ((k : Nat) : Int).toNat; omega⟩
    · rcases k3 with ⟨e1, e2, e3, e4⟩ | ⟨e1, e2, e3⟩
      · refine .inl ⟨e1, e2, ?_, e4⟩
        rw [e3, (gv e1).1, ← rdP_succ (by have := (gv e1).2; omega)]
      · exact .inr ⟨e1, e2, e3⟩
    · simp only [List.length_append, List.length_singleton]
      omega
  have hkn : k = nn := by simp only [decide_eq_false_iff_not] at h; omega
  subst hkn
  -- what it returns
  refine (y.next' ky (n := 1) ⟨by omega, by omega⟩ hs fun h => short 0 (by omega) (by omega)).mono fun e w13 ⟨p, c, bs, L3, at3, sh3, he, hr, hl, y3, k3, hb, back⟩ => ?_
  obtain ⟨a, v, hA, rfl, hcell⟩ := first_byte hr hl
  refine ⟨_, _, _, he, ⟨show (0 : Int) ≤ 0 by decide, by simp⟩, Deref_some hA ⟨v, hcell, ?_⟩⟩
  obtain ⟨rv, gv, zv⟩ := fb k3 (by omega) hb
  obtain ⟨a1, a2, a3⟩ := and_bits rv.1 rv.2
  rw [a1, a2]
  refine y3.im.cell (j := 2) (y := { x' with ret := v % 2 == 1 }) (by decide) rfl rfl rfl fun w14 m14 _ => ?_
  have y4 := y3.set m14
  refine y4.im.cell (j := 3) (y := { x' with ret := v % 2 == 1, sec := v / 2 % 2 == 1 }) (by decide) rfl rfl rfl fun w15 m15 _ => ?_
  have y5 := y4.set m15
  have g3 : sh3 = false → k = nP (bytesI s) := fun h => gk (back h)
  have k5 : OkS s sh3 at3 { x' with ret := v % 2 == 1, sec := v / 2 % 2 == 1 } (7 + k) ⟨bAt (bytesI s) 4, rdP (bytesI s) k, bAt (bytesI s) (6 + k) % 2 == 1, bAt (bytesI s) (6 + k) / 2 % 2 == 1, []⟩ := by
    rcases k3 with ⟨e1, e2, e3, e4⟩ | ⟨e1, e2, e3⟩
    · refine .inl ⟨e1, by omega, ?_, by omega⟩
      rw [e3, (gv e1).1]
    · exact .inr ⟨e1, e2, e3⟩
  have short2 : s.size < 11 + k → canRd (bytesI s) = false := by
    intro h1
    rcases ky with ⟨e1, _, _, _⟩ | ⟨_, e2, _⟩
    · exact crP s.size (by rw [← gk e1]; omega) (Nat.le_refl _)
    · exact e2
  refine (y5.next' k5 (n := 4) ⟨by omega, by omega⟩ hs fun h => short2 (by omega)).mono fun e w16 ⟨p, c, bs, L6, at6, sh6, he, hr, hl, y6, k6, hb6, back6⟩ => ⟨_, _, _, he, ?_⟩
  have rb4 : ∀ b ∈ bs, 0 ≤ b ∧ b < 256 := by
    intro b hb
    rcases hb6 with ⟨_, e2⟩ | ⟨_, e2⟩
    · rw [e2] at hb; exact bytesI_range (nextB_mem hb)
    · rw [e2] at hb; rw [(List.mem_replicate.1 hb).2]; omega
  have rv4 := valueL_range rb4
  refine (image_number_ok hl rb4 hr).mono fun e w17 ⟨he, g17⟩ => ⟨_, he, ?_⟩
  have y7 := y6.later g17
  obtain ⟨mm, hmm⟩ := Int.eq_ofNat_of_zero_le rv4.1
  rw [hmm]
  have g6 : sh6 = false → k = nP (bytesI s) ∧ mm = manyL (bytesI s) ∧ 11 + k ≤ s.size := fun h => by
    have hk6 := g3 (back6 h)
    refine ⟨hk6, ?_, ?_⟩
    · rcases hb6 with ⟨_, e2⟩ | ⟨e1, _⟩
      · unfold manyL
        rw [← hk6, ← e2, hmm]
        rfl
      · rw [h] at e1; cases e1
    · rcases k6 with ⟨_, _, _, e4⟩ | ⟨e1, _, _⟩
      · omega
      · rw [h] at e1; cases e1
  refine ⟨fun vs w' => ∃ (m i : Nat) (L : List Blk) (at' : Nat) (sh : Bool) (A1 : Option Addr) (c1 : Nat) (A2 : Option Addr) (c2 : Nat) (x' : Img), vs = [.int .u32 m] ∧ (m : Int) < 4294967296 ∧ Rd w w' s w.heap.size w1.heap.size w3.heap.size w4.heap.size w7.heap.size L at' sh A1 c1 A2 c2 x' ∧
      OkS s sh at' x' (11 + k + 4 * i) ⟨bAt (bytesI s) 4, rdP (bytesI s) k, bAt (bytesI s) (6 + k) % 2 == 1, bAt (bytesI s) (6 + k) / 2 % 2 == 1, rdC (bytesI s) i⟩ ∧ (sh = false → k = nP (bytesI s) ∧ m + i = manyL (bytesI s)),
    fun vs _ => match vs with | [.int _ n] => n.toNat | _ => 0, ⟨mm, 0, L6, at6, sh6, _, _, _, _, _, rfl, by omega, y7, ?_, fun h => ⟨(g6 h).1, by rw [(g6 h).2.1]; rfl⟩⟩, ?_⟩
  · have : 7 + k + 4 = 11 + k + 4 * 0 := by omega
    rw [← this]
    exact k6
  rintro g n w18 ⟨m, i, L, at', sh, A1, c1, A2, c2, x', hvs, hm32, y, ky, gk⟩
  simp only [List.cons.injEq, Value.int.injEq, true_and, and_true] at hvs
  subst hvs
  refine ⟨fun vs w' => vs = [.bool (decide (0 < m) && !sh)] ∧ w' = w18, ?_, ?_⟩
  · refine cnd_of (fun h => ⟨_, y.im.trk.cell 3 y.h3 rfl, ?_, rfl⟩) fun h => ⟨?_, rfl⟩
    · have : 0 < m := by simp only [decide_eq_true_eq] at h; omega
      simp [this]
    · have : ¬ 0 < m := by simp only [decide_eq_false_iff_not] at h; omega
      simp [this]
  rintro g s79 w' ⟨hvs, rfl⟩
  simp only [List.cons.injEq, Value.bool.injEq, and_true] at hvs
  subst hvs
  refine cnd_of (fun h => ?_) fun h => ?_
  · simp only [Bool.and_eq_true, decide_eq_true_eq, Bool.not_eq_true'] at h
    obtain ⟨hm0, hsh⟩ := h
    obtain ⟨gkP, gkM⟩ := gk hsh
    obtain ⟨hx', hle⟩ : x' = ⟨bAt (bytesI s) 4, rdP (bytesI s) k, bAt (bytesI s) (6 + k) % 2 == 1, bAt (bytesI s) (6 + k) / 2 % 2 == 1, rdC (bytesI s) i⟩ ∧ 11 + k + 4 * i ≤ s.size := by
      rcases ky with ⟨_, _, e3, e4⟩ | ⟨e1, _, _⟩
      · exact ⟨e3, by omega⟩
      · rw [hsh] at e1; cases e1
    have hcl : x'.code.length = i := by rw [hx']; exact rdC_length _ _
    refine ⟨fun w' => Has w' w7.heap.size (imgC A1 c1 A2 c2 x'), fun w' hl => (y.im.trk.has 4 y.im.at_).later hl, fun w' hl => ⟨A2, x'.code.length, c2, fun w' hh => hh.cell rfl, ?_⟩⟩
    have short4 : s.size < 11 + k + 4 * i + 4 → canRd (bytesI s) = false := fun h1 => by
      simp only [canRd, decide_eq_false_iff_not]
      omega
    refine ((y.later hl).next' ky (n := 4) ⟨by omega, by omega⟩ hs short4).mono fun e w19 ⟨p, c, bs, L7, at7, sh7, he, hr, hl7, y7', k7, hb7, back7⟩ => ⟨_, _, _, he, y7'.im.trk.has 4 y7'.im.at_, ?_⟩
    have rb7 : ∀ b ∈ bs, 0 ≤ b ∧ b < 256 := by
      intro b hb
      rcases hb7 with ⟨_, e2⟩ | ⟨_, e2⟩
      · rw [e2] at hb; exact bytesI_range (nextB_mem hb)
      · rw [e2] at hb; rw [(List.mem_replicate.1 hb).2]; omega
    refine (image_number_ok hl7 rb7 hr).mono fun e w20 ⟨he, g20⟩ => ⟨_, he, ?_⟩
    have y8 := y7'.later g20
    refine ⟨y8.im.trk.has 4 y8.im.at_, fun w21 h21 => ⟨(y8.im.trk.alloc h21).has 4 (by rw [List.getElem?_append_left (List.getElem?_eq_some_iff.1 y8.im.at_).1]; exact y8.im.at_), ?_⟩⟩
    refine y8.im.pushC (valueL bs) (by omega) h21 fun b' c' w22 t22 hK => ⟨_, _, _, rfl, t22.has 4 y8.im.at_, hK.1, fun w23 h23 => ?_⟩
    have y9 := y8.set (hK.2 w23 h23)
    have hw : IntKind.u32.wrap ((m : Int) - 1) = ((m - 1 : Nat) : Int) := by rw [u32_in (by omega) (by omega)]; omega
    rw [hw]
    refine ⟨⟨m - 1, i + 1, _, at7, sh7, A1, c1, b', c', _, rfl, by omega, y9, ?_, fun h => ⟨gkP, by omega⟩⟩, by show ((m - 1 : Nat) : Int).toNat < ((m : Nat) : Int).toNat; omega⟩
    have ea : 11 + k + 4 * i + 4 = 11 + k + 4 * (i + 1) := by omega
    rcases k7 with ⟨e1, e2, e3, e4⟩ | ⟨e1, e2, e3⟩
    · refine .inl ⟨e1, by omega, ?_, by omega⟩
      have hb : valueL bs = codeAt (bytesI s) i := by
        rcases hb7 with ⟨_, e⟩ | ⟨e5, _⟩
        · rw [e, codeAt, ← gkP]
        · rw [e1] at e5; cases e5
      rw [hb, e3, ← rdC_succ]
    · exact .inr ⟨e1, e2, e3⟩
  refine ⟨_, y.im.trk.cell 3 y.h3 rfl, ?_⟩
  refine cnd_of (fun hsh => zeroOut y.im.trk (k := 1) y.h1 rfl fun w' hl => get_zero ?_ (by decide) hl) fun hsh => ?_
  · have : canRd (bytesI s) = false := by
      rcases ky with ⟨e1, _, _, _⟩ | ⟨_, e2, _⟩
      · rw [hsh] at e1; cases e1
      · exact e2
    simp [getE, hpre, this]
  have hm0 : m = 0 := by
    rw [hsh] at h
    simp only [Bool.not_false, Bool.and_true, decide_eq_false_iff_not] at h
    omega
  subst hm0
  obtain ⟨gkP, gkM⟩ := gk hsh
  obtain rfl : i = manyL (bytesI s) := by omega
  obtain ⟨hx', hle⟩ : x' = rdI (bytesI s) ∧ 11 + k + 4 * manyL (bytesI s) ≤ s.size := by
    rcases ky with ⟨_, _, e3, e4⟩ | ⟨e1, _, _⟩
    · refine ⟨?_, by omega⟩
      rw [e3, gkP]
      rfl
    · rw [hsh] at e1; cases e1
  subst hx'
  have hc : canRd (bytesI s) = true := by
    simp only [canRd, decide_eq_true_eq]
    omega
  have hx := rdI_ok hs hc
  refine ⟨_, _, _, _, _, _, _, _, _, ⟨y.im.trk.cell 4 y.im.at_ rfl, y.im.trk.cell 4 y.im.at_ rfl, y.im.trk.cell 4 y.im.at_ rfl, y.im.trk.cell 4 y.im.at_ rfl, y.im.trk.cell 4 y.im.at_ rfl, trivial⟩, ?_⟩
  refine (image_Put_ok hx y.im.imAt).mono fun e w19 ⟨he, g19⟩ => ⟨_, _, he, ?_⟩
  have y := y.later g19
  refine cnd_of (fun h => zeroOut y.im.trk (k := 1) y.h1 rfl fun w' hl => get_zero (getE_7 hpre hc ?_) (by decide) hl) fun h => ?_
  · have hm : mayI (rdI (bytesI s)) = false := by
      cases hq : mayI (rdI (bytesI s)) with
      | false => rfl
      | true => simp [textE, hq] at h
    simp [okG, hm]
  have hm : mayI (rdI (bytesI s)) = true := by
    cases hq : mayI (rdI (bytesI s)) with
    | true => rfl
    | false => simp [textE, hq] at h
  have hput : putS (rdI (bytesI s)) = strOf (putB (rdI (bytesI s))) := by simp [putS, hm]
  refine ⟨_, y.im.trk.cell 0 y.h0 rfl, ?_⟩
  rw [hput]
  refine cnd_of (fun h => zeroOut y.im.trk (k := 1) y.h1 rfl fun w' hl => get_zero (getE_7 hpre hc ?_) (by decide) hl) fun h => ?_
  · have hq : ((strOf (putB (rdI (bytesI s)))).toList == s.toList) = false := by simpa using h
    simp [okG, hq]
  have hq : ((strOf (putB (rdI (bytesI s)))).toList == s.toList) = true := by simpa using h
  have hE : getE s = 0 := by simp [getE, hpre, hc, okG, hm, hq]
  refine y.im.out (k := 1) y.h1 rfl fun w' hl hi _ _ => ⟨hl, A1, c1, A2, c2, ?_, ?_⟩
  · rw [getX, hE, if_pos rfl]
  · rw [getX, hE, if_pos rfl]
    exact hi
end Go.Proofs.Ytjoikaklincfoaa

/-
Chapter 30's laws, once called: each answers true and turns nothing old.
Conditions: each theorem's hypotheses.
-/
namespace Go.Proofs.Ytjoikaklincfoaa
open Go Go.Vc Go.RowKit
set_option linter.unusedVariables false
set_option linter.unusedSimpArgs false
set_option linter.unnecessarySimpa false
set_option maxRecDepth 100000

/-- An image kept in a block of its own. -/
theorem keepI {w0 w : World} {L : List Blk} (h : Trk w0 w L) {w1 : World} {ty : TypeId} (h1 : w1 = w.alloc (.cells #[i64v 0, .slice none 0 0, .bool false, .bool false, .slice none 0 0] ty)) {A1 : Option Addr} {c1 : Nat} {A2 : Option Addr} {c2 : Nat} {x : Img} {K : World → Prop}
    (hK : ∀ w2, Later w w2 → Trk w0 w2 (L ++ [(w.heap.size, imgC A1 c1 A2 c2 x)]) → K w2) :
    SetsAt w1 ⟨w.heap.size, 0, none⟩ 0 (imgC A1 c1 A2 c2 x) ∧ ∀ w2, w2 = setCellsAt w1 ⟨w.heap.size, 0, none⟩ 0 (imgC A1 c1 A2 c2 x) → K w2 := by
  have hk : (L ++ [(w.heap.size, [i64v 0, .slice none 0 0, .bool false, .bool false, .slice none 0 0])])[L.length]? = some (w.heap.size, [i64v 0, .slice none 0 0, .bool false, .bool false, .slice none 0 0]) := by simp
  refine (h.alloc h1).setAllE (l := imgC A1 c1 A2 c2 x) L.length hk rfl (ones rfl) fun w2 e2 t => ?_
  obtain ⟨_, hs⟩ := ((Trk.start w).alloc h1).setAllE (K := fun w2 => Later w w2) (l := imgC A1 c1 A2 c2 x) 0 rfl rfl (ones rfl) (fun w2 _ t => t.to)
  refine hK w2 (hs w2 e2) ?_
  simpa using t
theorem ins_eql (o d a b v o' d' a' b' v' : Int) (xo yo : Operand) : EqRuns Try.prog .eql 39 xo yo (.agg #[u8v o, u8v d, u8v a, u8v b, i64v v]) (.agg #[u8v o', u8v d', u8v a', u8v b', i64v v']) (o == o' && (d == d' && (a == a' && (b == b' && v == v')))) := by
  have := (eq_flat (P := Try.prog) (vs := [u8v o, u8v d, u8v a, u8v b, i64v v]) (us := [u8v o', u8v d', u8v a', u8v b', i64v v']) xo yo Try.underlying39 (by kernel_rfl) (by kernel_rfl) (by kernel_rfl)).1
  simpa [eqL, eq1] using this
def x0I : Img := ⟨0, [], false, false, [115]⟩
def lit0 : ByteArray := ByteArray.mk #[83, 67, 82, 49, 0, 0, 0, 1, 0, 0, 0, 115, 0, 0, 0]
theorem f_may : mayI x0I = true := by decide +kernel
theorem f_put : strOf (putB x0I) = lit0 := by decide +kernel
theorem f_text : textL x0I = [(34, 0, 0, 0, 0)] := by decide +kernel
theorem f_rd : rdI (bytesI lit0) = x0I := by decide +kernel
theorem f_can : canRd (bytesI lit0) = true := by decide +kernel
theorem f_pre : preOk lit0 = true := by decide +kernel
theorem f_2 : getE (ByteArray.mk #[83, 67, 82, 50]) = 7 := by decide +kernel
theorem f_6 : getE (ByteArray.mk #[83, 67]) = 6 := by decide +kernel
theorem f_get : getE lit0 = 0 := by simp [getE, f_pre, f_can, okG, f_rd, f_may, f_put]
theorem f_getX : getX lit0 = x0I := by rw [getX, f_get, if_pos rfl, f_rd]
theorem x0_ok : ImOk x0I := ⟨⟨by decide, by decide⟩, by simp [x0I], by intro c hc; simp [x0I] at hc; subst hc; exact ⟨by decide, by decide⟩, by decide, by decide⟩
theorem law30_large_ok {x : Img} {A1 A2 : Option Addr} {c1 c2 : Nat} (w : World) : Calls Try.prog law30_large.N #[imgV A1 c1 A2 c2 x] w (Gives (.bool (decide ((x.params.length : Int) > 300) || decide ((x.code.length : Int) > 3000))) w) := by
  refine law30_large.calls ?_
  unfold law30_large.vc
  intro w1 h1
  have L := (Trk.start w).alloc h1
  refine ⟨_, _, _, L.cell 0 rfl rfl, cnd_of (fun h => ?_) fun h => ⟨_, _, _, L.cell 0 rfl rfl, ?_⟩⟩
  · rw [h]; exact ⟨rfl, L.to⟩
  · rw [h]; exact ⟨rfl, L.to⟩
theorem getX_ok {s : ByteArray} (hs : s.size ≤ 100000) : ImOk (getX s) := by
  unfold getX
  split
  · refine rdI_ok hs ?_
    rename_i h
    cases hc : canRd (bytesI s) with
    | true => rfl
    | false => simp only [getE, hc] at h; split at h <;> simp at h
  · exact ⟨⟨by decide, by decide⟩, by simp [zeroI], by simp [zeroI], by decide, by decide⟩
set_option maxHeartbeats 3200000 in
theorem law30_alive_ok (w : World) : Calls Try.prog law30_alive.N #[] w (Gives (.bool true) w) := by
  refine law30_alive.calls ?_
  unfold law30_alive.vc
  intro w1 h1 w2 h2
  have L := ((Trk.start w).alloc h1).alloc h2
  refine L.setAll (l := imgC none 0 (some ⟨w.heap.size, 0, none⟩) 1 x0I) 1 rfl rfl (ones rfl) fun w3 L => ?_
  refine ⟨_, _, _, _, _, _, _, _, _, ⟨L.cell 1 rfl rfl, L.cell 1 rfl rfl, L.cell 1 rfl rfl, L.cell 1 rfl rfl, L.cell 1 rfl rfl, trivial⟩, ?_⟩
  have hi : ImAt w3 none (some ⟨w.heap.size, 0, none⟩) x0I := ⟨ERow.nil _ _, Has.erow (T := u32T) (l := x0I.code) (L.has 0 rfl)⟩
  refine (image_Put_ok (c1 := 0) (c2 := 1) x0_ok hi).mono fun e w4 ⟨he, g4⟩ => ⟨_, _, he, ?_⟩
  have L := L.later g4
  refine (image_Get_ok (s := lit0) (by decide) w4).mono fun e w5 ⟨g5, A1, c1, A2, c2, he, hg⟩ => ?_
  refine ⟨_, _, _, _, _, _, _, _, _, _, he, fun w6 h6 => keepI (L.later g5) h6 fun w7 g7 L => ?_⟩
  have hi := (hi.later g4)
  refine ⟨_, _, _, _, _, _, _, _, _, ⟨L.cell 1 rfl rfl, L.cell 1 rfl rfl, L.cell 1 rfl rfl, L.cell 1 rfl rfl, L.cell 1 rfl rfl, trivial⟩, ?_⟩
  have hi := hi.later (g5.trans g7)
  refine (image_Text_ok (c1 := 0) (c2 := 1) x0_ok hi).mono fun e w8 ⟨g8, b8, c8, he, o8⟩ => ⟨_, _, _, _, he, ?_⟩
  have L := L.later g8
  refine (image_Get_ok (s := ByteArray.mk #[83, 67, 82, 50]) (by decide) w8).mono fun e w9 ⟨g9, B1, d1, B2, d2, he, _⟩ => ?_
  refine ⟨_, _, _, _, _, _, _, _, _, _, he, fun w10 h10 => keepI (L.later g9) h10 fun w11 g11 L => ?_⟩
  refine (image_Get_ok (s := ByteArray.mk #[83, 67]) (by decide) w11).mono fun e w12 ⟨g12, C1, f1, C2, f2, he, _⟩ => ?_
  refine ⟨_, _, _, _, _, _, _, _, _, _, he, fun w13 h13 => keepI (L.later g12) h13 fun w14 g14 L => ?_⟩
  rw [f_2, f_6]
  have e1 : textE x0I = 0 := by simp [textE, f_may]
  have e2 : putS x0I = lit0 := by simp [putS, f_may, f_put]
  rw [e1, e2]
  refine cnd_true rfl (cnd_true (by show (lit0.toList == lit0.toList) = true; simp) ?_)
  rw [f_get]
  refine cnd_true rfl ?_
  have gg := g8.trans (g9.trans (g11.trans (g12.trans g14)))
  have hi14 := hi.later gg
  have hg14 := hg.later (g7.trans gg)
  refine ⟨_, _, _, _, _, _, _, _, _, ⟨L.cell 1 rfl rfl, L.cell 1 rfl rfl, L.cell 1 rfl rfl, L.cell 1 rfl rfl, L.cell 1 rfl rfl, trivial⟩, ?_⟩
  refine ⟨_, _, _, _, _, _, _, _, _, ⟨L.cell 2 rfl rfl, L.cell 2 rfl rfl, L.cell 2 rfl rfl, L.cell 2 rfl rfl, L.cell 2 rfl rfl, trivial⟩, ?_⟩
  refine (ref30_Same_ok (c1 := 0) (c2 := 1) x0_ok hi14 hg14).mono fun e w15 ⟨he, g15⟩ => ⟨_, he, ?_⟩
  have L := L.later g15
  refine cnd_true (by rw [f_getX]; simp) (cnd_true rfl ?_)
  have o := (o8.row.later ((g9.trans (g11.trans (g12.trans g14))).trans g15))
  rw [f_text] at o ⊢
  refine cnd_true rfl ⟨⟨show (0 : Int) ≤ 0 by decide, by decide⟩, ?_⟩
  obtain ⟨ad, rfl, hc⟩ := o 0 _ rfl
  have cc : ∀ j v, (insC (34, 0, 0, 0, 0))[j]? = some v → w15.cell? (ad.add j) = some v := fun j v hj => by
    have := hc j v hj
    rwa [Nat.zero_mul, addr_add_add, Nat.zero_add] at this
  refine Deref_some rfl ⟨_, _, _, _, _, ⟨by have := cc 0 _ rfl; rwa [addr_add_zero] at this, cc 1 _ rfl, cc 2 _ rfl, cc 3 _ rfl, cc 4 _ rfl, trivial⟩, ?_⟩
  refine ⟨_, ins_eql _ _ _ _ _ _ _ _ _ _ _ _, cnd_true (by rfl) (cnd_true rfl (cnd_true rfl ?_))⟩
  refine (image_Check_ok (x := zeroI) (c1 := 0) (c2 := 0) ⟨⟨by decide, by decide⟩, by simp [zeroI], by simp [zeroI], by decide, by decide⟩ (zero_at w15)).mono fun e w16 ⟨he, g16⟩ => ⟨_, he, ?_⟩
  refine ⟨?_, (L.later g16).to⟩
  have : (textE zeroI == 2) = true := by decide +kernel
  rw [this]
set_option maxHeartbeats 3200000 in
theorem law30_ImageGets_ok (s : ByteArray) (w : World) : Calls Try.prog law30_ImageGets.N #[.string s] w (Gives (.bool true) w) := by
  refine law30_ImageGets.calls ?_
  unfold law30_ImageGets.vc
  refine cnd_of (fun h => ?_) fun h => ?_
  · exact (law30_alive_ok w).mono fun e w1 ⟨he, g1⟩ => ⟨_, he, rfl, g1⟩
  have hs : s.size ≤ 100000 := by simp only [decide_eq_false_iff_not] at h; omega
  refine (image_Get_ok hs w).mono fun e w1 ⟨g1, A1, c1, A2, c2, he, hi⟩ => ?_
  refine ⟨_, _, _, _, _, _, _, _, _, _, he, fun w2 h2 => keepI ((Trk.start w).later g1) h2 fun w3 g3 L => ?_⟩
  refine (ref30_Get_ok hs w3).mono fun e w4 ⟨g4, B1, d1, B2, d2, he, hj⟩ => ?_
  refine ⟨_, _, _, _, _, _, _, _, _, _, he, fun w5 h5 => keepI (L.later g4) h5 fun w6 g6 L => ?_⟩
  refine ⟨_, _, _, _, _, _, _, _, _, ⟨L.cell 0 rfl rfl, L.cell 0 rfl rfl, L.cell 0 rfl rfl, L.cell 0 rfl rfl, L.cell 0 rfl rfl, trivial⟩, ?_⟩
  refine ⟨_, _, _, _, _, _, _, _, _, ⟨L.cell 1 rfl rfl, L.cell 1 rfl rfl, L.cell 1 rfl rfl, L.cell 1 rfl rfl, L.cell 1 rfl rfl, trivial⟩, ?_⟩
  refine (ref30_Same_ok (getX_ok hs) (hi.later (g3.trans (g4.trans g6))) (hj.later g6)).mono fun e w7 ⟨he, g7⟩ => ⟨_, he, ?_⟩
  refine cnd_true (by simp) (cnd_true (by simp) ?_)
  exact (law30_alive_ok w7).mono fun e w8 ⟨he, g8⟩ => ⟨_, he, rfl, (L.later g7).to.trans g8⟩
end Go.Proofs.Ytjoikaklincfoaa

/-
Chapter 30's first law, once called: it answers true and turns nothing old.
Conditions: the image's numbers are of their kinds.
-/
namespace Go.Proofs.Ytjoikaklincfoaa
open Go Go.Vc Go.RowKit
set_option linter.unusedVariables false
set_option linter.unusedSimpArgs false
set_option linter.unnecessarySimpa false
set_option maxRecDepth 100000

/-- An image that was handed in. -/
structure ImIn (x : Img) : Prop where
  slots : I64 x.slots
  params : ∀ h ∈ x.params, I64 h.d ∧ I64 h.len
  code : ∀ c ∈ x.code, W32 c
theorem ins_neq (o d a b v o' d' a' b' v' : Int) (xo yo : Operand) : EqRuns Try.prog .neq 39 xo yo (.agg #[u8v o, u8v d, u8v a, u8v b, i64v v]) (.agg #[u8v o', u8v d', u8v a', u8v b', i64v v']) (!(o == o' && (d == d' && (a == a' && (b == b' && v == v'))))) := by
  have := (eq_flat (P := Try.prog) (vs := [u8v o, u8v d, u8v a, u8v b, i64v v]) (us := [u8v o', u8v d', u8v a', u8v b', i64v v']) xo yo Try.underlying39 (by kernel_rfl) (by kernel_rfl) (by kernel_rfl)).2
  simpa [eqL, eq1] using this
set_option maxHeartbeats 6400000 in
theorem law30_ImageTells_ok {x : Img} (hin : ImIn x) {A1 A2 : Option Addr} {c1 c2 : Nat} (w : World) (hr : ImAt w A1 A2 x) : Calls Try.prog law30_ImageTells.N #[imgV A1 c1 A2 c2 x] w (Gives (.bool true) w) := by
  refine law30_ImageTells.calls ?_
  unfold law30_ImageTells.vc
  intro w1 h1
  have L := (Trk.start w).alloc h1
  refine ⟨_, _, _, _, _, _, _, _, _, ⟨L.cell 0 rfl rfl, L.cell 0 rfl rfl, L.cell 0 rfl rfl, L.cell 0 rfl rfl, L.cell 0 rfl rfl, trivial⟩, ?_⟩
  refine (law30_large_ok (c1 := c1) (c2 := c2) (A1 := A1) (A2 := A2) (x := x) w1).mono fun e w2 ⟨he, g2⟩ => ⟨_, he, ?_⟩
  have L := L.later g2
  refine cnd_of (fun h => ?_) fun h => ?_
  · exact (law30_alive_ok w2).mono fun e w3 ⟨he, g3⟩ => ⟨_, he, rfl, L.to.trans g3⟩
  have hx : ImOk x := by
    simp only [Bool.or_eq_false_iff, decide_eq_false_iff_not] at h
    exact ⟨hin.slots, hin.params, hin.code, by omega, by omega⟩
  refine ⟨_, _, _, _, _, _, _, _, _, ⟨L.cell 0 rfl rfl, L.cell 0 rfl rfl, L.cell 0 rfl rfl, L.cell 0 rfl rfl, L.cell 0 rfl rfl, trivial⟩, ?_⟩
  refine (ref30_Copy_ok (c1 := c1) (c2 := c2) hx (hr.later L.to)).mono fun e w3 ⟨g3, B1, d1, B2, d2, he, hq, _, _⟩ => ?_
  refine ⟨_, _, _, _, _, _, _, _, _, he, fun w4 h4 => keepI (L.later g3) h4 fun w5 g5 L => ?_⟩
  have hq := hq.later g5
  refine ⟨_, _, _, _, _, _, _, _, _, ⟨L.cell 1 rfl rfl, L.cell 1 rfl rfl, L.cell 1 rfl rfl, L.cell 1 rfl rfl, L.cell 1 rfl rfl, trivial⟩, ?_⟩
  refine (image_Check_ok (c1 := d1) (c2 := d2) hx hq).mono fun e w6 ⟨he, g6⟩ => ⟨_, he, ?_⟩
  have L := L.later g6
  have hq := hq.later g6
  refine ⟨_, _, _, _, _, _, _, _, _, ⟨L.cell 1 rfl rfl, L.cell 1 rfl rfl, L.cell 1 rfl rfl, L.cell 1 rfl rfl, L.cell 1 rfl rfl, trivial⟩, ?_⟩
  refine (image_Put_ok (c1 := d1) (c2 := d2) hx hq).mono fun e w7 ⟨he, g7⟩ => ⟨_, _, he, ?_⟩
  have L := L.later g7
  have hq := hq.later g7
  refine ⟨_, _, _, _, _, _, _, _, _, ⟨L.cell 1 rfl rfl, L.cell 1 rfl rfl, L.cell 1 rfl rfl, L.cell 1 rfl rfl, L.cell 1 rfl rfl, trivial⟩, ?_⟩
  refine (image_Text_ok (c1 := d1) (c2 := d2) hx hq).mono fun e w8 ⟨g8, b8, c8, he, o8⟩ => ⟨_, _, _, _, he, ?_⟩
  have L := L.later g8
  have hq := hq.later g8
  have ot := o8.row
  refine ⟨_, _, _, _, _, _, _, _, _, ⟨L.cell 1 rfl rfl, L.cell 1 rfl rfl, L.cell 1 rfl rfl, L.cell 1 rfl rfl, L.cell 1 rfl rfl, trivial⟩, ?_⟩
  refine ⟨_, _, _, _, _, _, _, _, _, ⟨L.cell 0 rfl rfl, L.cell 0 rfl rfl, L.cell 0 rfl rfl, L.cell 0 rfl rfl, L.cell 0 rfl rfl, trivial⟩, ?_⟩
  refine (ref30_Same_ok (c1 := d1) (c2 := d2) (d1 := c1) (d2 := c2) hx hq (hr.later L.to)).mono fun e w9 ⟨he, g9⟩ => ⟨_, he, ?_⟩
  have L := L.later g9
  have ot := ot.later g9
  refine cnd_false (by simp) ?_
  refine ⟨_, _, _, _, _, _, _, _, _, ⟨L.cell 0 rfl rfl, L.cell 0 rfl rfl, L.cell 0 rfl rfl, L.cell 0 rfl rfl, L.cell 0 rfl rfl, trivial⟩, ?_⟩
  refine (ref30_May_ok (c1 := c1) (c2 := c2) hx (hr.later L.to)).mono fun e w10 ⟨he, g10⟩ => ⟨_, he, ?_⟩
  have L := L.later g10
  have ot := ot.later g10
  have alive : ∀ {w' : World}, Later w w' → Calls Try.prog law30_alive.N #[] w' fun e w'' => ∃ b : Bool, e = .returned (.bool b) ∧ Gives (.bool true) w (.returned (.bool b)) w'' := fun hl => (law30_alive_ok _).mono fun e w3 ⟨he, g3⟩ => ⟨_, he, rfl, hl.trans g3⟩
  refine cnd_of (fun h => ?_) fun h => ?_
  · have hm : mayI x = false := by simpa using h
    have e1 : textE x = 2 := by simp [textE, hm]
    have e2 : putS x = ByteArray.mk #[] := by simp [putS, hm]
    have e3 : textL x = [] := by simp [textL, hm]
    rw [e1, e2, e3]
    exact cnd_true rfl (cnd_true rfl (cnd_true rfl (cnd_true (by simp) (cnd_true rfl (alive L.to)))))
  have hm : mayI x = true := by simpa using h
  have e1 : textE x = 0 := by simp [textE, hm]
  have e2 : putS x = strOf (putB x) := by simp [putS, hm]
  have e3 : textL x = x.code.map decN := by simp [textL, hm]
  rw [e1, e2]
  refine cnd_false rfl (cnd_false rfl (cnd_false rfl ?_))
  refine ⟨_, _, _, _, _, _, _, _, _, ⟨L.cell 0 rfl rfl, L.cell 0 rfl rfl, L.cell 0 rfl rfl, L.cell 0 rfl rfl, L.cell 0 rfl rfl, trivial⟩, ?_⟩
  refine (ref30_Put_ok (c1 := c1) (c2 := c2) hx (hr.later L.to)).mono fun e w11 ⟨he, g11⟩ => ⟨_, he, cnd_false (by simp) ?_⟩
  have L := L.later g11
  have ot := ot.later g11
  have el : (textL x).length = x.code.length := by rw [e3, List.length_map]
  refine ⟨_, _, _, L.cell 0 rfl rfl, cnd_false (by rw [el]; simp) ?_⟩
  refine ⟨fun vs w' => ∃ k : Nat, k ≤ x.code.length ∧ vs = [i64v k] ∧ Later w11 w', fun vs _ => match vs with | [.int _ n] => x.code.length - n.toNat | _ => 0, ⟨0, by omega, rfl, Later.refl _⟩, ?_⟩
  rintro g i w12 ⟨k, hk, hvs, g12⟩
  simp only [List.cons.injEq, Value.int.injEq, true_and, and_true] at hvs
  subst hvs
  have L := L.later g12
  have ot := ot.later g12
  refine cnd_of (fun h => ?_) fun h => alive L.to
  have hlt : k < x.code.length := by simp only [decide_eq_true_eq] at h; omega
  have hg := List.getElem?_eq_getElem hlt
  generalize x.code[k] = m at hg
  have nc := hx.nc
  obtain ⟨ad, hA, hc⟩ := (hr.2.later L.to) k _ hg
  refine ⟨_, _, _, L.cell 0 rfl rfl, ⟨by omega, by omega⟩, Deref_some hA ⟨m, ?_, ?_⟩⟩
  · have := hc 0 _ rfl
    rw [addr_add_zero] at this
    exact this
  refine (ref03_Decode_ok (hx.code m (List.mem_of_getElem? hg)) w12).mono fun e w13 ⟨he, g13⟩ => ?_
  rw [decI_is] at he
  refine ⟨_, _, _, _, _, _, he, fun w14 h14 => ?_⟩
  have M := (Trk.here g13).alloc h14
  refine M.setAll (l := insC (decN m)) 0 rfl rfl (ones rfl) fun w15 M => ?_
  have hg2 : (textL x)[k]? = some (decN m) := by rw [e3, List.getElem?_map, hg]; rfl
  obtain ⟨ad2, hA2, hc2⟩ := (ot.later M.to) k _ hg2
  refine ⟨⟨by omega, by rw [el]; omega⟩, Deref_some hA2 ⟨_, _, _, _, _, fun w' hl => ⟨?_, hl.cell_some (hc2 1 _ rfl), hl.cell_some (hc2 2 _ rfl), hl.cell_some (hc2 3 _ rfl), hl.cell_some (hc2 4 _ rfl), trivial⟩,
    _, _, _, _, _, fun w' hl => ⟨(M.later hl).cell 0 rfl rfl, (M.later hl).cell 0 rfl rfl, (M.later hl).cell 0 rfl rfl, (M.later hl).cell 0 rfl rfl, (M.later hl).cell 0 rfl rfl, trivial⟩, _, ins_neq _ _ _ _ _ _ _ _ _ _ _ _, fun w16 g16 => cnd_false (by show (!((decN m).1 == (decN m).1 && ((decN m).2.1 == (decN m).2.1 && ((decN m).2.2.1 == (decN m).2.2.1 && ((decN m).2.2.2.1 == (decN m).2.2.2.1 && (decN m).2.2.2.2 == (decN m).2.2.2.2))))) = false; simp) ?_⟩⟩
  · have := hl.cell_some (hc2 0 _ rfl)
    rw [addr_add_zero] at this
    exact this
  have hw : IntKind.i64.wrap ((k : Int) + 1) = ((k + 1 : Nat) : Int) := by rw [i64_in (by omega) (by omega)]; omega
  rw [hw]
  exact ⟨⟨k + 1, by omega, rfl, g12.trans (M.to.trans g16)⟩, by show x.code.length - ((k + 1 : Nat) : Int).toNat < x.code.length - ((k : Nat) : Int).toNat; omega⟩
end Go.Proofs.Ytjoikaklincfoaa

/-
Images, the plain law: what was put is read, what is cut ahead of its end is not, what has more behind it is none.
Conditions: each theorem's hypotheses.
-/
namespace Go.Proofs.Ytjoikaklincfoaa
open Go Go.Vc Go.RowKit
set_option linter.unusedVariables false
set_option linter.unusedSimpArgs false
set_option linter.unnecessarySimpa false
set_option maxRecDepth 100000

abbrev B8 (l : List Int) : Prop := ∀ b ∈ l, 0 ≤ b ∧ b < 256
theorem bytesI_strOf {l : List Int} (h : B8 l) : bytesI (strOf l) = l := by
  unfold bytesI strOf
  rw [List.toList_toArray, List.map_map]
  conv => rhs; rw [← List.map_id l]
  refine List.map_congr_left fun b hb => ?_
  obtain ⟨h0, h1⟩ := h b hb
  simp only [Function.comp, UInt8.toNat_ofNat', id]
  omega
theorem bytesI_append (s t : ByteArray) : bytesI (s ++ t) = bytesI s ++ bytesI t := by
  unfold bytesI
  rw [ByteArray.data_append, Array.toList_append, List.map_append]
theorem bytesI_take (s : ByteArray) (k : Nat) : bytesI (s.extract 0 k) = (bytesI s).take k := by
  unfold bytesI
  rw [ByteArray.data_extract, Array.toList_extract, ← List.map_take]
  simp
theorem bytesI_inj {s t : ByteArray} (h : bytesI s = bytesI t) : s = t := by
  unfold bytesI at h
  have h2 : s.data.toList = t.data.toList := by
    refine (List.map_inj_right ?_).1 h
    intro a b hab
    have : a.toNat = b.toNat := by exact_mod_cast hab
    exact UInt8.toNat_inj.1 this
  exact ByteArray.ext (Array.toList_inj.1 h2)
theorem eq_toList {a b : ByteArray} : (a.toList == b.toList) = true ↔ a = b := by
  constructor
  · intro h
    rw [ByteArray.toList_eq, ByteArray.toList_eq] at h
    exact ByteArray.ext (Array.toList_inj.1 (eq_of_beq h))
  · rintro rfl
    exact beq_self_eq_true _
theorem fourL_B8 {m : Int} (h : W32 m) : B8 (fourL m) := by
  obtain ⟨h0, h1⟩ := h
  intro b hb
  simp only [fourL, List.mem_cons, List.not_mem_nil, or_false] at hb
  rcases hb with rfl | rfl | rfl | rfl <;> omega
theorem bitsS_B8 (a b c : Bool) : 0 ≤ bitsS a b c ∧ bitsS a b c < 256 := by cases a <;> cases b <;> cases c <;> decide
theorem W32_len {x : Img} (hx : ImOk x) : W32 (x.code.length : Int) := by
  have := hx.nc
  constructor <;> omega
theorem putB_B8 {x : Img} (hx : ImOk x) : B8 (putB x) := by
  intro b hb
  simp only [putB, hdrL, magicL, List.mem_append, List.mem_cons, List.not_mem_nil, or_false, List.mem_map] at hb
  rcases hb with ((((h | h) | h) | h) | h) | h
  · rcases h with rfl | rfl | rfl | rfl <;> decide
  · rcases h with rfl | rfl <;> omega
  · obtain ⟨p, -, rfl⟩ := h
    exact bitsS_B8 _ _ _
  · subst h
    exact bitsS_B8 _ _ _
  · exact fourL_B8 (W32_len hx) b h
  · obtain ⟨c, hc, h⟩ := List.mem_flatMap.1 h
    exact fourL_B8 (hx.code c hc) b h
theorem value_four {m : Int} (h : W32 m) : valueL (fourL m) = m := by
  obtain ⟨h0, h1⟩ := h
  simp only [valueL, fourL]
  omega
theorem hdOf_bits {h : Hd} (hk : okH h = true) : hdOf (bitsH h) = h := by
  obtain ⟨a, b, c, d, e⟩ := h
  simp only [okH, Bool.and_eq_true, decide_eq_true_eq] at hk
  obtain ⟨rfl, rfl, -⟩ := hk
  cases a <;> cases b <;> cases c <;> rfl
theorem wordsL_len : ∀ l : List Hd, (l.length : Int) ≤ wordsL l
  | [] => by simp [wordsL]
  | h :: l => by
    have := wordsL_len l
    simp only [wordsL, List.length_cons]
    split <;> omega
/-- What is behind the head's six bytes. -/
def tailB (x : Img) (more : List Int) : List Int := x.params.map bitsH ++ (bitsS x.ret x.sec false :: (fourL (x.code.length : Int) ++ (codeB x.code ++ more)))
theorem put_split (x : Img) (more : List Int) : putB x ++ more = 83 :: 67 :: 82 :: 49 :: (x.slots % 256) :: ((x.params.length : Int) % 256) :: tailB x more := by
  simp only [putB, hdrL, magicL, tailB, List.append_assoc, List.cons_append, List.nil_append]
theorem drop6 (x : Img) (more : List Int) (k : Nat) : (putB x ++ more).drop (6 + k) = (tailB x more).drop k := by
  rw [put_split, Nat.add_comm]
  rfl
theorem codeB_drop : ∀ (l : List Int) (i : Nat) (more : List Int), i ≤ l.length → (codeB l ++ more).drop (4 * i) = codeB (l.drop i) ++ more
  | l, 0, more, _ => by simp
  | [], i + 1, more, h => absurd h (by simp)
  | c :: l, i + 1, more, h => by
    have e : codeB (c :: l) ++ more = c % 256 :: c / 256 % 256 :: c / 65536 % 256 :: c / 16777216 :: (codeB l ++ more) := by
      simp [codeB, fourL]
    rw [e, show 4 * (i + 1) = 4 * i + 1 + 1 + 1 + 1 by omega]
    simp only [List.drop_succ_cons]
    exact codeB_drop l i more (by simpa using h)
section
variable {x : Img} (hx : ImOk x) (hm : mayI x = true) (more : List Int)
include hm
set_option linter.unusedSectionVars false
theorem may_facts : (0 ≤ x.slots ∧ x.slots ≤ 255) ∧ x.params.length ≤ 8 ∧ (∀ h ∈ x.params, okH h = true) := by
  simp only [mayI, Bool.and_eq_true, decide_eq_true_eq, List.all_eq_true] at hm
  obtain ⟨h1, h2, h3, h4⟩ := hm
  have := wordsL_len x.params
  exact ⟨h2, by omega, h1⟩
theorem nP_put : nP (putB x ++ more) = x.params.length := by
  obtain ⟨_, h2, _⟩ := may_facts hm
  rw [put_split]
  show ((x.params.length : Int) % 256).toNat = _
  omega
theorem tail_drop (k : Nat) : (putB x ++ more).drop (6 + x.params.length + k) = (bitsS x.ret x.sec false :: (fourL (x.code.length : Int) ++ (codeB x.code ++ more))).drop k := by
  rw [show 6 + x.params.length + k = 6 + (x.params.length + k) by omega, drop6, tailB, ← List.drop_drop, List.drop_left' (by simp)]
include hx
theorem many_put : manyL (putB x ++ more) = x.code.length := by
  unfold manyL nextB
  rw [nP_put hm, show 7 + x.params.length = 6 + x.params.length + 1 by omega, tail_drop hm]
  simp only [List.drop_succ_cons, List.drop_zero]
  rw [List.take_left' (by simp [fourL]), value_four (W32_len hx)]
  simp
theorem rd_put : rdI (putB x ++ more) = x := by
  obtain ⟨h1, h2, h3⟩ := may_facts hm
  unfold rdI
  rw [nP_put hm, many_put hx hm]
  have e4 : bAt (putB x ++ more) 4 = x.slots := by
    rw [put_split]
    show x.slots % 256 = x.slots
    omega
  have eq : bAt (putB x ++ more) (6 + x.params.length) = bitsS x.ret x.sec false := by
    unfold bAt
    have := tail_drop hm more 0
    rw [Nat.add_zero, List.drop_zero] at this
    rw [List.getD_eq_getElem?_getD, ← List.head?_drop, this]
    rfl
  have eP : rdP (putB x ++ more) x.params.length = x.params := by
    unfold rdP nextB
    have := drop6 x more 0
    rw [Nat.add_zero, List.drop_zero] at this
    rw [this, tailB, List.take_left' (by simp), List.map_map]
    conv => rhs; rw [← List.map_id x.params]
    exact List.map_congr_left fun h hh => hdOf_bits (h3 h hh)
  have eC : rdC (putB x ++ more) x.code.length = x.code := by
    unfold rdC
    apply List.ext_getElem?
    intro i
    rw [List.getElem?_map]
    by_cases hi : i < x.code.length
    · rw [List.getElem?_range hi, List.getElem?_eq_getElem hi]
      refine congrArg some ?_
      unfold codeAt nextB
      rw [nP_put hm, show 11 + x.params.length + 4 * i = 6 + x.params.length + (4 * i + 1 + 4) by omega, tail_drop hm]
      rw [show 4 * i + 1 + 4 = (4 + 4 * i) + 1 by omega, List.drop_succ_cons, ← List.drop_drop, List.drop_left' (by simp [fourL]), codeB_drop _ _ _ (by omega)]
      rw [List.drop_eq_getElem_cons hi]
      show valueL ((fourL x.code[i] ++ codeB (x.code.drop (i + 1)) ++ more).take 4) = _
      rw [List.append_assoc, List.take_left' (by simp [fourL])]
      exact value_four (hx.code _ (List.getElem_mem hi))
    · rw [List.getElem?_eq_none (by simpa using hi), List.getElem?_eq_none (by omega)]
      rfl
  rw [e4, eq, eP, eC]
  obtain ⟨a, b, c, d, e⟩ := x
  cases c <;> cases d <;> rfl
theorem can_put : canRd (putB x ++ more) = true := by
  unfold canRd
  rw [nP_put hm, many_put hx hm, List.length_append, putB_length]
  simp
  omega
theorem can_cut {k : Nat} (hk : k < (putB x).length) : canRd ((putB x).take k) = false := by
  rw [putB_length] at hk
  have hl : ((putB x).take k).length = k := by rw [List.length_take, putB_length]; omega
  cases hc : canRd ((putB x).take k) with
  | false => rfl
  | true =>
    simp only [canRd, hl, decide_eq_true_eq] at hc
    obtain ⟨c1, c2⟩ := hc
    have hn : nP ((putB x).take k) = x.params.length := by
      have := nP_put hm []
      rw [List.append_nil] at this
      rw [← this]
      unfold nP bAt
      rw [List.getD_eq_getElem?_getD, List.getD_eq_getElem?_getD, List.getElem?_take, if_pos (by omega)]
    rw [hn] at c1 c2
    have hmy : manyL ((putB x).take k) = x.code.length := by
      have := many_put hx hm []
      rw [List.append_nil] at this
      rw [← this]
      unfold manyL nextB
      rw [hn, List.drop_take, List.take_take]
      have := nP_put hm []
      rw [List.append_nil] at this
      rw [this, Nat.min_eq_left (by omega)]
    rw [hmy] at c2
    omega
end
theorem pre_of {s : ByteArray} (h : (bytesI s).take 4 = magicL.take (min s.size 4)) : preOk s = true := by
  unfold preOk
  rw [eq_toList]
  apply bytesI_inj
  rw [bytesI_take, bytesI_take]
  have hm : (gomin (s.size : Int) 4).toNat = min s.size 4 := by unfold gomin; split <;> omega
  rw [hm]
  have e : bytesI magicB = magicL := by decide +kernel
  rw [e, ← h]
  exact List.take_eq_take_iff.2 (by rw [bytesI_length]; omega)
theorem put_size4 (x : Img) : 11 ≤ (strOf (putB x)).size := by rw [strOf_size, putB_length]; omega
theorem get_put {x : Img} (hx : ImOk x) (hm : mayI x = true) : getE (strOf (putB x)) = 0 ∧ getX (strOf (putB x)) = x := by
  have hb := bytesI_strOf (putB_B8 hx)
  have hr : rdI (putB x) = x := by have := rd_put hx hm []; rwa [List.append_nil] at this
  have hc : canRd (putB x) = true := by have := can_put hx hm []; rwa [List.append_nil] at this
  have hp : preOk (strOf (putB x)) = true := pre_of (by
    have := put_size4 x
    rw [hb, Nat.min_eq_right (by omega)]
    rfl)
  have h0 : getE (strOf (putB x)) = 0 := by
    have hg : okG (strOf (putB x)) = true := by
      unfold okG
      rw [hb, hr, hm, eq_toList.2 rfl]
      rfl
    unfold getE
    rw [hb, hp, hc, hg]
    rfl
  refine ⟨h0, ?_⟩
  unfold getX
  rw [h0, hb, hr]
  rfl
theorem get_cut {x : Img} (hx : ImOk x) (hm : mayI x = true) {k : Nat} (hk : k < (strOf (putB x)).size) : getE ((strOf (putB x)).extract 0 k) = 6 := by
  have hb := bytesI_strOf (putB_B8 hx)
  have hb2 : bytesI ((strOf (putB x)).extract 0 k) = (putB x).take k := by rw [bytesI_take, hb]
  rw [strOf_size] at hk
  have hs : ((strOf (putB x)).extract 0 k).size = k := by rw [← bytesI_length, hb2, List.length_take]; omega
  have hp : preOk ((strOf (putB x)).extract 0 k) = true := pre_of (by
    rw [hb2, hs, List.take_take]
    have h4 : (putB x).take 4 = magicL := rfl
    rw [← h4, List.take_take, Nat.min_comm 4 k, Nat.min_eq_left (Nat.min_le_right k 4)])
  unfold getE
  rw [hb2, hp, can_cut hx hm hk]
  rfl
theorem get_more {x : Img} (hx : ImOk x) (hm : mayI x = true) {t : ByteArray} (ht : t.size ≠ 0) : getE (strOf (putB x) ++ t) = 7 := by
  have hb := bytesI_strOf (putB_B8 hx)
  have hb2 : bytesI (strOf (putB x) ++ t) = putB x ++ bytesI t := by rw [bytesI_append, hb]
  have hp : preOk (strOf (putB x) ++ t) = true := pre_of (by
    have := put_size4 x
    rw [hb2, ByteArray.size_append, Nat.min_eq_right (by omega)]
    rfl)
  have hg : okG (strOf (putB x) ++ t) = false := by
    unfold okG
    rw [hb2, rd_put hx hm, hm]
    have : ((strOf (putB x)).toList == (strOf (putB x) ++ t).toList) = false := by
      rw [Bool.eq_false_iff]
      intro h
      have := eq_size h
      rw [ByteArray.size_append] at this
      omega
    rw [this]
    rfl
  exact getE_7 hp (by rw [hb2]; exact can_put hx hm _) hg
theorem get_back {s : ByteArray} (h : getE s = 0) : mayI (getX s) = true ∧ strOf (putB (getX s)) = s := by
  have hx : getX s = rdI (bytesI s) := by rw [getX, h, if_pos rfl]
  rw [hx]
  cases hp : preOk s with
  | false => simp [getE, hp] at h
  | true =>
    cases hc : canRd (bytesI s) with
    | false => simp [getE, hp, hc] at h
    | true =>
      cases hg : okG s with
      | false => simp [getE, hp, hc, hg] at h
      | true =>
        simp only [okG, Bool.and_eq_true] at hg
        exact ⟨hg.1, eq_toList.1 hg.2⟩
theorem get_none {s : ByteArray} (h : getE s ≠ 0) : (getE s = 6 ∨ getE s = 7) ∧ getX s = zeroI := by
  refine ⟨?_, by rw [getX, if_neg h]⟩
  unfold getE at h ⊢
  split <;> rename_i h1
  · split <;> rename_i h2
    · split <;> rename_i h3
      · rw [if_pos h1, if_pos h2, if_pos h3] at h
        exact absurd rfl h
      · exact .inr rfl
    · exact .inl rfl
  · exact .inr rfl
end Go.Proofs.Ytjoikaklincfoaa
