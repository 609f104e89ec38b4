/-
Images, third part: which bytes an image has (package image).
Conditions: an image's numbers are of their kinds, its rows of at most so many elements.
-/
import Derived.Test.YtjoikaklincfoaaImgB
namespace Go.Proofs.Ytjoikaklincfoaa
open Go Go.Vc Go.RowKit
set_option linter.unusedVariables false
set_option linter.unusedSimpArgs false
set_option linter.unnecessarySimpa false
set_option maxRecDepth 100000

def magicL : List Int := [83, 67, 82, 49]
def bitsH (h : Hd) : Int := bitsS h.buf h.sec h.mut_
def hdrL (x : Img) : List Int := magicL ++ [x.slots % 256, (x.params.length : Int) % 256]
def codeB (l : List Int) : List Int := l.flatMap fourL
def putB (x : Img) : List Int := hdrL x ++ x.params.map bitsH ++ [bitsS x.ret x.sec false] ++ fourL (x.code.length : Int) ++ codeB x.code
def putS (x : Img) : ByteArray := if mayI x = true then strOf (putB x) else ByteArray.mk #[]
theorem codeB_length : ∀ l : List Int, (codeB l).length = 4 * l.length
  | [] => rfl
  | a :: l => by
    have := codeB_length l
    simp only [codeB, List.flatMap_cons, List.length_append, List.length_cons] at this ⊢
    rw [this]
    simp [fourL]
    omega
theorem codeB_take (l : List Int) (k : Nat) (c : Int) (h : l[k]? = some c) : codeB (l.take k) ++ fourL c = codeB (l.take (k + 1)) := by
  rw [List.take_add_one, h]
  simp [codeB]
theorem putB_length (x : Img) : (putB x).length = 11 + x.params.length + 4 * x.code.length := by
  simp only [putB, hdrL, magicL, List.length_append, List.length_map, List.length_cons, List.length_nil, codeB_length]
  simp [fourL]
  omega
/-- Bytes of a constant, as a slice. -/
theorem const_start {w0 w w1 : World} (hl : Later w0 w) (e1 : w1 = w.alloc (.cells #[.int .u8 83, .int .u8 67, .int .u8 82, .int .u8 49] 5)) {K : Value → World → Prop}
    (hK : ∀ w2, Later w w2 → CellsAt w2 ⟨w.heap.size, 0, none⟩ 0 (rowC u8T magicL) → K (.slice (some ⟨w.heap.size, 0, none⟩) 4 4) w2) : RunsV Try.prog (convert 48 48 (.slice (some ⟨w.heap.size, 0, none⟩) 4 4)) w1 K := by
  subst e1
  refine RunsV_of (Lib.run_convert_bytes_const w 48 5 _ 4 4 rtU8.under (by kernel_rfl)) (hK _ (Later.alloc' _ _) ?_)
  exact CellsAt_new' w 5 _ _
/-- What is held while bytes are laid behind bytes. -/
structure Lay (w0 : World) (xb : Nat) (xc : List Value) (w : World) (b : Option Addr) (c : Nat) (l : List Int) : Prop where
  to : Later w0 w
  own : OwnE u8T w0 w 5 b c l
  hx : Has w xb xc
  ne : rowB b ≠ some xb
theorem Lay.later {w0 : World} {xb : Nat} {xc : List Value} {w w' : World} {b : Option Addr} {c : Nat} {l : List Int} (h : Lay w0 xb xc w b c l) (hl : Later w w') : Lay w0 xb xc w' b c l :=
  ⟨h.to.trans hl, OwnS.later h.own hl, h.hx.later hl, h.ne⟩
theorem Lay.push {w0 : World} {xb : Nat} {xc : List Value} {w w1 : World} {b : Option Addr} {c : Nat} {l : List Int} (h : Lay w0 xb xc w b c l) (m : Int) (hb : l.length ≤ 10000000) (e1 : w1 = w.alloc (.cells #[.int .u8 m] 5)) {K : Value → World → Prop}
    (hK : ∀ b' c' w', Lay w0 xb xc w' b' c' (l ++ [m]) → K (.slice b' (l ++ [m]).length c') w') : RunsV Try.prog (Builtin.append_ #[48, 48] 48 #[.slice b l.length c, .slice (some ⟨w.heap.size, 0, none⟩) 1 1]) w1 K := by
  refine OwnE.push 48 rtU8 m h.own h.to (by simp [maxLen]; omega) (by omega) e1 rfl fun b' c' w' ho hl hk => hK b' c' w' ⟨hl, ho, h.hx.kept (hk _ h.hx.lt h.ne).1, (hk _ h.hx.lt h.ne).2⟩
theorem Lay.four {w0 : World} {xb : Nat} {xc : List Value} {w : World} {b : Option Addr} {c : Nat} {l : List Int} (h : Lay w0 xb xc w b c l) {n : Int} (hn : W32 n) (hb : l.length ≤ 10000000) :
    Calls Try.prog image_four.N #[.slice b l.length c, u32v n] w fun e w' => ∃ b' c', e = .returned (.slice b' (l ++ fourL n).length c') ∧ Lay w0 xb xc w' b' c' (l ++ fourL n) :=
  (image_four_ok hn h.own h.to hb).mono fun e w' ⟨b', c', he, hl, ho, hk⟩ => ⟨b', c', he, hl, ho, h.hx.kept (hk _ h.hx.lt h.ne).1, (hk _ h.hx.lt h.ne).2⟩
/-- The start: the constant's bytes, and two behind them. -/
theorem Lay.start {w0 w w1 w2 : World} {xb : Nat} {xc : List Value} (hl : Later w0 w) (hx : Has w xb xc) (hw1 : Later w w1) (hc : CellsAt w1 ⟨w.heap.size, 0, none⟩ 0 (rowC u8T magicL)) {p q : Int} (e2 : w2 = w1.alloc (.cells #[.int .u8 p, .int .u8 q] 5)) {K : Value → World → Prop}
    (hK : ∀ b' c' w', Lay w0 xb xc w' b' c' (magicL ++ [p, q]) → K (.slice b' (magicL ++ [p, q]).length c') w') : RunsV Try.prog (Builtin.append_ #[48, 48] 48 #[.slice (some ⟨w.heap.size, 0, none⟩) 4 4, .slice (some ⟨w1.heap.size, 0, none⟩) 2 2]) w2 K := by
  have g2 : Later w1 w2 := e2 ▸ Later.alloc' _ _
  have hn : CellsAt w2 ⟨w1.heap.size, 0, none⟩ 0 (rowC u8T [p, q]) := by subst e2; exact CellsAt_new' w1 5 _ _
  have ho : CellsAt w2 ⟨w.heap.size, 0, none⟩ 0 (rowC u8T magicL) := by
    refine CellsAt_of_get fun j u hj => ?_
    exact g2.cell_some (CellsAt_get hc j u hj)
  refine OwnE.grow (l := magicL) (news := [p, q]) (w0 := w2) 48 rtU8 (Later.refl w2) ho hn (by simp [magicL]) (by simp [magicL, maxLen]) (by simp [magicL]) fun b' c' w' ho hl' => hK b' c' w' ⟨((hl.trans hw1).trans g2).trans hl', ho.weak (Later.size ((hl.trans hw1).trans g2)), ((hx.later hw1).later g2).later hl', fun h => ?_⟩
  have := (ho.lt h).1
  have := ((hx.later hw1).later g2).lt
  omega
set_option maxHeartbeats 6400000 in
theorem image_Put_ok {x : Img} (hx : ImOk x) {A1 A2 : Option Addr} {c1 c2 : Nat} {w : World} (hr : ImAt w A1 A2 x) : Calls Try.prog image_Put.N #[imgV A1 c1 A2 c2 x] w (Gives (.tuple #[.string (putS x), i64v (textE x)]) w) := by
  refine image_Put.calls ?_
  unfold image_Put.vc
  intro w1 h1
  have L := (Trk.start w).alloc h1
  refine ⟨_, _, _, _, _, _, _, _, _, ⟨L.cell 0 rfl rfl, L.cell 0 rfl rfl, L.cell 0 rfl rfl, L.cell 0 rfl rfl, L.cell 0 rfl rfl, trivial⟩, ?_⟩
  refine (image_Check_ok hx (hr.later L.to)).mono fun e w2 ⟨he, g2⟩ => ⟨_, he, ?_⟩
  have L := L.later g2
  have np := hx.np
  have nc := hx.nc
  cases hm : mayI x with
  | false =>
    refine cnd_true (by simp [textE, hm]) ⟨?_, L.to⟩
    simp [putS, textE, hm]
  | true =>
  refine cnd_false (by simp [textE, hm]) fun w3 h3 => ?_
  have hxc : Has w2 w.heap.size (imgC A1 c1 A2 c2 x) := L.has 0 rfl
  refine const_start L.to h3 fun w4 g4 hcs => ⟨_, _, _, rfl, ?_⟩
  have hx4 := hxc.later g4
  refine ⟨_, hx4.cell rfl, _, _, _, hx4.cell rfl, fun w5 h5 => ?_⟩
  rw [u8_wrap, u8_wrap] at h5
  refine Lay.start L.to hxc g4 hcs h5 fun b c w6 y6 => ⟨_, _, _, rfl, _, _, _, y6.hx.cell rfl, ?_⟩
  refine ⟨fun vs w' => ∃ (k : Nat) (b : Option Addr) (c : Nat), k ≤ x.params.length ∧ vs = [.slice b (hdrL x ++ (x.params.take k).map bitsH).length c, i64v k] ∧ Lay w w.heap.size (imgC A1 c1 A2 c2 x) w' b c (hdrL x ++ (x.params.take k).map bitsH),
    fun vs _ => match vs with | [_, .int _ n] => x.params.length - n.toNat | _ => 0, ⟨0, b, c, by omega, by simp [hdrL], by simpa [hdrL] using y6⟩, ?_⟩
  rintro g b bn bc s w7 ⟨k, b', c', hk, hs, y7⟩
  simp only [List.cons.injEq, Value.int.injEq, Value.slice.injEq, true_and, and_true] at hs
  obtain ⟨⟨rfl, rfl, rfl⟩, rfl⟩ := hs
  have hlen : (hdrL x ++ (x.params.take k).map bitsH).length ≤ 2000 := by
    simp only [hdrL, magicL, List.length_append, List.length_map, List.length_take, List.length_cons, List.length_nil]
    omega
  refine cnd_of (fun h => ?_) fun h => ?_
  · have hlt : k < x.params.length := by simp only [decide_eq_true_eq] at h; omega
    have hg := List.getElem?_eq_getElem hlt
    generalize x.params[k] = m at hg
    obtain ⟨ad, hA, hc⟩ := (hr.1.later y7.to) k _ hg
    refine ⟨⟨by omega, by omega⟩, Deref_some hA ⟨m.buf, m.sec, m.mut_, m.d, m.len, ⟨?_, hc 1 _ rfl, hc 2 _ rfl, hc 3 _ rfl, hc 4 _ rfl, trivial⟩, fun w8 h8 => ?_⟩⟩
    · have := hc 0 _ rfl
      rw [addr_add_zero] at this
      exact this
    have M := (Trk.start w7).alloc h8
    refine M.setAll (l := hdC m) 0 rfl rfl (ones rfl) fun w9 M => ?_
    refine ⟨_, M.cell 0 rfl rfl, _, M.cell 0 rfl rfl, _, M.cell 0 rfl rfl, fun w10 h10 => ?_⟩
    have hb3 : ERow boolT1 w10 (some ⟨w9.heap.size, 0, none⟩) [m.buf, m.sec, m.mut_] := Has.erow (((Trk.start w9).alloc h10).has 0 rfl)
    refine (image_bits_ok [m.buf, m.sec, m.mut_] (by simp) hb3 (c := 3)).mono fun e w11 ⟨he, e11⟩ => ⟨_, he, fun w12 h12 => ?_⟩
    rw [bits3] at h12
    have g10 : Later w7 w10 := M.to.trans (h10 ▸ Later.alloc' _ _)
    have y11 : Lay w w.heap.size (imgC A1 c1 A2 c2 x) w11 b _ _ := e11 ▸ y7.later g10
    refine y11.push (bitsH m) (by omega) h12 fun b' c' w13 y13 => ⟨_, _, _, rfl, ?_⟩
    have htk : hdrL x ++ (x.params.take k).map bitsH ++ [bitsH m] = hdrL x ++ (x.params.take (k + 1)).map bitsH := by
      rw [List.take_add_one, hg]
      simp
    rw [htk] at y13 ⊢
    have hw : IntKind.i64.wrap ((k : Int) + 1) = ((k + 1 : Nat) : Int) := by rw [i64_in (by omega) (by omega)]; omega
    rw [hw]
    exact ⟨⟨k + 1, b', c', by omega, rfl, y13⟩, by show x.params.length - ((k + 1 : Nat) : Int).toNat < x.params.length - ((k : Nat) : Int).toNat; omega⟩
  have hkn : k = x.params.length := by simp only [decide_eq_false_iff_not] at h; omega
  subst hkn
  rw [List.take_length] at y7 hlen ⊢
  refine ⟨fun w' => Has w' w.heap.size (imgC A1 c1 A2 c2 x), fun w' h => y7.hx.later h, fun w8 h8 => ?_⟩
  refine ⟨_, fun w' h => h.cell rfl, _, fun w' h => h.cell rfl, _, _, _, fun w' h => h.cell rfl, fun w9 h9 => ?_⟩
  have y8 := y7.later h8
  have g9 : Later w8 w9 := h9 ▸ Later.alloc' _ _
  have y9 := y8.later g9
  have hb2 : ERow boolT1 w9 (some ⟨w8.heap.size, 0, none⟩) [x.ret, x.sec] := Has.erow (((Trk.start w8).alloc h9).has 0 rfl)
  refine ⟨y9.hx, (image_bits_ok [x.ret, x.sec] (by simp) hb2 (c := 2)).mono fun e w10 ⟨he, e10⟩ => ⟨_, he, e10 ▸ y9.hx, fun w11 h11 => ?_⟩⟩
  rw [bits2] at h11
  have y10 : Lay w w.heap.size (imgC A1 c1 A2 c2 x) w10 b _ _ := e10 ▸ y9
  have g11 : Later w10 w11 := h11 ▸ Later.alloc' _ _
  refine ⟨(y10.later g11).hx, y10.push _ (by omega) h11 fun b2 cc2 w12 y12 => ⟨_, _, _, rfl, y12.hx, ?_⟩⟩
  have hW : IntKind.u32.wrap ((x.code.length : Nat) : Int) = (x.code.length : Int) := u32_in (by omega) (by omega)
  rw [hW]
  refine (y12.four (n := (x.code.length : Int)) ⟨by omega, by omega⟩ (by rw [List.length_append, List.length_singleton]; omega)).mono fun e w13 ⟨b3, cc3, he, y13⟩ => ⟨_, _, _, he, y13.hx, _, _, _, y13.hx.cell rfl, ?_⟩
  generalize hpre : hdrL x ++ x.params.map bitsH ++ [bitsS x.ret x.sec false] ++ fourL (x.code.length : Int) = pre at y13 ⊢
  have hprel : pre.length ≤ 3000 := by
    rw [← hpre]
    simp only [List.length_append, List.length_map] at hlen ⊢
    simp [fourL]
    omega
  refine ⟨fun vs w' => ∃ (k : Nat) (b : Option Addr) (c : Nat), k ≤ x.code.length ∧ vs = [.slice b (pre ++ codeB (x.code.take k)).length c, i64v k] ∧ Lay w w.heap.size (imgC A1 c1 A2 c2 x) w' b c (pre ++ codeB (x.code.take k)),
    fun vs _ => match vs with | [_, .int _ n] => x.code.length - n.toNat | _ => 0, ⟨0, b3, cc3, by omega, by simp [codeB], by simpa [codeB] using y13⟩, ?_⟩
  rintro g b bn bc s w14 ⟨k, b', c', hk, hs, y14⟩
  simp only [List.cons.injEq, Value.int.injEq, Value.slice.injEq, true_and, and_true] at hs
  obtain ⟨⟨rfl, rfl, rfl⟩, rfl⟩ := hs
  have hlen2 : (pre ++ codeB (x.code.take k)).length ≤ 1000000 := by
    rw [List.length_append, codeB_length, List.length_take]
    omega
  refine cnd_of (fun h => ?_) fun h => ?_
  · have hlt : k < x.code.length := by simp only [decide_eq_true_eq] at h; omega
    have hg := List.getElem?_eq_getElem hlt
    generalize x.code[k] = m at hg
    obtain ⟨ad, hA, hc⟩ := (hr.2.later y14.to) k _ hg
    refine ⟨⟨by omega, by omega⟩, Deref_some hA ⟨m, ?_, ?_⟩⟩
    · have := hc 0 _ rfl
      rw [addr_add_zero] at this
      exact this
    refine (y14.four (hx.code m (List.mem_of_getElem? hg)) (by omega)).mono fun e w15 ⟨b4, cc4, he, y15⟩ => ⟨_, _, _, he, ?_⟩
    rw [List.append_assoc, codeB_take _ _ _ hg] at y15 ⊢
    have hw : IntKind.i64.wrap ((k : Int) + 1) = ((k + 1 : Nat) : Int) := by rw [i64_in (by omega) (by omega)]; omega
    rw [hw]
    exact ⟨⟨k + 1, b4, cc4, by omega, rfl, y15⟩, by show x.code.length - ((k + 1 : Nat) : Int).toNat < x.code.length - ((k : Nat) : Int).toNat; omega⟩
  · have hkn : k = x.code.length := by simp only [decide_eq_false_iff_not] at h; omega
    subst hkn
    rw [List.take_length] at y14 ⊢
    have hfin : pre ++ codeB x.code = putB x := by rw [← hpre]; rfl
    rw [hfin] at y14 ⊢
    have ho := y14.own
    unfold OwnE at ho
    rw [rowC_u8] at ho
    refine RunsV_own_string rtU8.under (by kernel_rfl) (by kernel_rfl) ho (by rw [putB_length]; omega) ⟨_, rfl, ?_, y14.to⟩
    simp [putS, textE, hm]
end Go.Proofs.Ytjoikaklincfoaa
