/-
Images, first part: rows of bytes, of words, of what is handed in; a number's bytes, bits of a byte; a row of instructions that grows.
Conditions: each theorem's hypotheses.
-/
import Derived.Test.YtjoikaklincfoaaVimage
import Derived.Test.YtjoikaklincfoaaVref30
import Derived.Test.YtjoikaklincfoaaRef03D
import Derived.Test.YtjoikaklincfoaaVcRows
import Derived.Lib.SlBytesConst
namespace Go.Proofs.Ytjoikaklincfoaa
open Go Go.Vc Go.RowKit
set_option linter.unusedVariables false
set_option linter.unusedSimpArgs false
set_option linter.unnecessarySimpa false
set_option maxRecDepth 100000

/-! ### rows -/
def u8T : ElT Int := ⟨1, by decide, fun a => [.int .u8 a], fun _ => rfl, fun a u hu => by rw [List.mem_singleton.1 hu]; rfl⟩
def u32T : ElT Int := ⟨1, by decide, fun a => [.int .u32 a], fun _ => rfl, fun a u hu => by rw [List.mem_singleton.1 hu]; rfl⟩
def boolT1 : ElT Bool := ⟨1, by decide, fun a => [.bool a], fun _ => rfl, fun a u hu => by rw [List.mem_singleton.1 hu]; rfl⟩
structure Hd where
  buf : Bool
  sec : Bool
  mut_ : Bool
  d : Int
  len : Int
  deriving DecidableEq
def hdC (h : Hd) : List Value := [.bool h.buf, .bool h.sec, .bool h.mut_, i64v h.d, i64v h.len]
def hdT : ElT Hd := ⟨5, by decide, hdC, fun _ => rfl, fun a u hu => by
  simp only [hdC, List.mem_cons, List.not_mem_nil, or_false] at hu
  rcases hu with rfl | rfl | rfl | rfl | rfl <;> rfl⟩
/-- An instruction: Op, Rd, Rs1, Rs2, Imm. -/
abbrev Ins := Int × Int × Int × Int × Int
def insC (x : Ins) : List Value := [u8v x.1, u8v x.2.1, u8v x.2.2.1, u8v x.2.2.2.1, i64v x.2.2.2.2]
def insT : ElT Ins := ⟨5, by decide, insC, fun _ => rfl, fun a u hu => by
  simp only [insC, List.mem_cons, List.not_mem_nil, or_false] at hu
  rcases hu with rfl | rfl | rfl | rfl | rfl <;> rfl⟩
theorem rtU8 : RowTy Try.prog 48 5 1 1 := RowTy.of (.int .u8 0) (by kernel_rfl) (by kernel_rfl) rfl (by decide)
theorem rtU32 : RowTy Try.prog 23 42 1 4 := RowTy.of (.int .u32 0) (by kernel_rfl) (by kernel_rfl) rfl (by decide)
theorem rtHd : RowTy Try.prog 22 50 5 24 := RowTy.of (.agg #[.bool false, .bool false, .bool false, i64v 0, i64v 0]) (by kernel_rfl) (by kernel_rfl) rfl (by decide)
theorem rtIns : RowTy Try.prog 33 39 5 16 := RowTy.of (.agg #[u8v 0, u8v 0, u8v 0, u8v 0, i64v 0]) (by kernel_rfl) (by kernel_rfl) rfl (by decide)
theorem rowC_u8 (l : List Int) : rowC u8T l = l.map (Value.int .u8) := by
  induction l with
  | nil => rfl
  | cons a l ih => rw [rowC_cons, ih]; rfl

/-! ### a number's bytes -/
def fourL (n : Int) : List Int := [n % 256, n / 256 % 256, n / 65536 % 256, n / 16777216]
theorem u8_wrap (x : Int) : IntKind.u8.wrap x = x % 256 := by simp [IntKind.wrap, IntKind.bits, IntKind.signed]
theorem ref30_four_ok {n : Int} (hn : W32 n) (w : World) : Calls Try.prog ref30_four.N #[u32v n] w fun e w' => e = .returned (.slice (some ⟨w.heap.size, 0, none⟩) 4 4) ∧ Later w w' ∧ OwnE u8T w w' 5 (some ⟨w.heap.size, 0, none⟩) 4 (fourL n) := by
  refine ref30_four.calls ?_
  unfold ref30_four.vc
  intro w1 h1
  obtain ⟨h0, hlt⟩ := hn
  refine ⟨rfl, h1 ▸ Later.alloc' _ _, OwnE.new (l := fourL n) (Later.refl w) h1 ?_ (by simp [fourL, maxLen])⟩
  rw [rowC_u8]
  simp only [fourL, List.map_cons, List.map_nil, u8_wrap, wrap_u32]
  rw [tmod_nn _ h0, tdiv_nn _ h0, tdiv_nn _ h0, tdiv_nn _ h0, tmod_nn _ (by omega), tmod_nn _ (by omega)]
  simp only [List.cons.injEq, Value.int.injEq, true_and, and_true]
  omega
theorem image_four_ok {n : Int} (hn : W32 n) {w0 w : World} {b : Option Addr} {c : Nat} {l : List Int} (ho : OwnE u8T w0 w 5 b c l) (hl : Later w0 w) (hb : l.length ≤ 10000000) :
    Calls Try.prog image_four.N #[.slice b l.length c, u32v n] w fun e w' => ∃ b' c', e = .returned (.slice b' (l ++ fourL n).length c') ∧ Later w0 w' ∧ OwnE u8T w0 w' 5 b' c' (l ++ fourL n) ∧ (∀ k, k < w.heap.size → rowB b ≠ some k → w'.heap[k]? = w.heap[k]? ∧ rowB b' ≠ some k) := by
  refine image_four.calls ?_
  unfold image_four.vc
  intro w1 h1
  obtain ⟨h0, hlt⟩ := hn
  have hcs : CellsAt w1 ⟨w.heap.size, 0, none⟩ 0 (rowC u8T (fourL n)) := by
    have := (OwnE.new (w0 := w) (l := fourL n) (T := u8T) (Later.refl w) h1 ?_ (by simp [fourL, maxLen])).row
    · exact this.all
    · rw [rowC_u8]
      simp only [fourL, List.map_cons, List.map_nil, u8_wrap]
      rw [fdiv_nn _ (by omega), fdiv_nn _ (by omega), fdiv_nn _ (by omega)]
      simp only [List.cons.injEq, Value.int.injEq, true_and, and_true]
      omega
  have hw1 : Later w w1 := h1 ▸ Later.alloc' _ _
  refine OwnE.append (news := fourL n) 48 rtU8 (h1 ▸ ho.alloc _) (hl.trans hw1) (by simp [fourL, maxLen]; omega) (by simp [fourL]; omega) hcs fun b' c' w' ho' hl' hk => ?_
  refine ⟨_, _, _, rfl, _, _, rfl, hl', ho', fun k hk1 hk2 => ?_⟩
  obtain ⟨e1, e2⟩ := hk k (Nat.lt_of_lt_of_le hk1 (Later.size hw1)) hk2
  exact ⟨e1.trans (Later.block hw1 hk1), e2⟩

/-! ### bits of a byte -/
def bitV (b : Bool) (v : Int) : Int := if b = true then v else 0
def bitsS (a b c : Bool) : Int := bitV a 1 + bitV b 2 + bitV c 4
theorem ref30_bits_ok (a b c : Bool) (w : World) : Calls Try.prog ref30_bits.N #[.bool a, .bool b, .bool c] w fun e w' => e = .returned (u8v (bitsS a b c)) ∧ Later w w' := by
  refine ref30_bits.calls ?_
  unfold ref30_bits.vc
  cases a <;> cases b <;> cases c <;> exact ⟨rfl, Later.refl _⟩
def bitsF : List Bool → Int → Int
  | [], _ => 0
  | b :: l, v => bitV b v + bitsF l (v * 2)
theorem bits_step : ∀ l : List Bool, l.length ≤ 3 → ∀ k : Nat, k < l.length → ∀ b, l[k]? = some b → (if b = true then bits .or .u8 (bitsF (l.take k) 1) (IntKind.u8.wrap (1 * 2 ^ min ((k : Int)).toNat 8)) else bitsF (l.take k) 1) = bitsF (l.take (k + 1)) 1 := by
  intro l hl k hk b hb
  match l, hl with
  | [], _ => cases hk
  | [x], _ =>
    obtain rfl : k = 0 := by simp at hk; omega
    obtain rfl : x = b := by simpa using hb
    cases x <;> rfl
  | [x, y], _ =>
    have : k = 0 ∨ k = 1 := by simp at hk; omega
    rcases this with rfl | rfl
    · obtain rfl : x = b := by simpa using hb
      cases x <;> cases y <;> rfl
    · obtain rfl : y = b := by simpa using hb
      cases x <;> cases y <;> rfl
  | [x, y, z], _ =>
    have : k = 0 ∨ k = 1 ∨ k = 2 := by simp at hk; omega
    rcases this with rfl | rfl | rfl
    · obtain rfl : x = b := by simpa using hb
      cases x <;> cases y <;> cases z <;> rfl
    · obtain rfl : y = b := by simpa using hb
      cases x <;> cases y <;> cases z <;> rfl
    · obtain rfl : z = b := by simpa using hb
      cases x <;> cases y <;> cases z <;> rfl
theorem image_bits_ok (l : List Bool) (hl3 : l.length ≤ 3) {A : Option Addr} {c : Nat} {w : World} (hr : ERow boolT1 w A l) :
    Calls Try.prog image_bits.N #[.slice A l.length c] w fun e w' => e = .returned (u8v (bitsF l 1)) ∧ w' = w := by
  refine image_bits.calls ?_
  unfold image_bits.vc
  refine ⟨fun vs w' => ∃ k : Nat, k ≤ l.length ∧ vs = [u8v (bitsF (l.take k) 1), i64v k] ∧ w' = w, fun vs _ => match vs with | [_, .int _ n] => l.length - n.toNat | _ => 0, ⟨0, by omega, rfl, rfl⟩, ?_⟩
  rintro g b s w' ⟨k, hk, hs, rfl⟩
  simp only [List.cons.injEq, Value.int.injEq, true_and, and_true] at hs
  obtain ⟨rfl, rfl⟩ := hs
  refine cnd_of (fun h => ?_) fun h => ?_
  · have hlt : k < l.length := by simp only [decide_eq_true_eq] at h; omega
    obtain ⟨ad, rfl, hc⟩ := hr k _ (List.getElem?_eq_getElem hlt)
    have hc := hc 0 _ rfl
    rw [addr_add_zero] at hc
    refine ⟨⟨by omega, by omega⟩, Deref_some rfl ⟨l[k], hc, ?_⟩⟩
    have st := bits_step l hl3 k hlt _ (List.getElem?_eq_getElem hlt)
    have hw : IntKind.i64.wrap ((k : Int) + 1) = ((k + 1 : Nat) : Int) := by rw [i64_in (by omega) (by omega)]; omega
    refine cnd_of (fun hb => cnd_false (by simp) ?_) fun hb => ?_
    · rw [if_pos hb] at st
      rw [st, hw]
      exact ⟨⟨k + 1, by omega, rfl, rfl⟩, by show l.length - ((k + 1 : Nat) : Int).toNat < l.length - ((k : Nat) : Int).toNat; omega⟩
    · rw [if_neg (by simp [hb])] at st
      rw [st, hw]
      exact ⟨⟨k + 1, by omega, rfl, rfl⟩, by show l.length - ((k + 1 : Nat) : Int).toNat < l.length - ((k : Nat) : Int).toNat; omega⟩
  · have : k = l.length := by simp only [decide_eq_false_iff_not] at h; omega
    subst this
    exact ⟨by rw [List.take_length], rfl⟩
theorem bits3 (a b c : Bool) : bitsF [a, b, c] 1 = bitsS a b c := by cases a <;> cases b <;> cases c <;> rfl
theorem bits2 (a b : Bool) : bitsF [a, b] 1 = bitsS a b false := by cases a <;> cases b <;> rfl

/-! ### a row of instructions that grows -/
def decN (w : Int) : Ins := match decK w with | some k => ((k.1 : Int) + 1, gRd ((k.1 : Int) + 1) w, gR1 ((k.1 : Int) + 1) w, gR2 ((k.1 : Int) + 1) w, numS ((k.1 : Int) + 1) w) | none => (0, 0, 0, 0, 0)
theorem decI_is (w : Int) : decI w = insC (decN w) := by
  unfold decI decN
  cases decK w <;> rfl
theorem text_put_ok {wv : Int} (hw : W32 wv) {w0 w : World} {tb : Nat} {b : Option Addr} {c : Nat} {l : List Ins} (ht : Has w tb [.slice b l.length c]) (hbt : rowB b ≠ some tb) (ho : OwnE insT w0 w 39 b c l) (hl : Later w0 w) (hb : l.length ≤ 1000000) (htb : w0.heap.size ≤ tb) :
    Calls Try.prog sacristy_image_text_put.N #[.pointer (some ⟨tb, 0, none⟩), u32v wv] w fun e w' => e = .returned (.bool (decide (decE wv = 0))) ∧ Later w0 w' ∧ ∃ b' c', Has w' tb [.slice b' (l ++ [decN wv]).length c'] ∧ rowB b' ≠ some tb ∧ OwnE insT w0 w' 39 b' c' (l ++ [decN wv]) ∧
      (∀ k, k < w.heap.size → k ≠ tb → rowB b ≠ some k → w'.heap[k]? = w.heap[k]? ∧ rowB b' ≠ some k) := by
  refine sacristy_image_text_put.calls ?_
  unfold sacristy_image_text_put.vc
  refine (disas_Decode_ok hw w).mono fun e w1 ⟨he, g1⟩ => ?_
  rw [decI_is] at he
  refine ⟨_, _, _, _, _, _, he, fun w2 h2 => ?_⟩
  have M := (Trk.here g1).alloc h2
  refine M.setAll (l := insC (decN wv)) 0 rfl rfl (ones rfl) fun w3 M => ?_
  have hx : Has w3 w1.heap.size (insC (decN wv)) := M.has 0 rfl
  have ht3 : Has w3 tb [.slice b l.length c] := ht.later M.to
  refine ⟨fun w' => Has w' tb [.slice b l.length c] ∧ Has w' w1.heap.size (insC (decN wv)), fun w' h => ⟨ht3.later h, hx.later h⟩, fun w4 h4 => ?_⟩
  have hl4 : Later w0 w4 := hl.trans (M.to.trans h4)
  have s4 : w.heap.size ≤ w4.heap.size := Later.size (M.to.trans h4)
  refine Deref_some rfl ⟨_, _, _, fun w' h => h.1.cell rfl, ?_⟩
  refine ⟨_, _, _, _, _, fun w' h => ⟨h.2.cell rfl, h.2.cell rfl, h.2.cell rfl, h.2.cell rfl, h.2.cell rfl, trivial⟩, fun w5 h5 => ?_⟩
  have g5 : Later w4 w5 := h5 ▸ Later.alloc' _ _
  refine ⟨⟨(ht3.later h4).later g5, (hx.later h4).later g5⟩, ?_⟩
  have hx1 : w1.heap.size < w4.heap.size := Nat.lt_of_lt_of_le hx.lt (Later.size h4)
  have ho4 := OwnS.later ho (M.to.trans h4)
  have hbx : rowB b ≠ some w1.heap.size := fun h => by
    have := (ho.lt h).2
    have := Later.size g1
    omega
  refine OwnE.push 33 rtIns (decN wv) ho4 hl4 (by simp [maxLen]; omega) (by omega) h5 rfl fun b' c' w6 ho6 hl6 hk => ?_
  have htlt : tb < w4.heap.size := Nat.lt_of_lt_of_le ht.lt s4
  have ht6 : Has w6 tb [.slice b l.length c] := (ht3.later h4).kept (hk tb htlt hbt).1
  have hx6 : Has w6 w1.heap.size (insC (decN wv)) := (hx.later h4).kept (hk _ hx1 hbx).1
  have hbt' := (hk tb htlt hbt).2
  refine ⟨_, _, _, rfl, ⟨ht6, hx6⟩, Deref_some rfl ⟨⟨by rw [ht6.cell rfl]; rfl, ht6.frozen 0⟩, fun w7 h7 => ⟨?_, ?_⟩⟩⟩
  · by_cases h0 : decE wv = 0 <;> simp [h0]
  subst h7
  refine ⟨hl6.setCell htb _, b', c', ht6.set 0 _, hbt', OwnS.set_other ho6 hbt' 0 _, fun k hk1 hk2 hk3 => ?_⟩
  obtain ⟨e1, e2⟩ := hk k (Nat.lt_of_lt_of_le hk1 s4) hk3
  refine ⟨?_, e2⟩
  rw [← Later.block (M.to.trans h4) hk1, ← e1]
  simp [World.setCell, Array.getElem?_modify, Ne.symm hk2]
end Go.Proofs.Ytjoikaklincfoaa
