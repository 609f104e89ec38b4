/-
The contracts of package span: which range each function comes to.
Conditions: each number is a word, as each theorem says.
-/
import Derived.Test.YtpfnjooddobohaaVspan
import Derived.Test.YtpfnjooddobohaaBits
import Derived.Test.YtpfnjooddobohaaVcEq
namespace Go.Proofs.Ytpfnjooddobohaa
open Go Go.Vc Go.RowKit
set_option linter.unusedVariables false
set_option linter.unusedSimpArgs false
set_option maxRecDepth 100000

abbrev rv (x y : Int) : Value := .agg #[.int .u64 x, .int .u64 y]
abbrev W64 (a : Int) : Prop := 0 ≤ a ∧ a < 18446744073709551616
/-- A range is put where the result lies, and is read there. -/
theorem ret2 {w0 w : World} {L : List Blk} (h : Trk w0 w L) (k : Nat) {b : Nat} {cs : List Value} {x y : Int} (hk : L[k]? = some (b, cs)) (hc : cs.length = 2) {R : Int → Int → World → Prop} (hR : ∀ w', Trk w0 w' (L.set k (b, [.int .u64 x, .int .u64 y])) → R x y w') :
    SetsAt w ⟨b, 0, none⟩ 0 [.int .u64 x, .int .u64 y] ∧ ∀ w', w' = setCellsAt w ⟨b, 0, none⟩ 0 [.int .u64 x, .int .u64 y] →
      ∃ n n', (w'.cell? ⟨b, 0, none⟩ = some (.int .u64 n) ∧ w'.cell? ⟨b, 1, none⟩ = some (.int .u64 n') ∧ True) ∧ R n n' w' := by
  have hkl : k < L.length := (List.getElem?_eq_some_iff.1 hk).1
  refine h.setAll k hk (by simp [hc]) (by intro v hv; simp at hv; rcases hv with rfl | rfl <;> rfl) fun w' h' => ?_
  have hk' : (L.set k (b, [.int .u64 x, .int .u64 y]))[k]? = some (b, [.int .u64 x, .int .u64 y]) := by rw [List.getElem?_set]; simp [hkl]
  exact ⟨x, y, ⟨h'.cell k hk' rfl, h'.cell k hk' rfl, trivial⟩, hR w' h'⟩
theorem span_all_ok (w : World) : Calls Try.prog span_all.N #[] w (Gives (rv 0 18446744073709551615) w) := by
  refine span_all.calls ?_
  intro w1 h1
  exact ret2 ((Trk.start w).alloc h1) 0 rfl rfl fun w' h' => ⟨rfl, h'.to⟩
theorem span_Check_ok (a b : Int) (w : World) : Calls Try.prog span_Check.N #[rv a b] w (Gives (i64v (if a > b then 2 else 0)) w) := by
  refine span_Check.calls ?_
  intro w1 h1
  have L := (Trk.start w).alloc h1
  refine ⟨_, L.cell 0 rfl rfl, _, L.cell 0 rfl rfl, cnd_of (fun h => ?_) (fun h => ?_)⟩
  · rw [if_pos (of_decide_eq_true h)]; exact ⟨rfl, L.to⟩
  · rw [if_neg (of_decide_eq_false h)]; exact ⟨rfl, L.to⟩
theorem span_Has_ok (a b v : Int) (w : World) : Calls Try.prog span_Has.N #[rv a b, u64v v] w (Gives (.bool (decide (a ≤ v) && decide (v ≤ b))) w) := by
  refine span_Has.calls ?_
  intro w1 h1
  have L := (Trk.start w).alloc h1
  refine ⟨_, L.cell 0 rfl rfl, cnd_of (fun h => ?_) (fun h => ?_)⟩
  · exact ⟨_, L.cell 0 rfl rfl, by rw [h, Bool.true_and], L.to⟩
  · exact ⟨by rw [h, Bool.false_and], L.to⟩
theorem pow_split64 (n : Nat) (h : n ≤ 64) : (2 : Int) ^ n * 2 ^ (64 - n) = 18446744073709551616 := by
  rw [← Int.pow_add, show n + (64 - n) = 64 by omega]; rfl
def maskv (v : Int) : Int := 2 ^ lenN v.toNat - 1
theorem span_mask_ok (v : Int) (hv : W64 v) (w : World) : Calls Try.prog span_mask.N #[u64v v] w (Gives (u64v (maskv v)) w) := by
  refine span_mask.calls ?_
  have h0 := hv.1
  have h1 := hv.2
  obtain ⟨n, rfl⟩ := Int.eq_ofNat_of_zero_le h0
  refine cnd_of (fun h => ?_) (fun h => ?_)
  · have h : n = 0 := by simpa using h
    subst h
    exact ⟨rfl, Later.refl _⟩
  have hle := lenN_le n 64 (by omega)
  refine (math_bits_LeadingZeros64_ok n (by omega) w).mono fun e w' ⟨he, hl⟩ => ⟨_, he, cnd_false (by simp; omega) ⟨?_, hl⟩⟩
  have e1 : min ((64 : Int) - lenN n).toNat 64 = 64 - lenN n := by omega
  have hp := pow_split64 (lenN n) hle
  have hk : (0 : Int) < 2 ^ (64 - lenN n) := two_pow_pos _
  rw [e1, fdiv_nn _ (Int.le_of_lt hk)]
  have : (18446744073709551615 : Int) / 2 ^ (64 - lenN n) = 2 ^ lenN n - 1 := by
    refine (Int.ediv_emod_unique (a := 18446744073709551615) (r := 2 ^ (64 - lenN n) - 1) (q := 2 ^ lenN n - 1) hk).2 ⟨?_, by omega, by omega⟩ |>.1
    rw [Int.mul_sub, Int.mul_one, Int.mul_comm, hp]; omega
  rw [this]
  unfold maskv
  rw [Int.toNat_natCast]
theorem eq_rg (a b c d : Int) (xo yo : Operand) : EqRuns Try.prog .eql 24 xo yo (rv a b) (rv c d) (a == c && b == d) ∧ EqRuns Try.prog .neq 24 xo yo (rv a b) (rv c d) (!(a == c && b == d)) := by
  have := eq_flat (P := Try.prog) (vs := [.int .u64 a, .int .u64 b]) (us := [.int .u64 c, .int .u64 d]) xo yo Try.underlying24 (by kernel_rfl) (by kernel_rfl) (by kernel_rfl)
  simpa [eqL, eq1] using this
theorem span_one_ok (a b : Int) (w : World) : Calls Try.prog span_one.N #[rv a b] w (Gives (pairv (u64v a) (.bool (decide (a = b) && decide (a < 64)))) w) := by
  refine span_one.calls ?_
  unfold span_one.vc
  intro w1 h1
  have L := (Trk.start w).alloc h1
  refine ⟨a, fun w2 h2 => (L.later h2).cell 0 rfl rfl, ?_⟩
  refine ⟨a, b, fun w2 h2 => ⟨(L.later h2).cell 0 rfl rfl, (L.later h2).cell 0 rfl rfl, trivial⟩, ?_⟩
  refine ⟨a, fun w2 h2 => (L.later h2).cell 0 rfl rfl, ?_⟩
  refine ⟨a, fun w2 h2 => (L.later h2).cell 0 rfl rfl, ?_⟩
  refine ⟨_, (eq_rg _ _ _ _ _ _).1, ?_⟩
  have e : (a == a && b == a) = decide (a = b) := by
    by_cases h : a = b
    · subst h; simp
    · have h' : ¬ b = a := fun e => h e.symm
      simp [h, h']
  rw [e]
  refine cnd_of (fun h => ?_) (fun h => ?_)
  · refine ⟨a, fun w2 h2 => (L.later h2).cell 0 rfl rfl, fun w2 h2 => ⟨?_, (L.later h2).to⟩⟩
    rw [h, Bool.true_and]
  · refine fun w2 h2 => ⟨?_, (L.later h2).to⟩
    rw [h, Bool.false_and]
abbrev allv : Value := rv 0 18446744073709551615
theorem span_add_ok (a b c d : Int) (hb : W64 b) (hd : W64 d) (w : World) :
    Calls Try.prog span_add.N #[rv a b, rv c d] w (Gives (if b + d ≥ 18446744073709551616 then allv else rv ((a + c) % 18446744073709551616) (b + d)) w) := by
  refine span_add.calls ?_
  intro w1 h1 w2 h2 w3 h3
  have L := (((Trk.start w).alloc h1).alloc h2).alloc h3
  have hb0 := hb.1
  have hb1 := hb.2
  have hd0 := hd.1
  have hd1 := hd.2
  refine ⟨_, L.cell 0 rfl rfl, _, L.cell 1 rfl rfl, add64_use hb0 hd0 ⟨_, _, rfl, cnd_of (fun h => ?_) (fun h => ?_)⟩⟩
  · have h : ¬ (b + d) / 18446744073709551616 = 0 := by simpa using h
    rw [if_pos (by omega)]
    exact (span_all_ok _).mono fun e w4 ⟨he, hl⟩ => ⟨_, _, he, ret2 (L.later hl) 2 rfl rfl fun w' h' => ⟨rfl, h'.to⟩⟩
  · have h : (b + d) / 18446744073709551616 = 0 := by simpa using h
    rw [if_neg (by omega)]
    refine ⟨_, L.cell 0 rfl rfl, _, L.cell 1 rfl rfl, ret2 L 2 rfl rfl fun w' h' => ⟨?_, h'.to⟩⟩
    rw [wrap_u64, show (b + d) % 18446744073709551616 = b + d by omega]
theorem span_sub_ok (a b c d : Int) (w : World) :
    Calls Try.prog span_sub.N #[rv a b, rv c d] w (Gives (if a < d then allv else rv ((a - d) % 18446744073709551616) ((b - c) % 18446744073709551616)) w) := by
  refine span_sub.calls ?_
  intro w1 h1 w2 h2 w3 h3
  have L := (((Trk.start w).alloc h1).alloc h2).alloc h3
  refine ⟨_, L.cell 0 rfl rfl, _, L.cell 1 rfl rfl, cnd_of (fun h => ?_) (fun h => ?_)⟩
  · rw [if_pos (of_decide_eq_true h)]
    exact (span_all_ok _).mono fun e w4 ⟨he, hl⟩ => ⟨_, _, he, ret2 (L.later hl) 2 rfl rfl fun w' h' => ⟨rfl, h'.to⟩⟩
  · rw [if_neg (of_decide_eq_false h)]
    refine ⟨_, L.cell 0 rfl rfl, _, L.cell 1 rfl rfl, _, L.cell 0 rfl rfl, _, L.cell 1 rfl rfl, ret2 L 2 rfl rfl fun w' h' => ⟨?_, h'.to⟩⟩
    rw [wrap_u64, wrap_u64]
theorem span_mul_ok (a b c d : Int) (hb : W64 b) (hd : W64 d) (w : World) :
    Calls Try.prog span_mul.N #[rv a b, rv c d] w (Gives (if b * d ≥ 18446744073709551616 then allv else rv (a * c % 18446744073709551616) (b * d)) w) := by
  refine span_mul.calls ?_
  intro w1 h1 w2 h2 w3 h3
  have L := (((Trk.start w).alloc h1).alloc h2).alloc h3
  have hp : 0 ≤ b * d := Int.mul_nonneg hb.1 hd.1
  refine ⟨_, L.cell 0 rfl rfl, _, L.cell 1 rfl rfl, (math_bits_Mul64_ok b d hb.1 hb.2 hd.1 hd.2 _).mono fun e w4 ⟨he, hl⟩ => ⟨_, _, he, cnd_of (fun h => ?_) (fun h => ?_)⟩⟩
  · have h : ¬ b * d / 18446744073709551616 = 0 := by simpa using h
    rw [if_pos (by omega)]
    exact (span_all_ok _).mono fun e w5 ⟨he, hl5⟩ => ⟨_, _, he, ret2 ((L.later hl).later hl5) 2 rfl rfl fun w' h' => ⟨rfl, h'.to⟩⟩
  · have h : b * d / 18446744073709551616 = 0 := by simpa using h
    rw [if_neg (by omega)]
    refine ⟨_, (L.later hl).cell 0 rfl rfl, _, (L.later hl).cell 1 rfl rfl, ret2 (L.later hl) 2 rfl rfl fun w' h' => ⟨?_, h'.to⟩⟩
    rw [wrap_u64, show b * d % 18446744073709551616 = b * d by omega]
theorem span_mulhu_ok (a b c d : Int) (ha : W64 a) (hb : W64 b) (hc : W64 c) (hd : W64 d) (w : World) :
    Calls Try.prog span_mulhu.N #[rv a b, rv c d] w (Gives (rv (a * c / 18446744073709551616) (b * d / 18446744073709551616)) w) := by
  refine span_mulhu.calls ?_
  intro w1 h1 w2 h2 w3 h3
  have L := (((Trk.start w).alloc h1).alloc h2).alloc h3
  refine ⟨_, L.cell 0 rfl rfl, _, L.cell 1 rfl rfl, (math_bits_Mul64_ok a c ha.1 ha.2 hc.1 hc.2 _).mono fun e w4 ⟨he, hl⟩ => ⟨_, _, he, ?_⟩⟩
  refine ⟨_, (L.later hl).cell 0 rfl rfl, _, (L.later hl).cell 1 rfl rfl, (math_bits_Mul64_ok b d hb.1 hb.2 hd.1 hd.2 _).mono fun e w5 ⟨he, hl5⟩ => ⟨_, _, he, ?_⟩⟩
  exact ret2 ((L.later hl).later hl5) 2 rfl rfl fun w' h' => ⟨rfl, h'.to⟩
theorem span_remu_ok (a b c d : Int) (w : World) :
    Calls Try.prog span_remu.N #[rv a b, rv c d] w (Gives (if b < c then rv a b else if c = 0 then rv 0 b else rv 0 (gomin b ((d - 1) % 18446744073709551616))) w) := by
  refine span_remu.calls ?_
  intro w1 h1 w2 h2 w3 h3
  have L := (((Trk.start w).alloc h1).alloc h2).alloc h3
  refine ⟨_, L.cell 0 rfl rfl, _, L.cell 1 rfl rfl, cnd_of (fun h => ?_) (fun h => ?_)⟩
  · rw [if_pos (of_decide_eq_true h)]
    exact ⟨_, _, ⟨L.cell 0 rfl rfl, L.cell 0 rfl rfl, trivial⟩, ret2 L 2 rfl rfl fun w' h' => ⟨rfl, h'.to⟩⟩
  · rw [if_neg (of_decide_eq_false h)]
    refine ⟨_, L.cell 1 rfl rfl, cnd_of (fun h => ?_) (fun h => ?_)⟩
    · rw [if_pos (by simpa using h)]
      exact ⟨_, L.cell 0 rfl rfl, ret2 L 2 rfl rfl fun w' h' => ⟨rfl, h'.to⟩⟩
    · rw [if_neg (by simpa using h)]
      refine ⟨_, L.cell 0 rfl rfl, _, L.cell 1 rfl rfl, ret2 L 2 rfl rfl fun w' h' => ⟨?_, h'.to⟩⟩
      rw [wrap_u64]
theorem span_slt_ok (a b c d : Int) (w : World) : Calls Try.prog span_slt.N #[rv a b, rv c d] w (Gives (rv 0 1) w) := by
  refine span_slt.calls ?_
  intro w1 h1 w2 h2 w3 h3
  have L := (((Trk.start w).alloc h1).alloc h2).alloc h3
  exact ret2 L 2 rfl rfl fun w' h' => ⟨rfl, h'.to⟩
theorem span_sltu_ok (a b c d : Int) (w : World) : Calls Try.prog span_sltu.N #[rv a b, rv c d] w (Gives (if b < c then rv 1 1 else if a ≥ d then rv 0 0 else rv 0 1) w) := by
  refine span_sltu.calls ?_
  intro w1 h1 w2 h2 w3 h3
  have L := (((Trk.start w).alloc h1).alloc h2).alloc h3
  refine ⟨_, L.cell 0 rfl rfl, _, L.cell 1 rfl rfl, cnd_of (fun h => ?_) (fun h => ?_)⟩
  · rw [if_pos (of_decide_eq_true h)]
    exact ret2 L 2 rfl rfl fun w' h' => ⟨rfl, h'.to⟩
  · rw [if_neg (of_decide_eq_false h)]
    refine ⟨_, L.cell 0 rfl rfl, _, L.cell 1 rfl rfl, cnd_of (fun h => ?_) (fun h => ?_)⟩
    · rw [if_pos (of_decide_eq_true h)]
      exact ret2 L 2 rfl rfl fun w' h' => ⟨rfl, h'.to⟩
    · rw [if_neg (of_decide_eq_false h)]
      exact ret2 L 2 rfl rfl fun w' h' => ⟨rfl, h'.to⟩
theorem span_and_ok (a b c d : Int) (w : World) : Calls Try.prog span_and.N #[rv a b, rv c d] w (Gives (rv 0 (gomin b d)) w) := by
  refine span_and.calls ?_
  intro w1 h1 w2 h2 w3 h3
  have L := (((Trk.start w).alloc h1).alloc h2).alloc h3
  exact ⟨_, L.cell 0 rfl rfl, _, L.cell 1 rfl rfl, ret2 L 2 rfl rfl fun w' h' => ⟨rfl, h'.to⟩⟩
theorem span_Join_1_ok (a b c d : Int) (w : World) : Calls Try.prog span_Join_1.N #[rv a b, rv c d] w (Gives (rv (gomin a c) (gomax b d)) w) := by
  refine span_Join_1.calls ?_
  intro w1 h1 w2 h2 w3 h3
  have L := (((Trk.start w).alloc h1).alloc h2).alloc h3
  exact ⟨_, L.cell 0 rfl rfl, _, L.cell 1 rfl rfl, _, L.cell 0 rfl rfl, _, L.cell 1 rfl rfl, ret2 L 2 rfl rfl fun w' h' => ⟨rfl, h'.to⟩⟩
theorem span_Meet_1_ok (a b c d : Int) (w : World) : Calls Try.prog span_Meet_1.N #[rv a b, rv c d] w (Gives (rv (gomax a c) (gomin b d)) w) := by
  refine span_Meet_1.calls ?_
  intro w1 h1 w2 h2 w3 h3
  have L := (((Trk.start w).alloc h1).alloc h2).alloc h3
  exact ⟨_, L.cell 0 rfl rfl, _, L.cell 1 rfl rfl, _, L.cell 0 rfl rfl, _, L.cell 1 rfl rfl, ret2 L 2 rfl rfl fun w' h' => ⟨rfl, h'.to⟩⟩
theorem or_in (a b : Int) (ha : W64 a) (hb : W64 b) : W64 (bits .or .u64 a b) := by
  obtain ⟨n, rfl⟩ := Int.eq_ofNat_of_zero_le ha.1
  obtain ⟨m, rfl⟩ := Int.eq_ofNat_of_zero_le hb.1
  have h1 := ha.2
  have h2 := hb.2
  have : n ||| m < 2 ^ 64 := Nat.or_lt_two_pow (by omega) (by omega)
  rw [bits_or_u64 _ _ (by omega) (by omega)]
  exact ⟨by omega, by omega⟩
theorem div_in (a b : Int) (ha : W64 a) (hb : 0 ≤ b) : IntKind.u64.wrap (a.tdiv b) = a / b := by
  have h1 := ha.1
  have h2 := ha.2
  have d0 : 0 ≤ a / b := Int.ediv_nonneg h1 hb
  have d1 : a / b ≤ a := Int.ediv_le_self _ h1
  rw [tdiv_nn _ h1, u64_in d0 (by omega)]
theorem span_divu_ok (a b c d : Int) (ha : W64 a) (hb : W64 b) (hc : W64 c) (hd : W64 d) (hcd : c ≤ d) (w : World) :
    Calls Try.prog span_divu.N #[rv a b, rv c d] w (Gives (if c = 0 then allv else rv (a / d) (b / c)) w) := by
  refine span_divu.calls ?_
  intro w1 h1 w2 h2 w3 h3
  have L := (((Trk.start w).alloc h1).alloc h2).alloc h3
  refine ⟨_, L.cell 1 rfl rfl, cnd_of (fun h => ?_) (fun h => ?_)⟩
  · rw [if_pos (by simpa using h)]
    exact (span_all_ok _).mono fun e w4 ⟨he, hl⟩ => ⟨_, _, he, ret2 (L.later hl) 2 rfl rfl fun w' h' => ⟨rfl, h'.to⟩⟩
  · have h : ¬ c = 0 := by simpa using h
    rw [if_neg h]
    have hc0 := hc.1
    refine ⟨a, fun w4 h4 => (L.later h4).cell 0 rfl rfl, d, fun w4 h4 => (L.later h4).cell 1 rfl rfl, cnd_false (decide_eq_false (by omega)) ⟨b, fun w4 h4 => (L.later h4).cell 0 rfl rfl, c, fun w4 h4 => (L.later h4).cell 1 rfl rfl, cnd_false (decide_eq_false h) fun w4 h4 => ?_⟩⟩
    refine ret2 (L.later h4) 2 rfl rfl fun w' h' => ⟨?_, h'.to⟩
    rw [div_in a d ha (by omega), div_in b c hb (by omega)]
theorem span_or_ok (a b c d : Int) (hb : W64 b) (hd : W64 d) (w : World) :
    Calls Try.prog span_or.N #[rv a b, rv c d] w (Gives (rv (gomax a c) (maskv (bits .or .u64 b d))) w) := by
  refine span_or.calls ?_
  intro w1 h1 w2 h2 w3 h3
  have L := (((Trk.start w).alloc h1).alloc h2).alloc h3
  refine ⟨a, fun w4 h4 => (L.later h4).cell 0 rfl rfl, c, fun w4 h4 => (L.later h4).cell 1 rfl rfl, b, fun w4 h4 => (L.later h4).cell 0 rfl rfl, d, fun w4 h4 => (L.later h4).cell 1 rfl rfl, _, fun w4 h4 => (span_mask_ok _ (or_in b d hb hd) w4).mono fun e w5 ⟨he, hl⟩ => ⟨he, hl⟩, fun w4 h4 => ?_⟩
  exact ret2 (L.later h4) 2 rfl rfl fun w' h' => ⟨rfl, h'.to⟩
theorem span_xor_ok (a b c d : Int) (hb : W64 b) (hd : W64 d) (w : World) :
    Calls Try.prog span_xor.N #[rv a b, rv c d] w (Gives (rv 0 (maskv (bits .or .u64 b d))) w) := by
  refine span_xor.calls ?_
  intro w1 h1 w2 h2 w3 h3
  have L := (((Trk.start w).alloc h1).alloc h2).alloc h3
  refine ⟨_, L.cell 0 rfl rfl, _, L.cell 1 rfl rfl, (span_mask_ok _ (or_in b d hb hd) _).mono fun e w4 ⟨he, hl⟩ => ⟨_, he, ?_⟩⟩
  exact ret2 (L.later hl) 2 rfl rfl fun w' h' => ⟨rfl, h'.to⟩
def srlR (a b c d : Int) : Value := if c = d ∧ c < 64 then rv (a / 2 ^ c.toNat) (b / 2 ^ c.toNat) else rv 0 b
theorem span_srl_ok (a b c d : Int) (hc : W64 c) (w : World) : Calls Try.prog span_srl.N #[rv a b, rv c d] w (Gives (srlR a b c d) w) := by
  refine span_srl.calls ?_
  intro w1 h1 w2 h2 w3 h3
  have L := (((Trk.start w).alloc h1).alloc h2).alloc h3
  have hc0 := hc.1
  refine ⟨_, _, ⟨L.cell 1 rfl rfl, L.cell 1 rfl rfl, trivial⟩, (span_one_ok c d _).mono fun e w4 ⟨he, hl⟩ => ⟨_, _, he, cnd_of (fun h => ?_) (fun h => ?_)⟩⟩
  · have h : ¬ (c = d ∧ c < 64) := by
      intro hh
      simp [hh.1.symm, hh.2] at h
    unfold srlR
    rw [if_neg h]
    exact ⟨_, (L.later hl).cell 0 rfl rfl, ret2 (L.later hl) 2 rfl rfl fun w' h' => ⟨rfl, h'.to⟩⟩
  · have h : c = d ∧ c < 64 := by simpa using h
    unfold srlR
    rw [if_pos h]
    refine ⟨_, (L.later hl).cell 0 rfl rfl, cnd_false (decide_eq_false (by omega)) ⟨_, (L.later hl).cell 0 rfl rfl, cnd_false (decide_eq_false (by omega)) ?_⟩⟩
    refine ret2 (L.later hl) 2 rfl rfl fun w' h' => ⟨?_, h'.to⟩
    rw [show min c.toNat 64 = c.toNat by omega, fdiv_nn _ (Int.le_of_lt (two_pow_pos _)), fdiv_nn _ (Int.le_of_lt (two_pow_pos _))]
theorem span_sra_ok (a b c d : Int) (hc : W64 c) (w : World) : Calls Try.prog span_sra.N #[rv a b, rv c d] w (Gives (if b ≥ 9223372036854775808 then allv else srlR a b c d) w) := by
  refine span_sra.calls ?_
  intro w1 h1 w2 h2 w3 h3
  have L := (((Trk.start w).alloc h1).alloc h2).alloc h3
  refine ⟨_, L.cell 0 rfl rfl, cnd_of (fun h => ?_) (fun h => ?_)⟩
  · rw [if_pos (of_decide_eq_true h)]
    exact (span_all_ok _).mono fun e w4 ⟨he, hl⟩ => ⟨_, _, he, ret2 (L.later hl) 2 rfl rfl fun w' h' => ⟨rfl, h'.to⟩⟩
  · rw [if_neg (of_decide_eq_false h)]
    refine ⟨_, _, ⟨L.cell 0 rfl rfl, L.cell 0 rfl rfl, trivial⟩, _, _, ⟨L.cell 1 rfl rfl, L.cell 1 rfl rfl, trivial⟩, (span_srl_ok a b c d hc _).mono fun e w4 ⟨he, hl⟩ => ?_⟩
    have hx : ∃ x y, srlR a b c d = rv x y := by unfold srlR; split <;> exact ⟨_, _, rfl⟩
    obtain ⟨x, y, hx⟩ := hx
    rw [hx] at he ⊢
    exact ⟨_, _, he, ret2 (L.later hl) 2 rfl rfl fun w' h' => ⟨rfl, h'.to⟩⟩
end Go.Proofs.Ytpfnjooddobohaa
