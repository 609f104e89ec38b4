/-
The contracts of All, of the package and of the reference: the words' bytes, one behind the other.
Conditions: each number is of its kind.
-/
import Derived.Test.YtglakmkedoklmaaVinsna
import Derived.Test.YtglakmkedoklmaaRef02
import Derived.Test.YtglakmkedoklmaaStrs
import Derived.Test.YtglakmkedoklmaaVcArg
import Derived.Test.YtglakmkedoklmaaVcRow
namespace Go.Proofs.Ytglakmkedoklmaa
open Go Go.Vc Go.RowKit
set_option linter.unusedVariables false
set_option linter.unusedSimpArgs false
set_option maxRecDepth 100000

abbrev insK : List IntKind := [.u8, .u8, .u8, .u8, .i64]
/-- The i-th one's word. -/
def encF (F : Nat → Nat → Int) (i : Nat) : Option Int := encv (F i 0) (F i 1) (F i 2) (F i 3) (F i 4)
def bytes4 (w : Int) : List UInt8 := (bytesOf w 4).data.toList
def allB (E : Nat → Option Int) : Nat → List UInt8
  | 0 => []
  | k + 1 => allB E k ++ bytes4 ((E k).getD 0)
def allOk (E : Nat → Option Int) (n : Nat) : Prop := ∀ k, k < n → (E k).isSome = true
instance (E : Nat → Option Int) (n : Nat) : Decidable (allOk E n) := by unfold allOk; infer_instance
/-- What All comes to. -/
def allR (E : Nat → Option Int) (n : Nat) : Value := if allOk E n then pairv (.string ⟨(allB E n).toArray⟩) (i64v 0) else pairv (.string ⟨#[]⟩) (i64v 2)
theorem allR_bad {E : Nat → Option Int} {n k : Nat} (h : k < n) (hk : E k = none) : allR E n = pairv (.string ⟨#[]⟩) (i64v 2) := by
  unfold allR
  rw [if_neg]
  intro ha
  have := ha k h
  rw [hk] at this
  cases this
theorem allR_good {E : Nat → Option Int} {n : Nat} (h : allOk E n) : allR E n = pairv (.string ⟨(allB E n).toArray⟩) (i64v 0) := by
  unfold allR
  rw [if_pos h]
theorem bytes4_length (w : Int) : (bytes4 w).length = 4 := by simp [bytes4, bytesOf, strOf]
theorem allB_length (E : Nat → Option Int) : ∀ k, (allB E k).length = 4 * k
  | 0 => rfl
  | k + 1 => by rw [allB, List.length_append, allB_length E k, bytes4_length]; omega
theorem encR_none : encR none = pairv (u32v 0) (i64v 2) := rfl
theorem encR_some (w : Int) : encR (some w) = pairv (u32v w) (i64v 0) := rfl
theorem encv_range {o d a b v w : Int} (ho : U8 o) (hd : U8 d) (ha : U8 a) (hb : U8 b) (h : encv o d a b v = some w) : 0 ≤ w ∧ w < 4294967296 := by
  unfold encv at h
  split at h
  · rename_i x hx
    split at h
    · rename_i hm
      obtain rfl := Option.some.inj h
      have hmem : x ∈ tabL := by
        unfold rowOf at hx
        split at hx
        · exact List.mem_of_getElem? hx
        · cases hx
      exact (word_sum x d a b v ((tab_forms x hmem).parts d a b v hd.1 ha.1 hb.1 hm)).2
    · cases h
  · cases h
theorem row_cells {w : World} {A : Option Addr} {n : Nat} {F : Nat → Nat → Int} (h : IntRow w A n insK F) {i : Nat} (hi : i < n) : ∃ ad, A = some ad ∧
    (w.cell? (ad.add (i * 5)) = some (u8v (F i 0)) ∧ w.cell? ((ad.add (i * 5)).add 1) = some (u8v (F i 1)) ∧ w.cell? ((ad.add (i * 5)).add 2) = some (u8v (F i 2)) ∧ w.cell? ((ad.add (i * 5)).add 3) = some (u8v (F i 3)) ∧ w.cell? ((ad.add (i * 5)).add 4) = some (i64v (F i 4)) ∧ True) ∧
    U8 (F i 0) ∧ U8 (F i 1) ∧ U8 (F i 2) ∧ U8 (F i 3) ∧ I64 (F i 4) := by
  obtain ⟨ad, h1, h2⟩ := h i hi
  have c0 := h2 0 .u8 rfl
  have c1 := h2 1 .u8 rfl
  have c2 := h2 2 .u8 rfl
  have c3 := h2 3 .u8 rfl
  have c4 := h2 4 .i64 rfl
  exact ⟨ad, h1, ⟨c0.1, c1.1, c2.1, c3.1, c4.1, trivial⟩, wf_u8 c0.2, wf_u8 c1.2, wf_u8 c2.2, wf_u8 c3.2, wf_i64 c4.2⟩
theorem insn_All_ok (A : Option Addr) (n cap : Nat) (F : Nat → Nat → Int) (hn : n ≤ 1000000) (w : World) (hR : IntRow w A n insK F) :
    Calls Try.prog insn_All.N #[.slice A n cap] w (Gives (allR (encF F) n) w) := by
  refine insn_All.calls ?_
  unfold insn_All.vc
  intro w1 e1
  have hb := BldI.start w
  rw [← e1] at hb
  have l1 : Later w w1 := e1 ▸ Later.alloc' w _
  refine ⟨fun vs w' => ∃ k : Nat, vs = [.int .i64 k] ∧ k ≤ n ∧ allOk (encF F) k ∧ BldI w w.heap.size (allB (encF F) k) w' ∧ Later w w', fun vs _ => match vs with | [.int _ k] => (n - k.toNat) | _ => 0, ⟨0, rfl, Nat.zero_le _, fun k hk => absurd hk (Nat.not_lt_zero k), hb, l1⟩, ?_⟩
  rintro g _ w2 ⟨k, hs, hk, hok, hbk, l2⟩
  simp only [List.cons.injEq, Value.int.injEq, true_and, and_true] at hs
  subst hs
  refine cnd_of (fun h => ?_) (fun h => ?_)
  · have h := of_decide_eq_true h
    have hkn : k < n := by omega
    obtain ⟨ad, rfl, hc, u0, u1, u2, u3, u4⟩ := row_cells (hR.later l2) hkn
    refine ⟨⟨by omega, by omega⟩, Deref_some rfl ⟨_, _, _, _, _, hc, fun w3 e3 => ?_⟩⟩
    have s1 := fun (K : World → Prop) => ((Trk.here l2).alloc e3).setAll (K := K) 0 rfl (l := [u8v (F k 0), u8v (F k 1), u8v (F k 2), u8v (F k 3), i64v (F k 4)]) (by rfl) (ones rfl)
    have s2 := fun (K : World → Prop) => ((Trk.start w2).alloc e3).setAll (K := K) 0 rfl (l := [u8v (F k 0), u8v (F k 1), u8v (F k 2), u8v (F k 3), i64v (F k 4)]) (by rfl) (ones rfl)
    refine ⟨(s1 (fun _ => True) fun _ _ => trivial).1, fun w4 e4 => ?_⟩
    have L4 := (s1 _ fun _ h => h).2 w4 e4
    have T4 := (s2 _ fun _ h => h).2 w4 e4
    have hb4 := hbk.later T4.to
    refine ⟨_, _, _, _, _, ⟨L4.cell 0 rfl rfl, L4.cell 0 rfl rfl, L4.cell 0 rfl rfl, L4.cell 0 rfl rfl, L4.cell 0 rfl rfl, trivial⟩, ?_⟩
    refine (insn_Encode_ok _ _ _ _ _ u0 u1 u2 u3 u4 w4).mono fun e w5 ⟨he, l5⟩ => ?_
    have l5' := L4.to.trans l5
    cases hE : encF F k with
    | none =>
      have hE' : encv (F k 0) (F k 1) (F k 2) (F k 3) (F k 4) = none := hE
      rw [hE', encR_none] at he
      exact ⟨_, _, he, cnd_true rfl ⟨by rw [allR_bad hkn hE], l5'⟩⟩
    | some v =>
      have hE' : encv (F k 0) (F k 1) (F k 2) (F k 3) (F k 4) = some v := hE
      rw [hE', encR_some] at he
      obtain ⟨v0, v1⟩ := encv_range u0 u1 u2 u3 hE'
      refine ⟨_, _, he, cnd_false rfl ?_⟩
      rw [u64_in v0 (by omega)]
      refine (word_Bytes_ok v 4 v0 (by omega) w5).mono fun e w6 ⟨he, l6⟩ => ?_
      rw [if_pos (by decide)] at he
      refine ⟨_, _, he, ?_⟩
      have hb6 := hb4.later (l5.trans l6)
      have hbl := allB_length (encF F) k
      refine (bld_write w _ _ (bytes4 v) w6 hb6 (fun h => by have := bytes4_length v; rw [h] at this; cases this) (by rw [hbl, bytes4_length]; omega)).mono fun e w7 ⟨he, h7, b7⟩ => ⟨_, _, he, ?_⟩
      rw [i64_in (by omega) (by omega)]
      refine ⟨⟨k + 1, rfl, by omega, ?_, ?_, ?_⟩, ?_⟩
      · intro j hj
        by_cases hjk : j = k
        · subst hjk; rw [hE]; rfl
        · exact hok j (by omega)
      · rw [allB, hE]
        exact h7
      · exact Below.trans (l5'.trans l6) b7
      · simp only
        omega
  · have h := of_decide_eq_false h
    obtain rfl : k = n := by omega
    have hbl := allB_length (encF F) k
    refine (bld_String_ok w _ _ w2 hbk (by omega) l2).mono fun e w3 ⟨he, l3⟩ => ⟨_, he, ?_, l3⟩
    rw [allR_good hok]
end Go.Proofs.Ytglakmkedoklmaa
