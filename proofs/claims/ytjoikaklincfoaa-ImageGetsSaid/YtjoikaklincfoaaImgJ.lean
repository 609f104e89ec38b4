/-
Images, tenth part: which image bytes are, or why none (package image's Get).
Conditions: the string is not too long.
-/
import Derived.Test.YtjoikaklincfoaaImgI
namespace Go.Proofs.Ytjoikaklincfoaa
open Go Go.Vc Go.RowKit
set_option linter.unusedVariables false
set_option linter.unusedSimpArgs false
set_option linter.unnecessarySimpa false
set_option maxRecDepth 100000

theorem and_bit1 : ∀ n : Fin 256, decide (bits .and .u8 (n.1 : Int) 1 > 0) = ((n.1 : Int) % 2 == 1) ∧ decide (bits .and .u8 (n.1 : Int) 2 > 0) = ((n.1 : Int) / 2 % 2 == 1) ∧ decide (bits .and .u8 (n.1 : Int) 4 > 0) = ((n.1 : Int) / 4 % 2 == 1) := by decide
theorem and_bits {n : Int} (h0 : 0 ≤ n) (h1 : n < 256) : decide (bits .and .u8 n 1 > 0) = (n % 2 == 1) ∧ decide (bits .and .u8 n 2 > 0) = (n / 2 % 2 == 1) ∧ decide (bits .and .u8 n 4 > 0) = (n / 4 % 2 == 1) := by
  obtain ⟨m, rfl⟩ := Int.eq_ofNat_of_zero_le h0
  exact and_bit1 ⟨m, by omega⟩
theorem HasPrefix_ok (s p : ByteArray) (hp : p.size ≤ s.size) (w : World) : Calls Try.prog strings_HasPrefix.N #[.string s, .string p] w (Gives (.bool ((s.extract 0 p.size).toList == p.toList)) w) := by
  refine strings_HasPrefix.calls ?_
  unfold strings_HasPrefix.vc
  have h2 : Calls Try.prog internal_stringslite_HasPrefix.N #[.string s, .string p] w (Gives (.bool ((s.extract 0 p.size).toList == p.toList)) w) := by
    refine internal_stringslite_HasPrefix.calls ?_
    unfold internal_stringslite_HasPrefix.vc
    exact cnd_true (decide_eq_true (by omega)) ⟨⟨by omega, by omega⟩, rfl, Later.refl _⟩
  exact h2.mono fun e w' ⟨he, hl⟩ => ⟨_, he, rfl, hl⟩
/-- What Get holds while it reads. -/
structure Rd (w0 w : World) (s : ByteArray) (sb rb atb shb xb : Nat) (L : List Blk) (at_ : Nat) (sh : Bool) (A1 : Option Addr) (c1 : Nat) (A2 : Option Addr) (c2 : Nat) (x : Img) : Prop where
  im : Mk w0 w L 4 xb A1 c1 A2 c2 x
  h0 : L[0]? = some (sb, [.string s])
  h1 : L[1]? = some (rb, [i64v 0, .slice none 0 0, .bool false, .bool false, .slice none 0 0])
  h2 : L[2]? = some (atb, [i64v (at_ : Int)])
  h3 : L[3]? = some (shb, [.bool sh])
section
variable {w0 w : World} {s : ByteArray} {sb rb atb shb xb : Nat} {L : List Blk} {at_ : Nat} {sh : Bool} {A1 : Option Addr} {c1 : Nat} {A2 : Option Addr} {c2 : Nat} {x : Img}
theorem Rd.later {w' : World} (h : Rd w0 w s sb rb atb shb xb L at_ sh A1 c1 A2 c2 x) (hl : Later w w') : Rd w0 w' s sb rb atb shb xb L at_ sh A1 c1 A2 c2 x := ⟨h.im.later hl, h.h0, h.h1, h.h2, h.h3⟩
theorem Rd.set {w' : World} {B1 B2 : Option Addr} {d1 d2 : Nat} {y : Img} {cs : List Value} (h : Rd w0 w s sb rb atb shb xb L at_ sh A1 c1 A2 c2 x) (m : Mk w0 w' (L.set 4 (xb, cs)) 4 xb B1 d1 B2 d2 y) : Rd w0 w' s sb rb atb shb xb (L.set 4 (xb, cs)) at_ sh B1 d1 B2 d2 y :=
  ⟨m, by rw [List.getElem?_set_ne (by decide)]; exact h.h0, by rw [List.getElem?_set_ne (by decide)]; exact h.h1, by rw [List.getElem?_set_ne (by decide)]; exact h.h2, by rw [List.getElem?_set_ne (by decide)]; exact h.h3⟩
/-- The next bytes. -/
theorem Rd.next (h : Rd w0 w s sb rb atb shb xb L at_ sh A1 c1 A2 c2 x) {n : Nat} (hn : 1 ≤ n ∧ n ≤ 8) (hat : at_ ≤ 1000000) (hs : s.size ≤ 100000) :
    Calls Try.prog image_Get_1.N #[i64v (n : Int), .pointer (some ⟨shb, 0, none⟩), .pointer (some ⟨sb, 0, none⟩), .pointer (some ⟨atb, 0, none⟩)] w fun e w' => ∃ p c bs, e = .returned (.slice p bs.length c) ∧ ERow u8T w' p bs ∧ bs.length = n ∧
      ((sh = false ∧ at_ + n ≤ s.size ∧ bs = nextB (bytesI s) at_ n ∧ ∃ L', Rd w0 w' s sb rb atb shb xb L' (at_ + n) false A1 c1 A2 c2 x) ∨ ((sh = true ∨ s.size < at_ + n) ∧ bs = List.replicate n 0 ∧ ∃ L', Rd w0 w' s sb rb atb shb xb L' at_ true A1 c1 A2 c2 x)) := by
  have l4 : 4 < L.length := (List.getElem?_eq_some_iff.1 h.im.at_).1
  have m2 : (atb, [i64v (at_ : Int)]) ∈ L := List.mem_of_getElem? h.h2
  have m3 : (shb, [Value.bool sh]) ∈ L := List.mem_of_getElem? h.h3
  refine (image_next_ok hn hat (by omega) h.im.trk h.h0 h.h2 h.h3).mono fun e w' ⟨⟨p, c, bs, he, hr, hl, hc⟩, hk, hsz⟩ => ⟨p, c, bs, he, hr, hl, ?_⟩
  have o1 : OwnE hdT w0 w' 50 A1 c1 x.params := h.im.o1.kept fun k hr => hk k (h.im.o1.lt hr).2 (fun e => h.im.n1 _ m3 (by rw [hr, e])) (fun e => h.im.n1 _ m2 (by rw [hr, e]))
  have o2 : OwnE u32T w0 w' 42 A2 c2 x.code := h.im.o2.kept fun k hr => hk k (h.im.o2.lt hr).2 (fun e => h.im.n2 _ m3 (by rw [hr, e])) (fun e => h.im.n2 _ m2 (by rw [hr, e]))
  rcases hc with ⟨h1, h2, h3, t⟩ | ⟨h1, h2, t⟩
  · refine .inl ⟨h1, h2, h3, _, ⟨⟨t, ?_, o1, o2, ?_, ?_, h.im.n12⟩, ?_, ?_, ?_, ?_⟩⟩
    · rw [List.getElem?_set_ne (by decide), List.getElem?_set_ne (by decide)]; exact h.im.at_
    · intro y hy e
      have e23 : (L.set 3 (shb, [Value.bool false]))[2]? = some (atb, [i64v (at_ : Int)]) := by rw [List.getElem?_set_ne (by decide)]; exact h.h2
      obtain ⟨z, hz, e2⟩ := mem_set e23 hy
      obtain ⟨u, hu, e3⟩ := mem_set h.h3 hz
      exact h.im.n1 u hu (by rw [e, ← e2, e3])
    · intro y hy e
      have e23 : (L.set 3 (shb, [Value.bool false]))[2]? = some (atb, [i64v (at_ : Int)]) := by rw [List.getElem?_set_ne (by decide)]; exact h.h2
      obtain ⟨z, hz, e2⟩ := mem_set e23 hy
      obtain ⟨u, hu, e3⟩ := mem_set h.h3 hz
      exact h.im.n2 u hu (by rw [e, ← e2, e3])
    · rw [List.getElem?_set_ne (by decide), List.getElem?_set_ne (by decide)]; exact h.h0
    · rw [List.getElem?_set_ne (by decide), List.getElem?_set_ne (by decide)]; exact h.h1
    · rw [List.getElem?_set_self (by simpa using (show 2 < L.length by omega))]
    · rw [List.getElem?_set_ne (by decide), List.getElem?_set_self (by omega)]
  · refine .inr ⟨h1, h2, _, ⟨⟨t, ?_, o1, o2, ?_, ?_, h.im.n12⟩, ?_, ?_, ?_, ?_⟩⟩
    · rw [List.getElem?_set_ne (by decide)]; exact h.im.at_
    · intro y hy e
      obtain ⟨u, hu, e3⟩ := mem_set h.h3 hy
      exact h.im.n1 u hu (by rw [e, ← e3])
    · intro y hy e
      obtain ⟨u, hu, e3⟩ := mem_set h.h3 hy
      exact h.im.n2 u hu (by rw [e, ← e3])
    · rw [List.getElem?_set_ne (by decide)]; exact h.h0
    · rw [List.getElem?_set_ne (by decide)]; exact h.h1
    · rw [List.getElem?_set_ne (by decide)]; exact h.h2
    · rw [List.getElem?_set_self (by omega)]
/-- The first of the next bytes. -/
theorem first_byte {w : World} {p : Option Addr} {bs : List Int} (hr : ERow u8T w p bs) (hl : bs.length = 1) : ∃ a b, p = some a ∧ bs = [b] ∧ w.cell? a = some (.int .u8 b) := by
  match bs, hl with
  | [b], _ =>
    obtain ⟨a, rfl, hc⟩ := hr 0 b rfl
    refine ⟨a, b, rfl, rfl, ?_⟩
    have := hc 0 _ rfl
    rw [addr_add_zero] at this
    simpa [u8T, addr_add_zero] using this
end
end Go.Proofs.Ytjoikaklincfoaa
