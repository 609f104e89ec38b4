/-
The contracts of the chapter's reference package: it comes to the same words.
Conditions: each number is of its kind.
-/
import Derived.Test.YtjoikaklincfoaaVref02
import Derived.Test.YtjoikaklincfoaaVref02n
import Derived.Test.YtjoikaklincfoaaInsnC
import Derived.Test.YtjoikaklincfoaaRef01B
namespace Go.Proofs.Ytjoikaklincfoaa
open Go Go.Vc Go.RowKit
set_option linter.unusedVariables false
set_option linter.unusedSimpArgs false
set_option linter.unnecessarySimpa false
set_option maxRecDepth 100000

/-! ### rows -/
def formD (m : Int) : FD := if m = 1 then twoD else if m = 2 then numberD else if m = 3 then shiftD else if m = 4 then largeD else if m = 5 then storeD else if m = 6 then branchD else if m = 7 then jumpD else bareD
def tabR : List (Int × Int × Int × Int) :=
  [(51, 0, 0, 1), (51, 0, 32, 1), (51, 1, 0, 1), (51, 2, 0, 1), (51, 3, 0, 1), (51, 4, 0, 1), (51, 5, 0, 1), (51, 5, 32, 1), (51, 6, 0, 1), (51, 7, 0, 1), (51, 0, 1, 1), (51, 3, 1, 1), (51, 5, 1, 1), (51, 7, 1, 1),
   (19, 0, 0, 2), (19, 3, 0, 2), (19, 4, 0, 2), (19, 6, 0, 2), (19, 7, 0, 2), (19, 1, 0, 3), (19, 5, 0, 3), (19, 5, 32, 3), (55, 0, 0, 4), (3, 4, 0, 2), (3, 3, 0, 2),
   (35, 0, 0, 5), (35, 3, 0, 5), (99, 0, 0, 6), (99, 1, 0, 6), (99, 6, 0, 6), (99, 7, 0, 6), (111, 0, 0, 7), (103, 0, 0, 2), (115, 0, 0, 8)]
theorem tabR_is : tabR.map (fun x => (x.1, x.2.1, x.2.2.1, formD x.2.2.2)) = tabL := rfl
theorem tabR_forms : tabR.all (fun x => decide (1 ≤ x.2.2.2 ∧ x.2.2.2 ≤ 8)) = true := by decide
abbrev rrow (c f g m : Int) : Value := .agg #[u32v c, u32v f, u32v g, i64v m]
theorem ret4 {w0 w : World} {L : List Blk} (h : Trk w0 w L) (k : Nat) {b : Nat} {cs : List Value} {c f g m : Int} (hk : L[k]? = some (b, cs)) (hc : cs.length = 4) {R : Int → Int → Int → Int → World → Prop} (hR : ∀ w', Trk w0 w' (L.set k (b, [u32v c, u32v f, u32v g, i64v m])) → R c f g m w') :
    SetsAt w ⟨b, 0, none⟩ 0 [u32v c, u32v f, u32v g, i64v m] ∧ ∀ w', w' = setCellsAt w ⟨b, 0, none⟩ 0 [u32v c, u32v f, u32v g, i64v m] →
      ∃ n n1 n2 n3, (w'.cell? ⟨b, 0, none⟩ = some (u32v n) ∧ w'.cell? ⟨b, 1, none⟩ = some (u32v n1) ∧ w'.cell? ⟨b, 2, none⟩ = some (u32v n2) ∧ w'.cell? ⟨b, 3, none⟩ = some (i64v n3) ∧ True) ∧ R n n1 n2 n3 w' := by
  have hkl : k < L.length := (List.getElem?_eq_some_iff.1 hk).1
  refine h.setAll k hk (by simp [hc]) (ones rfl) fun w' h' => ?_
  have hk' : (L.set k (b, [u32v c, u32v f, u32v g, i64v m]))[k]? = some (b, [u32v c, u32v f, u32v g, i64v m]) := by rw [List.getElem?_set]; simp [hkl]
  exact ⟨c, f, g, m, ⟨h'.cell k hk' rfl, h'.cell k hk' rfl, h'.cell k hk' rfl, h'.cell k hk' rfl, trivial⟩, hR w' h'⟩
set_option maxHeartbeats 3200000 in
theorem ref02_two_yes (op : Int) (h1 : 1 ≤ op) (h2 : op ≤ 14) (x : Int × Int × Int × Int) (hx : tabR[(op - 1).toNat]? = some x) (w : World) :
    Calls Try.prog ref02_two.N #[u8v op] w (Gives (pairv (rrow x.1 x.2.1 x.2.2.1 x.2.2.2) (.bool true)) w) := by
  refine ref02_two.calls ?_
  unfold ref02_two.vc
  intro w1 e1 w2 e2
  have L := ((Trk.start w).alloc e1).alloc e2
  have : op = 1 ∨ op = 2 ∨ op = 3 ∨ op = 4 ∨ op = 5 ∨ op = 6 ∨ op = 7 ∨ op = 8 ∨ op = 9 ∨ op = 10 ∨ op = 11 ∨ op = 12 ∨ op = 13 ∨ op = 14 := by omega
  rcases this with rfl | rfl | rfl | rfl | rfl | rfl | rfl | rfl | rfl | rfl | rfl | rfl | rfl | rfl
  all_goals obtain rfl := Option.some.inj hx
  all_goals refine cnd_false rfl (cnd_false rfl ⟨⟨by decide, by decide⟩, _, by rw [add_block]; exact L.cell 1 rfl rfl, fun w3 e3 => ?_⟩)
  all_goals refine (L.alloc e3).setAll 2 rfl (by rfl) (ones rfl) fun w4 L4 => ?_
  all_goals first
    | exact cnd_false rfl (cnd_false rfl (cnd_false rfl ⟨_, _, _, _, ⟨L4.cell 2 rfl rfl, L4.cell 2 rfl rfl, L4.cell 2 rfl rfl, L4.cell 2 rfl rfl, trivial⟩, ret4 L4 0 rfl rfl fun w' h' => ⟨rfl, h'.to⟩⟩))
    | exact cnd_true rfl (L4.set1 2 rfl (by decide) fun w5 L5 => cnd_false rfl ⟨_, _, _, _, ⟨L5.cell 2 rfl rfl, L5.cell 2 rfl rfl, L5.cell 2 rfl rfl, L5.cell 2 rfl rfl, trivial⟩, ret4 L5 0 rfl rfl fun w' h' => ⟨rfl, h'.to⟩⟩)
    | exact cnd_false rfl (cnd_true rfl (L4.set1 2 rfl (by decide) fun w5 L5 => cnd_false rfl ⟨_, _, _, _, ⟨L5.cell 2 rfl rfl, L5.cell 2 rfl rfl, L5.cell 2 rfl rfl, L5.cell 2 rfl rfl, trivial⟩, ret4 L5 0 rfl rfl fun w' h' => ⟨rfl, h'.to⟩⟩))
    | exact cnd_false rfl (cnd_false rfl (cnd_true rfl (L4.set1 2 rfl (by decide) fun w5 L5 => ⟨_, _, _, _, ⟨L5.cell 2 rfl rfl, L5.cell 2 rfl rfl, L5.cell 2 rfl rfl, L5.cell 2 rfl rfl, trivial⟩, ret4 L5 0 rfl rfl fun w' h' => ⟨rfl, h'.to⟩⟩)))
theorem ref02_two_no (op : Int) (h : op < 1 ∨ 14 < op) (w : World) : Calls Try.prog ref02_two.N #[u8v op] w (Gives (pairv (rrow 0 0 0 0) (.bool false)) w) := by
  refine ref02_two.calls ?_
  unfold ref02_two.vc
  intro w1 e1 w2 e2
  have L := ((Trk.start w).alloc e1).alloc e2
  refine cnd_of (fun h1 => ret4 L 0 rfl rfl fun w' h' => ⟨rfl, h'.to⟩) (fun h1 => ?_)
  have h1 := of_decide_eq_false h1
  exact cnd_true (decide_eq_true (by omega)) (ret4 L 0 rfl rfl fun w' h' => ⟨rfl, h'.to⟩)
set_option maxHeartbeats 3200000 in
theorem ref02_Of_yes (op : Int) (h1 : 1 ≤ op) (h2 : op ≤ 34) (x : Int × Int × Int × Int) (hx : tabR[(op - 1).toNat]? = some x) (w : World) :
    Calls Try.prog ref02_Of.N #[u8v op] w (Gives (pairv (rrow x.1 x.2.1 x.2.2.1 x.2.2.2) (.bool true)) w) := by
  refine ref02_Of.calls ?_
  unfold ref02_Of.vc
  intro w1 e1
  have L := (Trk.start w).alloc e1
  by_cases h14 : op ≤ 14
  · refine (ref02_two_yes op h1 h14 x hx w1).mono fun e w2 ⟨he, l2⟩ => ⟨_, _, _, _, _, he, fun w3 e3 => ?_⟩
    refine ((L.later l2).alloc e3).setAll 1 rfl (by rfl) (ones rfl) fun w4 L4 => ?_
    exact cnd_true rfl ⟨_, _, _, _, ⟨L4.cell 1 rfl rfl, L4.cell 1 rfl rfl, L4.cell 1 rfl rfl, L4.cell 1 rfl rfl, trivial⟩, ret4 L4 0 rfl rfl fun w' h' => ⟨rfl, h'.to⟩⟩
  · refine (ref02_two_no op (.inr (by omega)) w1).mono fun e w2 ⟨he, l2⟩ => ⟨_, _, _, _, _, he, fun w3 e3 => ?_⟩
    refine ((L.later l2).alloc e3).setAll 1 rfl (by rfl) (ones rfl) fun w4 L4 => ?_
    have : op = 15 ∨ op = 16 ∨ op = 17 ∨ op = 18 ∨ op = 19 ∨ op = 20 ∨ op = 21 ∨ op = 22 ∨ op = 23 ∨ op = 24 ∨ op = 25 ∨ op = 26 ∨ op = 27 ∨ op = 28 ∨ op = 29 ∨ op = 30 ∨ op = 31 ∨ op = 32 ∨ op = 33 ∨ op = 34 := by omega
    rcases this with rfl | rfl | rfl | rfl | rfl | rfl | rfl | rfl | rfl | rfl | rfl | rfl | rfl | rfl | rfl | rfl | rfl | rfl | rfl | rfl
    all_goals obtain rfl := Option.some.inj hx
    all_goals repeat refine cnd_false rfl ?_
    all_goals refine cnd_true rfl ?_
    all_goals exact ret4 L4 0 rfl rfl fun w' h' => ⟨rfl, h'.to⟩
theorem ref02_Of_no (op : Int) (h : op < 1 ∨ 34 < op) (w : World) : Calls Try.prog ref02_Of.N #[u8v op] w (Gives (pairv (rrow 0 0 0 0) (.bool false)) w) := by
  refine ref02_Of.calls ?_
  unfold ref02_Of.vc
  intro w1 e1
  have L := (Trk.start w).alloc e1
  refine (ref02_two_no op (by omega) w1).mono fun e w2 ⟨he, l2⟩ => ⟨_, _, _, _, _, he, fun w3 e3 => ?_⟩
  refine ((L.later l2).alloc e3).setAll 1 rfl (by rfl) (ones rfl) fun w4 L4 => ?_
  refine cnd_false rfl ?_
  have ne : ∀ k : Int, 15 ≤ k → k ≤ 34 → (op == k) = false := fun k h1 h2 => by rw [beq_eq_false_iff_ne]; omega
  repeat refine cnd_false (ne _ (by decide) (by decide)) ?_
  exact ret4 L4 0 rfl rfl fun w' h' => ⟨rfl, h'.to⟩
/-! ### what is named -/
theorem ref02_named_ok (m o d a b v : Int) (hm : 1 ≤ m ∧ m ≤ 8) (hv : I64 v) (w : World) : Calls Try.prog ref02_named.N #[i64v m, insv o d a b v] w (Gives (.bool (mayF (formD m) d a b v)) w) := by
  refine ref02_named.calls ?_
  unfold ref02_named.vc
  intro w1 e1
  have L := (Trk.start w).alloc e1
  have hD : ∀ (p : FD → Bool) (q : Bool), (q = p (formD m)) → q = p (formD m) := fun _ _ h => h
  refine ⟨fun vs w' => vs = [.bool (formD m).rd] ∧ w' = w1, ?_, ?_⟩
  · have : m = 1 ∨ m = 2 ∨ m = 3 ∨ m = 4 ∨ m = 5 ∨ m = 6 ∨ m = 7 ∨ m = 8 := by omega
    rcases this with rfl | rfl | rfl | rfl | rfl | rfl | rfl | rfl
    all_goals first
      | exact cnd_true rfl ⟨rfl, rfl⟩
      | exact cnd_false rfl (cnd_true rfl ⟨rfl, rfl⟩)
      | exact cnd_false rfl (cnd_false rfl (cnd_true rfl ⟨rfl, rfl⟩))
      | exact cnd_false rfl (cnd_false rfl (cnd_false rfl (cnd_true rfl ⟨rfl, rfl⟩)))
      | exact cnd_false rfl (cnd_false rfl (cnd_false rfl (cnd_false rfl ⟨rfl, rfl⟩)))
  rintro g rd w2 ⟨hs, rfl⟩
  obtain rfl : rd = (formD m).rd := by simpa using hs
  refine ⟨fun vs w' => vs = [.bool (formD m).rs1] ∧ w' = w2, ?_, ?_⟩
  · have : m = 1 ∨ m = 2 ∨ m = 3 ∨ m = 4 ∨ m = 5 ∨ m = 6 ∨ m = 7 ∨ m = 8 := by omega
    rcases this with rfl | rfl | rfl | rfl | rfl | rfl | rfl | rfl
    all_goals first
      | exact cnd_true rfl ⟨rfl, rfl⟩
      | exact cnd_false rfl (cnd_true rfl ⟨rfl, rfl⟩)
      | exact cnd_false rfl (cnd_false rfl (cnd_true rfl ⟨rfl, rfl⟩))
      | exact cnd_false rfl (cnd_false rfl (cnd_false rfl (cnd_true rfl ⟨rfl, rfl⟩)))
      | exact cnd_false rfl (cnd_false rfl (cnd_false rfl (cnd_false rfl ⟨rfl, rfl⟩)))
  rintro g rs1 w3 ⟨hs, rfl⟩
  obtain rfl : rs1 = (formD m).rs1 := by simpa using hs
  refine ⟨fun vs w' => vs = [.bool (formD m).rs2] ∧ w' = w3, ?_, ?_⟩
  · have : m = 1 ∨ m = 2 ∨ m = 3 ∨ m = 4 ∨ m = 5 ∨ m = 6 ∨ m = 7 ∨ m = 8 := by omega
    rcases this with rfl | rfl | rfl | rfl | rfl | rfl | rfl | rfl
    all_goals first
      | exact cnd_true rfl ⟨rfl, rfl⟩
      | exact cnd_false rfl (cnd_true rfl ⟨rfl, rfl⟩)
      | exact cnd_false rfl (cnd_false rfl ⟨rfl, rfl⟩)
  rintro g rs2 w4 ⟨hs, rfl⟩
  obtain rfl : rs2 = (formD m).rs2 := by simpa using hs
  refine ⟨fun vs w' => vs = [.bool (((d != 0 && !(formD m).rd) || (a != 0 && !(formD m).rs1) || (b != 0 && !(formD m).rs2)) || (decide (d > 31) || decide (a > 31) || decide (b > 31)))] ∧ w' = w4, ?_, ?_⟩
  · have big : ∀ Q : Bool → Prop, Q (decide (d > 31) || decide (a > 31) || decide (b > 31)) →
        ∃ n, w4.cell? ⟨w.heap.size, 1, none⟩ = some (u8v n) ∧ cnd (decide (n > 31)) (Q true) (∃ n, w4.cell? ⟨w.heap.size, 2, none⟩ = some (u8v n) ∧ cnd (decide (n > 31)) (Q true) (∃ n, w4.cell? ⟨w.heap.size, 3, none⟩ = some (u8v n) ∧ Q (decide (n > 31)))) := by
      intro Q hQ
      refine ⟨_, L.cell 0 rfl rfl, cnd_of (fun h => ?_) (fun h => ⟨_, L.cell 0 rfl rfl, cnd_of (fun h' => ?_) (fun h' => ⟨_, L.cell 0 rfl rfl, ?_⟩)⟩)⟩
      · rw [h, Bool.true_or, Bool.true_or] at hQ; exact hQ
      · rw [h, h', Bool.false_or, Bool.true_or] at hQ; exact hQ
      · rw [h, h', Bool.false_or, Bool.false_or] at hQ; exact hQ
    have third : ∀ Q : Bool → Prop, Q ((b != 0 && !(formD m).rs2) || (decide (d > 31) || decide (a > 31) || decide (b > 31))) →
        cnd (!(formD m).rs2) (∃ n, w4.cell? ⟨w.heap.size, 3, none⟩ = some (u8v n) ∧ cnd (n != 0) (Q true) (∃ n, w4.cell? ⟨w.heap.size, 1, none⟩ = some (u8v n) ∧ cnd (decide (n > 31)) (Q true) (∃ n, w4.cell? ⟨w.heap.size, 2, none⟩ = some (u8v n) ∧ cnd (decide (n > 31)) (Q true) (∃ n, w4.cell? ⟨w.heap.size, 3, none⟩ = some (u8v n) ∧ Q (decide (n > 31))))))
          (∃ n, w4.cell? ⟨w.heap.size, 1, none⟩ = some (u8v n) ∧ cnd (decide (n > 31)) (Q true) (∃ n, w4.cell? ⟨w.heap.size, 2, none⟩ = some (u8v n) ∧ cnd (decide (n > 31)) (Q true) (∃ n, w4.cell? ⟨w.heap.size, 3, none⟩ = some (u8v n) ∧ Q (decide (n > 31))))) := by
      intro Q hQ
      refine cnd_of (fun h => ⟨_, L.cell 0 rfl rfl, cnd_of (fun h' => ?_) (fun h' => big Q ?_)⟩) (fun h => big Q ?_)
      · rw [h, h', Bool.true_and, Bool.true_or] at hQ; exact hQ
      · rw [h, h', Bool.false_and, Bool.false_or] at hQ; exact hQ
      · rw [h, Bool.and_false, Bool.false_or] at hQ; exact hQ
    refine cnd_of (fun h => ⟨_, L.cell 0 rfl rfl, cnd_of (fun h' => ?_) (fun h' => cnd_of (fun k => ⟨_, L.cell 0 rfl rfl, cnd_of (fun k' => ?_) (fun k' => third (fun q => ([.bool q] : List Value) = _ ∧ w4 = w4) ?_)⟩) (fun k => third (fun q => ([.bool q] : List Value) = _ ∧ w4 = w4) ?_))⟩)
      (fun h => cnd_of (fun k => ⟨_, L.cell 0 rfl rfl, cnd_of (fun k' => ?_) (fun k' => third (fun q => ([.bool q] : List Value) = _ ∧ w4 = w4) ?_)⟩) (fun k => third (fun q => ([.bool q] : List Value) = _ ∧ w4 = w4) ?_))
    all_goals refine ⟨?_, rfl⟩
    · simp only [h, h', Bool.false_and, Bool.true_and, Bool.and_false, Bool.and_true, Bool.false_or, Bool.true_or]
    · simp only [h, h', k, k', Bool.false_and, Bool.true_and, Bool.and_false, Bool.and_true, Bool.false_or, Bool.true_or]
    · simp only [h, h', k, k', Bool.false_and, Bool.true_and, Bool.and_false, Bool.and_true, Bool.false_or, Bool.true_or]
    · simp only [h, h', k, Bool.false_and, Bool.true_and, Bool.and_false, Bool.and_true, Bool.false_or, Bool.true_or]
    · simp only [h, k, k', Bool.false_and, Bool.true_and, Bool.and_false, Bool.and_true, Bool.false_or, Bool.true_or]
    · simp only [h, k, k', Bool.false_and, Bool.true_and, Bool.and_false, Bool.and_true, Bool.false_or, Bool.true_or]
    · simp only [h, k, Bool.false_and, Bool.true_and, Bool.and_false, Bool.and_true, Bool.false_or, Bool.true_or]
  rintro g s w5 ⟨hs, rfl⟩
  obtain rfl := (by simpa using hs : s = (((d != 0 && !(formD m).rd) || (a != 0 && !(formD m).rs1) || (b != 0 && !(formD m).rs2)) || (decide (d > 31) || decide (a > 31) || decide (b > 31))))
  have hmay : mayF (formD m) d a b v = (!(((d != 0 && !(formD m).rd) || (a != 0 && !(formD m).rs1) || (b != 0 && !(formD m).rs2)) || (decide (d > 31) || decide (a > 31) || decide (b > 31))) && fitsF (formD m).nb (formD m).step v) := by
    have hq : ∀ A B C : Bool, (!A && (!B && C)) = (!(A || B) && C) := by decide
    unfold mayF
    exact hq _ _ _
  rw [hmay]
  refine cnd_of (fun h => ?_) (fun h => ?_)
  · rw [h]
    exact ⟨rfl, L.to⟩
  rw [h, Bool.not_false, Bool.true_and]
  have F := fun (k : Int) (h1 : -9223372036854775808 ≤ k) (h2 : k < 9223372036854775808) => ref01_Fits_ok v k hv.1 hv.2 h1 h2 w5
  have L5 := fun (w' : World) (h' : Later w5 w') => L.later h'
  refine ⟨fun vs w' => vs = [.bool (m == 2 || m == 5)] ∧ w' = w5, ?_, ?_⟩
  · exact cnd_of (fun h => ⟨by rw [h]; rfl, rfl⟩) (fun h => ⟨by rw [h]; rfl, rfl⟩)
  rintro g s w6 ⟨hs, rfl⟩
  obtain rfl : s = (m == 2 || m == 5) := by simpa using hs
  have : m = 1 ∨ m = 2 ∨ m = 3 ∨ m = 4 ∨ m = 5 ∨ m = 6 ∨ m = 7 ∨ m = 8 := by omega
  have st : ∀ (k step : Int), step ≠ 0 → fitsF k step v = (if k < 0 then decide (0 ≤ v) && decide (v < 64) else if k = 0 then v == 0 else fitsv v k && (v.tmod step == 0)) := by
    intro k step hne
    unfold fitsF
    rw [show (step == 0) = false from by simpa using hne, Bool.false_or]
  have s0 : ∀ (k : Int), 0 < k → fitsF k 0 v = fitsv v k := by
    intro k hk
    unfold fitsF
    rw [if_neg (by omega), if_neg (by omega)]
    show (fitsv v k && (true || _)) = _
    rw [Bool.true_or, Bool.and_true]
  have s1 : ∀ (k step : Int), 0 < k → step ≠ 0 → fitsF k step v = (fitsv v k && (v.tmod step == 0)) := by
    intro k step hk hne
    rw [st k step hne, if_neg (by omega), if_neg (by omega)]
  have number : fitsF 12 0 v = fitsv v 12 := s0 12 (by decide)
  have zero : fitsF 0 0 v = (v == 0) := rfl
  have step : ∀ (k q : Int), 0 < k → k < 100 → q ≠ 0 → ∃ n, w6.cell? ⟨w.heap.size, 4, none⟩ = some (i64v n) ∧ Calls Try.prog ref01_Fits.N #[i64v n, i64v k] w6 fun e w' => ∃ b : Bool, e = .returned (.bool b) ∧ cnd b (∃ n, w'.cell? ⟨w.heap.size, 4, none⟩ = some (i64v n) ∧ Gives (.bool (fitsF k q v)) w (.returned (.bool (n.tmod q == 0))) w') (Gives (.bool (fitsF k q v)) w (.returned (.bool false)) w') := by
    intro k q h1 h2 h3
    refine ⟨_, L.cell 0 rfl rfl, (F k (by omega) (by omega)).mono fun e w7 ⟨he, l7⟩ => ⟨_, he, cnd_of (fun h => ⟨_, (L.later l7).cell 0 rfl rfl, ?_, (L.later l7).to⟩) (fun h => ⟨?_, (L.later l7).to⟩)⟩⟩
    · rw [s1 k q h1 h3, h, Bool.true_and]
    · rw [s1 k q h1 h3, h, Bool.false_and]
  rcases this with rfl | rfl | rfl | rfl | rfl | rfl | rfl | rfl
  · exact cnd_false rfl (cnd_false rfl (cnd_false rfl (cnd_false rfl (cnd_false rfl ⟨_, L.cell 0 rfl rfl, rfl, L.to⟩))))
  · refine cnd_true rfl ⟨_, L.cell 0 rfl rfl, (F 12 (by decide) (by decide)).mono fun e w7 ⟨he, l7⟩ => ⟨_, he, ?_, (L.later l7).to⟩⟩
    rw [show fitsF (formD 2).nb (formD 2).step v = fitsv v 12 from number]
  · refine cnd_false rfl (cnd_true rfl ⟨_, L.cell 0 rfl rfl, cnd_of (fun h => ⟨_, L.cell 0 rfl rfl, ?_, L.to⟩) (fun h => ⟨?_, L.to⟩)⟩)
    · show Ending.returned (.bool (decide (v ≤ 63))) = .returned (.bool (decide (0 ≤ v) && decide (v < 64)))
      rw [show decide (0 ≤ v) = true from h, Bool.true_and, decide_eq_decide.2 (show v ≤ 63 ↔ v < 64 by omega)]
    · show Ending.returned (.bool false) = .returned (.bool (decide (0 ≤ v) && decide (v < 64)))
      rw [show decide (0 ≤ v) = false from h, Bool.false_and]
  · exact cnd_false rfl (cnd_false rfl (cnd_true rfl (step 32 4096 (by decide) (by decide) (by decide))))
  · refine cnd_true rfl ⟨_, L.cell 0 rfl rfl, (F 12 (by decide) (by decide)).mono fun e w7 ⟨he, l7⟩ => ⟨_, he, ?_, (L.later l7).to⟩⟩
    rw [show fitsF (formD 5).nb (formD 5).step v = fitsv v 12 from number]
  · exact cnd_false rfl (cnd_false rfl (cnd_false rfl (cnd_true rfl (step 13 2 (by decide) (by decide) (by decide)))))
  · exact cnd_false rfl (cnd_false rfl (cnd_false rfl (cnd_false rfl (cnd_true rfl (step 21 2 (by decide) (by decide) (by decide))))))
  · exact cnd_false rfl (cnd_false rfl (cnd_false rfl (cnd_false rfl (cnd_false rfl ⟨_, L.cell 0 rfl rfl, rfl, L.to⟩))))
/-! ### bits -/
theorem ref02_bits_ok (v fr to at_ : Int) (h : spanOk 0 (fr, to, at_)) (w : World) : Calls Try.prog ref02_bits.N #[i64v v, i64v fr, i64v to, i64v at_] w (Gives (u32v (bitsv v fr to at_)) w) := by
  obtain ⟨h1, h2, h3, h4, h5⟩ := h
  simp only at h1 h2 h3 h4 h5
  refine ref02_bits.calls ?_
  unfold ref02_bits.vc
  refine ⟨fun vs w' => ∃ (k : Nat), vs = [.int .u32 (v % 18446744073709551616 / 2 ^ fr.toNat % 2 ^ k * 2 ^ at_.toNat), .int .i64 (fr + k)] ∧ fr + k ≤ to + 1 ∧ Later w w', fun vs _ => match vs with | [_, .int _ i] => (to + 1 - i).toNat | _ => 0,
    ⟨0, by simp [Int.emod_one], by omega, Later.refl _⟩, ?_⟩
  rintro g _ _ w1 ⟨k, hs, hk, l1⟩
  simp only [List.cons.injEq, Value.int.injEq, true_and, and_true] at hs
  obtain ⟨rfl, rfl⟩ := hs
  refine cnd_of (fun h => ?_) (fun h => ?_)
  · have h := of_decide_eq_true h
    have e1 : IntKind.u64.wrap (fr + k) = fr + k := u64_in (by omega) (by omega)
    have e2 : IntKind.i64.wrap (IntKind.i64.wrap (at_ + (fr + k)) - fr) = at_ + k := by
      rw [i64_in (x := at_ + (fr + k)) (by omega) (by omega), i64_in (by omega) (by omega)]
      omega
    have e3 : IntKind.u64.wrap (at_ + k) = at_ + k := u64_in (by omega) (by omega)
    have e4 : IntKind.i64.wrap (fr + k + 1) = fr + ((k + 1 : Nat) : Int) := by rw [i64_in (by omega) (by omega)]; omega
    rw [e1, e2, e3, e4, wrap_u64]
    refine cnd_false (decide_eq_false (by omega)) (cnd_false (decide_eq_false (by omega)) ?_)
    rw [show min (fr + (k : Int)).toNat 64 = fr.toNat + k by omega, show min (at_ + (k : Int)).toNat 32 = at_.toNat + k by omega]
    have hX0 : 0 ≤ v % 18446744073709551616 := by omega
    obtain ⟨X, hX⟩ := Int.eq_ofNat_of_zero_le hX0
    have hpf : (0 : Int) < 2 ^ (fr.toNat + k) := two_pow_pos _
    rw [hX, fdiv_nn _ (Int.le_of_lt hpf)]
    have eq1 : (X : Int) / 2 ^ (fr.toNat + k) = (X : Int) / 2 ^ fr.toNat / 2 ^ k := by
      rw [Int.pow_add, Int.ediv_ediv_of_nonneg (Int.le_of_lt (two_pow_pos _))]
    rw [eq1]
    obtain ⟨Y, hY⟩ := Int.eq_ofNat_of_zero_le (show 0 ≤ (X : Int) / 2 ^ fr.toNat from Int.ediv_nonneg (by omega) (Int.le_of_lt (two_pow_pos _)))
    rw [hY]
    have hb0 : 0 ≤ (Y : Int) / 2 ^ k := Int.ediv_nonneg (by omega) (Int.le_of_lt (two_pow_pos _))
    rw [tmod_nn _ hb0]
    obtain ⟨B, hB⟩ : ∃ B, B = (Y : Int) / 2 ^ k % 2 := ⟨_, rfl⟩
    have hB0 : 0 ≤ B ∧ B ≤ 1 := by omega
    rw [← hB, u32_in (x := B) (by omega) (by omega)]
    -- the sum
    have hstep : (Y : Int) % 2 ^ (k + 1) = (Y : Int) % 2 ^ k + B * 2 ^ k := by
      rw [hB]
      have := Nat.mod_pow_succ (b := 2) (x := Y) (k := k)
      have h2 : ((Y % 2 ^ (k + 1) : Nat) : Int) = ((Y % 2 ^ k + 2 ^ k * (Y / 2 ^ k % 2) : Nat) : Int) := by rw [this]
      push_cast at h2
      rw [h2, Int.mul_comm (2 ^ k)]
    have hpk := two_pow_pos k
    have hpa := two_pow_pos at_.toNat
    have hYk0 := Int.emod_nonneg (Y : Int) (Int.ne_of_gt hpk)
    have hYk1 := Int.emod_lt_of_pos (Y : Int) hpk
    have etot : (Y : Int) % 2 ^ k * 2 ^ at_.toNat + B * 2 ^ (at_.toNat + k) = (Y : Int) % 2 ^ (k + 1) * 2 ^ at_.toNat := by
      rw [hstep, Int.add_mul, Int.mul_assoc, Int.pow_add, Int.mul_comm (2 ^ at_.toNat) (2 ^ k)]
    have htop : (2 : Int) ^ (at_.toNat + k + 1) ≤ 4294967296 := by
      have := pow32 (a := at_ + k + 1) (by omega)
      rwa [show (at_ + (k : Int) + 1).toNat = at_.toNat + k + 1 by omega] at this
    have hk1 : (Y : Int) % 2 ^ (k + 1) < 2 ^ (k + 1) := Int.emod_lt_of_pos _ (two_pow_pos _)
    have hk0 : 0 ≤ (Y : Int) % 2 ^ (k + 1) := Int.emod_nonneg _ (Int.ne_of_gt (two_pow_pos _))
    have hlt : (Y : Int) % 2 ^ (k + 1) * 2 ^ at_.toNat < 4294967296 := by
      have a1 : ((Y : Int) % 2 ^ (k + 1)) * 2 ^ at_.toNat < 2 ^ (k + 1) * 2 ^ at_.toNat := Int.mul_lt_mul_of_pos_right hk1 hpa
      have a2 : (2 : Int) ^ (k + 1) * 2 ^ at_.toNat = 2 ^ (at_.toNat + k + 1) := by rw [← Int.pow_add]; congr 1; omega
      omega
    have hge : 0 ≤ (Y : Int) % 2 ^ (k + 1) * 2 ^ at_.toNat := Int.mul_nonneg hk0 (Int.le_of_lt hpa)
    have hleft : 0 ≤ (Y : Int) % 2 ^ k * 2 ^ at_.toNat := Int.mul_nonneg hYk0 (Int.le_of_lt hpa)
    have hright : 0 ≤ B * 2 ^ (at_.toNat + k) := Int.mul_nonneg hB0.1 (Int.le_of_lt (two_pow_pos _))
    rw [u32_in (x := B * 2 ^ (at_.toNat + k)) hright (by omega), u32_in (by omega) (by omega), etot]
    refine ⟨⟨k + 1, ?_, by omega, l1⟩, ?_⟩
    · rfl
    · simp only
      omega
  · have h := of_decide_eq_false h
    have hk : k = (to - fr + 1).toNat := by omega
    subst hk
    exact ⟨rfl, l1⟩
/-! ### where the number stands; the word -/
theorem ref02_number_ok (m v : Int) (hm : 1 ≤ m ∧ m ≤ 8) (w : World) : Calls Try.prog ref02_number.N #[i64v m, i64v v] w (Gives (u32v (laidv v (formD m).spans)) w) := by
  refine ref02_number.calls ?_
  unfold ref02_number.vc
  have B := fun (fr to at_ : Int) (h : spanOk 0 (fr, to, at_)) (w' : World) => ref02_bits_ok v fr to at_ h w'
  have : m = 1 ∨ m = 2 ∨ m = 3 ∨ m = 4 ∨ m = 5 ∨ m = 6 ∨ m = 7 ∨ m = 8 := by omega
  rcases this with rfl | rfl | rfl | rfl | rfl | rfl | rfl | rfl
  · exact cnd_false rfl (cnd_false rfl (cnd_false rfl (cnd_false rfl (cnd_false rfl (cnd_false rfl ⟨rfl, Later.refl _⟩)))))
  · refine cnd_true rfl ((B 0 11 20 (by simp only [spanOk]; decide) w).mono fun e w1 ⟨he, l1⟩ => ⟨_, he, ?_, l1⟩)
    show Ending.returned (u32v (bitsv v 0 11 20)) = .returned (u32v (bitsv v 0 11 20 + 0))
    rw [Int.add_zero]
  · refine cnd_false rfl (cnd_true rfl ((B 0 5 20 (by simp only [spanOk]; decide) w).mono fun e w1 ⟨he, l1⟩ => ⟨_, he, ?_, l1⟩))
    show Ending.returned (u32v (bitsv v 0 5 20)) = .returned (u32v (bitsv v 0 5 20 + 0))
    rw [Int.add_zero]
  · refine cnd_false rfl (cnd_false rfl (cnd_true rfl ((B 12 31 12 (by simp only [spanOk]; decide) w).mono fun e w1 ⟨he, l1⟩ => ⟨_, he, ?_, l1⟩)))
    show Ending.returned (u32v (bitsv v 12 31 12)) = .returned (u32v (bitsv v 12 31 12 + 0))
    rw [Int.add_zero]
  · refine cnd_false rfl (cnd_false rfl (cnd_false rfl (cnd_true rfl ((B 0 4 7 (by simp only [spanOk]; decide) w).mono fun e w1 ⟨he, l1⟩ => ⟨_, he, (B 5 11 25 (by simp only [spanOk]; decide) w1).mono fun e w2 ⟨he, l2⟩ => ⟨_, he, ?_, l1.trans l2⟩⟩))))
    obtain ⟨q, q0, q1, hq⟩ := bitsv_q v 0 4 7 32 128 (by decide) (by decide)
    obtain ⟨r, r0, r1, hr⟩ := bitsv_q v 5 11 25 128 33554432 (by decide) (by decide)
    show Ending.returned (u32v _) = .returned (u32v (bitsv v 0 4 7 + (bitsv v 5 11 25 + 0)))
    rw [hq, hr, u32_in (by omega) (by omega), Int.add_zero]
  · refine cnd_false rfl (cnd_false rfl (cnd_false rfl (cnd_false rfl (cnd_true rfl ((B 11 11 7 (by simp only [spanOk]; decide) w).mono fun e w1 ⟨he, l1⟩ => ⟨_, he, (B 1 4 8 (by simp only [spanOk]; decide) w1).mono fun e w2 ⟨he, l2⟩ => ⟨_, he,
      (B 5 10 25 (by simp only [spanOk]; decide) w2).mono fun e w3 ⟨he, l3⟩ => ⟨_, he, (B 12 12 31 (by simp only [spanOk]; decide) w3).mono fun e w4 ⟨he, l4⟩ => ⟨_, he, ?_, l1.trans (l2.trans (l3.trans l4))⟩⟩⟩⟩)))))
    obtain ⟨q, q0, q1, hq⟩ := bitsv_q v 11 11 7 2 128 (by decide) (by decide)
    obtain ⟨r, r0, r1, hr⟩ := bitsv_q v 1 4 8 16 256 (by decide) (by decide)
    obtain ⟨s, s0, s1, hs⟩ := bitsv_q v 5 10 25 64 33554432 (by decide) (by decide)
    obtain ⟨t, t0, t1, ht⟩ := bitsv_q v 12 12 31 2 2147483648 (by decide) (by decide)
    show Ending.returned (u32v _) = .returned (u32v (bitsv v 11 11 7 + (bitsv v 1 4 8 + (bitsv v 5 10 25 + (bitsv v 12 12 31 + 0)))))
    rw [hq, hr, hs, ht, u32_in (x := q * 128 + r * 256) (by omega) (by omega), u32_in (x := q * 128 + r * 256 + s * 33554432) (by omega) (by omega), u32_in (by omega) (by omega), Int.add_zero]
    congr 2
    omega
  · refine cnd_false rfl (cnd_false rfl (cnd_false rfl (cnd_false rfl (cnd_false rfl (cnd_true rfl ((B 12 19 12 (by simp only [spanOk]; decide) w).mono fun e w1 ⟨he, l1⟩ => ⟨_, he, (B 11 11 20 (by simp only [spanOk]; decide) w1).mono fun e w2 ⟨he, l2⟩ => ⟨_, he,
      (B 1 10 21 (by simp only [spanOk]; decide) w2).mono fun e w3 ⟨he, l3⟩ => ⟨_, he, (B 20 20 31 (by simp only [spanOk]; decide) w3).mono fun e w4 ⟨he, l4⟩ => ⟨_, he, ?_, l1.trans (l2.trans (l3.trans l4))⟩⟩⟩⟩))))))
    obtain ⟨q, q0, q1, hq⟩ := bitsv_q v 12 19 12 256 4096 (by decide) (by decide)
    obtain ⟨r, r0, r1, hr⟩ := bitsv_q v 11 11 20 2 1048576 (by decide) (by decide)
    obtain ⟨s, s0, s1, hs⟩ := bitsv_q v 1 10 21 1024 2097152 (by decide) (by decide)
    obtain ⟨t, t0, t1, ht⟩ := bitsv_q v 20 20 31 2 2147483648 (by decide) (by decide)
    show Ending.returned (u32v _) = .returned (u32v (bitsv v 12 19 12 + (bitsv v 11 11 20 + (bitsv v 1 10 21 + (bitsv v 20 20 31 + 0)))))
    rw [hq, hr, hs, ht, u32_in (x := q * 4096 + r * 1048576) (by omega) (by omega), u32_in (x := q * 4096 + r * 1048576 + s * 2097152) (by omega) (by omega), u32_in (by omega) (by omega), Int.add_zero]
    congr 2
    omega
  · exact cnd_false rfl (cnd_false rfl (cnd_false rfl (cnd_false rfl (cnd_false rfl (cnd_false rfl ⟨rfl, Later.refl _⟩)))))
theorem ref02_Encode_ok (o d a b v : Int) (ho : U8 o) (hd : U8 d) (ha : U8 a) (hb : U8 b) (hv : I64 v) (w : World) :
    Calls Try.prog ref02_Encode.N #[insv o d a b v] w (Gives (encR (encv o d a b v)) w) := by
  refine ref02_Encode.calls ?_
  unfold ref02_Encode.vc
  intro w1 e1
  have L := (Trk.start w).alloc e1
  refine ⟨_, L.cell 0 rfl rfl, ?_⟩
  by_cases hin : 1 ≤ o ∧ o ≤ 34
  · obtain ⟨x, hx, hro, hmem⟩ := row_of hin.1 (by omega)
    have hl : (o - 1).toNat < tabR.length := by show _ < 34; omega
    obtain ⟨y, hy⟩ : ∃ y, tabR[(o - 1).toNat]? = some y := ⟨_, List.getElem?_eq_getElem hl⟩
    have hxy : x = (y.1, y.2.1, y.2.2.1, formD y.2.2.2) := by
      have := congrArg (fun l => l[(o - 1).toNat]?) tabR_is
      simp only [List.getElem?_map, hy, Option.map_some, hx, Option.some.injEq] at this
      exact this.symm
    have hm := of_decide_eq_true (List.all_eq_true.1 tabR_forms y (List.mem_of_getElem? hy))
    refine (ref02_Of_yes o hin.1 hin.2 y hy w1).mono fun e w2 ⟨he, l2⟩ => ⟨_, _, _, _, _, he, fun w3 e3 => ?_⟩
    refine ((L.later l2).alloc e3).setAll 1 rfl (by rfl) (ones rfl) fun w4 L4 => cnd_false rfl ?_
    refine ⟨_, L4.cell 1 rfl rfl, _, _, _, _, _, ⟨L4.cell 0 rfl rfl, L4.cell 0 rfl rfl, L4.cell 0 rfl rfl, L4.cell 0 rfl rfl, L4.cell 0 rfl rfl, trivial⟩, ?_⟩
    refine (ref02_named_ok y.2.2.2 o d a b v hm hv w4).mono fun e w5 ⟨he, l5⟩ => ⟨_, he, ?_⟩
    have L5 := L4.later l5
    have hF := tab_forms x hmem
    subst hxy
    refine cnd_of (fun h => ?_) (fun h => ?_)
    · have h : mayF (formD y.2.2.2) d a b v = false := by simpa using h
      refine ⟨?_, L5.to⟩
      unfold encv
      rw [hro]
      simp only [h]
      rfl
    · have h : mayF (formD y.2.2.2) d a b v = true := by simpa using h
      have hs := word_sum _ d a b v (hF.parts d a b v hd.1 ha.1 hb.1 h)
      refine ⟨_, fun w' h' => (L5.later h').cell 1 rfl rfl, _, fun w' h' => (L5.later h').cell 0 rfl rfl, _, fun w' h' => (L5.later h').cell 1 rfl rfl, _, fun w' h' => (L5.later h').cell 0 rfl rfl, _, fun w' h' => (L5.later h').cell 0 rfl rfl, _, fun w' h' => (L5.later h').cell 1 rfl rfl,
        _, fun w' h' => (L5.later h').cell 1 rfl rfl, _, fun w' h' => (L5.later h').cell 0 rfl rfl, _, fun w' h' => ref02_number_ok y.2.2.2 v hm w', fun w' h' => ⟨?_, (L5.later h').to⟩⟩
      unfold encv
      rw [hro]
      simp only [h, if_true]
      obtain ⟨hs0, hs1, hs2⟩ := hs
      unfold baseS at hs1 hs2 ⊢
      simp only at hs1 hs2 ⊢
      show Ending.returned (.tuple #[u32v _, i64v 0]) = .returned (.tuple #[u32v _, i64v 0])
      congr 5
      generalize laidv v (formD y.2.2.2).spans = M at *
      obtain ⟨⟨p0, p1, p2, p3, p4, p5⟩, ⟨p6, p7, p8, p9, p10, p11⟩, -⟩ := hF.parts d a b v hd.1 ha.1 hb.1 h
      simp only at p0 p1 p2 p3 p4 p5
      simp only [wrap_u32]
      omega
  · refine (ref02_Of_no o (by omega) w1).mono fun e w2 ⟨he, l2⟩ => ⟨_, _, _, _, _, he, fun w3 e3 => ?_⟩
    refine ((L.later l2).alloc e3).setAll 1 rfl (by rfl) (ones rfl) fun w4 L4 => cnd_true rfl ⟨?_, L4.to⟩
    unfold encv
    rw [row_none (by omega)]
    rfl
end Go.Proofs.Ytjoikaklincfoaa
