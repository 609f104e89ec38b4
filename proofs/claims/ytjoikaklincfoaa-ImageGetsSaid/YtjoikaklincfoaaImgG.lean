/-
Images, seventh part: an image in the making; which image bytes are, as far as it can be told (the reference's read).
Conditions: the string is not too long.
-/
import Derived.Test.YtjoikaklincfoaaImgF
namespace Go.Proofs.Ytjoikaklincfoaa
open Go Go.Vc Go.RowKit
set_option linter.unusedVariables false
set_option linter.unusedSimpArgs false
set_option linter.unnecessarySimpa false
set_option maxRecDepth 100000

theorem Trk.keptB {w0 w w' : World} {L : List Blk} (h : Trk w0 w L) (hl : Later w0 w') (hk : ∀ x ∈ L, w'.heap[x.1]? = w.heap[x.1]?) : Trk w0 w' L :=
  ⟨hl, fun x hx => ⟨(h.2.1 x hx).1, (h.2.1 x hx).2.kept (hk x hx)⟩, h.2.2⟩
/-- An image in the making: block number xi holds it; its rows are the call's own, and apart. -/
structure Mk (w0 w : World) (L : List Blk) (xi xb : Nat) (A1 : Option Addr) (c1 : Nat) (A2 : Option Addr) (c2 : Nat) (x : Img) : Prop where
  trk : Trk w0 w L
  at_ : L[xi]? = some (xb, imgC A1 c1 A2 c2 x)
  o1 : OwnE hdT w0 w 50 A1 c1 x.params
  o2 : OwnE u32T w0 w 42 A2 c2 x.code
  n1 : ∀ y ∈ L, rowB A1 ≠ some y.1
  n2 : ∀ y ∈ L, rowB A2 ≠ some y.1
  n12 : ∀ k, rowB A1 = some k → rowB A2 ≠ some k
section
variable {w0 w : World} {L : List Blk} {xi xb : Nat} {A1 : Option Addr} {c1 : Nat} {A2 : Option Addr} {c2 : Nat} {x : Img}
theorem Mk.later {w' : World} (h : Mk w0 w L xi xb A1 c1 A2 c2 x) (hl : Later w w') : Mk w0 w' L xi xb A1 c1 A2 c2 x :=
  ⟨h.trk.later hl, h.at_, OwnS.later h.o1 hl, OwnS.later h.o2 hl, h.n1, h.n2, h.n12⟩
theorem Mk.imAt (h : Mk w0 w L xi xb A1 c1 A2 c2 x) : ImAt w A1 A2 x := ⟨h.o1.row, h.o2.row⟩
theorem mem_set {L : List Blk} {i b : Nat} {cs : List Value} {ds : List Value} (hi : L[i]? = some (b, cs)) {y : Blk} (hy : y ∈ L.set i (b, ds)) : ∃ z ∈ L, z.1 = y.1 := by
  rcases List.mem_or_eq_of_mem_set hy with h | h
  · exact ⟨y, h, rfl⟩
  · exact ⟨_, List.mem_of_getElem? hi, by rw [h]⟩
/-- Another block than the image's is turned: it is tracked. -/
theorem Mk.other {w' : World} (h : Mk w0 w L xi xb A1 c1 A2 c2 x) {i b : Nat} {cs ds : List Value} (hi : L[i]? = some (b, cs)) (hne : i ≠ xi) (ht : Trk w0 w' (L.set i (b, ds))) (hk : ∀ k, k < w.heap.size → (∀ y ∈ L, y.1 ≠ k) → w'.heap[k]? = w.heap[k]?) :
    Mk w0 w' (L.set i (b, ds)) xi xb A1 c1 A2 c2 x := by
  refine ⟨ht, by rw [List.getElem?_set_ne hne]; exact h.at_, h.o1.kept fun k hr => hk k (h.o1.lt hr).2 fun y hy e => h.n1 y hy (by rw [hr, e]), h.o2.kept fun k hr => hk k (h.o2.lt hr).2 fun y hy e => h.n2 y hy (by rw [hr, e]), fun y hy e => ?_, fun y hy e => ?_, h.n12⟩
  · obtain ⟨z, hz, e2⟩ := mem_set hi hy
    exact h.n1 z hz (by rw [e, e2])
  · obtain ⟨z, hz, e2⟩ := mem_set hi hy
    exact h.n2 z hz (by rw [e, e2])
/-- A cell of the image is turned that is no row. -/
theorem Mk.cell {y : Img} {j : Nat} {v : Value} (h : Mk w0 w L xi xb A1 c1 A2 c2 x) (hj : j < 5) (hv : (imgC A1 c1 A2 c2 x).set j v = imgC A1 c1 A2 c2 y) (hp : y.params = x.params) (hc : y.code = x.code) {K : World → Prop}
    (hK : ∀ w', Mk w0 w' (L.set xi (xb, imgC A1 c1 A2 c2 y)) xi xb A1 c1 A2 c2 y → w'.heap.size = w.heap.size → K w') :
    ((w.cell? ⟨xb, j, none⟩).isSome = true ∧ w.frozen? ⟨xb, j, none⟩ = false) ∧ ∀ w', w' = w.setCell ⟨xb, j, none⟩ v → K w' := by
  have hl : xi < L.length := (List.getElem?_eq_some_iff.1 h.at_).1
  have m : (xb, imgC A1 c1 A2 c2 x) ∈ L := List.mem_of_getElem? h.at_
  refine h.trk.set1E xi h.at_ (by simpa [imgC] using hj) fun w' e t => hK w' ⟨by rw [← hv]; exact t, List.getElem?_set_self hl, ?_, ?_, fun y hy e => ?_, fun y hy e => ?_, h.n12⟩ (by rw [e]; simp)
  · rw [hp, e]
    exact OwnS.set_other h.o1 (h.n1 _ m) _ _
  · rw [hc, e]
    exact OwnS.set_other h.o2 (h.n2 _ m) _ _
  · obtain ⟨z, hz, e2⟩ := mem_set h.at_ hy
    exact h.n1 z hz (by rw [e, e2])
  · obtain ⟨z, hz, e2⟩ := mem_set h.at_ hy
    exact h.n2 z hz (by rw [e, e2])
/-- One more that is handed in. -/
theorem Mk.pushP (h : Mk w0 w L xi xb A1 c1 A2 c2 x) (m : Hd) (hb : x.params.length ≤ 100000) {w1 : World} {cs : Array Value} (e1 : w1 = w.alloc (.cells cs 50)) (hcs : cs.toList = hdC m) {K : Value → World → Prop}
    (hK : ∀ b' c' w2, (((w2.cell? ⟨xb, 1, none⟩).isSome = true ∧ w2.frozen? ⟨xb, 1, none⟩ = false) ∧ ∀ w3, w3 = w2.setCell ⟨xb, 1, none⟩ (.slice b' (x.params ++ [m]).length c') → Mk w0 w3 (L.set xi (xb, imgC b' c' A2 c2 { x with params := x.params ++ [m] })) xi xb b' c' A2 c2 { x with params := x.params ++ [m] }) → K (.slice b' (x.params ++ [m]).length c') w2) :
    RunsV Try.prog (Builtin.append_ #[22, 22] 22 #[.slice A1 x.params.length c1, .slice (some ⟨w.heap.size, 0, none⟩) 1 1]) w1 K := by
  refine OwnE.push 22 rtHd m h.o1 h.trk.to (by simp [maxLen]; omega) (by omega) e1 hcs fun b' c' w2 ho hl hk => hK b' c' w2 ?_
  have lt : ∀ y ∈ L, y.1 < w.heap.size := fun y hy => (h.trk.2.1 y hy).2.lt
  have t2 : Trk w0 w2 L := Trk.keptB h.trk hl fun y hy => (hk _ (lt y hy) (h.n1 y hy)).1
  have m' : (xb, imgC A1 c1 A2 c2 x) ∈ L := List.mem_of_getElem? h.at_
  have hli : xi < L.length := (List.getElem?_eq_some_iff.1 h.at_).1
  have o2 : OwnE u32T w0 w2 42 A2 c2 x.code := h.o2.kept fun k hr => (hk k (h.o2.lt hr).2 fun e => h.n12 k e hr).1
  have nb : ∀ y ∈ L, rowB b' ≠ some y.1 := fun y hy => (hk _ (lt y hy) (h.n1 y hy)).2
  refine t2.set1E xi h.at_ (by simp [imgC]) fun w3 e t => ⟨t, List.getElem?_set_self hli, ?_, ?_, fun y hy e => ?_, fun y hy e => ?_, fun k e1 e2 => ?_⟩
  · rw [e]; exact OwnS.set_other ho (nb _ m') _ _
  · rw [e]; exact OwnS.set_other o2 (h.n2 _ m') _ _
  · obtain ⟨z, hz, e2⟩ := mem_set h.at_ hy
    exact nb z hz (by rw [e, e2])
  · obtain ⟨z, hz, e2⟩ := mem_set h.at_ hy
    exact h.n2 z hz (by rw [e, e2])
  · have hlt := (h.o2.lt e2).2
    exact (hk k hlt fun e => h.n12 k e e2).2 e1
/-- One more word. -/
theorem Mk.pushC (h : Mk w0 w L xi xb A1 c1 A2 c2 x) (m : Int) (hb : x.code.length ≤ 1000000) {w1 : World} (e1 : w1 = w.alloc (.cells #[.int .u32 m] 42)) {K : Value → World → Prop}
    (hK : ∀ b' c' w2, Trk w0 w2 L → (((w2.cell? ⟨xb, 4, none⟩).isSome = true ∧ w2.frozen? ⟨xb, 4, none⟩ = false) ∧ ∀ w3, w3 = w2.setCell ⟨xb, 4, none⟩ (.slice b' (x.code ++ [m]).length c') → Mk w0 w3 (L.set xi (xb, imgC A1 c1 b' c' { x with code := x.code ++ [m] })) xi xb A1 c1 b' c' { x with code := x.code ++ [m] }) → K (.slice b' (x.code ++ [m]).length c') w2) :
    RunsV Try.prog (Builtin.append_ #[23, 23] 23 #[.slice A2 x.code.length c2, .slice (some ⟨w.heap.size, 0, none⟩) 1 1]) w1 K := by
  refine OwnE.push 23 rtU32 m h.o2 h.trk.to (by simp [maxLen]; omega) (by omega) e1 rfl fun b' c' w2 ho hl hk => ?_
  have lt : ∀ y ∈ L, y.1 < w.heap.size := fun y hy => (h.trk.2.1 y hy).2.lt
  have t2 : Trk w0 w2 L := Trk.keptB h.trk hl fun y hy => (hk _ (lt y hy) (h.n2 y hy)).1
  refine hK b' c' w2 t2 ?_
  have m' : (xb, imgC A1 c1 A2 c2 x) ∈ L := List.mem_of_getElem? h.at_
  have hli : xi < L.length := (List.getElem?_eq_some_iff.1 h.at_).1
  have o1 : OwnE hdT w0 w2 50 A1 c1 x.params := h.o1.kept fun k hr => (hk k (h.o1.lt hr).2 fun e => h.n12 k hr e).1
  have nb : ∀ y ∈ L, rowB b' ≠ some y.1 := fun y hy => (hk _ (lt y hy) (h.n2 y hy)).2
  refine t2.set1E xi h.at_ (by simp [imgC]) fun w3 e t => ⟨t, List.getElem?_set_self hli, ?_, ?_, fun y hy e => ?_, fun y hy e => ?_, fun k e1 e2 => ?_⟩
  · rw [e]; exact OwnS.set_other o1 (h.n1 _ m') _ _
  · rw [e]; exact OwnS.set_other ho (nb _ m') _ _
  · obtain ⟨z, hz, e2⟩ := mem_set h.at_ hy
    exact h.n1 z hz (by rw [e, e2])
  · obtain ⟨z, hz, e2⟩ := mem_set h.at_ hy
    exact nb z hz (by rw [e, e2])
  · have hlt := (h.o1.lt e1).2
    exact (hk k hlt fun e => h.n12 k e1 e).2 e2
/-- The image goes out by way of a block of its own. -/
theorem Mk.out (h : Mk w0 w L xi xb A1 c1 A2 c2 x) {k rb : Nat} {cs : List Value} (hk : L[k]? = some (rb, cs)) (hc : cs.length = 5) {R : Int → Option Addr → Nat → Nat → Bool → Bool → Option Addr → Nat → Nat → World → Prop}
    (hR : ∀ w', Later w0 w' → ImAt w' A1 A2 x → OwnE hdT w0 w' 50 A1 c1 x.params → OwnE u32T w0 w' 42 A2 c2 x.code → R x.slots A1 x.params.length c1 x.ret x.sec A2 x.code.length c2 w') :
    ∃ n p n1 c b b1 p1 n2 cc1, (w.cell? ⟨xb, 0, none⟩ = some (i64v n) ∧ w.cell? ⟨xb, 1, none⟩ = some (.slice p n1 c) ∧ w.cell? ⟨xb, 2, none⟩ = some (.bool b) ∧ w.cell? ⟨xb, 3, none⟩ = some (.bool b1) ∧ w.cell? ⟨xb, 4, none⟩ = some (.slice p1 n2 cc1) ∧ True) ∧
      SetsAt w ⟨rb, 0, none⟩ 0 [i64v n, .slice p n1 c, .bool b, .bool b1, .slice p1 n2 cc1] ∧ ∀ w', w' = setCellsAt w ⟨rb, 0, none⟩ 0 [i64v n, .slice p n1 c, .bool b, .bool b1, .slice p1 n2 cc1] →
        ∃ n p n1 c b b1 p1 n2 cc1, (w'.cell? ⟨rb, 0, none⟩ = some (i64v n) ∧ w'.cell? ⟨rb, 1, none⟩ = some (.slice p n1 c) ∧ w'.cell? ⟨rb, 2, none⟩ = some (.bool b) ∧ w'.cell? ⟨rb, 3, none⟩ = some (.bool b1) ∧ w'.cell? ⟨rb, 4, none⟩ = some (.slice p1 n2 cc1) ∧ True) ∧ R n p n1 c b b1 p1 n2 cc1 w' := by
  have mk : (rb, cs) ∈ L := List.mem_of_getElem? hk
  have hkl : k < L.length := (List.getElem?_eq_some_iff.1 hk).1
  have c := fun (i : Nat) (v : Value) (hv : (imgC A1 c1 A2 c2 x)[i]? = some v) => h.trk.cell xi h.at_ hv
  refine ⟨_, _, _, _, _, _, _, _, _, ⟨c 0 _ rfl, c 1 _ rfl, c 2 _ rfl, c 3 _ rfl, c 4 _ rfl, trivial⟩, ?_⟩
  refine h.trk.setAllE (l := imgC A1 c1 A2 c2 x) k hk (by rw [hc]; rfl) (ones rfl) fun w' e t => ?_
  have ek : (L.set k (rb, imgC A1 c1 A2 c2 x))[k]? = some (rb, imgC A1 c1 A2 c2 x) := List.getElem?_set_self hkl
  have o1 : OwnE hdT w0 w' 50 A1 c1 x.params := e ▸ OwnS.sets_other (h.n1 _ mk) _ _ h.o1
  have o2 : OwnE u32T w0 w' 42 A2 c2 x.code := e ▸ OwnS.sets_other (h.n2 _ mk) _ _ h.o2
  exact ⟨_, _, _, _, _, _, _, _, _, ⟨t.cell k ek rfl, t.cell k ek rfl, t.cell k ek rfl, t.cell k ek rfl, t.cell k ek rfl, trivial⟩, hR w' t.to ⟨o1.row, o2.row⟩ o1 o2⟩
end
end Go.Proofs.Ytjoikaklincfoaa
