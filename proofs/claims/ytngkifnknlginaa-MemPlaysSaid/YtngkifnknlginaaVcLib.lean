/-
Small laws for the conditions that VcTop makes: worlds that go on, new blocks, wraps.
Conditions: none; all is proved over any program.
-/
import Derived.Test.YtngkifnknlginaaVcTop
namespace Go.Vc
open Go.RowKit
set_option linter.unusedSimpArgs false
set_option linter.unnecessarySimpa false
set_option linter.unusedVariables false

/-! ### worlds that go on -/
theorem Later.refl (w : World) : Later w w := Below.refl _ _
theorem Later.trans {a b c : World} (h : Later a b) (k : Later b c) : Later a c := Below.trans h (Below.mono k h.size)
theorem Later.size {a b : World} (h : Later a b) : a.heap.size ≤ b.heap.size := Below.size h
theorem Later.alloc {a b : World} (h : Later a b) (o : Obj) : Later a (b.alloc o) := Below.alloc h h.size o
theorem Later.alloc' (w : World) (o : Obj) : Later w (w.alloc o) := (Later.refl w).alloc o
theorem Later.setCell {a b : World} (h : Later a b) {p : Addr} (hp : a.heap.size ≤ p.block) (v : Value) : Later a (b.setCell p v) := Below.setCell h hp v
theorem Later.drew {a b : World} (h : Later a b) : Later a b.drew := Below.drew h
theorem Later.cell {a b : World} (h : Later a b) {p : Addr} (hp : p.block < a.heap.size) : b.cell? p = a.cell? p := Below.cell h hp
theorem Later.cell_some {a b : World} (h : Later a b) {p : Addr} {v : Value} (hv : a.cell? p = some v) : b.cell? p = some v := by
  rw [h.cell (World.block_lt_of_cell? a p hv)]; exact hv
theorem Later.block {a b : World} (h : Later a b) {k : Nat} (hk : k < a.heap.size) : b.heap[k]? = a.heap[k]? := Below.block h k hk
theorem Later.frozen {a b : World} (h : Later a b) {p : Addr} (hp : p.block < a.heap.size) : b.frozen? p = a.frozen? p := Below.frozen h hp

/-! ### a new block -/
theorem setCell_alloc (w : World) (cs : Array Value) (t : TypeId) (fr : Nat × Nat) (k : Nat) (v : Value) : (w.alloc (.cells cs t fr)).setCell ⟨w.heap.size, k, none⟩ v = w.alloc (.cells (cs.setIfInBounds k v) t fr) := by
  simp only [World.alloc, World.setCell]
  congr 1
  apply Array.ext_getElem?
  intro i
  rw [Array.getElem?_modify, Array.getElem?_push, Array.getElem?_push]
  by_cases hi : i = w.heap.size
  · subst hi; simp
  · have : ¬ w.heap.size = i := fun h => hi h.symm
    simp [hi, this]
theorem add_block (b o k : Nat) : (Addr.mk b o none).add k = Addr.mk b (o + k) none := by
  unfold Addr.add
  split
  · rename_i h; subst h; rfl
  · rfl
theorem Addr_add_add (a : Addr) (i j : Nat) (h : a.spot = none) : (a.add i).add j = a.add (i + j) := by
  obtain ⟨b, o, s⟩ := a
  simp only at h
  subst h
  rw [add_block, add_block, add_block, Nat.add_assoc]
theorem setCellsAt_alloc (w : World) (t : TypeId) (fr : Nat × Nat) : ∀ (l : List Value) (cs : List Value) (i : Nat), i + l.length ≤ cs.length →
    setCellsAt (w.alloc (.cells cs.toArray t fr)) ⟨w.heap.size, 0, none⟩ i l = w.alloc (.cells (cs.take i ++ l ++ cs.drop (i + l.length)).toArray t fr) := by
  intro l
  induction l with
  | nil => intro cs i h; simp [setCellsAt]
  | cons v l ih =>
    intro cs i h
    simp only [List.length_cons] at h
    simp only [setCellsAt, add_block, Nat.zero_add]
    rw [setCell_alloc]
    rw [show (cs.toArray.setIfInBounds i v) = (cs.set i v).toArray by simp]
    rw [ih _ _ (by simp; omega)]
    congr 3
    rw [List.length_cons]
    have h1 : (cs.set i v).take (i + 1) = cs.take i ++ [v] := by
      rw [List.take_add_one]
      rw [List.take_set_of_le (Nat.le_refl _)]
      simp [List.getElem?_set, show i < cs.length by omega]
    have h2 : (cs.set i v).drop (i + 1 + l.length) = cs.drop (i + (l.length + 1)) := by
      rw [List.drop_set_of_lt (by omega)]
      congr 1; omega
    rw [h1, h2]
    simp
theorem setCellsAt_new (w : World) (t : TypeId) (fr : Nat × Nat) {l : List Value} {cs : Array Value} (h : l.length = cs.size) :
    setCellsAt (w.alloc (.cells cs t fr)) ⟨w.heap.size, 0, none⟩ 0 l = w.alloc (.cells l.toArray t fr) := by
  have := setCellsAt_alloc w t fr l cs.toList 0 (by simp; omega)
  simp only [Array.toArray_toList] at this
  rw [this]
  have hd : List.drop (0 + l.length) cs.toList = [] := List.drop_eq_nil_of_le (by simp; omega)
  rw [hd]
  simp
theorem cell_new (w : World) (cs : Array Value) (t : TypeId) (fr : Nat × Nat) (k : Nat) : (w.alloc (.cells cs t fr)).cell? ⟨w.heap.size, k, none⟩ = cs[k]? := by
  simp only [World.alloc, World.cell?, Array.getElem?_push_size]
  rfl
theorem frozen_new (w : World) (cs : Array Value) (t : TypeId) (k : Nat) : (w.alloc (.cells cs t)).frozen? ⟨w.heap.size, k, none⟩ = false := by
  simp only [World.alloc, World.frozen?, Array.getElem?_push_size]
  simp
theorem SetsAt_new (w : World) (t : TypeId) {cs : Array Value} : ∀ (l : List Value) (i : Nat), i + l.length ≤ cs.size → (∀ v, v ∈ l → v.oneCell' = true) → SetsAt (w.alloc (.cells cs t)) ⟨w.heap.size, 0, none⟩ i l := by
  intro l
  induction l with
  | nil => intro i h ho; trivial
  | cons v l ih =>
    intro i h ho
    simp only [List.length_cons] at h
    refine cnd_true (ho v (by simp)) ⟨⟨?_, ?_⟩, ih (i + 1) (by omega) (fun v hv => ho v (by simp [hv]))⟩
    · rw [add_block, cell_new]; simp; omega
    · rw [add_block, frozen_new]
theorem CellsAt_new (w : World) (t : TypeId) (fr : Nat × Nat) (cs : Array Value) : ∀ (l : List Value) (i : Nat), (∀ k v, l[k]? = some v → cs[i + k]? = some v) → CellsAt (w.alloc (.cells cs t fr)) ⟨w.heap.size, 0, none⟩ i l := by
  intro l
  induction l with
  | nil => intro i h; trivial
  | cons v l ih =>
    intro i h
    refine ⟨?_, ih (i + 1) (fun k u hk => ?_)⟩
    · rw [add_block, cell_new]
      have := h 0 v rfl
      simpa using this
    · have := h (k + 1) u (by simpa using hk)
      rwa [show i + 1 + k = i + (k + 1) by omega]
theorem CellsAt_new' (w : World) (t : TypeId) (fr : Nat × Nat) (cs : Array Value) : CellsAt (w.alloc (.cells cs t fr)) ⟨w.heap.size, 0, none⟩ 0 cs.toList :=
  CellsAt_new w t fr cs cs.toList 0 (fun k v h => by simpa using h)

/-! ### bytes as a string -/
def strOf (ns : List Int) : ByteArray := ⟨(ns.map fun n => UInt8.ofNat n.toNat).toArray⟩
theorem foldl_push (ns : List Int) : ∀ (s : ByteArray), ns.foldl (fun r n => r.push (UInt8.ofNat n.toNat)) s = ⟨s.data ++ (ns.map fun n => UInt8.ofNat n.toNat).toArray⟩ := by
  induction ns with
  | nil => intro s; simp
  | cons n ns ih =>
    intro s
    simp only [List.foldl_cons, ih, List.map_cons]
    congr 1
    apply Array.ext'
    simp [ByteArray.push]
theorem runs_bytes_string {P : Program} {w : World} {src dst e : TypeId} {a : Addr} {ns : List Int} {l c : Nat} {K : Value → World → Prop} (hs : P.underlying src = some (.slice e)) (he : P.underlying e = some (.int .u8)) (hd : P.underlying dst = some .string)
    (hl : l = ns.length) (h : CellsAt w a 0 (ns.map (Value.int .u8))) (hK : K (.string (strOf ns)) w) : RunsV P (convert src dst (.slice (some a) l c)) w K := by
  subst hl
  refine RunsV_of ?_ hK
  rw [run_convert_bytes_string w src dst e (some a) ns.length c hs he hd, run_bytesToString w a ns.length c ns (run_loadCells h (by simp)), foldl_push]
  simp [strOf]

/-! ### wraps -/
theorem wrap_u64 (x : Int) : IntKind.u64.wrap x = x % 18446744073709551616 := by simp [IntKind.wrap, IntKind.bits, IntKind.signed]
theorem wrap_u32 (x : Int) : IntKind.u32.wrap x = x % 4294967296 := by simp [IntKind.wrap, IntKind.bits, IntKind.signed]
theorem wrap_u16 (x : Int) : IntKind.u16.wrap x = x % 65536 := by simp [IntKind.wrap, IntKind.bits, IntKind.signed]
theorem wrap_u8 (x : Int) : IntKind.u8.wrap x = x % 256 := by simp [IntKind.wrap, IntKind.bits, IntKind.signed]
theorem wrap_i64 (x : Int) : IntKind.i64.wrap x = if x % 18446744073709551616 ≥ 9223372036854775808 then x % 18446744073709551616 - 18446744073709551616 else x % 18446744073709551616 := by
  simp [IntKind.wrap, IntKind.bits, IntKind.signed]
theorem wrap_i32 (x : Int) : IntKind.i32.wrap x = if x % 4294967296 ≥ 2147483648 then x % 4294967296 - 4294967296 else x % 4294967296 := by
  simp [IntKind.wrap, IntKind.bits, IntKind.signed]
theorem u64_in {x : Int} (h0 : 0 ≤ x) (h1 : x < 18446744073709551616) : IntKind.u64.wrap x = x := by rw [wrap_u64]; omega
theorem u32_in {x : Int} (h0 : 0 ≤ x) (h1 : x < 4294967296) : IntKind.u32.wrap x = x := by rw [wrap_u32]; omega
theorem u8_in {x : Int} (h0 : 0 ≤ x) (h1 : x < 256) : IntKind.u8.wrap x = x := by rw [wrap_u8]; omega
theorem i64_in {x : Int} (h0 : -9223372036854775808 ≤ x) (h1 : x < 9223372036854775808) : IntKind.i64.wrap x = x := by rw [wrap_i64]; split <;> omega
end Go.Vc
