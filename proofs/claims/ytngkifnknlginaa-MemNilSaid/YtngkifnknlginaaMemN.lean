/-
Chapter 04's laws, once called: MemNil, MemKinds.
Conditions: each theorem's hypotheses.
-/
import Derived.Test.YtngkifnknlginaaVlaw04q
import Derived.Test.YtngkifnknlginaaMemL
import Derived.Laws.BitsAllLaws
namespace Go.Proofs.Ytngkifnknlginaa
open Go Go.Vc Go.RowKit
set_option linter.unusedVariables false
set_option linter.unusedSimpArgs false
set_option linter.unnecessarySimpa false
set_option linter.unusedSectionVars false
set_option maxRecDepth 100000

/-! ### no memory -/
theorem nil_right (n : Int) (w : World) : Calls Try.prog sacristy_mem_Mem_right.N #[.pointer none, i64v n] w fun e w' => e = .returned (i64v 1) ∧ w' = w := by
  refine sacristy_mem_Mem_right.calls ?_
  unfold sacristy_mem_Mem_right.vc
  exact ⟨_, ptr_nil (by kernel_rfl) _ _ _, cnd_true rfl ⟨rfl, rfl⟩⟩
theorem nil_Load (x n : Int) (w : World) : Calls Try.prog sacristy_mem_Mem_Load.N #[.pointer none, u64v x, i64v n] w (Gives (.tuple #[u64v 0, .bool false, i64v 1]) w) := by
  refine sacristy_mem_Mem_Load.calls ?_
  unfold sacristy_mem_Mem_Load.vc
  refine (nil_right n w).mono fun e w1 ⟨he, e1⟩ => ⟨_, he, cnd_true rfl ⟨rfl, ?_⟩⟩
  rw [e1]
  exact Later.refl _
theorem nil_Store (x n v : Int) (t : Bool) (w : World) : Calls Try.prog sacristy_mem_Mem_Store.N #[.pointer none, u64v x, i64v n, u64v v, .bool t] w (Gives (i64v 1) w) := by
  refine sacristy_mem_Mem_Store.calls ?_
  unfold sacristy_mem_Mem_Store.vc
  refine (nil_right n w).mono fun e w1 ⟨he, e1⟩ => ⟨_, he, cnd_true rfl ⟨rfl, ?_⟩⟩
  rw [e1]
  exact Later.refl _
theorem nil_Fetch (x : Int) (w : World) : Calls Try.prog sacristy_mem_Mem_Fetch.N #[.pointer none, u64v x] w (Gives (.tuple #[.int .u32 0, i64v 1]) w) := by
  refine sacristy_mem_Mem_Fetch.calls ?_
  unfold sacristy_mem_Mem_Fetch.vc
  exact ⟨_, ptr_nil (by kernel_rfl) _ _ _, cnd_true rfl ⟨rfl, Later.refl _⟩⟩
theorem nil_Set (x : Int) (s : ByteArray) (t : Bool) (w : World) : Calls Try.prog sacristy_mem_Mem_Set.N #[.pointer none, u64v x, .string s, .bool t] w (Gives (i64v 1) w) := by
  refine sacristy_mem_Mem_Set.calls ?_
  unfold sacristy_mem_Mem_Set.vc
  exact ⟨_, ptr_nil (by kernel_rfl) _ _ _, cnd_true rfl ⟨rfl, Later.refl _⟩⟩
theorem nil_Bytes (x n : Int) (w : World) : Calls Try.prog sacristy_mem_Mem_Bytes.N #[.pointer none, u64v x, i64v n] w (Gives (.tuple #[.string (ByteArray.mk #[]), .slice none 0 0, i64v 1]) w) := by
  refine sacristy_mem_Mem_Bytes.calls ?_
  unfold sacristy_mem_Mem_Bytes.vc
  exact ⟨_, ptr_nil (by kernel_rfl) _ _ _, cnd_true rfl ⟨rfl, Later.refl _⟩⟩
theorem nil_iter {b : Nat} (w : World) (hb : Has w b [.pointer none]) : IterV Try.prog sacristy_mem_Mem_each_1.N #[.pointer (some ⟨b, 0, none⟩)] (fun k => k = b) 0 (fun k => [.pointer none]) w := by
  refine iterV_of fun l J Jx W hW hJ hJx hY h0 => ?_
  have hbW : Has W b [.pointer none] := hb.kept (hW.block b hb.lt)
  refine sacristy_mem_Mem_each_1.calls (yield' := .func (.yield l) #[] #[]) (c0 := some ⟨b, 0, none⟩) ?_
  unfold sacristy_mem_Mem_each_1.vc
  exact Deref_some rfl ⟨_, hbW.cell rfl, _, ptr_nil (by kernel_rfl) _ _ _, cnd_true rfl ⟨⟨_, rfl⟩, .inl h0⟩⟩
theorem nil_Regions (w0 : World) : Calls Try.prog sacristy_mem_Mem_Regions.N #[.pointer none] w0 (Gives (.slice none 0 0) w0) := by
  refine sacristy_mem_Mem_Regions.calls ?_
  unfold sacristy_mem_Mem_Regions.vc
  intro w1 h1
  have L := (Trk.start w0).alloc h1
  refine (mem_each_ok _ w1).mono fun e w5 ⟨he, g5, hb⟩ => ⟨_, he, ?_⟩
  have L5 := L.later g5
  have s05 : w0.heap.size ≤ w5.heap.size := L5.to.size
  refine fn_intro (cnd_true (by kernel_rfl) ⟨rfl, (⟨0, fun k => [.pointer none], fun k => k = w1.heap.size, fun pre W => Trk w0 W [(w0.heap.size, [.slice none 0 0])],
      fun pre W => False, fun y vs W => True,
      nil_iter _ hb, fun k hk => by rw [hk]; exact hb.lt,
      fun s W W' h ht => ht.trk s05 h,
      fun s W W' h ht => h,
      fun vs y W W' e1 ht => e1,
      L5⟩ : Rounds Try.prog sacristy_mem_Mem_each_1.N #[.pointer (some ⟨w1.heap.size, 0, none⟩)] w5), ?_, ?_, ?_, ?_, ?_⟩)
  · intro y; rfl
  · rintro s11 pre y W hx' hI
    exact y.elim0
  · rintro s11 pre y
    exact y.elim0
  · rintro D W hD LW hd
    refine ⟨_, _, _, LW.cell 0 rfl rfl, LW.set1E 0 rfl (by simp) fun W2 e2 M => ?_⟩
    have hd3 : W2.heap[D]? = some (.deferred (some [])) := by
      have k : KeepsFrom w5.heap.size W W2 := by rw [e2]; exact keepsFrom_setCell _ _ _ _
      exact k.same D _ hD hd rfl
    refine ⟨hd3, fun W4 e4 => ?_⟩
    have M : Trk w0 W4 _ := (turn_putObj (o' := .deferred none) hd3 rfl hD).trk s05 M |> fun h => e4 ▸ h
    exact ⟨_, _, _, M.cell 0 rfl rfl, rfl, M.to⟩
  · rintro D pre W hD hpre hF hd
    exact hF.elim
theorem law04_MemNil_ok (x : Stp) (w : World) : Calls Try.prog law04_MemNil.N #[stpV x] w (Gives (.bool true) w) := by
  refine law04_MemNil.calls ?_
  unfold law04_MemNil.vc
  intro w1 h1
  have L := (Trk.start w).alloc h1
  have alive : ∀ {w' : World}, Later w w' → Calls Try.prog law04_alive.N #[] w' fun e w'' => ∃ b : Bool, e = .returned (.bool b) ∧ Gives (.bool true) w (.returned (.bool b)) w'' := fun hl => (law04_alive_ok _).mono fun e w3 ⟨he, g3⟩ => ⟨_, he, rfl, hl.trans g3⟩
  refine ⟨_, L.cell 0 rfl rfl, cnd_of (fun _ => alive L.to) fun _ => ⟨_, L.cell 0 rfl rfl, _, L.cell 0 rfl rfl, ?_⟩⟩
  refine (nil_Load _ _ _).mono fun e w2 ⟨he, g2⟩ => ⟨_, _, _, he, ?_⟩
  have L := L.later g2
  refine ⟨_, L.cell 0 rfl rfl, (nil_Fetch _ _).mono fun e w3 ⟨he, g3⟩ => ⟨_, _, he, ?_⟩⟩
  have L := L.later g3
  refine ⟨_, L.cell 0 rfl rfl, _, L.cell 0 rfl rfl, (nil_Bytes _ _ _).mono fun e w4 ⟨he, g4⟩ => ⟨_, _, _, _, _, he, ?_⟩⟩
  have L := L.later g4
  refine cnd_true rfl (cnd_true rfl (cnd_true rfl (cnd_true rfl (cnd_true rfl (cnd_true (by simp) (cnd_true rfl (cnd_true rfl ⟨_, L.cell 0 rfl rfl, _, L.cell 0 rfl rfl, _, L.cell 0 rfl rfl, _, L.cell 0 rfl rfl, ?_⟩)))))))
  refine (nil_Store _ _ _ _ _).mono fun e w5 ⟨he, g5⟩ => ⟨_, he, cnd_true rfl ?_⟩
  have L := L.later g5
  refine ⟨_, L.cell 0 rfl rfl, _, L.cell 0 rfl rfl, _, L.cell 0 rfl rfl, (nil_Set _ _ _ _).mono fun e w6 ⟨he, g6⟩ => ⟨_, he, cnd_true rfl ?_⟩⟩
  have L := L.later g6
  refine (nil_Regions _).mono fun e w7 ⟨he, g7⟩ => ⟨_, _, _, he, cnd_true rfl ?_⟩
  exact alive (L.later g7).to
/-! ### kinds -/
theorem andNot3 (a : Nat) (h : a < 18446744073709551616) : a &&& 18446744073709551612 = a - a % 4 := by
  have e1 : (18446744073709551612 : Nat) = (2 ^ 62 - 1) <<< 2 := by decide
  have e2 : a - a % 4 = (a / 2 ^ 2) <<< 2 := by rw [Nat.shiftLeft_eq]; omega
  rw [e1, e2]
  apply Nat.eq_of_testBit_eq
  intro i
  rw [Nat.testBit_and, Nat.testBit_shiftLeft, Nat.testBit_shiftLeft, Nat.testBit_two_pow_sub_one, Nat.testBit_div_two_pow]
  by_cases hi : 2 ≤ i
  · have e : i - 2 + 2 = i := by omega
    have e' : 2 + (i - 2) = i := by omega
    by_cases h64 : i < 64
    · simp [hi, e, e', show i - 2 < 62 by omega]
    · have : a.testBit i = false := Nat.testBit_lt_two_pow (Nat.lt_of_lt_of_le h (by
        have : (2 : Nat) ^ 64 ≤ 2 ^ i := Nat.pow_le_pow_right (by decide) (by omega)
        omega))
      simp [hi, e, e', this]
  · simp [hi]
theorem down4 {p : Int} (h : 0 ≤ p ∧ p < 18446744073709551616) : bits .andNot .u64 p 3 = p - p % 4 := by
  have := u64_andNot p 3 h.1 h.2 (by decide) (by decide)
  rw [this, show (18446744073709551615 - (3 : Int).toNat : Nat) = 18446744073709551612 by decide, andNot3 _ (by omega)]
  omega
section
variable {st : List Pt} (hs : StOk st) (hd : Sep st) {j : Nat} {p : Pt} (hj : st[j]? = some p) {x : Int} (hx : p.r.f ≤ x ∧ x < p.r.f + p.r.s)
include hs hd hj hx
theorem kind_after (v : Int) (t : Bool) : ∃ p1, (storeM st x 1 v t).1[j]? = some p1 ∧ p1.r = p.r ∧ StOk (storeM st x 1 v t).1 ∧ Sep (storeM st x 1 v t).1 := by
  by_cases h : (storeM st x 1 v t).2 = 0
  · obtain ⟨i, q, hn, hf, hk, e⟩ := store_some hs hd h
    rw [find_at hd hj (in_has hx)] at hf
    simp only [Option.some.injEq, Prod.mk.injEq] at hf
    obtain ⟨rfl, rfl⟩ := hf
    rw [e]
    have hfit := fits_of hs hd hn (find_at hd hj (in_has hx))
    refine ⟨layP p (offR p x) (lowB v (1 : Int).toNat) t, ?_, rfl, layM_ok hs hj (by rw [lowB_length]; exact hfit) (lowB_b8 v _), hd.lay hj _ _ _⟩
    simp only [layM]
    rw [List.getElem?_set_self (List.getElem?_eq_some_iff.1 hj).1]
  · rw [(store_none hs hd h).1]
    exact ⟨p, hj, rfl, hs, hd⟩
theorem kind_set : setM st x [97] true = (layM st j p (offR p x) [97] true, 0) := by
  unfold setM
  have : ((([97] : List Int).length : Nat) : Int) = 1 := rfl
  rw [this, find_at hd hj (in_has hx)]
theorem kind_bytes : bytesM (layM st j p (offR p x) [97] true) x 1 = ([97], [true], 0) := by
  have hp := hs.2 j p hj
  obtain ⟨_, _, f3, _⟩ := hasR_facts hp (in_has hx)
  have e := find_lay hj (offR p x) [97] true x 1
  rw [find_at hd hj (in_has hx)] at e
  simp only [Option.map_some, if_true] at e
  unfold bytesM
  rw [if_neg (by omega), e]
  have b1 := putL_same (B := p.bs) (o := offR p x) (vs := [97]) (by rw [hp.bl]; simp; omega)
  have b2 := putL_same (B := p.ts) (o := offR p x) (vs := [true]) (by rw [hp.tl]; simp; omega)
  show (((putL p.bs (offR p x) [97]).drop (offR p x)).take 1, ((putL p.ts (offR p x) [true]).drop (offR p x)).take 1, (0 : Int)) = _
  have b1 : ((putL p.bs (offR p x) [97]).drop (offR p x)).take 1 = [97] := b1
  have b2 : ((putL p.ts (offR p x) [true]).drop (offR p x)).take 1 = [true] := b2
  rw [b1, b2]
theorem kind_fetch {y : Int} (hy : p.r.f ≤ y ∧ y + 4 ≤ p.r.f + p.r.s) (h4 : y % 4 = 0) : (fetchM (layM st j p (offR p x) [97] true) y).2 = if p.r.k = 1 then 0 else 40 := by
  have hp := hs.2 j p hj
  have hh : hasR p.r y 4 = true := by
    simp only [hasR, Bool.and_eq_true, decide_eq_true_eq]
    omega
  have e := find_lay hj (offR p x) [97] true y 4
  rw [find_at hd hj hh] at e
  simp only [Option.map_some, if_true] at e
  unfold fetchM
  rw [if_pos h4, e]
  show (if p.r.k = 1 then _ else _ : Int × Int).2 = _
  split <;> rfl
end
theorem bytes_true {w w' : World} {b : Option Addr} {c : Nat} (ho : OwnE boT w w' 4 b c [true]) : ∃ ad, b = some ad ∧ w'.cell? ad = some (.bool true) := by
  obtain ⟨ad, h1, h2⟩ := ho.row 0 true rfl
  refine ⟨ad, h1, ?_⟩
  have := h2 0 _ rfl
  rwa [Nat.zero_mul, addr_add_zero, addr_add_zero] at this
theorem strB_a : strB (ByteArray.mk #[97]) = [97] := by decide +kernel
set_option maxHeartbeats 6400000 in
theorem law04_MemKinds_ok {l : List Reg} (hl : RegsIn l) {A : Option Addr} {c : Nat} (hc : l.length ≤ c) (hc2 : c < 9223372036854775808) (wh at_ : Int) (hwh : 0 ≤ wh ∧ wh < 256) (hat : 0 ≤ at_ ∧ at_ < 4294967296) (w : World) (hr : ERow regT w A l) :
    Calls Try.prog law04_MemKinds.N #[.slice A l.length c, .int .u8 wh, .int .u32 at_] w (Gives (.bool true) w) := by
  refine law04_MemKinds.calls ?_
  unfold law04_MemKinds.vc
  have alive : ∀ {w' : World}, Later w w' → Calls Try.prog law04_alive.N #[] w' fun e w'' => ∃ b : Bool, e = .returned (.bool b) ∧ Gives (.bool true) w (.returned (.bool b)) w'' := fun hl => (law04_alive_ok _).mono fun e w3 ⟨he, g3⟩ => ⟨_, he, rfl, hl.trans g3⟩
  refine (law04_Large_ok hl (by omega) hr).mono fun e w1 ⟨b, he, hb, g1⟩ => ⟨_, he, cnd_of (fun _ => alive g1) fun hb0 => ?_⟩
  have hlen := hb hb0
  refine (mem_New_ok hl hc (by omega) (hr.later g1)).mono fun e w2 ⟨g2, hN⟩ => ?_
  have g12 := g1.trans g2
  rcases hN with ⟨hmay, mb, he, hM⟩ | ⟨_, he⟩
  case inr => exact ⟨_, _, he, cnd_true rfl (alive g12)⟩
  refine ⟨_, _, he, cnd_false rfl ⟨_, ptr_nil (by kernel_rfl) _ _ _, cnd_false rfl ?_⟩⟩
  have hpos : 0 < l.length := by
    have := hmay
    simp only [mayL, Bool.and_eq_true, decide_eq_true_eq] at this
    omega
  rw [i64_in (by omega) (by omega), tmod_nn _ hwh.1]
  have j0 : 0 ≤ wh % (l.length : Int) := Int.emod_nonneg _ (by omega)
  have j1 : wh % (l.length : Int) < (l.length : Int) := Int.emod_lt_of_pos _ (by omega)
  obtain ⟨j, hjj⟩ : ∃ j : Nat, wh % (l.length : Int) = (j : Int) := ⟨(wh % (l.length : Int)).toNat, by omega⟩
  rw [hjj] at j0 j1 ⊢
  have hjl : j < l.length := by omega
  have hg := List.getElem?_eq_getElem hjl
  generalize l[j] = x at hg
  have hx := hl j x hg
  have hok := hmay
  simp only [mayL, Bool.and_eq_true] at hok
  have mx := mayR_facts (okUpto_all hok.2 hg).1
  obtain ⟨ad, rfl, hcell⟩ := reg_cells (hr.later g12) hg
  refine cnd_false (by rw [decide_eq_false_iff_not]; omega) ⟨⟨j0, j1⟩, Deref_some rfl ⟨_, _, _, hcell, fun w3 h3 => ?_⟩⟩
  have M := (Trk.start w2).alloc h3
  refine M.setAll (l := regC x) 0 rfl rfl (by simp [Value.oneCell', regC]) fun w4 M => ?_
  refine ⟨x.f, fun w' hl' => (M.later hl').cell 0 rfl rfl, x.s, fun w' hl' => (M.later hl').cell 0 rfl rfl, cnd_false (by rw [decide_eq_false_iff_not]; omega) fun w5 g5 => ?_⟩
  rw [u64_in (x := at_) (by omega) (by omega), tmod_nn _ hat.1]
  have p0 : 0 ≤ at_ % x.s := Int.emod_nonneg _ (by omega)
  have p1 : at_ % x.s < x.s := Int.emod_lt_of_pos _ (by omega)
  have := hx.f0
  rw [u64_in (by omega) (by omega)]
  generalize hp : x.f + at_ % x.s = p
  have hpx : x.f ≤ p ∧ p < x.f + x.s := by omega
  have hp64 : 0 ≤ p ∧ p < 18446744073709551616 := by omega
  -- the state
  have hs := newM_ok hl hmay
  have hd := Sep.new hmay
  obtain ⟨pt, hpt, hptr⟩ : ∃ pt, (newM l)[j]? = some pt ∧ pt.r = x := ⟨newP x, by simp [newM, hg, newP], rfl⟩
  have ne : 0 < (newM l).length := by simp [newM]; exact hpos
  have hpr : pt.r.f ≤ p ∧ p < pt.r.f + pt.r.s := by rw [hptr]; exact hpx
  have M5 := M.later g5
  have hM5 := hM.later M5.to
  have s12 : w.heap.size ≤ w1.heap.size := Later.size g1
  refine (mem_Load_ok (x := p) (n := 1) ne hp64 hM5).mono fun e w6 ⟨he, g6⟩ => ⟨_, _, _, he, ?_⟩
  have hM6 := hM5.later g6
  have M6 := M5.later g6
  obtain ⟨p1', hp1, er1, hs1, hd1⟩ := kind_after hs hd hpt hpr 7 true
  have hp1r : p1'.r.f ≤ p ∧ p < p1'.r.f + p1'.r.s := by rw [er1]; exact hpr
  refine (mem_Store_ok (x := p) (n := 1) (v := 7) (t := true) ne hp64 (by decide) hM6).mono fun e w7 ⟨he, k7, hM7⟩ => ⟨_, he, ?_⟩
  have ne1 : 0 < (storeM (newM l) p 1 7 true).1.length := by rw [len_store]; exact ne
  have eset := kind_set hs1 hd1 hp1 hp1r
  refine (mem_Set_ok (x := p) (s := ByteArray.mk #[97]) (t := true) ne1 (by decide) hp64 hM7).mono fun e w8 ⟨he, k8, hM8⟩ => ⟨_, he, ?_⟩
  rw [strB_a, eset] at hM8
  have ne2 : 0 < (layM (storeM (newM l) p 1 7 true).1 j p1' (offR p1' p) [97] true).length := by simp [layM]; exact ne1
  have eby := kind_bytes hs1 hd1 hp1 hp1r
  refine (mem_Bytes_ok (x := p) (n := 1) ne2 hp64 hM8).mono fun e w9 ⟨g9, B, cB, he, ho⟩ => ⟨_, _, _, _, _, he, ?_⟩
  rw [eby] at ho
  have hM9 := hM8.later g9
  rw [down4 hp64]
  refine (mem_Fetch_ok (x := p - p % 4) ne2 (by omega) hM9).mono fun e w10 ⟨he, g10⟩ => ⟨_, _, he, ?_⟩
  have hB10 : Has w10 w2.heap.size (regC x) := (((k8.has (k7.has (M6.has 0 rfl) (.inr (Nat.le_refl _))) (.inr (Nat.le_refl _))).later g9).later g10)
  have G10 : Later w w10 := by
    have a5 : Later w w6 := (g12.trans M5.to).trans g6
    exact ((k8.later (k7.later a5 s12) s12).trans g9).trans g10
  have eload := kind_load hs hd hpt hpr
  have est := kind_store hs hd hpt hpr 7 true
  rw [hptr] at eload est
  have er1x : p1'.r = x := er1.trans hptr
  obtain ⟨adB, rfl, hcB⟩ := bytes_true ho
  have hcB10 := g10.cell_some hcB
  have eA : strOf [97] = ByteArray.mk #[97] := by decide +kernel
  rw [strB_a, eset, eby, eload, est]
  have tailB : ∀ {X Y : Prop}, X → cnd (((layM (storeM (newM l) p 1 7 true).1 j p1' (offR p1' p) [97] true, (0 : Int)).2) == 0) (cnd ((strOf (([97], [true], (0 : Int)) : List Int × List Bool × Int).1).toList == (ByteArray.mk #[97]).toList) (cnd (((([97], [true], (0 : Int)) : List Int × List Bool × Int).2.1.length : Int) == 1) X Y) Y) Y := by
    intro X Y hX
    exact cnd_true rfl (cnd_true (by show ((strOf [97]).toList == _) = true; rw [eA]; simp) (cnd_true rfl hX))
  have kl : ((if x.k = 1 then (40 : Int) else 0) == 0) = !(x.k == 1) := by
    by_cases h : x.k = 1
    · rw [if_pos h]; simp [h]
    · rw [if_neg h]; simp [h]
  have ks3 : x.k = 3 → ((if x.k = 3 ∨ x.k = 4 then (0 : Int) else 40) == 0) = true := fun h => by rw [if_pos (.inl h)]; rfl
  have ks4 : ¬ x.k = 3 → ((if x.k = 3 ∨ x.k = 4 then (0 : Int) else 40) == 0) = (x.k == 4) := fun h => by
    by_cases h4 : x.k = 4
    · rw [if_pos (.inr h4)]; simp [h4]
    · rw [if_neg (by omega)]; simp [h4]
  refine ⟨x.k, hB10.cell (i := 2) rfl, x.f, hB10.cell rfl, cnd_of (fun hq => ?_) fun hq => ?_⟩
  · have hqf : p - p % 4 ≥ x.f := by simpa using hq
    have room : cnd (!decide (IntKind.u64.wrap (IntKind.u64.wrap (x.f + x.s) - (p - p % 4)) ≥ 4)) (Calls Try.prog law04_alive.N #[] w10 fun e w'' => ∃ b : Bool, e = .returned (.bool b) ∧ Gives (.bool true) w (.returned (.bool b)) w'')
        (cnd (((fetchM (layM (storeM (newM l) p 1 7 true).1 j p1' (offR p1' p) [97] true) (p - p % 4)).2 == 0) == (x.k == 1)) (Calls Try.prog law04_alive.N #[] w10 fun e w'' => ∃ b : Bool, e = .returned (.bool b) ∧ Gives (.bool true) w (.returned (.bool b)) w'') (Gives (.bool true) w (.returned (.bool false)) w10)) := by
      refine cnd_of (fun _ => alive G10) fun hroom => cnd_true ?_ (alive G10)
      rw [u64_in (x := x.f + x.s) (by omega) (by omega), u64_in (by omega) (by omega)] at hroom
      have hroom : x.f + x.s - (p - p % 4) ≥ 4 := by simpa using hroom
      have := kind_fetch hs1 hd1 hp1 hp1r (y := p - p % 4) (by rw [er1x]; omega) (by omega)
      rw [this, er1x]
      by_cases h : x.k = 1
      · rw [if_pos h]; simp [h]
      · rw [if_neg h]; simp [h]
    refine ⟨x.f, hB10.cell rfl, x.s, hB10.cell (i := 1) rfl, cnd_true (by rw [kl]; simp) ⟨x.k, hB10.cell (i := 2) rfl, cnd_of (fun h3 => cnd_true (by rw [ks3 (by simpa using h3)]; rfl) (tailB ?_)) fun h3 => ⟨x.k, hB10.cell (i := 2) rfl, cnd_true (by rw [ks4 (by simpa using h3)]; simp) (tailB ?_)⟩⟩⟩
    all_goals exact ⟨⟨Int.le_refl 0, by decide⟩, Deref_some rfl ⟨true, hcB10, cnd_true rfl (cnd_true rfl room)⟩⟩
  · refine cnd_true (by rw [kl]; simp) ⟨x.k, hB10.cell (i := 2) rfl, cnd_of (fun h3 => cnd_true (by rw [ks3 (by simpa using h3)]; rfl) (tailB ?_)) fun h3 => ⟨x.k, hB10.cell (i := 2) rfl, cnd_true (by rw [ks4 (by simpa using h3)]; simp) (tailB ?_)⟩⟩
    all_goals exact ⟨⟨Int.le_refl 0, by decide⟩, Deref_some rfl ⟨true, hcB10, cnd_true rfl (cnd_true rfl (alive G10))⟩⟩
end Go.Proofs.Ytngkifnknlginaa
