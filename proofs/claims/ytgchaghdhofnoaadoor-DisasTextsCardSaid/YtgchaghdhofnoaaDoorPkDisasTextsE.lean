/-
Texts of this claim, merged: Shelf, DisX, Card03, Vlaw03, DisY, DisZ, VcEq, InsR, DisU, DisS, Law03, LawP03, LawT03, Law03T.
Conditions: each theorem's own.
-/
import Derived.Test.YtgchaghdhofnoaaDoorPkDisasTextsD
import Derived.Shelf.Strings.Builder1
import Derived.Shelf.Strings.Builder2
import Derived.Shelf.Strings.OnBuilder
import Derived.Shelf.Strings.BuilderF
import Derived.Shelf.Strings.BuilderK
import Derived.Shelf.Strings.Builder2Cap
import Derived.Shelf.Strconv.Itoa0
import Derived.Shelf.Strconv.Itoa1
import Derived.Shelf.LaysM
import Derived.Shelf.Strconv.Itoa2
import Derived.Shelf.Strconv.Itoa3
import Derived.Shelf.Strconv.Itoa4
import Derived.Shelf.Strings.Fields
import Derived.Shelf.Strings.SplitShaped
import Derived.Shelf.Unicode.Latin
import Derived.Shelf.Unicode.Is16White
import Derived.Shelf.Unicode.IsSpaceAny
import Derived.Shelf.Unicode.Is16Any
import Derived.Shelf.Unicode.Is32Any
import Derived.Shelf.Unicode.ExclAny
import Derived.Test.YtgchaghdhofnoaaDoorProg
import Derived.Lib.SmallJoins
import Derived.Test.YtgchaghdhofnoaaDoorCards
import Derived.Test.YtgchaghdhofnoaaDoorTie
import Derived.ProofKit
import Derived.LaidMore
import Derived.OpenShut
import Derived.Stop.Joined
import Derived.SevenTiedAt
import Derived.Lib.LaidTab
import Derived.Laws.StructEq
import Derived.Deep.Upon
import Derived.Laws.Strings

/-
  DERIVED: THE SHELF's CONTRACTS AT THIS DUMP, IN PLAIN WORDS (tools/lay-plain.mjs out of 'TrydShelf.lean', which tools/lay-shelf.mjs wrote): THE SAME DECLARATIONS UNDER THE SAME YtgchaghdhofnoaaDoorS: 'import', 'namespace', 'open', 'def', 'theorem' AND NOTHING ELSE: no command of the shelf's: FOR A HAND-IN. Each laying: the table of numbers ('.._ren') and one theorem, a field a fact of the dump's own or the kernel's comparison; each contract: ONE APPLICATION.
-/
namespace Go.Proofs
open Go.Shelf
def Tryd.lays169_ren : Go.Shelf.Ren := ⟨fun | 169 => 39 | n => n, fun | 70 => 71 | 9 => 9 | 0 => 0 | 72 => 74 | 37 => 72 | 127 => 94 | 3 => 3 | 5 => 5 | n => n, fun | n => n⟩
theorem Tryd.lays169 : Go.Proofs.Lays.n169 Tryd.prog Tryd.lays169_ren := {
  mixed := by kernel_rfl
  f169 := Tryd.func39.trans (congrArg some (by kernel_rfl))
  t0 := Tryd.underlying0
  a0 := Tryd.isAgg0
  z0 := Tryd.sizeOf0
  v0 := Tryd.zeroValue0
  t3 := Tryd.underlying3
  a3 := Tryd.isAgg3
  z3 := Tryd.sizeOf3
  v3 := Tryd.zeroValue3
  t9 := Tryd.underlying9
  a9 := Tryd.isAgg9
  z9 := Tryd.sizeOf9
  v9 := Tryd.zeroValue9
  t37 := Tryd.underlying72
  a37 := Tryd.isAgg72
  z37 := Tryd.sizeOf72
  v37 := Tryd.zeroValue72
  t70 := Tryd.underlying71
  a70 := Tryd.isAgg71
  z70 := Tryd.sizeOf71
  v70 := Tryd.zeroValue71
  t72 := Tryd.underlying74
  a72 := Tryd.isAgg74
  z72 := Tryd.sizeOf74
  v72 := Tryd.zeroValue74
  t127 := Tryd.underlying94
  a127 := Tryd.isAgg94
  z127 := Tryd.sizeOf94
  v127 := Tryd.zeroValue94 }
theorem Tryd.Builder_Extra_169 : Builder.Extra Tryd.prog Tryd.lays169_ren := {
  sizeBuilder := by kernel_rfl
  liesBuilder := by kernel_rfl
  t5 := Tryd.underlying5
  a5 := Tryd.isAgg5
  z5 := Tryd.sizeOf5
  v5 := Tryd.zeroValue5
  infoByte := by kernel_rfl
  cellsByte := by kernel_rfl
  sizeByte := by kernel_rfl
  neB5 := by decide }
open Go.RowKit in
/-- (*strings.Builder).String: "String returns the accumulated string.": OF A BUILDER THAT HOLDS AT LEAST ONE BYTE. ✋ THE MODEL FREEZES THOSE BYTES IN THE BUFFER (unsafe.String): a later write INTO them ends the model's run without an answer; a later append BEHIND them goes on. The statement's order of evaluation is drawn: one draw. (LAID: no walk: one application.) -/
theorem Tryd.Builder_String (B b : Nat) (l : List UInt8) (w : World) (h : Lib.IsBuilder 74 5 B b (Lib.byteCells l) w) (h0 : l ≠ []) :
    Calls Tryd.prog 39 #[.pointer (some ⟨b, 0, none⟩)] w fun e w' => e = .returned (.string ⟨l.toArray⟩) ∧ Below B w w' := Any.Builder_String Tryd.lays169 Tryd.Builder_Extra_169 B b l w h h0
open Go.RowKit in
/-- (*strings.Builder).String OF A BUILDER THAT HOLDS NO BYTE: the empty string. (Its buffer is nil, or a row of which it has taken nothing yet; where that row has NO capacity the model lays one new block for unsafe.SliceData's 'some address'.) One draw. (LAID: no walk: one application.) -/
theorem Tryd.Builder_String_empty (B b : Nat) (w : World) (h : Lib.IsBuilder 74 5 B b [] w) (hBw : B ≤ w.heap.size) :
    Calls Tryd.prog 39 #[.pointer (some ⟨b, 0, none⟩)] w fun e w' => e = .returned (.string ⟨#[]⟩) ∧ Below B w w' := Any.Builder_String_empty Tryd.lays169 Tryd.Builder_Extra_169 B b w h hBw
open Go.RowKit in
/-- (*strings.Builder).String: "String returns the accumulated string.": WHATEVER THE BUILDER HOLDS. (LAID: no walk: one application.) -/
theorem Tryd.Builder_String_any (B b : Nat) (l : List UInt8) (w : World) (h : Lib.IsBuilder 74 5 B b (Lib.byteCells l) w) (hBw : B ≤ w.heap.size) :
    Calls Tryd.prog 39 #[.pointer (some ⟨b, 0, none⟩)] w fun e w' => e = .returned (.string ⟨l.toArray⟩) ∧ Below B w w' := Any.Builder_String_any Tryd.lays169 Tryd.Builder_Extra_169 B b l w h hBw
def Tryd.lays241_ren : Go.Shelf.Ren := ⟨fun | 241 => 71 | 277 => 82 | n => n, fun | 70 => 71 | 3 => 3 | 0 => 0 | 72 => 74 | 37 => 72 | 5 => 5 | n => n, fun | n => n⟩
theorem Tryd.lays241 : Go.Proofs.Lays.n241 Tryd.prog Tryd.lays241_ren := {
  mixed := by kernel_rfl
  f241 := Tryd.func71.trans (congrArg some (by kernel_rfl))
  f277 := Tryd.func82.trans (congrArg some (by kernel_rfl))
  t0 := Tryd.underlying0
  a0 := Tryd.isAgg0
  z0 := Tryd.sizeOf0
  v0 := Tryd.zeroValue0
  t3 := Tryd.underlying3
  a3 := Tryd.isAgg3
  z3 := Tryd.sizeOf3
  v3 := Tryd.zeroValue3
  t37 := Tryd.underlying72
  a37 := Tryd.isAgg72
  z37 := Tryd.sizeOf72
  v37 := Tryd.zeroValue72
  t70 := Tryd.underlying71
  a70 := Tryd.isAgg71
  z70 := Tryd.sizeOf71
  v70 := Tryd.zeroValue71
  t72 := Tryd.underlying74
  a72 := Tryd.isAgg74
  z72 := Tryd.sizeOf74
  v72 := Tryd.zeroValue74 }
theorem Tryd.Builder_Extra_241 : Builder.Extra Tryd.prog Tryd.lays241_ren := {
  sizeBuilder := by kernel_rfl
  liesBuilder := by kernel_rfl
  t5 := Tryd.underlying5
  a5 := Tryd.isAgg5
  z5 := Tryd.sizeOf5
  v5 := Tryd.zeroValue5
  infoByte := by kernel_rfl
  cellsByte := by kernel_rfl
  sizeByte := by kernel_rfl
  neB5 := by decide }
open Go.RowKit in
/-- (*strings.Builder).grow (no doc but "grow copies the buffer to a new, larger buffer so that there are at least n bytes of capacity beyond len(b.buf)."): AT A BUILDER WITHOUT A BUFFER: a new row of whatever bytes for its buffer, none of them its own yet. Three draws. (LAID: no walk: one application.) -/
theorem Tryd.Builder_grow_fresh (B b n : Nat) (w : World) (hB : B ≤ b) (hbk : w.heap[b]? = some (.cells #[.pointer (some ⟨b, 0, none⟩), .slice none 0 0] 74 (0, 0))) (hBw : B ≤ w.heap.size) (hn : n ≤ 281474976710656) :
    Calls Tryd.prog 71 #[.pointer (some ⟨b, 0, none⟩), .int .i64 n] w fun e w' => e = .returned (.tuple #[]) ∧ (Lib.BuilderAt 74 5 B b (.pointer (some ⟨b, 0, none⟩)) [] w' ∧ Below B w w') := Any.Builder_grow_fresh Tryd.lays241 Tryd.Builder_Extra_241 B b n w hB hbk hBw hn
def Tryd.lays165_ren : Go.Shelf.Ren := ⟨fun | 165 => 52 | 240 => 61 | 241 => 71 | 276 => 73 | 277 => 82 | n => n, fun | 70 => 71 | 3 => 3 | 0 => 0 | 4 => 4 | 9 => 9 | 20 => 20 | 72 => 74 | 37 => 72 | 164 => 109 | 5 => 5 | n => n, fun | n => n⟩
theorem Tryd.lays165 : Go.Proofs.Lays.n165 Tryd.prog Tryd.lays165_ren := {
  mixed := by kernel_rfl
  f165 := Tryd.func52.trans (congrArg some (by kernel_rfl))
  f240 := Tryd.func61.trans (congrArg some (by kernel_rfl))
  f241 := Tryd.func71.trans (congrArg some (by kernel_rfl))
  f276 := Tryd.func73.trans (congrArg some (by kernel_rfl))
  f277 := Tryd.func82.trans (congrArg some (by kernel_rfl))
  t0 := Tryd.underlying0
  a0 := Tryd.isAgg0
  z0 := Tryd.sizeOf0
  v0 := Tryd.zeroValue0
  t3 := Tryd.underlying3
  a3 := Tryd.isAgg3
  z3 := Tryd.sizeOf3
  v3 := Tryd.zeroValue3
  t4 := Tryd.underlying4
  a4 := Tryd.isAgg4
  z4 := Tryd.sizeOf4
  v4 := Tryd.zeroValue4
  t9 := Tryd.underlying9
  a9 := Tryd.isAgg9
  z9 := Tryd.sizeOf9
  v9 := Tryd.zeroValue9
  t20 := Tryd.underlying20
  a20 := Tryd.isAgg20
  z20 := Tryd.sizeOf20
  v20 := Tryd.zeroValue20
  t37 := Tryd.underlying72
  a37 := Tryd.isAgg72
  z37 := Tryd.sizeOf72
  v37 := Tryd.zeroValue72
  t70 := Tryd.underlying71
  a70 := Tryd.isAgg71
  z70 := Tryd.sizeOf71
  v70 := Tryd.zeroValue71
  t72 := Tryd.underlying74
  a72 := Tryd.isAgg74
  z72 := Tryd.sizeOf74
  v72 := Tryd.zeroValue74
  t164 := Tryd.underlying109
  a164 := Tryd.isAgg109
  z164 := Tryd.sizeOf109
  v164 := Tryd.zeroValue109 }
theorem Tryd.Builder_Extra_165 : Builder.Extra Tryd.prog Tryd.lays165_ren := {
  sizeBuilder := by kernel_rfl
  liesBuilder := by kernel_rfl
  t5 := Tryd.underlying5
  a5 := Tryd.isAgg5
  z5 := Tryd.sizeOf5
  v5 := Tryd.zeroValue5
  infoByte := by kernel_rfl
  cellsByte := by kernel_rfl
  sizeByte := by kernel_rfl
  neB5 := by decide }
open Go.RowKit in
/-- (*strings.Builder).Grow AT A BUILDER THAT HAS NOT BEEN WRITTEN ('var b strings.Builder; b.Grow(n)'): "Grow grows b's capacity, if necessary, to guarantee space for another n bytes.": it holds no byte behind it as before it. (LAID: no walk: one application.) -/
theorem Tryd.Builder_Grow_fresh (B b n : Nat) (w : World) (hB : B ≤ b) (hbk : w.heap[b]? = some (.cells #[.pointer none, .slice none 0 0] 74 (0, 0))) (hBw : B ≤ w.heap.size) (hn : n ≤ 281474976710656) :
    Calls Tryd.prog 52 #[.pointer (some ⟨b, 0, none⟩), .int .i64 n] w fun e w' => e = .returned (.tuple #[]) ∧ (Lib.BuilderAt 74 5 B b (.pointer (some ⟨b, 0, none⟩)) [] w' ∧ Below B w w') := Any.Builder_Grow_fresh Tryd.lays165 Tryd.Builder_Extra_165 B b n w hB hbk hBw hn
def Tryd.lays156_ren : Go.Shelf.Ren := ⟨fun | 156 => 29 | 165 => 52 | 166 => 38 | 169 => 39 | 240 => 61 | 241 => 71 | 276 => 73 | 277 => 82 | n => n, fun | 31 => 49 | 9 => 9 | 3 => 3 | 4 => 4 | 0 => 0 | 20 => 20 | 72 => 74 | 76 => 78 | 70 => 71 | 37 => 72 | 75 => 77 | 127 => 94 | 164 => 109 | 5 => 5 | 80 => 80 | n => n, fun | n => n⟩
theorem Tryd.lays156 : Go.Proofs.Lays.n156 Tryd.prog Tryd.lays156_ren := {
  mixed := by kernel_rfl
  f156 := Tryd.func29.trans (congrArg some (by kernel_rfl))
  f165 := Tryd.func52.trans (congrArg some (by kernel_rfl))
  f166 := Tryd.func38.trans (congrArg some (by kernel_rfl))
  f169 := Tryd.func39.trans (congrArg some (by kernel_rfl))
  f240 := Tryd.func61.trans (congrArg some (by kernel_rfl))
  f241 := Tryd.func71.trans (congrArg some (by kernel_rfl))
  f276 := Tryd.func73.trans (congrArg some (by kernel_rfl))
  f277 := Tryd.func82.trans (congrArg some (by kernel_rfl))
  t0 := Tryd.underlying0
  a0 := Tryd.isAgg0
  z0 := Tryd.sizeOf0
  v0 := Tryd.zeroValue0
  t3 := Tryd.underlying3
  a3 := Tryd.isAgg3
  z3 := Tryd.sizeOf3
  v3 := Tryd.zeroValue3
  t4 := Tryd.underlying4
  a4 := Tryd.isAgg4
  z4 := Tryd.sizeOf4
  v4 := Tryd.zeroValue4
  t9 := Tryd.underlying9
  a9 := Tryd.isAgg9
  z9 := Tryd.sizeOf9
  v9 := Tryd.zeroValue9
  t20 := Tryd.underlying20
  a20 := Tryd.isAgg20
  z20 := Tryd.sizeOf20
  v20 := Tryd.zeroValue20
  t31 := Tryd.underlying49
  a31 := Tryd.isAgg49
  z31 := Tryd.sizeOf49
  v31 := Tryd.zeroValue49
  t37 := Tryd.underlying72
  a37 := Tryd.isAgg72
  z37 := Tryd.sizeOf72
  v37 := Tryd.zeroValue72
  t70 := Tryd.underlying71
  a70 := Tryd.isAgg71
  z70 := Tryd.sizeOf71
  v70 := Tryd.zeroValue71
  t72 := Tryd.underlying74
  a72 := Tryd.isAgg74
  z72 := Tryd.sizeOf74
  v72 := Tryd.zeroValue74
  t75 := Tryd.underlying77
  a75 := Tryd.isAgg77
  z75 := Tryd.sizeOf77
  v75 := Tryd.zeroValue77
  t76 := Tryd.underlying78
  a76 := Tryd.isAgg78
  z76 := Tryd.sizeOf78
  v76 := Tryd.zeroValue78
  t127 := Tryd.underlying94
  a127 := Tryd.isAgg94
  z127 := Tryd.sizeOf94
  v127 := Tryd.zeroValue94
  t164 := Tryd.underlying109
  a164 := Tryd.isAgg109
  z164 := Tryd.sizeOf109
  v164 := Tryd.zeroValue109 }
theorem Tryd.Builder_Extra_156 : Builder.Extra Tryd.prog Tryd.lays156_ren := {
  sizeBuilder := by kernel_rfl
  liesBuilder := by kernel_rfl
  t5 := Tryd.underlying5
  a5 := Tryd.isAgg5
  z5 := Tryd.sizeOf5
  v5 := Tryd.zeroValue5
  infoByte := by kernel_rfl
  cellsByte := by kernel_rfl
  sizeByte := by kernel_rfl
  neB5 := by decide }
open Go.RowKit in
/-- No element: the empty string; the world is as it was. (Whatever the slice's address and capacity: a nil slice too.) (LAID: no walk: one application.) -/
theorem Tryd.strings_Join_none (a : Option Addr) (c : Nat) (sep : ByteArray) (w : World) :
    Calls Tryd.prog 29 #[.slice a 0 c, .string sep] w fun e w' => e = .returned (.string ⟨#[]⟩) ∧ w' = w := Any.strings_Join_none Tryd.lays156 Tryd.Builder_Extra_156 a c sep w
open Go.RowKit in
/-- strings.Join: "Join concatenates the elements of its first argument to create a single string. The separator string sep is placed between elements in the resulting string.": HOWEVER MANY ELEMENTS. Below the heap's end the world is as it was. (LAID: no walk: one application.) -/
theorem Tryd.strings_Join (bk o c : Nat) (xs : List ByteArray) (sep : ByteArray) (w : World) (hcells : ∀ (j : Nat) x, xs[j]? = some x → w.cell? ⟨bk, o + j, none⟩ = some (.string x)) (hbk : bk < w.heap.size) (hN : xs.length ≤ 140737488355328) (hcap : xs.length ≤ c) (hlen : (Lib.join (xs.map (·.data.toList)) sep.data.toList).length ≤ 140737488355328) :
    Calls Tryd.prog 29 #[.slice (some ⟨bk, o, none⟩) xs.length c, .string sep] w fun e w' => e = .returned (.string ⟨(Lib.join (xs.map (·.data.toList)) sep.data.toList).toArray⟩) ∧ Below w.heap.size w w' := Any.strings_Join Tryd.lays156 Tryd.Builder_Extra_156 bk o c xs sep w hcells hbk hN hcap hlen
open Go.RowKit in
/-- (*strings.Builder).String: "String returns the accumulated string.": OF A BUILDER THAT HOLDS AT LEAST ONE BYTE. ✋ THE MODEL FREEZES THOSE BYTES IN THE BUFFER (unsafe.String): a later write INTO them ends the model's run without an answer; a later append BEHIND them goes on. The statement's order of evaluation is drawn: one draw. THE FORM '_f': IT SAYS BESIDES THAT THE BUILDER IS A BUILDER STILL ('Lib.IsBuilderF', the same bytes): SO IT CAN BE WRITTEN ON: 'b.WriteString(b.String()[:k])'. (LAID: no walk: one application.) -/
theorem Tryd.Builder_String_f (B b : Nat) (l : List UInt8) (w : World) (h : Lib.IsBuilderF 74 5 B b (Lib.byteCells l) w) (h0 : l ≠ []) :
    Calls Tryd.prog 39 #[.pointer (some ⟨b, 0, none⟩)] w fun e w' => e = .returned (.string ⟨l.toArray⟩) ∧ (Lib.IsBuilderF 74 5 B b (Lib.byteCells l) w' ∧ Below B w w') := Any.Builder_String_f Tryd.lays169 Tryd.Builder_Extra_169 B b l w h h0
open Go.RowKit in
/-- (*strings.Builder).String OF A BUILDER THAT HOLDS NO BYTE: the empty string; THE FORM '_f': a builder still. (LAID: no walk: one application.) -/
theorem Tryd.Builder_String_empty_f (B b : Nat) (w : World) (h : Lib.IsBuilderF 74 5 B b [] w) (hBw : B ≤ w.heap.size) :
    Calls Tryd.prog 39 #[.pointer (some ⟨b, 0, none⟩)] w fun e w' => e = .returned (.string ⟨#[]⟩) ∧ (Lib.IsBuilderF 74 5 B b [] w' ∧ Below B w w') := Any.Builder_String_empty_f Tryd.lays169 Tryd.Builder_Extra_169 B b w h hBw
open Go.RowKit in
/-- (*strings.Builder).String: "String returns the accumulated string.": WHATEVER THE BUILDER HOLDS; THE FORM '_f': OF A BUILDER THAT MAY HAVE BEEN READ BEFORE; AND IT IS A BUILDER STILL, holding the same bytes: it can be written on. (LAID: no walk: one application.) -/
theorem Tryd.Builder_String_any_f (B b : Nat) (l : List UInt8) (w : World) (h : Lib.IsBuilderF 74 5 B b (Lib.byteCells l) w) (hBw : B ≤ w.heap.size) :
    Calls Tryd.prog 39 #[.pointer (some ⟨b, 0, none⟩)] w fun e w' => e = .returned (.string ⟨l.toArray⟩) ∧ (Lib.IsBuilderF 74 5 B b (Lib.byteCells l) w' ∧ Below B w w') := Any.Builder_String_any_f Tryd.lays169 Tryd.Builder_Extra_169 B b l w h hBw
open Go.RowKit in
/-- (*strings.Builder).String: "String returns the accumulated string.": OF A BUILDER THAT HOLDS AT LEAST ONE BYTE. ✋ THE MODEL FREEZES THOSE BYTES IN THE BUFFER (unsafe.String): a later write INTO them ends the model's run without an answer; a later append BEHIND them goes on. The statement's order of evaluation is drawn: one draw. THE FORM '_k': OVER 'Lib.IsBuilderF' (a builder that 'String()' may have read), AND WITH THE FRAME THAT REACHES ABOVE THE BUILDER: 'Lib.OthersKept': every block that is not b and is no row of uint8's stands as it stood: the iterator of a range among them. (LAID: no walk: one application.) -/
theorem Tryd.Builder_String_k (B b : Nat) (l : List UInt8) (w : World) (h : Lib.IsBuilderF 74 5 B b (Lib.byteCells l) w) (h0 : l ≠ []) :
    Calls Tryd.prog 39 #[.pointer (some ⟨b, 0, none⟩)] w fun e w' => e = .returned (.string ⟨l.toArray⟩) ∧ (Lib.IsBuilderF 74 5 B b (Lib.byteCells l) w' ∧ Below B w w' ∧ Lib.OthersKept 5 (some b) w w') := Any.Builder_String_k Tryd.lays169 Tryd.Builder_Extra_169 B b l w h h0
open Go.RowKit in
/-- (*strings.Builder).String OF A BUILDER THAT HOLDS NO BYTE: the empty string; THE FORM '_k': OVER 'Lib.IsBuilderF' (a builder that 'String()' may have read), AND WITH THE FRAME THAT REACHES ABOVE THE BUILDER: 'Lib.OthersKept': every block that is not b and is no row of uint8's stands as it stood: the iterator of a range among them. (LAID: no walk: one application.) -/
theorem Tryd.Builder_String_empty_k (B b : Nat) (w : World) (h : Lib.IsBuilderF 74 5 B b [] w) (hBw : B ≤ w.heap.size) :
    Calls Tryd.prog 39 #[.pointer (some ⟨b, 0, none⟩)] w fun e w' => e = .returned (.string ⟨#[]⟩) ∧ (Lib.IsBuilderF 74 5 B b [] w' ∧ Below B w w' ∧ Lib.OthersKept 5 (some b) w w') := Any.Builder_String_empty_k Tryd.lays169 Tryd.Builder_Extra_169 B b w h hBw
open Go.RowKit in
/-- (*strings.Builder).String: "String returns the accumulated string.": WHATEVER THE BUILDER HOLDS; THE FORM '_k': OVER 'Lib.IsBuilderF' (a builder that 'String()' may have read), AND WITH THE FRAME THAT REACHES ABOVE THE BUILDER: 'Lib.OthersKept': every block that is not b and is no row of uint8's stands as it stood: the iterator of a range among them. (LAID: no walk: one application.) -/
theorem Tryd.Builder_String_any_k (B b : Nat) (l : List UInt8) (w : World) (h : Lib.IsBuilderF 74 5 B b (Lib.byteCells l) w) (hBw : B ≤ w.heap.size) :
    Calls Tryd.prog 39 #[.pointer (some ⟨b, 0, none⟩)] w fun e w' => e = .returned (.string ⟨l.toArray⟩) ∧ (Lib.IsBuilderF 74 5 B b (Lib.byteCells l) w' ∧ Below B w w' ∧ Lib.OthersKept 5 (some b) w w') := Any.Builder_String_any_k Tryd.lays169 Tryd.Builder_Extra_169 B b l w h hBw
open Go.RowKit in
/-- (*strings.Builder).grow (no doc but "grow copies the buffer to a new, larger buffer so that there are at least n bytes of capacity beyond len(b.buf)."): AT A BUILDER WITHOUT A BUFFER: a new row of whatever bytes for its buffer, none of them its own yet. Three draws. (LAID: no walk: one application.) -/
theorem Tryd.Builder_grow_fresh_cap (B b n : Nat) (w : World) (hB : B ≤ b) (hbk : w.heap[b]? = some (.cells #[.pointer (some ⟨b, 0, none⟩), .slice none 0 0] 74 (0, 0))) (hBw : B ≤ w.heap.size) (hn : n ≤ 281474976710656) :
    Calls Tryd.prog 71 #[.pointer (some ⟨b, 0, none⟩), .int .i64 n] w fun e w' => e = .returned (.tuple #[]) ∧ (Lib.BuilderAt 74 5 B b (.pointer (some ⟨b, 0, none⟩)) [] w' ∧ Below B w w') ∧ ∃ p cap, w'.cell? ⟨b, 1, none⟩ = some (.slice p 0 cap) ∧ n ≤ cap := Any.Builder_grow_fresh_cap Tryd.lays241 Tryd.Builder_Extra_241 B b n w hB hbk hBw hn
open Go.RowKit in
/-- (*strings.Builder).Grow AT A BUILDER THAT HAS NOT BEEN WRITTEN ('var b strings.Builder; b.Grow(n)'): "Grow grows b's capacity, if necessary, to guarantee space for another n bytes.": it holds no byte behind it as before it. (LAID: no walk: one application.) -/
theorem Tryd.Builder_Grow_fresh_cap (B b n : Nat) (w : World) (hB : B ≤ b) (hbk : w.heap[b]? = some (.cells #[.pointer none, .slice none 0 0] 74 (0, 0))) (hBw : B ≤ w.heap.size) (hn : n ≤ 281474976710656) :
    Calls Tryd.prog 52 #[.pointer (some ⟨b, 0, none⟩), .int .i64 n] w fun e w' => e = .returned (.tuple #[]) ∧ (Lib.BuilderAt 74 5 B b (.pointer (some ⟨b, 0, none⟩)) [] w' ∧ Below B w w') ∧ ∃ p cap, w'.cell? ⟨b, 1, none⟩ = some (.slice p 0 cap) ∧ n ≤ cap := Any.Builder_Grow_fresh_cap Tryd.lays165 Tryd.Builder_Extra_165 B b n w hB hbk hBw hn
def Tryd.lays129_ren : Go.Shelf.Ren := ⟨fun | 129 => 78 | n => n, fun | 53 => 58 | 3 => 3 | 4 => 4 | 46 => 69 | 5 => 5 | 9 => 9 | n => n, fun | n => n⟩
theorem Tryd.lays129 : Go.Proofs.Lays.n129 Tryd.prog Tryd.lays129_ren := {
  mixed := by kernel_rfl
  f129 := Tryd.func78.trans (congrArg some (by kernel_rfl))
  t3 := Tryd.underlying3
  a3 := Tryd.isAgg3
  z3 := Tryd.sizeOf3
  v3 := Tryd.zeroValue3
  t4 := Tryd.underlying4
  a4 := Tryd.isAgg4
  z4 := Tryd.sizeOf4
  v4 := Tryd.zeroValue4
  t5 := Tryd.underlying5
  a5 := Tryd.isAgg5
  z5 := Tryd.sizeOf5
  v5 := Tryd.zeroValue5
  t9 := Tryd.underlying9
  a9 := Tryd.isAgg9
  z9 := Tryd.sizeOf9
  v9 := Tryd.zeroValue9
  t46 := Tryd.underlying69
  a46 := Tryd.isAgg69
  z46 := Tryd.sizeOf69
  v46 := Tryd.zeroValue69
  t53 := Tryd.underlying58
  a53 := Tryd.isAgg58
  z53 := Tryd.sizeOf58
  v53 := Tryd.zeroValue58 }
/-- bits.Len64: "Len64 returns the minimum number of bits required to represent x; the result is 0 for x == 0.": IT RETURNS 'Lib.bitLen x'; the world is as it was. ('h0', 'h1': x is a uint64.) (LAID: no walk: one application.) -/
theorem Tryd.bits_Len64 (x : Int) (w : World) (h0 : 0 ≤ x) (h1 : x ≤ 18446744073709551615) :
    Calls Tryd.prog 78 #[.int .u64 x] w fun e w' => e = .returned (.int .i64 (Lib.bitLen x.toNat)) ∧ w' = w := Any.bits_Len64 Tryd.lays129 x w h0 h1
def Tryd.lays317_ren : Go.Shelf.Ren := ⟨fun | 317 => 77 | n => n, fun | 3 => 3 | 46 => 69 | n => n, fun | n => n⟩
theorem Tryd.lays317 : Go.Proofs.Lays.n317 Tryd.prog Tryd.lays317_ren := {
  mixed := by kernel_rfl
  f317 := Tryd.func77.trans (congrArg some (by kernel_rfl))
  t3 := Tryd.underlying3
  a3 := Tryd.isAgg3
  z3 := Tryd.sizeOf3
  v3 := Tryd.zeroValue3
  t46 := Tryd.underlying69
  a46 := Tryd.isAgg69
  z46 := Tryd.sizeOf69
  v46 := Tryd.zeroValue69 }
open Go.Lib in
/-- internal/strconv.log10Pow2: "log10Pow2(x) returns ⌊log₁₀ 2**x⌋ = ⌊x * log₁₀ 2⌋.": '(x * 78913) >> 18', at an x up to 64 (a length in bits). The world is as it was. (LAID: no walk: one application.) -/
theorem Tryd.internal_strconv_log10Pow2 (x : Nat) (h : x ≤ 64) (w : World) :
    Calls Tryd.prog 77 #[.int .i64 x] w fun e w' => e = .returned (.int .i64 (Lib.l10 x)) ∧ w' = w := Any.internal_strconv_log10Pow2 Tryd.lays317 x h w
def Tryd.lays318_ren : Go.Shelf.Ren := ⟨fun | 318 => 79 | n => n, fun | 3 => 3 | 4 => 4 | n => n, fun | n => n⟩
theorem Tryd.lays318 : Go.Proofs.Lays.n318 Tryd.prog Tryd.lays318_ren := {
  mixed := by kernel_rfl
  f318 := Tryd.func79.trans (congrArg some (by kernel_rfl))
  t3 := Tryd.underlying3
  a3 := Tryd.isAgg3
  z3 := Tryd.sizeOf3
  v3 := Tryd.zeroValue3
  t4 := Tryd.underlying4
  a4 := Tryd.isAgg4
  z4 := Tryd.sizeOf4
  v4 := Tryd.zeroValue4 }
open Go.Lib in
/-- internal/strconv.bool2: "bool2 converts b to an integer: 1 for true, 0 for false." The world is as it was. (LAID: no walk: one application.) -/
theorem Tryd.internal_strconv_bool2_int (b : Bool) (w : World) :
    Calls Tryd.prog 79 #[.bool b] w fun e w' => e = .returned (.int .i64 (if b then 1 else 0)) ∧ w' = w := Any.internal_strconv_bool2_int Tryd.lays318 b w
def Tryd.lays283_ren : Go.Shelf.Ren := ⟨fun | 283 => 67 | n => n, fun | 3 => 3 | 9 => 9 | 4 => 4 | n => n, fun | n => n⟩
theorem Tryd.lays283 : Go.Proofs.Lays.n283 Tryd.prog Tryd.lays283_ren := {
  mixed := by kernel_rfl
  f283 := Tryd.func67.trans (congrArg some (by kernel_rfl))
  t3 := Tryd.underlying3
  a3 := Tryd.isAgg3
  z3 := Tryd.sizeOf3
  v3 := Tryd.zeroValue3
  t4 := Tryd.underlying4
  a4 := Tryd.isAgg4
  z4 := Tryd.sizeOf4
  v4 := Tryd.zeroValue4
  t9 := Tryd.underlying9
  a9 := Tryd.isAgg9
  z9 := Tryd.sizeOf9
  v9 := Tryd.zeroValue9 }
open Go.Lib in
/-- internal/strconv.small: "small returns the string for an i with 0 <= i < nSmalls.": i's decimal numeral. The world is as it was. (LAID: no walk: one application.) -/
theorem Tryd.internal_strconv_small (i : Nat) (h : i < 100) (w : World) :
    Calls Tryd.prog 67 #[.int .i64 i] w fun e w' => e = .returned (.string ⟨(Lib.decDigits i).toArray⟩) ∧ w' = w := Any.internal_strconv_small Tryd.lays283 i h w
def Tryd.laysM284_ren : Go.Shelf.Ren := ⟨fun | 284 => 68 | 129 => 78 | 317 => 77 | 318 => 79 | n => n, fun | 53 => 58 | 3 => 3 | 212 => 124 | 0 => 0 | 4 => 4 | 46 => 69 | 5 => 5 | 9 => 9 | n => n, fun | 17 => 2 | n => n⟩
theorem Tryd.laysM284 : Go.Proofs.LaysM.n284 Tryd.prog Tryd.laysM284_ren := {
  mixed := by kernel_rfl
  f129 := Tryd.func78.trans (congrArg some (by kernel_rfl))
  f284 := Tryd.func68.trans (congrArg some (by kernel_rfl))
  f317 := Tryd.func77.trans (congrArg some (by kernel_rfl))
  f318 := Tryd.func79.trans (congrArg some (by kernel_rfl))
  t0 := Tryd.underlying0
  a0 := Tryd.isAgg0
  z0 := Tryd.sizeOf0
  v0 := Tryd.zeroValue0
  t3 := Tryd.underlying3
  a3 := Tryd.isAgg3
  z3 := Tryd.sizeOf3
  v3 := Tryd.zeroValue3
  t4 := Tryd.underlying4
  a4 := Tryd.isAgg4
  z4 := Tryd.sizeOf4
  v4 := Tryd.zeroValue4
  t5 := Tryd.underlying5
  a5 := Tryd.isAgg5
  z5 := Tryd.sizeOf5
  v5 := Tryd.zeroValue5
  t9 := Tryd.underlying9
  a9 := Tryd.isAgg9
  z9 := Tryd.sizeOf9
  v9 := Tryd.zeroValue9
  t46 := Tryd.underlying69
  a46 := Tryd.isAgg69
  z46 := Tryd.sizeOf69
  v46 := Tryd.zeroValue69
  t53 := Tryd.underlying58
  a53 := Tryd.isAgg58
  z53 := Tryd.sizeOf58
  v53 := Tryd.zeroValue58
  t212 := Tryd.underlying124
  a212 := Tryd.isAgg124
  z212 := Tryd.sizeOf124
  v212 := Tryd.zeroValue124
  g17 := by kernel_rfl
  i0 := by kernel_rfl
  i3 := by kernel_rfl
  i4 := by kernel_rfl
  i5 := by kernel_rfl
  i9 := by kernel_rfl
  i46 := by kernel_rfl
  i53 := by kernel_rfl
  i212 := by kernel_rfl
  m17 := by kernel_rfl }
open Go.Lib in
/-- internal/strconv.numDigits, at a d that is not 0: THE NUMBER OF d's DECIMAL DIGITS. The world is as it was. (LAID: no walk: one application.) -/
theorem Tryd.internal_strconv_numDigits (u : Nat) (h1 : 1 ≤ u) (h2 : u < 18446744073709551616) (w : World) (htab : Lib.TabIs Tryd.prog w "internal/strconv.uint64pow10" .u64 Lib.pow10Tab) :
    Calls Tryd.prog 68 #[.int .u64 u] w fun e w' => e = .returned (.int .i64 (Lib.nDigits u)) ∧ w' = w := Any.internal_strconv_numDigits Tryd.laysM284 u h1 h2 w htab
def Tryd.lays285_ren : Go.Shelf.Ren := ⟨fun | 285 => 69 | n => n, fun | 37 => 72 | 53 => 58 | 3 => 3 | 4 => 4 | 51 => 22 | 9 => 9 | 5 => 5 | 0 => 0 | n => n, fun | n => n⟩
theorem Tryd.lays285 : Go.Proofs.Lays.n285 Tryd.prog Tryd.lays285_ren := {
  mixed := by kernel_rfl
  f285 := Tryd.func69.trans (congrArg some (by kernel_rfl))
  t0 := Tryd.underlying0
  a0 := Tryd.isAgg0
  z0 := Tryd.sizeOf0
  v0 := Tryd.zeroValue0
  t3 := Tryd.underlying3
  a3 := Tryd.isAgg3
  z3 := Tryd.sizeOf3
  v3 := Tryd.zeroValue3
  t4 := Tryd.underlying4
  a4 := Tryd.isAgg4
  z4 := Tryd.sizeOf4
  v4 := Tryd.zeroValue4
  t5 := Tryd.underlying5
  a5 := Tryd.isAgg5
  z5 := Tryd.sizeOf5
  v5 := Tryd.zeroValue5
  t9 := Tryd.underlying9
  a9 := Tryd.isAgg9
  z9 := Tryd.sizeOf9
  v9 := Tryd.zeroValue9
  t37 := Tryd.underlying72
  a37 := Tryd.isAgg72
  z37 := Tryd.sizeOf72
  v37 := Tryd.zeroValue72
  t51 := Tryd.underlying22
  a51 := Tryd.isAgg22
  z51 := Tryd.sizeOf22
  v51 := Tryd.zeroValue22
  t53 := Tryd.underlying58
  a53 := Tryd.isAgg58
  z53 := Tryd.sizeOf58
  v53 := Tryd.zeroValue58 }
open Go.RowKit Go.Sort Go.Lib in
/-- internal/strconv.formatBase10: "formatBase10 formats the decimal representation of u into a. The caller is responsible for ensuring that a is big enough to hold u. If a is too big, leading zeros will be filled in as needed.": THE ROW HOLDS u's DIGITS ('FmtInv .. 0 ..': every place t holds 'dg u (len - 1 - t)'); all else is as it was but for the count of draws. (LAID: no walk: one application.) -/
theorem Tryd.internal_strconv_formatBase10 (blk off cap : Nat) (u : Nat) (d : Array UInt8) (w : World) (hH : Holds (fun (b : UInt8) => Value.int .u8 (b.toNat : Int)) w blk off d) (hu : u < 10 ^ d.size) (hu64 : u < 18446744073709551616) (hsz : d.size < 4611686018427387904) :
    Calls Tryd.prog 69 #[.slice (some ⟨blk, off, none⟩) d.size cap, .int .u64 u] w fun e w' =>
      e = .returned (.tuple #[]) ∧ ∃ (n v' : Nat) (dk : Array UInt8), w' = (putRow (fun (b : UInt8) => Value.int .u8 (b.toNat : Int)) w blk off dk).drewN n ∧ FmtInv d.size u 0 v' dk := Any.internal_strconv_formatBase10 Tryd.lays285 blk off cap u d w hH hu hu64 hsz
def Tryd.laysM246_ren : Go.Shelf.Ren := ⟨fun | 246 => 51 | 283 => 67 | 284 => 68 | 285 => 69 | 286 => 70 | 129 => 78 | 317 => 77 | 318 => 79 | 319 => 80 | 320 => 81 | 337 => 83 | 338 => 84 | n => n, fun | 2 => 2 | 3 => 3 | 9 => 9 | 4 => 4 | 171 => 104 | 0 => 0 | 53 => 58 | 37 => 72 | 5 => 5 | 173 => 107 | 212 => 124 | 51 => 22 | 20 => 20 | 213 => 125 | 46 => 69 | 232 => 132 | 233 => 133 | n => n, fun | 17 => 2 | 18 => 4 | 19 => 5 | n => n⟩
theorem Tryd.laysM246 : Go.Proofs.LaysM.n246 Tryd.prog Tryd.laysM246_ren := {
  mixed := by kernel_rfl
  f129 := Tryd.func78.trans (congrArg some (by kernel_rfl))
  f246 := Tryd.func51.trans (congrArg some (by kernel_rfl))
  f283 := Tryd.func67.trans (congrArg some (by kernel_rfl))
  f284 := Tryd.func68.trans (congrArg some (by kernel_rfl))
  f285 := Tryd.func69.trans (congrArg some (by kernel_rfl))
  f286 := Tryd.func70.trans (congrArg some (by kernel_rfl))
  f317 := Tryd.func77.trans (congrArg some (by kernel_rfl))
  f318 := Tryd.func79.trans (congrArg some (by kernel_rfl))
  f319 := Tryd.func80.trans (congrArg some (by kernel_rfl))
  f320 := Tryd.func81.trans (congrArg some (by kernel_rfl))
  f337 := Tryd.func83.trans (congrArg some (by kernel_rfl))
  f338 := Tryd.func84.trans (congrArg some (by kernel_rfl))
  t0 := Tryd.underlying0
  a0 := Tryd.isAgg0
  z0 := Tryd.sizeOf0
  v0 := Tryd.zeroValue0
  t2 := Tryd.underlying2
  a2 := Tryd.isAgg2
  z2 := Tryd.sizeOf2
  v2 := Tryd.zeroValue2
  t3 := Tryd.underlying3
  a3 := Tryd.isAgg3
  z3 := Tryd.sizeOf3
  v3 := Tryd.zeroValue3
  t4 := Tryd.underlying4
  a4 := Tryd.isAgg4
  z4 := Tryd.sizeOf4
  v4 := Tryd.zeroValue4
  t5 := Tryd.underlying5
  a5 := Tryd.isAgg5
  z5 := Tryd.sizeOf5
  v5 := Tryd.zeroValue5
  t9 := Tryd.underlying9
  a9 := Tryd.isAgg9
  z9 := Tryd.sizeOf9
  v9 := Tryd.zeroValue9
  t20 := Tryd.underlying20
  a20 := Tryd.isAgg20
  z20 := Tryd.sizeOf20
  v20 := Tryd.zeroValue20
  t37 := Tryd.underlying72
  a37 := Tryd.isAgg72
  z37 := Tryd.sizeOf72
  v37 := Tryd.zeroValue72
  t46 := Tryd.underlying69
  a46 := Tryd.isAgg69
  z46 := Tryd.sizeOf69
  v46 := Tryd.zeroValue69
  t51 := Tryd.underlying22
  a51 := Tryd.isAgg22
  z51 := Tryd.sizeOf22
  v51 := Tryd.zeroValue22
  t53 := Tryd.underlying58
  a53 := Tryd.isAgg58
  z53 := Tryd.sizeOf58
  v53 := Tryd.zeroValue58
  t171 := Tryd.underlying104
  a171 := Tryd.isAgg104
  z171 := Tryd.sizeOf104
  v171 := Tryd.zeroValue104
  t173 := Tryd.underlying107
  a173 := Tryd.isAgg107
  z173 := Tryd.sizeOf107
  v173 := Tryd.zeroValue107
  t212 := Tryd.underlying124
  a212 := Tryd.isAgg124
  z212 := Tryd.sizeOf124
  v212 := Tryd.zeroValue124
  t213 := Tryd.underlying125
  a213 := Tryd.isAgg125
  z213 := Tryd.sizeOf125
  t232 := Tryd.underlying132
  a232 := Tryd.isAgg132
  z232 := Tryd.sizeOf132
  v232 := Tryd.zeroValue132
  t233 := Tryd.underlying133
  a233 := Tryd.isAgg133
  z233 := Tryd.sizeOf133
  v233 := Tryd.zeroValue133
  g17 := by kernel_rfl
  g18 := by kernel_rfl
  g19 := by kernel_rfl
  i0 := by kernel_rfl
  i2 := by kernel_rfl
  i3 := by kernel_rfl
  i4 := by kernel_rfl
  i5 := by kernel_rfl
  i9 := by kernel_rfl
  i20 := by kernel_rfl
  i37 := by kernel_rfl
  i46 := by kernel_rfl
  i51 := by kernel_rfl
  i53 := by kernel_rfl
  i171 := by kernel_rfl
  i173 := by kernel_rfl
  i212 := by kernel_rfl
  i232 := by kernel_rfl
  i233 := by kernel_rfl
  m17 := by kernel_rfl
  m18 := by kernel_rfl
  m19 := by kernel_rfl }
open Go.RowKit Go.Sort Go.Lib in
/-- internal/strconv.FormatInt: "FormatInt returns the string representation of i in the given base": AT BASE 10: i's decimal numeral, for every int64. The world behind the call: the world before it, new blocks behind the heap, draws. (LAID: no walk: one application.) -/
theorem Tryd.internal_strconv_FormatInt_10 (n : Int) (h0 : -9223372036854775808 ≤ n) (h1 : n ≤ 9223372036854775807) (w : World) (htab : Lib.TabIs Tryd.prog w "internal/strconv.uint64pow10" .u64 Lib.pow10Tab) :
    Calls Tryd.prog 51 #[.int .i64 n, .int .i64 10] w fun e w' => e = .returned (.string ⟨(Lib.itoa n).toArray⟩) ∧ ∃ k os, w' = grow (w.drewN k) os := Any.internal_strconv_FormatInt_10 Tryd.laysM246 n h0 h1 w htab
def Tryd.lays246_ren : Go.Shelf.Ren := ⟨fun | 246 => 51 | 283 => 67 | 284 => 68 | 285 => 69 | 286 => 70 | 129 => 78 | 317 => 77 | 318 => 79 | 319 => 80 | 320 => 81 | 337 => 83 | 338 => 84 | n => n, fun | 2 => 2 | 3 => 3 | 9 => 9 | 4 => 4 | 171 => 104 | 0 => 0 | 53 => 58 | 37 => 72 | 5 => 5 | 173 => 107 | 212 => 124 | 51 => 22 | 20 => 20 | 213 => 125 | 46 => 69 | 232 => 132 | 233 => 133 | n => n, fun | 17 => 2 | 18 => 4 | 19 => 5 | n => n⟩
theorem Tryd.lays246 : Go.Proofs.Lays.n246 Tryd.prog Tryd.lays246_ren := {
  mixed := by kernel_rfl
  f129 := Tryd.func78.trans (congrArg some (by kernel_rfl))
  f246 := Tryd.func51.trans (congrArg some (by kernel_rfl))
  f283 := Tryd.func67.trans (congrArg some (by kernel_rfl))
  f284 := Tryd.func68.trans (congrArg some (by kernel_rfl))
  f285 := Tryd.func69.trans (congrArg some (by kernel_rfl))
  f286 := Tryd.func70.trans (congrArg some (by kernel_rfl))
  f317 := Tryd.func77.trans (congrArg some (by kernel_rfl))
  f318 := Tryd.func79.trans (congrArg some (by kernel_rfl))
  f319 := Tryd.func80.trans (congrArg some (by kernel_rfl))
  f320 := Tryd.func81.trans (congrArg some (by kernel_rfl))
  f337 := Tryd.func83.trans (congrArg some (by kernel_rfl))
  f338 := Tryd.func84.trans (congrArg some (by kernel_rfl))
  t0 := Tryd.underlying0
  a0 := Tryd.isAgg0
  z0 := Tryd.sizeOf0
  v0 := Tryd.zeroValue0
  t2 := Tryd.underlying2
  a2 := Tryd.isAgg2
  z2 := Tryd.sizeOf2
  v2 := Tryd.zeroValue2
  t3 := Tryd.underlying3
  a3 := Tryd.isAgg3
  z3 := Tryd.sizeOf3
  v3 := Tryd.zeroValue3
  t4 := Tryd.underlying4
  a4 := Tryd.isAgg4
  z4 := Tryd.sizeOf4
  v4 := Tryd.zeroValue4
  t5 := Tryd.underlying5
  a5 := Tryd.isAgg5
  z5 := Tryd.sizeOf5
  v5 := Tryd.zeroValue5
  t9 := Tryd.underlying9
  a9 := Tryd.isAgg9
  z9 := Tryd.sizeOf9
  v9 := Tryd.zeroValue9
  t20 := Tryd.underlying20
  a20 := Tryd.isAgg20
  z20 := Tryd.sizeOf20
  v20 := Tryd.zeroValue20
  t37 := Tryd.underlying72
  a37 := Tryd.isAgg72
  z37 := Tryd.sizeOf72
  v37 := Tryd.zeroValue72
  t46 := Tryd.underlying69
  a46 := Tryd.isAgg69
  z46 := Tryd.sizeOf69
  v46 := Tryd.zeroValue69
  t51 := Tryd.underlying22
  a51 := Tryd.isAgg22
  z51 := Tryd.sizeOf22
  v51 := Tryd.zeroValue22
  t53 := Tryd.underlying58
  a53 := Tryd.isAgg58
  z53 := Tryd.sizeOf58
  v53 := Tryd.zeroValue58
  t171 := Tryd.underlying104
  a171 := Tryd.isAgg104
  z171 := Tryd.sizeOf104
  v171 := Tryd.zeroValue104
  t173 := Tryd.underlying107
  a173 := Tryd.isAgg107
  z173 := Tryd.sizeOf107
  v173 := Tryd.zeroValue107
  t212 := Tryd.underlying124
  a212 := Tryd.isAgg124
  z212 := Tryd.sizeOf124
  v212 := Tryd.zeroValue124
  t213 := Tryd.underlying125
  a213 := Tryd.isAgg125
  z213 := Tryd.sizeOf125
  t232 := Tryd.underlying132
  a232 := Tryd.isAgg132
  z232 := Tryd.sizeOf132
  v232 := Tryd.zeroValue132
  t233 := Tryd.underlying133
  a233 := Tryd.isAgg133
  z233 := Tryd.sizeOf133
  v233 := Tryd.zeroValue133
  g17 := by kernel_rfl
  g18 := by kernel_rfl
  g19 := by kernel_rfl }
open Go.RowKit Go.Sort Go.Lib in
/-- THE ROAD WITHOUT THE TABLE: 0 <= i < 100: two constants are read, nothing is laid: no premise on the world, and the world is as it was. (LAID: no walk: one application.) -/
theorem Tryd.internal_strconv_FormatInt_10_small (i : Nat) (hi : i < 100) (w : World) :
    Calls Tryd.prog 51 #[.int .i64 i, .int .i64 10] w fun e w' => e = .returned (.string ⟨(Lib.decDigits i).toArray⟩) ∧ w' = w := Any.internal_strconv_FormatInt_10_small Tryd.lays246 i hi w
def Tryd.laysM243_ren : Go.Shelf.Ren := ⟨fun | 243 => 50 | 246 => 51 | 283 => 67 | 284 => 68 | 285 => 69 | 286 => 70 | 129 => 78 | 317 => 77 | 318 => 79 | 319 => 80 | 320 => 81 | 337 => 83 | 338 => 84 | n => n, fun | 3 => 3 | 9 => 9 | 2 => 2 | 4 => 4 | 171 => 104 | 0 => 0 | 53 => 58 | 37 => 72 | 5 => 5 | 173 => 107 | 212 => 124 | 51 => 22 | 20 => 20 | 213 => 125 | 46 => 69 | 232 => 132 | 233 => 133 | n => n, fun | 17 => 2 | 18 => 4 | 19 => 5 | n => n⟩
theorem Tryd.laysM243 : Go.Proofs.LaysM.n243 Tryd.prog Tryd.laysM243_ren := {
  mixed := by kernel_rfl
  f129 := Tryd.func78.trans (congrArg some (by kernel_rfl))
  f243 := Tryd.func50.trans (congrArg some (by kernel_rfl))
  f246 := Tryd.func51.trans (congrArg some (by kernel_rfl))
  f283 := Tryd.func67.trans (congrArg some (by kernel_rfl))
  f284 := Tryd.func68.trans (congrArg some (by kernel_rfl))
  f285 := Tryd.func69.trans (congrArg some (by kernel_rfl))
  f286 := Tryd.func70.trans (congrArg some (by kernel_rfl))
  f317 := Tryd.func77.trans (congrArg some (by kernel_rfl))
  f318 := Tryd.func79.trans (congrArg some (by kernel_rfl))
  f319 := Tryd.func80.trans (congrArg some (by kernel_rfl))
  f320 := Tryd.func81.trans (congrArg some (by kernel_rfl))
  f337 := Tryd.func83.trans (congrArg some (by kernel_rfl))
  f338 := Tryd.func84.trans (congrArg some (by kernel_rfl))
  t0 := Tryd.underlying0
  a0 := Tryd.isAgg0
  z0 := Tryd.sizeOf0
  v0 := Tryd.zeroValue0
  t2 := Tryd.underlying2
  a2 := Tryd.isAgg2
  z2 := Tryd.sizeOf2
  v2 := Tryd.zeroValue2
  t3 := Tryd.underlying3
  a3 := Tryd.isAgg3
  z3 := Tryd.sizeOf3
  v3 := Tryd.zeroValue3
  t4 := Tryd.underlying4
  a4 := Tryd.isAgg4
  z4 := Tryd.sizeOf4
  v4 := Tryd.zeroValue4
  t5 := Tryd.underlying5
  a5 := Tryd.isAgg5
  z5 := Tryd.sizeOf5
  v5 := Tryd.zeroValue5
  t9 := Tryd.underlying9
  a9 := Tryd.isAgg9
  z9 := Tryd.sizeOf9
  v9 := Tryd.zeroValue9
  t20 := Tryd.underlying20
  a20 := Tryd.isAgg20
  z20 := Tryd.sizeOf20
  v20 := Tryd.zeroValue20
  t37 := Tryd.underlying72
  a37 := Tryd.isAgg72
  z37 := Tryd.sizeOf72
  v37 := Tryd.zeroValue72
  t46 := Tryd.underlying69
  a46 := Tryd.isAgg69
  z46 := Tryd.sizeOf69
  v46 := Tryd.zeroValue69
  t51 := Tryd.underlying22
  a51 := Tryd.isAgg22
  z51 := Tryd.sizeOf22
  v51 := Tryd.zeroValue22
  t53 := Tryd.underlying58
  a53 := Tryd.isAgg58
  z53 := Tryd.sizeOf58
  v53 := Tryd.zeroValue58
  t171 := Tryd.underlying104
  a171 := Tryd.isAgg104
  z171 := Tryd.sizeOf104
  v171 := Tryd.zeroValue104
  t173 := Tryd.underlying107
  a173 := Tryd.isAgg107
  z173 := Tryd.sizeOf107
  v173 := Tryd.zeroValue107
  t212 := Tryd.underlying124
  a212 := Tryd.isAgg124
  z212 := Tryd.sizeOf124
  v212 := Tryd.zeroValue124
  t213 := Tryd.underlying125
  a213 := Tryd.isAgg125
  z213 := Tryd.sizeOf125
  t232 := Tryd.underlying132
  a232 := Tryd.isAgg132
  z232 := Tryd.sizeOf132
  v232 := Tryd.zeroValue132
  t233 := Tryd.underlying133
  a233 := Tryd.isAgg133
  z233 := Tryd.sizeOf133
  v233 := Tryd.zeroValue133
  g17 := by kernel_rfl
  g18 := by kernel_rfl
  g19 := by kernel_rfl
  i0 := by kernel_rfl
  i2 := by kernel_rfl
  i3 := by kernel_rfl
  i4 := by kernel_rfl
  i5 := by kernel_rfl
  i9 := by kernel_rfl
  i20 := by kernel_rfl
  i37 := by kernel_rfl
  i46 := by kernel_rfl
  i51 := by kernel_rfl
  i53 := by kernel_rfl
  i171 := by kernel_rfl
  i173 := by kernel_rfl
  i212 := by kernel_rfl
  i232 := by kernel_rfl
  i233 := by kernel_rfl
  m17 := by kernel_rfl
  m18 := by kernel_rfl
  m19 := by kernel_rfl }
open Go.RowKit Go.Sort Go.Lib in
/-- internal/strconv.Itoa: "Itoa is equivalent to FormatInt(int64(i), 10).": i's decimal numeral, for every int. (LAID: no walk: one application.) -/
theorem Tryd.internal_strconv_Itoa (n : Int) (h0 : -9223372036854775808 ≤ n) (h1 : n ≤ 9223372036854775807) (w : World) (htab : Lib.TabIs Tryd.prog w "internal/strconv.uint64pow10" .u64 Lib.pow10Tab) :
    Calls Tryd.prog 50 #[.int .i64 n] w fun e w' => e = .returned (.string ⟨(Lib.itoa n).toArray⟩) ∧ ∃ k os, w' = grow (w.drewN k) os := Any.internal_strconv_Itoa Tryd.laysM243 n h0 h1 w htab
def Tryd.lays243_ren : Go.Shelf.Ren := ⟨fun | 243 => 50 | 246 => 51 | 283 => 67 | 284 => 68 | 285 => 69 | 286 => 70 | 129 => 78 | 317 => 77 | 318 => 79 | 319 => 80 | 320 => 81 | 337 => 83 | 338 => 84 | n => n, fun | 3 => 3 | 9 => 9 | 2 => 2 | 4 => 4 | 171 => 104 | 0 => 0 | 53 => 58 | 37 => 72 | 5 => 5 | 173 => 107 | 212 => 124 | 51 => 22 | 20 => 20 | 213 => 125 | 46 => 69 | 232 => 132 | 233 => 133 | n => n, fun | 17 => 2 | 18 => 4 | 19 => 5 | n => n⟩
theorem Tryd.lays243 : Go.Proofs.Lays.n243 Tryd.prog Tryd.lays243_ren := {
  mixed := by kernel_rfl
  f129 := Tryd.func78.trans (congrArg some (by kernel_rfl))
  f243 := Tryd.func50.trans (congrArg some (by kernel_rfl))
  f246 := Tryd.func51.trans (congrArg some (by kernel_rfl))
  f283 := Tryd.func67.trans (congrArg some (by kernel_rfl))
  f284 := Tryd.func68.trans (congrArg some (by kernel_rfl))
  f285 := Tryd.func69.trans (congrArg some (by kernel_rfl))
  f286 := Tryd.func70.trans (congrArg some (by kernel_rfl))
  f317 := Tryd.func77.trans (congrArg some (by kernel_rfl))
  f318 := Tryd.func79.trans (congrArg some (by kernel_rfl))
  f319 := Tryd.func80.trans (congrArg some (by kernel_rfl))
  f320 := Tryd.func81.trans (congrArg some (by kernel_rfl))
  f337 := Tryd.func83.trans (congrArg some (by kernel_rfl))
  f338 := Tryd.func84.trans (congrArg some (by kernel_rfl))
  t0 := Tryd.underlying0
  a0 := Tryd.isAgg0
  z0 := Tryd.sizeOf0
  v0 := Tryd.zeroValue0
  t2 := Tryd.underlying2
  a2 := Tryd.isAgg2
  z2 := Tryd.sizeOf2
  v2 := Tryd.zeroValue2
  t3 := Tryd.underlying3
  a3 := Tryd.isAgg3
  z3 := Tryd.sizeOf3
  v3 := Tryd.zeroValue3
  t4 := Tryd.underlying4
  a4 := Tryd.isAgg4
  z4 := Tryd.sizeOf4
  v4 := Tryd.zeroValue4
  t5 := Tryd.underlying5
  a5 := Tryd.isAgg5
  z5 := Tryd.sizeOf5
  v5 := Tryd.zeroValue5
  t9 := Tryd.underlying9
  a9 := Tryd.isAgg9
  z9 := Tryd.sizeOf9
  v9 := Tryd.zeroValue9
  t20 := Tryd.underlying20
  a20 := Tryd.isAgg20
  z20 := Tryd.sizeOf20
  v20 := Tryd.zeroValue20
  t37 := Tryd.underlying72
  a37 := Tryd.isAgg72
  z37 := Tryd.sizeOf72
  v37 := Tryd.zeroValue72
  t46 := Tryd.underlying69
  a46 := Tryd.isAgg69
  z46 := Tryd.sizeOf69
  v46 := Tryd.zeroValue69
  t51 := Tryd.underlying22
  a51 := Tryd.isAgg22
  z51 := Tryd.sizeOf22
  v51 := Tryd.zeroValue22
  t53 := Tryd.underlying58
  a53 := Tryd.isAgg58
  z53 := Tryd.sizeOf58
  v53 := Tryd.zeroValue58
  t171 := Tryd.underlying104
  a171 := Tryd.isAgg104
  z171 := Tryd.sizeOf104
  v171 := Tryd.zeroValue104
  t173 := Tryd.underlying107
  a173 := Tryd.isAgg107
  z173 := Tryd.sizeOf107
  v173 := Tryd.zeroValue107
  t212 := Tryd.underlying124
  a212 := Tryd.isAgg124
  z212 := Tryd.sizeOf124
  v212 := Tryd.zeroValue124
  t213 := Tryd.underlying125
  a213 := Tryd.isAgg125
  z213 := Tryd.sizeOf125
  t232 := Tryd.underlying132
  a232 := Tryd.isAgg132
  z232 := Tryd.sizeOf132
  v232 := Tryd.zeroValue132
  t233 := Tryd.underlying133
  a233 := Tryd.isAgg133
  z233 := Tryd.sizeOf133
  v233 := Tryd.zeroValue133
  g17 := by kernel_rfl
  g18 := by kernel_rfl
  g19 := by kernel_rfl }
open Go.RowKit Go.Sort Go.Lib in
/-- THE ROAD WITHOUT THE TABLE: 0 <= i < 100. (LAID: no walk: one application.) -/
theorem Tryd.internal_strconv_Itoa_small (i : Nat) (hi : i < 100) (w : World) :
    Calls Tryd.prog 50 #[.int .i64 i] w fun e w' => e = .returned (.string ⟨(Lib.decDigits i).toArray⟩) ∧ w' = w := Any.internal_strconv_Itoa_small Tryd.lays243 i hi w
def Tryd.laysM171_ren : Go.Shelf.Ren := ⟨fun | 171 => 23 | 243 => 50 | 246 => 51 | 283 => 67 | 284 => 68 | 285 => 69 | 286 => 70 | 129 => 78 | 317 => 77 | 318 => 79 | 319 => 80 | 320 => 81 | 337 => 83 | 338 => 84 | n => n, fun | 3 => 3 | 9 => 9 | 2 => 2 | 4 => 4 | 171 => 104 | 0 => 0 | 53 => 58 | 37 => 72 | 5 => 5 | 173 => 107 | 212 => 124 | 51 => 22 | 20 => 20 | 213 => 125 | 46 => 69 | 232 => 132 | 233 => 133 | n => n, fun | 17 => 2 | 18 => 4 | 19 => 5 | n => n⟩
theorem Tryd.laysM171 : Go.Proofs.LaysM.n171 Tryd.prog Tryd.laysM171_ren := {
  mixed := by kernel_rfl
  f129 := Tryd.func78.trans (congrArg some (by kernel_rfl))
  f171 := Tryd.func23.trans (congrArg some (by kernel_rfl))
  f243 := Tryd.func50.trans (congrArg some (by kernel_rfl))
  f246 := Tryd.func51.trans (congrArg some (by kernel_rfl))
  f283 := Tryd.func67.trans (congrArg some (by kernel_rfl))
  f284 := Tryd.func68.trans (congrArg some (by kernel_rfl))
  f285 := Tryd.func69.trans (congrArg some (by kernel_rfl))
  f286 := Tryd.func70.trans (congrArg some (by kernel_rfl))
  f317 := Tryd.func77.trans (congrArg some (by kernel_rfl))
  f318 := Tryd.func79.trans (congrArg some (by kernel_rfl))
  f319 := Tryd.func80.trans (congrArg some (by kernel_rfl))
  f320 := Tryd.func81.trans (congrArg some (by kernel_rfl))
  f337 := Tryd.func83.trans (congrArg some (by kernel_rfl))
  f338 := Tryd.func84.trans (congrArg some (by kernel_rfl))
  t0 := Tryd.underlying0
  a0 := Tryd.isAgg0
  z0 := Tryd.sizeOf0
  v0 := Tryd.zeroValue0
  t2 := Tryd.underlying2
  a2 := Tryd.isAgg2
  z2 := Tryd.sizeOf2
  v2 := Tryd.zeroValue2
  t3 := Tryd.underlying3
  a3 := Tryd.isAgg3
  z3 := Tryd.sizeOf3
  v3 := Tryd.zeroValue3
  t4 := Tryd.underlying4
  a4 := Tryd.isAgg4
  z4 := Tryd.sizeOf4
  v4 := Tryd.zeroValue4
  t5 := Tryd.underlying5
  a5 := Tryd.isAgg5
  z5 := Tryd.sizeOf5
  v5 := Tryd.zeroValue5
  t9 := Tryd.underlying9
  a9 := Tryd.isAgg9
  z9 := Tryd.sizeOf9
  v9 := Tryd.zeroValue9
  t20 := Tryd.underlying20
  a20 := Tryd.isAgg20
  z20 := Tryd.sizeOf20
  v20 := Tryd.zeroValue20
  t37 := Tryd.underlying72
  a37 := Tryd.isAgg72
  z37 := Tryd.sizeOf72
  v37 := Tryd.zeroValue72
  t46 := Tryd.underlying69
  a46 := Tryd.isAgg69
  z46 := Tryd.sizeOf69
  v46 := Tryd.zeroValue69
  t51 := Tryd.underlying22
  a51 := Tryd.isAgg22
  z51 := Tryd.sizeOf22
  v51 := Tryd.zeroValue22
  t53 := Tryd.underlying58
  a53 := Tryd.isAgg58
  z53 := Tryd.sizeOf58
  v53 := Tryd.zeroValue58
  t171 := Tryd.underlying104
  a171 := Tryd.isAgg104
  z171 := Tryd.sizeOf104
  v171 := Tryd.zeroValue104
  t173 := Tryd.underlying107
  a173 := Tryd.isAgg107
  z173 := Tryd.sizeOf107
  v173 := Tryd.zeroValue107
  t212 := Tryd.underlying124
  a212 := Tryd.isAgg124
  z212 := Tryd.sizeOf124
  v212 := Tryd.zeroValue124
  t213 := Tryd.underlying125
  a213 := Tryd.isAgg125
  z213 := Tryd.sizeOf125
  t232 := Tryd.underlying132
  a232 := Tryd.isAgg132
  z232 := Tryd.sizeOf132
  v232 := Tryd.zeroValue132
  t233 := Tryd.underlying133
  a233 := Tryd.isAgg133
  z233 := Tryd.sizeOf133
  v233 := Tryd.zeroValue133
  g17 := by kernel_rfl
  g18 := by kernel_rfl
  g19 := by kernel_rfl
  i0 := by kernel_rfl
  i2 := by kernel_rfl
  i3 := by kernel_rfl
  i4 := by kernel_rfl
  i5 := by kernel_rfl
  i9 := by kernel_rfl
  i20 := by kernel_rfl
  i37 := by kernel_rfl
  i46 := by kernel_rfl
  i51 := by kernel_rfl
  i53 := by kernel_rfl
  i171 := by kernel_rfl
  i173 := by kernel_rfl
  i212 := by kernel_rfl
  i232 := by kernel_rfl
  i233 := by kernel_rfl
  m17 := by kernel_rfl
  m18 := by kernel_rfl
  m19 := by kernel_rfl }
open Go.RowKit Go.Sort Go.Lib in
/-- strconv.Itoa: "Itoa is equivalent to FormatInt(int64(i), 10).": i's DECIMAL NUMERAL ('Lib.itoa': a '-' where i is negative, then the digits), FOR EVERY int. The world behind the call: the world before it, new blocks behind the heap (the library's 'var a [24]byte'), draws. (LAID: no walk: one application.) -/
theorem Tryd.strconv_Itoa (n : Int) (h0 : -9223372036854775808 ≤ n) (h1 : n ≤ 9223372036854775807) (w : World) (htab : Lib.TabIs Tryd.prog w "internal/strconv.uint64pow10" .u64 Lib.pow10Tab) :
    Calls Tryd.prog 23 #[.int .i64 n] w fun e w' => e = .returned (.string ⟨(Lib.itoa n).toArray⟩) ∧ ∃ k os, w' = grow (w.drewN k) os := Any.strconv_Itoa Tryd.laysM171 n h0 h1 w htab
def Tryd.lays171_ren : Go.Shelf.Ren := ⟨fun | 171 => 23 | 243 => 50 | 246 => 51 | 283 => 67 | 284 => 68 | 285 => 69 | 286 => 70 | 129 => 78 | 317 => 77 | 318 => 79 | 319 => 80 | 320 => 81 | 337 => 83 | 338 => 84 | n => n, fun | 3 => 3 | 9 => 9 | 2 => 2 | 4 => 4 | 171 => 104 | 0 => 0 | 53 => 58 | 37 => 72 | 5 => 5 | 173 => 107 | 212 => 124 | 51 => 22 | 20 => 20 | 213 => 125 | 46 => 69 | 232 => 132 | 233 => 133 | n => n, fun | 17 => 2 | 18 => 4 | 19 => 5 | n => n⟩
theorem Tryd.lays171 : Go.Proofs.Lays.n171 Tryd.prog Tryd.lays171_ren := {
  mixed := by kernel_rfl
  f129 := Tryd.func78.trans (congrArg some (by kernel_rfl))
  f171 := Tryd.func23.trans (congrArg some (by kernel_rfl))
  f243 := Tryd.func50.trans (congrArg some (by kernel_rfl))
  f246 := Tryd.func51.trans (congrArg some (by kernel_rfl))
  f283 := Tryd.func67.trans (congrArg some (by kernel_rfl))
  f284 := Tryd.func68.trans (congrArg some (by kernel_rfl))
  f285 := Tryd.func69.trans (congrArg some (by kernel_rfl))
  f286 := Tryd.func70.trans (congrArg some (by kernel_rfl))
  f317 := Tryd.func77.trans (congrArg some (by kernel_rfl))
  f318 := Tryd.func79.trans (congrArg some (by kernel_rfl))
  f319 := Tryd.func80.trans (congrArg some (by kernel_rfl))
  f320 := Tryd.func81.trans (congrArg some (by kernel_rfl))
  f337 := Tryd.func83.trans (congrArg some (by kernel_rfl))
  f338 := Tryd.func84.trans (congrArg some (by kernel_rfl))
  t0 := Tryd.underlying0
  a0 := Tryd.isAgg0
  z0 := Tryd.sizeOf0
  v0 := Tryd.zeroValue0
  t2 := Tryd.underlying2
  a2 := Tryd.isAgg2
  z2 := Tryd.sizeOf2
  v2 := Tryd.zeroValue2
  t3 := Tryd.underlying3
  a3 := Tryd.isAgg3
  z3 := Tryd.sizeOf3
  v3 := Tryd.zeroValue3
  t4 := Tryd.underlying4
  a4 := Tryd.isAgg4
  z4 := Tryd.sizeOf4
  v4 := Tryd.zeroValue4
  t5 := Tryd.underlying5
  a5 := Tryd.isAgg5
  z5 := Tryd.sizeOf5
  v5 := Tryd.zeroValue5
  t9 := Tryd.underlying9
  a9 := Tryd.isAgg9
  z9 := Tryd.sizeOf9
  v9 := Tryd.zeroValue9
  t20 := Tryd.underlying20
  a20 := Tryd.isAgg20
  z20 := Tryd.sizeOf20
  v20 := Tryd.zeroValue20
  t37 := Tryd.underlying72
  a37 := Tryd.isAgg72
  z37 := Tryd.sizeOf72
  v37 := Tryd.zeroValue72
  t46 := Tryd.underlying69
  a46 := Tryd.isAgg69
  z46 := Tryd.sizeOf69
  v46 := Tryd.zeroValue69
  t51 := Tryd.underlying22
  a51 := Tryd.isAgg22
  z51 := Tryd.sizeOf22
  v51 := Tryd.zeroValue22
  t53 := Tryd.underlying58
  a53 := Tryd.isAgg58
  z53 := Tryd.sizeOf58
  v53 := Tryd.zeroValue58
  t171 := Tryd.underlying104
  a171 := Tryd.isAgg104
  z171 := Tryd.sizeOf104
  v171 := Tryd.zeroValue104
  t173 := Tryd.underlying107
  a173 := Tryd.isAgg107
  z173 := Tryd.sizeOf107
  v173 := Tryd.zeroValue107
  t212 := Tryd.underlying124
  a212 := Tryd.isAgg124
  z212 := Tryd.sizeOf124
  v212 := Tryd.zeroValue124
  t213 := Tryd.underlying125
  a213 := Tryd.isAgg125
  z213 := Tryd.sizeOf125
  t232 := Tryd.underlying132
  a232 := Tryd.isAgg132
  z232 := Tryd.sizeOf132
  v232 := Tryd.zeroValue132
  t233 := Tryd.underlying133
  a233 := Tryd.isAgg133
  z233 := Tryd.sizeOf133
  v233 := Tryd.zeroValue133
  g17 := by kernel_rfl
  g18 := by kernel_rfl
  g19 := by kernel_rfl }
open Go.RowKit Go.Sort Go.Lib in
/-- THE ROAD WITHOUT THE TABLE: 0 <= i < 100: NO PREMISE ON THE WORLD, AND THE WORLD IS AS IT WAS: a row that keeps its argument in that range need list no table ('laid = []'). (LAID: no walk: one application.) -/
theorem Tryd.strconv_Itoa_small (i : Nat) (hi : i < 100) (w : World) :
    Calls Tryd.prog 23 #[.int .i64 i] w fun e w' => e = .returned (.string ⟨(Lib.decDigits i).toArray⟩) ∧ w' = w := Any.strconv_Itoa_small Tryd.lays171 i hi w
def Tryd.laysM173_ren : Go.Shelf.Ren := ⟨fun | 173 => 28 | 246 => 51 | 283 => 67 | 284 => 68 | 285 => 69 | 286 => 70 | 129 => 78 | 317 => 77 | 318 => 79 | 319 => 80 | 320 => 81 | 337 => 83 | 338 => 84 | n => n, fun | 2 => 2 | 3 => 3 | 9 => 9 | 4 => 4 | 171 => 104 | 0 => 0 | 53 => 58 | 37 => 72 | 5 => 5 | 173 => 107 | 212 => 124 | 51 => 22 | 20 => 20 | 213 => 125 | 46 => 69 | 232 => 132 | 233 => 133 | n => n, fun | 17 => 2 | 18 => 4 | 19 => 5 | n => n⟩
theorem Tryd.laysM173 : Go.Proofs.LaysM.n173 Tryd.prog Tryd.laysM173_ren := {
  mixed := by kernel_rfl
  f129 := Tryd.func78.trans (congrArg some (by kernel_rfl))
  f173 := Tryd.func28.trans (congrArg some (by kernel_rfl))
  f246 := Tryd.func51.trans (congrArg some (by kernel_rfl))
  f283 := Tryd.func67.trans (congrArg some (by kernel_rfl))
  f284 := Tryd.func68.trans (congrArg some (by kernel_rfl))
  f285 := Tryd.func69.trans (congrArg some (by kernel_rfl))
  f286 := Tryd.func70.trans (congrArg some (by kernel_rfl))
  f317 := Tryd.func77.trans (congrArg some (by kernel_rfl))
  f318 := Tryd.func79.trans (congrArg some (by kernel_rfl))
  f319 := Tryd.func80.trans (congrArg some (by kernel_rfl))
  f320 := Tryd.func81.trans (congrArg some (by kernel_rfl))
  f337 := Tryd.func83.trans (congrArg some (by kernel_rfl))
  f338 := Tryd.func84.trans (congrArg some (by kernel_rfl))
  t0 := Tryd.underlying0
  a0 := Tryd.isAgg0
  z0 := Tryd.sizeOf0
  v0 := Tryd.zeroValue0
  t2 := Tryd.underlying2
  a2 := Tryd.isAgg2
  z2 := Tryd.sizeOf2
  v2 := Tryd.zeroValue2
  t3 := Tryd.underlying3
  a3 := Tryd.isAgg3
  z3 := Tryd.sizeOf3
  v3 := Tryd.zeroValue3
  t4 := Tryd.underlying4
  a4 := Tryd.isAgg4
  z4 := Tryd.sizeOf4
  v4 := Tryd.zeroValue4
  t5 := Tryd.underlying5
  a5 := Tryd.isAgg5
  z5 := Tryd.sizeOf5
  v5 := Tryd.zeroValue5
  t9 := Tryd.underlying9
  a9 := Tryd.isAgg9
  z9 := Tryd.sizeOf9
  v9 := Tryd.zeroValue9
  t20 := Tryd.underlying20
  a20 := Tryd.isAgg20
  z20 := Tryd.sizeOf20
  v20 := Tryd.zeroValue20
  t37 := Tryd.underlying72
  a37 := Tryd.isAgg72
  z37 := Tryd.sizeOf72
  v37 := Tryd.zeroValue72
  t46 := Tryd.underlying69
  a46 := Tryd.isAgg69
  z46 := Tryd.sizeOf69
  v46 := Tryd.zeroValue69
  t51 := Tryd.underlying22
  a51 := Tryd.isAgg22
  z51 := Tryd.sizeOf22
  v51 := Tryd.zeroValue22
  t53 := Tryd.underlying58
  a53 := Tryd.isAgg58
  z53 := Tryd.sizeOf58
  v53 := Tryd.zeroValue58
  t171 := Tryd.underlying104
  a171 := Tryd.isAgg104
  z171 := Tryd.sizeOf104
  v171 := Tryd.zeroValue104
  t173 := Tryd.underlying107
  a173 := Tryd.isAgg107
  z173 := Tryd.sizeOf107
  v173 := Tryd.zeroValue107
  t212 := Tryd.underlying124
  a212 := Tryd.isAgg124
  z212 := Tryd.sizeOf124
  v212 := Tryd.zeroValue124
  t213 := Tryd.underlying125
  a213 := Tryd.isAgg125
  z213 := Tryd.sizeOf125
  t232 := Tryd.underlying132
  a232 := Tryd.isAgg132
  z232 := Tryd.sizeOf132
  v232 := Tryd.zeroValue132
  t233 := Tryd.underlying133
  a233 := Tryd.isAgg133
  z233 := Tryd.sizeOf133
  v233 := Tryd.zeroValue133
  g17 := by kernel_rfl
  g18 := by kernel_rfl
  g19 := by kernel_rfl
  i0 := by kernel_rfl
  i2 := by kernel_rfl
  i3 := by kernel_rfl
  i4 := by kernel_rfl
  i5 := by kernel_rfl
  i9 := by kernel_rfl
  i20 := by kernel_rfl
  i37 := by kernel_rfl
  i46 := by kernel_rfl
  i51 := by kernel_rfl
  i53 := by kernel_rfl
  i171 := by kernel_rfl
  i173 := by kernel_rfl
  i212 := by kernel_rfl
  i232 := by kernel_rfl
  i233 := by kernel_rfl
  m17 := by kernel_rfl
  m18 := by kernel_rfl
  m19 := by kernel_rfl }
open Go.RowKit Go.Sort Go.Lib in
/-- strconv.FormatInt: "FormatInt returns the string representation of i in the given base": AT BASE 10: i's decimal numeral, for every int64. (LAID: no walk: one application.) -/
theorem Tryd.strconv_FormatInt_10 (n : Int) (h0 : -9223372036854775808 ≤ n) (h1 : n ≤ 9223372036854775807) (w : World) (htab : Lib.TabIs Tryd.prog w "internal/strconv.uint64pow10" .u64 Lib.pow10Tab) :
    Calls Tryd.prog 28 #[.int .i64 n, .int .i64 10] w fun e w' => e = .returned (.string ⟨(Lib.itoa n).toArray⟩) ∧ ∃ k os, w' = grow (w.drewN k) os := Any.strconv_FormatInt_10 Tryd.laysM173 n h0 h1 w htab
def Tryd.lays173_ren : Go.Shelf.Ren := ⟨fun | 173 => 28 | 246 => 51 | 283 => 67 | 284 => 68 | 285 => 69 | 286 => 70 | 129 => 78 | 317 => 77 | 318 => 79 | 319 => 80 | 320 => 81 | 337 => 83 | 338 => 84 | n => n, fun | 2 => 2 | 3 => 3 | 9 => 9 | 4 => 4 | 171 => 104 | 0 => 0 | 53 => 58 | 37 => 72 | 5 => 5 | 173 => 107 | 212 => 124 | 51 => 22 | 20 => 20 | 213 => 125 | 46 => 69 | 232 => 132 | 233 => 133 | n => n, fun | 17 => 2 | 18 => 4 | 19 => 5 | n => n⟩
theorem Tryd.lays173 : Go.Proofs.Lays.n173 Tryd.prog Tryd.lays173_ren := {
  mixed := by kernel_rfl
  f129 := Tryd.func78.trans (congrArg some (by kernel_rfl))
  f173 := Tryd.func28.trans (congrArg some (by kernel_rfl))
  f246 := Tryd.func51.trans (congrArg some (by kernel_rfl))
  f283 := Tryd.func67.trans (congrArg some (by kernel_rfl))
  f284 := Tryd.func68.trans (congrArg some (by kernel_rfl))
  f285 := Tryd.func69.trans (congrArg some (by kernel_rfl))
  f286 := Tryd.func70.trans (congrArg some (by kernel_rfl))
  f317 := Tryd.func77.trans (congrArg some (by kernel_rfl))
  f318 := Tryd.func79.trans (congrArg some (by kernel_rfl))
  f319 := Tryd.func80.trans (congrArg some (by kernel_rfl))
  f320 := Tryd.func81.trans (congrArg some (by kernel_rfl))
  f337 := Tryd.func83.trans (congrArg some (by kernel_rfl))
  f338 := Tryd.func84.trans (congrArg some (by kernel_rfl))
  t0 := Tryd.underlying0
  a0 := Tryd.isAgg0
  z0 := Tryd.sizeOf0
  v0 := Tryd.zeroValue0
  t2 := Tryd.underlying2
  a2 := Tryd.isAgg2
  z2 := Tryd.sizeOf2
  v2 := Tryd.zeroValue2
  t3 := Tryd.underlying3
  a3 := Tryd.isAgg3
  z3 := Tryd.sizeOf3
  v3 := Tryd.zeroValue3
  t4 := Tryd.underlying4
  a4 := Tryd.isAgg4
  z4 := Tryd.sizeOf4
  v4 := Tryd.zeroValue4
  t5 := Tryd.underlying5
  a5 := Tryd.isAgg5
  z5 := Tryd.sizeOf5
  v5 := Tryd.zeroValue5
  t9 := Tryd.underlying9
  a9 := Tryd.isAgg9
  z9 := Tryd.sizeOf9
  v9 := Tryd.zeroValue9
  t20 := Tryd.underlying20
  a20 := Tryd.isAgg20
  z20 := Tryd.sizeOf20
  v20 := Tryd.zeroValue20
  t37 := Tryd.underlying72
  a37 := Tryd.isAgg72
  z37 := Tryd.sizeOf72
  v37 := Tryd.zeroValue72
  t46 := Tryd.underlying69
  a46 := Tryd.isAgg69
  z46 := Tryd.sizeOf69
  v46 := Tryd.zeroValue69
  t51 := Tryd.underlying22
  a51 := Tryd.isAgg22
  z51 := Tryd.sizeOf22
  v51 := Tryd.zeroValue22
  t53 := Tryd.underlying58
  a53 := Tryd.isAgg58
  z53 := Tryd.sizeOf58
  v53 := Tryd.zeroValue58
  t171 := Tryd.underlying104
  a171 := Tryd.isAgg104
  z171 := Tryd.sizeOf104
  v171 := Tryd.zeroValue104
  t173 := Tryd.underlying107
  a173 := Tryd.isAgg107
  z173 := Tryd.sizeOf107
  v173 := Tryd.zeroValue107
  t212 := Tryd.underlying124
  a212 := Tryd.isAgg124
  z212 := Tryd.sizeOf124
  v212 := Tryd.zeroValue124
  t213 := Tryd.underlying125
  a213 := Tryd.isAgg125
  z213 := Tryd.sizeOf125
  t232 := Tryd.underlying132
  a232 := Tryd.isAgg132
  z232 := Tryd.sizeOf132
  v232 := Tryd.zeroValue132
  t233 := Tryd.underlying133
  a233 := Tryd.isAgg133
  z233 := Tryd.sizeOf133
  v233 := Tryd.zeroValue133
  g17 := by kernel_rfl
  g18 := by kernel_rfl
  g19 := by kernel_rfl }
open Go.RowKit Go.Sort Go.Lib in
/-- THE ROAD WITHOUT THE TABLE: 0 <= i < 100. (LAID: no walk: one application.) -/
theorem Tryd.strconv_FormatInt_10_small (i : Nat) (hi : i < 100) (w : World) :
    Calls Tryd.prog 28 #[.int .i64 i, .int .i64 10] w fun e w' => e = .returned (.string ⟨(Lib.decDigits i).toArray⟩) ∧ w' = w := Any.strconv_FormatInt_10_small Tryd.lays173 i hi w
def Tryd.lays157_ren : Go.Shelf.Ren := ⟨fun | 157 => 21 | 229 => 48 | 199 => 49 | 261 => 66 | 311 => 75 | 312 => 76 | n => n, fun | 9 => 9 | 31 => 49 | 3 => 3 | 5 => 5 | 4 => 4 | 119 => 86 | 0 => 0 | 40 => 88 | 152 => 99 | 21 => 21 | 154 => 101 | 51 => 22 | 141 => 103 | 196 => 114 | 193 => 111 | 198 => 117 | 49 => 115 | 194 => 112 | 201 => 120 | 226 => 129 | 46 => 69 | 227 => 130 | n => n, fun | 0 => 0 | 6 => 1 | n => n⟩
theorem Tryd.lays157 : Go.Proofs.Lays.n157 Tryd.prog Tryd.lays157_ren := {
  mixed := by kernel_rfl
  f157 := Tryd.func21.trans (congrArg some (by kernel_rfl))
  f199 := Tryd.func49.trans (congrArg some (by kernel_rfl))
  f229 := Tryd.func48.trans (congrArg some (by kernel_rfl))
  f261 := Tryd.func66.trans (congrArg some (by kernel_rfl))
  f311 := Tryd.func75.trans (congrArg some (by kernel_rfl))
  f312 := Tryd.func76.trans (congrArg some (by kernel_rfl))
  t0 := Tryd.underlying0
  a0 := Tryd.isAgg0
  z0 := Tryd.sizeOf0
  v0 := Tryd.zeroValue0
  t3 := Tryd.underlying3
  a3 := Tryd.isAgg3
  z3 := Tryd.sizeOf3
  v3 := Tryd.zeroValue3
  t4 := Tryd.underlying4
  a4 := Tryd.isAgg4
  z4 := Tryd.sizeOf4
  v4 := Tryd.zeroValue4
  t5 := Tryd.underlying5
  a5 := Tryd.isAgg5
  z5 := Tryd.sizeOf5
  v5 := Tryd.zeroValue5
  t9 := Tryd.underlying9
  a9 := Tryd.isAgg9
  z9 := Tryd.sizeOf9
  v9 := Tryd.zeroValue9
  t21 := Tryd.underlying21
  a21 := Tryd.isAgg21
  z21 := Tryd.sizeOf21
  v21 := Tryd.zeroValue21
  t31 := Tryd.underlying49
  a31 := Tryd.isAgg49
  z31 := Tryd.sizeOf49
  v31 := Tryd.zeroValue49
  t40 := Tryd.underlying88
  a40 := Tryd.isAgg88
  z40 := Tryd.sizeOf88
  v40 := Tryd.zeroValue88
  t46 := Tryd.underlying69
  a46 := Tryd.isAgg69
  z46 := Tryd.sizeOf69
  v46 := Tryd.zeroValue69
  t49 := Tryd.underlying115
  a49 := Tryd.isAgg115
  z49 := Tryd.sizeOf115
  v49 := Tryd.zeroValue115
  t51 := Tryd.underlying22
  a51 := Tryd.isAgg22
  z51 := Tryd.sizeOf22
  v51 := Tryd.zeroValue22
  t119 := Tryd.underlying86
  a119 := Tryd.isAgg86
  z119 := Tryd.sizeOf86
  t141 := Tryd.underlying103
  a141 := Tryd.isAgg103
  z141 := Tryd.sizeOf103
  v141 := Tryd.zeroValue103
  t152 := Tryd.underlying99
  a152 := Tryd.isAgg99
  z152 := Tryd.sizeOf99
  v152 := Tryd.zeroValue99
  t154 := Tryd.underlying101
  a154 := Tryd.isAgg101
  z154 := Tryd.sizeOf101
  v154 := Tryd.zeroValue101
  t193 := Tryd.underlying111
  a193 := Tryd.isAgg111
  z193 := Tryd.sizeOf111
  v193 := Tryd.zeroValue111
  t194 := Tryd.underlying112
  a194 := Tryd.isAgg112
  z194 := Tryd.sizeOf112
  v194 := Tryd.zeroValue112
  t196 := Tryd.underlying114
  a196 := Tryd.isAgg114
  z196 := Tryd.sizeOf114
  v196 := Tryd.zeroValue114
  t198 := Tryd.underlying117
  a198 := Tryd.isAgg117
  z198 := Tryd.sizeOf117
  v198 := Tryd.zeroValue117
  t201 := Tryd.underlying120
  a201 := Tryd.isAgg120
  z201 := Tryd.sizeOf120
  v201 := Tryd.zeroValue120
  t226 := Tryd.underlying129
  a226 := Tryd.isAgg129
  z226 := Tryd.sizeOf129
  v226 := Tryd.zeroValue129
  t227 := Tryd.underlying130
  a227 := Tryd.isAgg130
  z227 := Tryd.sizeOf130
  v227 := Tryd.zeroValue130
  g0 := by kernel_rfl
  g6 := by kernel_rfl }
open Go.RowKit Go.Lib in
/-- strings.Fields, the table by 'Lib.TabIs' (as strings.TrimSpace's contract). 'hg': the table's number, by its name: at a dump 'by kernel_rfl'. (LAID: no walk: one application.) -/
theorem Tryd.strings_Fields (s : ByteArray) (w : World) (hs : s.size < 4294967281) (hascii : ∀ (j : Nat) b, s.data.toList[j]? = some b → b.toNat < 128) (htab : Lib.TabIs Tryd.prog w "strings.asciiSpace" .u8 Lib.asciiSpaceTab) :
    Calls Tryd.prog 21 #[.string s] w fun e w' =>
      e = .returned (.slice (some ⟨w.heap.size, 0, none⟩) (Lib.fields s.data.toList).length (Lib.fields s.data.toList).length) ∧ w' = w.alloc (.cells ((Lib.fields s.data.toList).map fun l => Value.string ⟨l.toArray⟩).toArray 9) := Any.strings_Fields Tryd.lays157 (by kernel_rfl) (by kernel_rfl) s w hs hascii htab
def Tryd.laysM157_ren : Go.Shelf.Ren := ⟨fun | 157 => 21 | 229 => 48 | 199 => 49 | 261 => 66 | 311 => 75 | 312 => 76 | n => n, fun | 9 => 9 | 31 => 49 | 3 => 3 | 5 => 5 | 4 => 4 | 119 => 86 | 0 => 0 | 40 => 88 | 152 => 99 | 21 => 21 | 154 => 101 | 51 => 22 | 141 => 103 | 196 => 114 | 193 => 111 | 198 => 117 | 49 => 115 | 194 => 112 | 201 => 120 | 226 => 129 | 46 => 69 | 227 => 130 | n => n, fun | 0 => 0 | 6 => 1 | n => n⟩
theorem Tryd.laysM157 : Go.Proofs.LaysM.n157 Tryd.prog Tryd.laysM157_ren := {
  mixed := by kernel_rfl
  f157 := Tryd.func21.trans (congrArg some (by kernel_rfl))
  f199 := Tryd.func49.trans (congrArg some (by kernel_rfl))
  f229 := Tryd.func48.trans (congrArg some (by kernel_rfl))
  f261 := Tryd.func66.trans (congrArg some (by kernel_rfl))
  f311 := Tryd.func75.trans (congrArg some (by kernel_rfl))
  f312 := Tryd.func76.trans (congrArg some (by kernel_rfl))
  t0 := Tryd.underlying0
  a0 := Tryd.isAgg0
  z0 := Tryd.sizeOf0
  v0 := Tryd.zeroValue0
  t3 := Tryd.underlying3
  a3 := Tryd.isAgg3
  z3 := Tryd.sizeOf3
  v3 := Tryd.zeroValue3
  t4 := Tryd.underlying4
  a4 := Tryd.isAgg4
  z4 := Tryd.sizeOf4
  v4 := Tryd.zeroValue4
  t5 := Tryd.underlying5
  a5 := Tryd.isAgg5
  z5 := Tryd.sizeOf5
  v5 := Tryd.zeroValue5
  t9 := Tryd.underlying9
  a9 := Tryd.isAgg9
  z9 := Tryd.sizeOf9
  v9 := Tryd.zeroValue9
  t21 := Tryd.underlying21
  a21 := Tryd.isAgg21
  z21 := Tryd.sizeOf21
  v21 := Tryd.zeroValue21
  t31 := Tryd.underlying49
  a31 := Tryd.isAgg49
  z31 := Tryd.sizeOf49
  v31 := Tryd.zeroValue49
  t40 := Tryd.underlying88
  a40 := Tryd.isAgg88
  z40 := Tryd.sizeOf88
  v40 := Tryd.zeroValue88
  t46 := Tryd.underlying69
  a46 := Tryd.isAgg69
  z46 := Tryd.sizeOf69
  v46 := Tryd.zeroValue69
  t49 := Tryd.underlying115
  a49 := Tryd.isAgg115
  z49 := Tryd.sizeOf115
  v49 := Tryd.zeroValue115
  t51 := Tryd.underlying22
  a51 := Tryd.isAgg22
  z51 := Tryd.sizeOf22
  v51 := Tryd.zeroValue22
  t119 := Tryd.underlying86
  a119 := Tryd.isAgg86
  z119 := Tryd.sizeOf86
  t141 := Tryd.underlying103
  a141 := Tryd.isAgg103
  z141 := Tryd.sizeOf103
  v141 := Tryd.zeroValue103
  t152 := Tryd.underlying99
  a152 := Tryd.isAgg99
  z152 := Tryd.sizeOf99
  v152 := Tryd.zeroValue99
  t154 := Tryd.underlying101
  a154 := Tryd.isAgg101
  z154 := Tryd.sizeOf101
  v154 := Tryd.zeroValue101
  t193 := Tryd.underlying111
  a193 := Tryd.isAgg111
  z193 := Tryd.sizeOf111
  v193 := Tryd.zeroValue111
  t194 := Tryd.underlying112
  a194 := Tryd.isAgg112
  z194 := Tryd.sizeOf112
  v194 := Tryd.zeroValue112
  t196 := Tryd.underlying114
  a196 := Tryd.isAgg114
  z196 := Tryd.sizeOf114
  v196 := Tryd.zeroValue114
  t198 := Tryd.underlying117
  a198 := Tryd.isAgg117
  z198 := Tryd.sizeOf117
  v198 := Tryd.zeroValue117
  t201 := Tryd.underlying120
  a201 := Tryd.isAgg120
  z201 := Tryd.sizeOf120
  v201 := Tryd.zeroValue120
  t226 := Tryd.underlying129
  a226 := Tryd.isAgg129
  z226 := Tryd.sizeOf129
  v226 := Tryd.zeroValue129
  t227 := Tryd.underlying130
  a227 := Tryd.isAgg130
  z227 := Tryd.sizeOf130
  v227 := Tryd.zeroValue130
  g0 := by kernel_rfl
  g6 := by kernel_rfl
  i0 := by kernel_rfl
  i3 := by kernel_rfl
  i4 := by kernel_rfl
  i5 := by kernel_rfl
  i9 := by kernel_rfl
  i21 := by kernel_rfl
  i31 := by kernel_rfl
  i40 := by kernel_rfl
  i46 := by kernel_rfl
  i49 := by kernel_rfl
  i51 := by kernel_rfl
  i141 := by kernel_rfl
  i152 := by kernel_rfl
  i154 := by kernel_rfl
  i193 := by kernel_rfl
  i194 := by kernel_rfl
  i196 := by kernel_rfl
  i198 := by kernel_rfl
  i201 := by kernel_rfl
  i226 := by kernel_rfl
  i227 := by kernel_rfl
  m0 := by kernel_rfl
  m6 := by kernel_rfl }
open Go.RowKit Go.Lib in
/-- strings.Fields on ASCII bytes. (The table: 'Lib.TabIs', as strings.TrimSpace's contract asks it.) (LAID: no walk: one application.) -/
theorem Tryd.strings_Fields_laid (s : ByteArray) (w : World) (hs : s.size < 4294967281) (hascii : ∀ (j : Nat) b, s.data.toList[j]? = some b → b.toNat < 128) (htab : Lib.TabIs Tryd.prog w "strings.asciiSpace" .u8 Lib.asciiSpaceTab) :
    Calls Tryd.prog 21 #[.string s] w fun e w' =>
      e = .returned (.slice (some ⟨w.heap.size, 0, none⟩) (Lib.fields s.data.toList).length (Lib.fields s.data.toList).length) ∧ w' = w.alloc (.cells ((Lib.fields s.data.toList).map fun l => Value.string ⟨l.toArray⟩).toArray 9) := Any.strings_Fields_laid Tryd.laysM157 s w hs hascii htab
def Tryd.lays199_ren : Go.Shelf.Ren := ⟨fun | 199 => 49 | 261 => 66 | 311 => 75 | 312 => 76 | n => n, fun | 21 => 21 | 4 => 4 | 51 => 22 | 141 => 103 | 0 => 0 | 196 => 114 | 193 => 111 | 3 => 3 | 198 => 117 | 49 => 115 | 194 => 112 | 201 => 120 | 226 => 129 | 46 => 69 | 227 => 130 | n => n, fun | 6 => 1 | n => n⟩
theorem Tryd.lays199 : Go.Proofs.Lays.n199 Tryd.prog Tryd.lays199_ren := {
  mixed := by kernel_rfl
  f199 := Tryd.func49.trans (congrArg some (by kernel_rfl))
  f261 := Tryd.func66.trans (congrArg some (by kernel_rfl))
  f311 := Tryd.func75.trans (congrArg some (by kernel_rfl))
  f312 := Tryd.func76.trans (congrArg some (by kernel_rfl))
  t0 := Tryd.underlying0
  a0 := Tryd.isAgg0
  z0 := Tryd.sizeOf0
  v0 := Tryd.zeroValue0
  t3 := Tryd.underlying3
  a3 := Tryd.isAgg3
  z3 := Tryd.sizeOf3
  v3 := Tryd.zeroValue3
  t4 := Tryd.underlying4
  a4 := Tryd.isAgg4
  z4 := Tryd.sizeOf4
  v4 := Tryd.zeroValue4
  t21 := Tryd.underlying21
  a21 := Tryd.isAgg21
  z21 := Tryd.sizeOf21
  v21 := Tryd.zeroValue21
  t46 := Tryd.underlying69
  a46 := Tryd.isAgg69
  z46 := Tryd.sizeOf69
  v46 := Tryd.zeroValue69
  t49 := Tryd.underlying115
  a49 := Tryd.isAgg115
  z49 := Tryd.sizeOf115
  v49 := Tryd.zeroValue115
  t51 := Tryd.underlying22
  a51 := Tryd.isAgg22
  z51 := Tryd.sizeOf22
  v51 := Tryd.zeroValue22
  t141 := Tryd.underlying103
  a141 := Tryd.isAgg103
  z141 := Tryd.sizeOf103
  v141 := Tryd.zeroValue103
  t193 := Tryd.underlying111
  a193 := Tryd.isAgg111
  z193 := Tryd.sizeOf111
  v193 := Tryd.zeroValue111
  t194 := Tryd.underlying112
  a194 := Tryd.isAgg112
  z194 := Tryd.sizeOf112
  v194 := Tryd.zeroValue112
  t196 := Tryd.underlying114
  a196 := Tryd.isAgg114
  z196 := Tryd.sizeOf114
  v196 := Tryd.zeroValue114
  t198 := Tryd.underlying117
  a198 := Tryd.isAgg117
  z198 := Tryd.sizeOf117
  v198 := Tryd.zeroValue117
  t201 := Tryd.underlying120
  a201 := Tryd.isAgg120
  z201 := Tryd.sizeOf120
  v201 := Tryd.zeroValue120
  t226 := Tryd.underlying129
  a226 := Tryd.isAgg129
  z226 := Tryd.sizeOf129
  v226 := Tryd.zeroValue129
  t227 := Tryd.underlying130
  a227 := Tryd.isAgg130
  z227 := Tryd.sizeOf130
  v227 := Tryd.zeroValue130
  g6 := by kernel_rfl }
open Go.RowKit Go.Lib in
theorem Tryd.unicode_IsSpace (r : Int) (w : World) (h0 : 0 ≤ r) (h : r ≤ 255) :
    Calls Tryd.prog 49 #[.int .i32 r] w fun e w' => e = .returned (.bool (Lib.isSpaceL r)) ∧ w' = w := Any.unicode_IsSpace Tryd.lays199 r w h0 h
def Tryd.lays311_ren : Go.Shelf.Ren := ⟨fun | 311 => 75 | n => n, fun | 193 => 111 | 49 => 115 | 4 => 4 | 3 => 3 | 0 => 0 | 226 => 129 | 198 => 117 | 46 => 69 | n => n, fun | n => n⟩
theorem Tryd.lays311 : Go.Proofs.Lays.n311 Tryd.prog Tryd.lays311_ren := {
  mixed := by kernel_rfl
  f311 := Tryd.func75.trans (congrArg some (by kernel_rfl))
  t0 := Tryd.underlying0
  a0 := Tryd.isAgg0
  z0 := Tryd.sizeOf0
  v0 := Tryd.zeroValue0
  t3 := Tryd.underlying3
  a3 := Tryd.isAgg3
  z3 := Tryd.sizeOf3
  v3 := Tryd.zeroValue3
  t4 := Tryd.underlying4
  a4 := Tryd.isAgg4
  z4 := Tryd.sizeOf4
  v4 := Tryd.zeroValue4
  t46 := Tryd.underlying69
  a46 := Tryd.isAgg69
  z46 := Tryd.sizeOf69
  v46 := Tryd.zeroValue69
  t49 := Tryd.underlying115
  a49 := Tryd.isAgg115
  z49 := Tryd.sizeOf115
  v49 := Tryd.zeroValue115
  t193 := Tryd.underlying111
  a193 := Tryd.isAgg111
  z193 := Tryd.sizeOf111
  v193 := Tryd.zeroValue111
  t198 := Tryd.underlying117
  a198 := Tryd.isAgg117
  z198 := Tryd.sizeOf117
  v198 := Tryd.zeroValue117
  t226 := Tryd.underlying129
  a226 := Tryd.isAgg129
  z226 := Tryd.sizeOf129
  v226 := Tryd.zeroValue129 }
open Go.RowKit Go.Lib in
theorem Tryd.unicode_is16_white (R oR : Nat) (z : Nat) (w : World) (hz : z < 65536) (hz0 : 255 < z) (c6 : w.cell? ⟨R, oR + 6, none⟩ = some (.int .u16 160)) (c7 : w.cell? ⟨R, oR + 7, none⟩ = some (.int .u16 5760)) (c8 : w.cell? ⟨R, oR + 8, none⟩ = some (.int .u16 5600)) (c9 : w.cell? ⟨R, oR + 9, none⟩ = some (.int .u16 8192)) (c10 : w.cell? ⟨R, oR + 10, none⟩ = some (.int .u16 8202)) (c11 : w.cell? ⟨R, oR + 11, none⟩ = some (.int .u16 1)) (c12 : w.cell? ⟨R, oR + 12, none⟩ = some (.int .u16 8232)) (c13 : w.cell? ⟨R, oR + 13, none⟩ = some (.int .u16 8233)) (c14 : w.cell? ⟨R, oR + 14, none⟩ = some (.int .u16 1)) (c15 : w.cell? ⟨R, oR + 15, none⟩ = some (.int .u16 8239)) (c16 : w.cell? ⟨R, oR + 16, none⟩ = some (.int .u16 8287)) (c17 : w.cell? ⟨R, oR + 17, none⟩ = some (.int .u16 48)) (c18 : w.cell? ⟨R, oR + 18, none⟩ = some (.int .u16 12288)) (c19 : w.cell? ⟨R, oR + 19, none⟩ = some (.int .u16 12288)) (c20 : w.cell? ⟨R, oR + 20, none⟩ = some (.int .u16 1)) :
    Calls Tryd.prog 75 #[.slice (some ⟨R, oR + 6, none⟩) 5 5, .int .u16 z] w fun e w' => e = .returned (.bool (Lib.isSpaceR z)) ∧ Below w.heap.size w w' := Any.unicode_is16_white Tryd.lays311 R oR z w hz hz0 c6 c7 c8 c9 c10 c11 c12 c13 c14 c15 c16 c17 c18 c19 c20
def Tryd.lays261_ren : Go.Shelf.Ren := ⟨fun | 261 => 66 | 311 => 75 | 312 => 76 | n => n, fun | 141 => 103 | 21 => 21 | 4 => 4 | 0 => 0 | 196 => 114 | 193 => 111 | 3 => 3 | 51 => 22 | 198 => 117 | 49 => 115 | 194 => 112 | 201 => 120 | 226 => 129 | 46 => 69 | 227 => 130 | n => n, fun | n => n⟩
theorem Tryd.lays261 : Go.Proofs.Lays.n261 Tryd.prog Tryd.lays261_ren := {
  mixed := by kernel_rfl
  f261 := Tryd.func66.trans (congrArg some (by kernel_rfl))
  f311 := Tryd.func75.trans (congrArg some (by kernel_rfl))
  f312 := Tryd.func76.trans (congrArg some (by kernel_rfl))
  t0 := Tryd.underlying0
  a0 := Tryd.isAgg0
  z0 := Tryd.sizeOf0
  v0 := Tryd.zeroValue0
  t3 := Tryd.underlying3
  a3 := Tryd.isAgg3
  z3 := Tryd.sizeOf3
  v3 := Tryd.zeroValue3
  t4 := Tryd.underlying4
  a4 := Tryd.isAgg4
  z4 := Tryd.sizeOf4
  v4 := Tryd.zeroValue4
  t21 := Tryd.underlying21
  a21 := Tryd.isAgg21
  z21 := Tryd.sizeOf21
  v21 := Tryd.zeroValue21
  t46 := Tryd.underlying69
  a46 := Tryd.isAgg69
  z46 := Tryd.sizeOf69
  v46 := Tryd.zeroValue69
  t49 := Tryd.underlying115
  a49 := Tryd.isAgg115
  z49 := Tryd.sizeOf115
  v49 := Tryd.zeroValue115
  t51 := Tryd.underlying22
  a51 := Tryd.isAgg22
  z51 := Tryd.sizeOf22
  v51 := Tryd.zeroValue22
  t141 := Tryd.underlying103
  a141 := Tryd.isAgg103
  z141 := Tryd.sizeOf103
  v141 := Tryd.zeroValue103
  t193 := Tryd.underlying111
  a193 := Tryd.isAgg111
  z193 := Tryd.sizeOf111
  v193 := Tryd.zeroValue111
  t194 := Tryd.underlying112
  a194 := Tryd.isAgg112
  z194 := Tryd.sizeOf112
  v194 := Tryd.zeroValue112
  t196 := Tryd.underlying114
  a196 := Tryd.isAgg114
  z196 := Tryd.sizeOf114
  v196 := Tryd.zeroValue114
  t198 := Tryd.underlying117
  a198 := Tryd.isAgg117
  z198 := Tryd.sizeOf117
  v198 := Tryd.zeroValue117
  t201 := Tryd.underlying120
  a201 := Tryd.isAgg120
  z201 := Tryd.sizeOf120
  v201 := Tryd.zeroValue120
  t226 := Tryd.underlying129
  a226 := Tryd.isAgg129
  z226 := Tryd.sizeOf129
  v226 := Tryd.zeroValue129
  t227 := Tryd.underlying130
  a227 := Tryd.isAgg130
  z227 := Tryd.sizeOf130
  v227 := Tryd.zeroValue130 }
open Go.RowKit Go.Lib in
/-- unicode.isExcludingLatin(White_Space, r), r beyond U+00FF or negative. (LAID: no walk: one application.) -/
theorem Tryd.unicode_isExcludingLatin_white (T oT R oR : Nat) (r : Int) (w : World) (hlo : -2147483648 ≤ r) (hhi : r ≤ 2147483647) (hr : r < 0 ∨ 255 < r) (h2 : w.cell? ⟨T, oT, none⟩ = some (.slice (some ⟨R, oR, none⟩) 7 7)) (h3 : w.cell? ⟨T, oT + 1, none⟩ = some (.slice none 0 0)) (h4 : w.cell? ⟨T, oT + 2, none⟩ = some (.int .i64 2)) (h5 : ∀ i, i < 21 → w.cell? ⟨R, oR + i, none⟩ = some (.int .u16 (whiteT.getD i 0))) :
    Calls Tryd.prog 66 #[.pointer (some ⟨T, oT, none⟩), .int .i32 r] w fun e w' => e = .returned (.bool (Lib.isSpaceZ r)) ∧ Below w.heap.size w w' := Any.unicode_isExcludingLatin_white Tryd.lays261 T oT R oR r w hlo hhi hr h2 h3 h4 h5
open Go.RowKit Go.Lib in
/-- **unicode.IsSpace AT EVERY int32.** (LAID: no walk: one application.) -/
theorem Tryd.unicode_IsSpace_any (r : Int) (w : World) (hlo : -2147483648 ≤ r) (hhi : r ≤ 2147483647) (hW : Lib.WhiteTab 1 w) :
    Calls Tryd.prog 49 #[.int .i32 r] w fun e w' => e = .returned (.bool (Lib.isSpaceZ r)) ∧ Below w.heap.size w w' := Any.unicode_IsSpace_any Tryd.lays199 r w hlo hhi hW
open Go.RowKit Go.Lib in
theorem Tryd.unicode_is16_any (T : Array Rg) (R oR cap : Nat) (z : Nat) (w : World) (hz : z < 65536) (hT : RgTab .u16 R oR T w) (hok : RgOk 65536 T) (hn : T.size ≤ 1000000000) :
    Calls Tryd.prog 75 #[.slice (some ⟨R, oR, none⟩) T.size cap, .int .u16 z] w fun e w' => e = .returned (.bool (is16Go T z)) ∧ ∃ q, w' = w.drewN q := Any.unicode_is16_any Tryd.lays311 T R oR cap z w hz hT hok hn
def Tryd.lays312_ren : Go.Shelf.Ren := ⟨fun | 312 => 76 | n => n, fun | 194 => 112 | 51 => 22 | 4 => 4 | 3 => 3 | 0 => 0 | 227 => 130 | 201 => 120 | 46 => 69 | n => n, fun | n => n⟩
theorem Tryd.lays312 : Go.Proofs.Lays.n312 Tryd.prog Tryd.lays312_ren := {
  mixed := by kernel_rfl
  f312 := Tryd.func76.trans (congrArg some (by kernel_rfl))
  t0 := Tryd.underlying0
  a0 := Tryd.isAgg0
  z0 := Tryd.sizeOf0
  v0 := Tryd.zeroValue0
  t3 := Tryd.underlying3
  a3 := Tryd.isAgg3
  z3 := Tryd.sizeOf3
  v3 := Tryd.zeroValue3
  t4 := Tryd.underlying4
  a4 := Tryd.isAgg4
  z4 := Tryd.sizeOf4
  v4 := Tryd.zeroValue4
  t46 := Tryd.underlying69
  a46 := Tryd.isAgg69
  z46 := Tryd.sizeOf69
  v46 := Tryd.zeroValue69
  t51 := Tryd.underlying22
  a51 := Tryd.isAgg22
  z51 := Tryd.sizeOf22
  v51 := Tryd.zeroValue22
  t194 := Tryd.underlying112
  a194 := Tryd.isAgg112
  z194 := Tryd.sizeOf112
  v194 := Tryd.zeroValue112
  t201 := Tryd.underlying120
  a201 := Tryd.isAgg120
  z201 := Tryd.sizeOf120
  v201 := Tryd.zeroValue120
  t227 := Tryd.underlying130
  a227 := Tryd.isAgg130
  z227 := Tryd.sizeOf130
  v227 := Tryd.zeroValue130 }
open Go.RowKit Go.Lib in
theorem Tryd.unicode_is32_any (T : Array Rg) (R oR cap : Nat) (z : Nat) (w : World) (hz : z < 4294967296) (hT : RgTab .u32 R oR T w) (hok : RgOk 4294967296 T) (hn : T.size ≤ 1000000000) :
    Calls Tryd.prog 76 #[.slice (some ⟨R, oR, none⟩) T.size cap, .int .u32 z] w fun e w' => e = .returned (.bool (is32Go T z)) ∧ Below w.heap.size w w' := Any.unicode_is32_any Tryd.lays312 T R oR cap z w hz hT hok hn
open Go.RowKit Go.Lib in
theorem Tryd.unicode_isExcludingLatin_any (Tb oT : Nat) (T : RTab) (r : Int) (w : World) (hlo : -2147483648 ≤ r) (hhi : r ≤ 2147483647) (hA : RTabAt Tb oT T w) (hok : RTabOk T) :
    Calls Tryd.prog 66 #[.pointer (some ⟨Tb, oT, none⟩), .int .i32 r] w fun e w' => e = .returned (.bool (exclGo T r)) ∧ Below w.heap.size w w' := Any.unicode_isExcludingLatin_any Tryd.lays261 Tb oT T r w hlo hhi hA hok
end Go.Proofs

/-
An instruction as one reads it: package disas's Text.
Conditions: two of the library's tables read as they are laid.
-/
namespace Go.Proofs.YtgchaghdhofnoaaDoor
open Go Go.Vc Go.RowKit
set_option linter.unusedVariables false
set_option linter.unusedSimpArgs false
set_option linter.unnecessarySimpa false
set_option maxRecDepth 100000

/-! ### the library's calls -/
def Tabs (w : World) : Prop := Lib.TabIs Tryd.prog w "internal/strconv.uint64pow10" .u64 Lib.pow10Tab ∧ Lib.TabIs Tryd.prog w "strings.asciiSpace" .u8 Lib.asciiSpaceTab
theorem Tabs.later {w w' : World} (h : Tabs w) (hl : Later w w') : Tabs w' := by
  obtain ⟨g1, e1⟩ := Option.isSome_iff_exists.1 (show (Tryd.prog.globalNamed "internal/strconv.uint64pow10").isSome = true by kernel_rfl)
  obtain ⟨g2, e2⟩ := Option.isSome_iff_exists.1 (show (Tryd.prog.globalNamed "strings.asciiSpace").isSome = true by kernel_rfl)
  exact ⟨Go.Joins.var_stays e1 h.1 hl (Nat.le_refl _), Go.Joins.var_stays e2 h.2 hl (Nat.le_refl _)⟩
theorem later_grow (w : World) (k : Nat) (os : Array Obj) : Later w (Sort.grow (w.drewN k) os) := by
  refine ⟨rfl, rfl, rfl, ?_, fun j hj => ?_⟩
  · simp [Sort.grow, World.drewN]
  · simp only [Sort.grow, World.drewN]
    rw [Array.getElem?_append_left hj]
theorem itoa_use {n : Int} (hn : I64 n) {w : World} (hT : Tabs w) : Calls Tryd.prog 23 #[i64v n] w (Gives (.string (decS n)) w) := by
  refine (Tryd.strconv_Itoa n hn.1 (by have := hn.2; omega) w hT.1).mono fun e w' ⟨he, k, os, h⟩ => ⟨he, ?_⟩
  rw [h]; exact later_grow _ _ _
theorem format_use {n : Int} (hn : I64 n) {w : World} (hT : Tabs w) : Calls Tryd.prog 28 #[i64v n, i64v 10] w (Gives (.string (decS n)) w) := by
  refine (Tryd.strconv_FormatInt_10 n hn.1 (by have := hn.2; omega) w hT.1).mono fun e w' ⟨he, k, os, h⟩ => ⟨he, ?_⟩
  rw [h]; exact later_grow _ _ _
def nms : List ByteArray := [ByteArray.mk #[97, 100, 100], ByteArray.mk #[115, 117, 98], ByteArray.mk #[115, 108, 108], ByteArray.mk #[115, 108, 116], ByteArray.mk #[115, 108, 116, 117], ByteArray.mk #[120, 111, 114], ByteArray.mk #[115, 114, 108], ByteArray.mk #[115, 114, 97], ByteArray.mk #[111, 114], ByteArray.mk #[97, 110, 100], ByteArray.mk #[109, 117, 108], ByteArray.mk #[109, 117, 108, 104, 117], ByteArray.mk #[100, 105, 118, 117], ByteArray.mk #[114, 101, 109, 117], ByteArray.mk #[97, 100, 100, 105], ByteArray.mk #[115, 108, 116, 105, 117], ByteArray.mk #[120, 111, 114, 105], ByteArray.mk #[111, 114, 105], ByteArray.mk #[97, 110, 100, 105], ByteArray.mk #[115, 108, 108, 105], ByteArray.mk #[115, 114, 108, 105], ByteArray.mk #[115, 114, 97, 105], ByteArray.mk #[108, 117, 105], ByteArray.mk #[108, 98, 117], ByteArray.mk #[108, 100], ByteArray.mk #[115, 98], ByteArray.mk #[115, 100], ByteArray.mk #[98, 101, 113], ByteArray.mk #[98, 110, 101], ByteArray.mk #[98, 108, 116, 117], ByteArray.mk #[98, 103, 101, 117], ByteArray.mk #[106, 97, 108], ByteArray.mk #[106, 97, 108, 114], ByteArray.mk #[101, 99, 97, 108, 108]]
def nmsB : ByteArray := ByteArray.mk #[97, 100, 100, 32, 115, 117, 98, 32, 115, 108, 108, 32, 115, 108, 116, 32, 115, 108, 116, 117, 32, 120, 111, 114, 32, 115, 114, 108, 32, 115, 114, 97, 32, 111, 114, 32, 97, 110, 100, 32, 109, 117, 108, 32, 109, 117, 108, 104, 117, 32, 100, 105, 118, 117, 32, 114, 101, 109, 117, 32, 97, 100, 100, 105, 32, 115, 108, 116, 105, 117, 32, 120, 111, 114, 105, 32, 111, 114, 105, 32, 97, 110, 100, 105, 32, 115, 108, 108, 105, 32, 115, 114, 108, 105, 32, 115, 114, 97, 105, 32, 108, 117, 105, 32, 108, 98, 117, 32, 108, 100, 32, 115, 98, 32, 115, 100, 32, 98, 101, 113, 32, 98, 110, 101, 32, 98, 108, 116, 117, 32, 98, 103, 101, 117, 32, 106, 97, 108, 32, 106, 97, 108, 114, 32, 101, 99, 97, 108, 108]
def nmO (o : Int) : ByteArray := nms.getD (o - 1).toNat ⟨#[]⟩
theorem fields_nms : (Lib.fields nmsB.data.toList) = nms.map fun s => s.data.toList := by kernel_rfl
theorem nms_ascii : ∀ b ∈ nmsB.data.toList, b.toNat < 128 := by decide +kernel
theorem nms_len : nms.length = 34 := rfl
theorem nms_short : ∀ s ∈ nms, s.size ≤ 5 := by decide +kernel
theorem nmO_at {o : Int} (h1 : 1 ≤ o) (h2 : o ≤ 34) : nms[(o - 1).toNat]? = some (nmO o) := by
  unfold nmO
  rw [List.getD_eq_getElem?_getD, List.getElem?_eq_getElem (by rw [nms_len]; omega)]; rfl
theorem nmO_size (o : Int) : (nmO o).size ≤ 5 := by
  unfold nmO
  rw [List.getD_eq_getElem?_getD]
  cases h : nms[(o - 1).toNat]? with
  | none => decide
  | some s => exact nms_short s (List.mem_of_getElem? h)
theorem fields_use (w : World) (hT : Tabs w) : Calls Tryd.prog 21 #[.string nmsB] w fun e w' => e = .returned (.slice (some ⟨w.heap.size, 0, none⟩) 34 34) ∧ w' = w.alloc (.cells (nms.map Value.string).toArray 9) := by
  refine (Tryd.strings_Fields nmsB w (by decide +kernel) (fun j b hb => nms_ascii b (List.mem_of_getElem? hb)) hT.2).mono fun e w' ⟨he, hw⟩ => ?_
  rw [fields_nms] at he hw
  refine ⟨by rw [he, List.length_map, nms_len], ?_⟩
  rw [hw, List.map_map]
  rfl

/-! ### the row of parts -/
theorem rowStr : RowTy Tryd.prog 49 9 1 16 := RowTy.of (.string ⟨#[]⟩) (by kernel_rfl) (by kernel_rfl) rfl (by decide)
structure LAt (w0 w : World) (lb : Nat) (ks : List Nat) (xs : List ByteArray) : Prop where
  own : ∃ p c, Has w lb [.slice p xs.length c] ∧ OwnS w0 w 9 1 (.slice p xs.length c) xs.length (xs.map Value.string) ∧ ∀ k ∈ lb :: ks, rowB p ≠ some k
  new : w0.heap.size ≤ lb
  ne : ∀ k ∈ ks, k ≠ lb ∧ k < w.heap.size
theorem LAt.later {w0 w w' : World} {lb : Nat} {ks : List Nat} {xs : List ByteArray} (h : LAt w0 w lb ks xs) (hl : Later w w') : LAt w0 w' lb ks xs := by
  obtain ⟨⟨p, c, h1, h2, h3⟩, h4, h5⟩ := h
  exact ⟨⟨p, c, h1.later hl, h2.later hl, h3⟩, h4, fun k hk => ⟨(h5 k hk).1, Nat.lt_of_lt_of_le (h5 k hk).2 (Later.size hl)⟩⟩
theorem LAt.push {w0 w w1 : World} {lb : Nat} {ks : List Nat} {xs : List ByteArray} {p : Option Addr} {n c : Nat} (h : LAt w0 w lb ks xs) (hl : Later w0 w) (hx : xs.length ≤ 1000) (s : ByteArray) (e1 : w1 = w.alloc (.cells #[.string s] 9))
    (hc : w.cell? ⟨lb, 0, none⟩ = some (.slice p n c)) {K D : World → Prop} (hD : ∀ w', Later w0 w' → (∀ k ∈ lb :: ks, w'.heap[k]? = w.heap[k]?) → D w')
    (hK : ∀ w', LAt w0 w' lb ks (xs ++ [s]) → Later w0 w' → (∀ k ∈ ks, w'.heap[k]? = w.heap[k]?) → K w') :
    RunsV Tryd.prog (Builtin.append_ #[49, 49] 49 #[.slice p n c, .slice (some ⟨w.heap.size, 0, none⟩) 1 1]) w1 fun v w' =>
      ∃ p n c, v = .slice p n c ∧ D w' ∧ Deref (some (⟨lb, 0, none⟩ : Addr)) fun ad => ((w'.cell? ad).isSome = true ∧ w'.frozen? ad = false) ∧ ∀ w2, w2 = w'.setCell ad (.slice p n c) → K w2 := by
  obtain ⟨⟨p', c', hh, ho, hd⟩, hnew, hne⟩ := h
  have e := hh.cell (i := 0) rfl
  rw [hc] at e
  simp only [Option.some.injEq, Value.slice.injEq] at e
  obtain ⟨rfl, rfl, rfl⟩ := e
  refine RunsV_append_apart 49 rowStr (e1 ▸ ho.alloc _) (e1 ▸ hl.alloc _) (a := ⟨w.heap.size, 0, none⟩) (m := 1) (news := [.string s]) rfl ?_ (by intro u hu; simp at hu; subst hu; rfl) (by simp only [maxLen]; omega) (by omega) ?_
  · rw [e1]; exact CellsAt_new' _ _ _ _
  intro b' bn' bc' w2 ho2 hl2 hk2
  have hlen := ho2.len
  subst hlen
  have l1 : Later w w1 := e1 ▸ Later.alloc' w _
  have keep : ∀ k ∈ lb :: ks, w2.heap[k]? = w.heap[k]? ∧ rowB b' ≠ some k := fun k hk => by
    have hkw : k < w.heap.size := by
      rcases List.mem_cons.1 hk with rfl | hk
      · exact hh.lt
      · exact (hne k hk).2
    have h2 := hk2 k (Nat.lt_of_lt_of_le hkw (Later.size l1)) (hd k hk)
    exact ⟨h2.1.trans ((show Below _ _ _ from l1).block k hkw), h2.2⟩
  have hh2 := hh.kept (keep lb (by simp)).1
  refine ⟨_, _, _, rfl, hD w2 hl2 fun k hk => (keep k hk).1, Deref_some rfl ⟨⟨by rw [hh2.cell (i := 0) rfl]; rfl, hh2.frozen 0⟩, fun w3 e3 => ?_⟩⟩
  have T : Trk w0 w2 [(lb, [.slice p xs.length c])] := ⟨hl2, by intro x hx; simp at hx; subst hx; exact ⟨hnew, hh2⟩, by simp⟩
  have T3 := T.setCell 0 (i := 0) (.slice b' (xs.length + 1) bc') rfl
  rw [← e3] at T3
  have other : ∀ k, k ≠ lb → w3.heap[k]? = w2.heap[k]? := fun k hk => by
    rw [e3]
    simp only [World.setCell, Array.getElem?_modify]
    rw [if_neg (fun h => hk h.symm)]
  refine hK w3 ⟨⟨b', bc', ?_, ?_, fun k hk => (keep k hk).2⟩, hnew, fun k hk => ⟨(hne k hk).1, ?_⟩⟩ T3.to fun k hk => ?_
  · rw [List.length_append]; exact T3.has 0 rfl
  · have := OwnS.kept ho2 (w' := w3) fun k hk => other k fun e => (keep lb (by simp)).2 (e ▸ hk)
    rw [List.length_append, List.map_append]
    exact this
  · have e4 : w3.heap.size = w2.heap.size := by rw [e3]; simp [World.setCell]
    have hs := (hne k hk).2
    have hx2 : w2.heap[k]? = w.heap[k]? := (keep k (by simp [hk])).1
    rw [e4]
    rcases Nat.lt_or_ge k w2.heap.size with h' | h'
    · exact h'
    · rw [Array.getElem?_eq_none h', Array.getElem?_eq_getElem hs] at hx2; cases hx2
  · rw [other k (hne k hk).1, (keep k (by simp [hk])).1]
def xS (r : Int) : ByteArray := ByteArray.mk #[120] ++ decS r
theorem xS_size (r : Int) : (xS r).size = 1 + (decS r).size := by unfold xS; rw [ByteArray.size_append]; rfl
theorem disas_reg_ok {w0 w : World} {lb : Nat} {ks : List Nat} {xs : List ByteArray} (has : Bool) {r : Int} (hr : U8 r) (h : LAt w0 w lb ks xs) (hl : Later w0 w) (hT : Tabs w0) (hx : xs.length ≤ 1000) :
    Calls Tryd.prog disas_Text_1.N #[.bool has, u8v r, .pointer (some ⟨lb, 0, none⟩)] w fun e w' => e = .returned (.tuple #[]) ∧ LAt w0 w' lb ks (xs ++ if has = true then [xS r] else []) ∧ Later w0 w' ∧ ∀ k ∈ ks, w'.heap[k]? = w.heap[k]? := by
  refine disas_Text_1.calls ?_
  unfold disas_Text_1.vc
  have hr0 := hr.1; have hr1 := hr.2
  cases has with
  | false => exact cnd_false rfl ⟨rfl, by simpa using h, hl, fun _ _ => rfl⟩
  | true =>
    refine cnd_true rfl ?_
    obtain ⟨⟨p, c, hh, ho, hd⟩, hnew, hne⟩ := id h
    have hlb := hh.lt
    refine ⟨fun w' => w'.cell? ⟨lb, 0, none⟩ = some (.slice p xs.length c), fun w' h' => (hh.later h').cell rfl, fun w1 l1 => Deref_some rfl ⟨_, _, _, fun w' h' => h', ?_⟩⟩
    rw [i64_in (by omega) (by omega)]
    refine (itoa_use ⟨by omega, by omega⟩ (hT.later (hl.trans l1))).mono fun e w2 ⟨he, l2⟩ => ?_
    have hh2 := hh.later (l1.trans l2)
    have z : (decS r).size ≤ 300 := by rw [decS_size]; have := itoa_len (n := r) (k := 255) (by omega); omega
    refine ⟨_, he, hh2.cell rfl, by omega, fun w3 e3 => ⟨(hh2.later (e3 ▸ Later.alloc' w2 _)).cell rfl, ?_⟩⟩
    refine LAt.push (h.later (l1.trans l2)) (hl.trans (l1.trans l2)) hx (xS r) e3 (hh2.cell rfl) (D := fun w' => w'.cell? ⟨lb, 0, none⟩ = some (.slice p xs.length c)) (fun w' _ hk => (hh2.kept (hk lb (by simp))).cell rfl) fun w' hL lw hk => ?_
    refine ⟨rfl, by simpa using hL, lw, fun k hk' => ?_⟩
    rw [hk k hk']
    exact (show Below _ _ _ from l1.trans l2).block k (hne k hk').2
end Go.Proofs.YtgchaghdhofnoaaDoor

/-
What chapter 03's rows list of the library's tables; the world that a card's witness starts in.
Conditions: none beyond the rows' own.
-/
namespace Go.Proofs.YtgchaghdhofnoaaDoor
open Go Go.Vc Go.RowKit Go.ChangeShapes Go.WideShapes Go.ChangeAt
set_option linter.unusedVariables false
set_option linter.unusedSimpArgs false
set_option linter.unnecessarySimpa false
set_option maxRecDepth 100000

theorem own03 : ownKnob Tryd.prog.godebug = none := by kernel_rfl
theorem laidOut03 : laidOutB Tryd.prog = true := by kernel_rfl
def laid03 : List (String × DataW Unit) := Rows.disasAllRow.laid
theorem tabs_of_laid {W : World} (h : laidMetH Tryd.prog laid03 W) : Tabs W := by
  rw [MakeChecks.laidMetH_plain _ _ _ (by kernel_rfl)] at h
  obtain ⟨ps, ⟨g0, t0, c0, f0, p0, q0, hg0, ht0, hv0, hd0, ⟨g1, t1, c1, f1, p1, q1, hg1, ht1, hv1, hd1, ⟨g2, t2, c2, f2, p2, q2, hg2, ht2, hv2, hd2, ⟨g3, t3, c3, f3, p3, q3, hg3, ht3, hv3, hd3, ⟨g4, t4, c4, f4, p4, q4, hg4, ht4, hv4, hd4, _, _⟩, _⟩, _⟩, _⟩, _⟩, _, _⟩ := h
  obtain rfl := Option.some.inj ((show Tryd.prog.globalNamed "internal/strconv.uint64pow10" = some 2 by kernel_rfl).symm.trans hg2)
  obtain rfl := Option.some.inj ((show (Tryd.prog.globals[2]?).map (·.type) = some 124 by kernel_rfl).symm.trans ht2)
  obtain rfl := Option.some.inj ((show Tryd.prog.globalNamed "strings.asciiSpace" = some 0 by kernel_rfl).symm.trans hg4)
  obtain rfl := Option.some.inj ((show (Tryd.prog.globals[0]?).map (·.type) = some 86 by kernel_rfl).symm.trans ht4)
  have e2 : (Rows.laid_internal_strconv_uint64pow10 : DataW Unit) = Lib.tabData .u64 Lib.pow10Tab := by kernel_rfl
  have e4 : (Rows.laid_strings_asciiSpace : DataW Unit) = Lib.tabData .u8 Lib.asciiSpaceTab := by kernel_rfl
  rw [e2] at hd2
  rw [e4] at hd4
  refine ⟨?_, ?_⟩
  · unfold Lib.TabIs
    rw [hv2, ← Lib.cells_of_tab (n := 20) (show Tryd.prog.underlying 124 = some (.array 20 58) by kernel_rfl) (show Tryd.prog.underlying 58 = some (.int .u64) by kernel_rfl) (by kernel_rfl) (by kernel_rfl) hd2]
  · unfold Lib.TabIs
    rw [hv4, ← Lib.cells_of_tab (n := 256) (show Tryd.prog.underlying 86 = some (.array 256 5) by kernel_rfl) (show Tryd.prog.underlying 5 = some (.int .u8) by kernel_rfl) (by kernel_rfl) (by kernel_rfl) hd4]
theorem door_met03 (os : Os) (args : Array Value) : laidMetH Tryd.prog laid03 ((World.doorLaid Tryd.prog 4000 os).forCall (fun _ _ => 0) ⟨#[], args, []⟩).memory :=
  laidMetH_of_parts3 (fuel := 12) (laidMet_of_run' 12 (by kernel_rfl) (by kernel_rfl)) (by kernel_rfl) (by kernel_rfl)
end Go.Proofs.YtgchaghdhofnoaaDoor

/-
The explicit conditions of some functions of the program, printed by this repo's own program over VcTop: what is proved is that each is the condition.
Conditions: none.
-/
namespace Go.Proofs.YtgchaghdhofnoaaDoor
open Go Go.Vc Go.RowKit
set_option linter.unusedVariables false
set_option maxRecDepth 100000

/- function 11: sacristy/sacristylaw03.alive -/
abbrev law03_alive.N : FuncId := 11
def law03_alive.H : Hints := {  }
def law03_alive.vc (w : World) (R : Ending → World → Prop) : Prop :=
  Calls Proofs.Tryd.prog 7 #[Value.int IntKind.u32 4293918867] w fun (e : Ending) (w' : World) =>
  ∃ (n : Int),
  ∃ (n_1 : Int),
  ∃ (n_2 : Int),
  ∃ (n_3 : Int),
  ∃ (n_4 : Int),
  ∃ (n_5 : Int),
  e =
  Ending.returned
  (Value.tuple
  #[Value.agg
  #[Value.int IntKind.u8 n, Value.int IntKind.u8 n_1, Value.int IntKind.u8 n_2,
  Value.int IntKind.u8 n_3, Value.int IntKind.i64 n_4],
  Value.int IntKind.i64 n_5]) ∧
  ∀ (w'_1 : World),
  w'_1 =
  w'.alloc
  (Obj.cells
  #[Value.int IntKind.u8 0, Value.int IntKind.u8 0, Value.int IntKind.u8 0,
  Value.int IntKind.u8 0, Value.int IntKind.i64 0]
  24) →
  SetsAt w'_1 (Addr.mk w'.heap.size 0 none) 0
  [Value.int IntKind.u8 n, Value.int IntKind.u8 n_1, Value.int IntKind.u8 n_2,
  Value.int IntKind.u8 n_3, Value.int IntKind.i64 n_4] ∧
  ∀ (w'_2 : World),
  w'_2 =
  setCellsAt w'_1 (Addr.mk w'.heap.size 0 none) 0
  [Value.int IntKind.u8 n, Value.int IntKind.u8 n_1, Value.int IntKind.u8 n_2,
  Value.int IntKind.u8 n_3, Value.int IntKind.i64 n_4] →
  Calls Proofs.Tryd.prog 7 #[Value.int IntKind.u32 0] w'_2 fun (e : Ending) (w'_3 : World) =>
  ∃ (n : Int),
  ∃ (n_6 : Int),
  ∃ (n_7 : Int),
  ∃ (n_8 : Int),
  ∃ (n_9 : Int),
  ∃ (n_10 : Int),
  e =
  Ending.returned
  (Value.tuple
  #[Value.agg
  #[Value.int IntKind.u8 n, Value.int IntKind.u8 n_6,
  Value.int IntKind.u8 n_7, Value.int IntKind.u8 n_8,
  Value.int IntKind.i64 n_9],
  Value.int IntKind.i64 n_10]) ∧
  ∀ (w'_4 : World),
  w'_4 =
  w'_3.alloc
  (Obj.cells
  #[Value.int IntKind.u8 0, Value.int IntKind.u8 0,
  Value.int IntKind.u8 0, Value.int IntKind.u8 0,
  Value.int IntKind.i64 0]
  24) →
  SetsAt w'_4 (Addr.mk w'_3.heap.size 0 none) 0
  [Value.int IntKind.u8 n, Value.int IntKind.u8 n_6,
  Value.int IntKind.u8 n_7, Value.int IntKind.u8 n_8,
  Value.int IntKind.i64 n_9] ∧
  ∀ (w'_5 : World),
  w'_5 =
  setCellsAt w'_4 (Addr.mk w'_3.heap.size 0 none) 0
  [Value.int IntKind.u8 n, Value.int IntKind.u8 n_6,
  Value.int IntKind.u8 n_7, Value.int IntKind.u8 n_8,
  Value.int IntKind.i64 n_9] →
  Calls Proofs.Tryd.prog 7 #[Value.int IntKind.u32 4294967295] w'_5
  fun (e : Ending) (w'_6 : World) =>
  ∃ (n : Int),
  ∃ (n_11 : Int),
  ∃ (n_12 : Int),
  ∃ (n_13 : Int),
  ∃ (n_14 : Int),
  ∃ (n_15 : Int),
  e =
  Ending.returned
  (Value.tuple
  #[Value.agg
  #[Value.int IntKind.u8 n,
  Value.int IntKind.u8 n_11,
  Value.int IntKind.u8 n_12,
  Value.int IntKind.u8 n_13,
  Value.int IntKind.i64 n_14],
  Value.int IntKind.i64 n_15]) ∧
  ∀ (w'_7 : World),
  w'_7 =
  w'_6.alloc
  (Obj.cells
  #[Value.int IntKind.u8 0,
  Value.int IntKind.u8 0,
  Value.int IntKind.u8 0,
  Value.int IntKind.u8 0,
  Value.int IntKind.i64 0]
  24) →
  SetsAt w'_7 (Addr.mk w'_6.heap.size 0 none) 0
  [Value.int IntKind.u8 n,
  Value.int IntKind.u8 n_11,
  Value.int IntKind.u8 n_12,
  Value.int IntKind.u8 n_13,
  Value.int IntKind.i64 n_14] ∧
  ∀ (w'_8 : World),
  w'_8 =
  setCellsAt w'_7
  (Addr.mk w'_6.heap.size 0 none) 0
  [Value.int IntKind.u8 n,
  Value.int IntKind.u8 n_11,
  Value.int IntKind.u8 n_12,
  Value.int IntKind.u8 n_13,
  Value.int IntKind.i64 n_14] →
  Calls Proofs.Tryd.prog 12
  #[Value.string
  (ByteArray.mk #[115, 0, 0, 0])]
  w'_8 fun (e : Ending) (w'_9 : World) =>
  ∃ (p : Option Addr),
  ∃ (n : Nat),
  ∃ (c : Nat),
  ∃ (n_16 : Int),
  e =
  Ending.returned
  (Value.tuple
  #[Value.slice p n c,
  Value.int IntKind.i64
  n_16]) ∧
  Calls Proofs.Tryd.prog 12
  #[Value.string
  (ByteArray.mk #[115])]
  w'_9
  fun (e : Ending)
  (w'_10 : World) =>
  ∃ (p : Option Addr),
  ∃ (n_17 : Nat),
  ∃ (c : Nat),
  ∃ (n_18 : Int),
  e =
  Ending.returned
  (Value.tuple
  #[Value.slice
  p n_17
  c,
  Value.int
  IntKind.i64
  n_18]) ∧
  ∃ (n_19 : Int),
  ∃ (n_20 : Int),
  ∃ (n_21 :
  Int),
  ∃ (n_22 :
  Int),
  ∃ (n_23 :
  Int),
  (w'_10.cell?
  (Addr.mk
  w'.heap.size
  0
  none) =
  some
  (Value.int
  IntKind.u8
  n_19) ∧
  w'_10.cell?
  (Addr.mk
  w'.heap.size
  1
  none) =
  some
  (Value.int
  IntKind.u8
  n_20) ∧
  w'_10.cell?
  (Addr.mk
  w'.heap.size
  2
  none) =
  some
  (Value.int
  IntKind.u8
  n_21) ∧
  w'_10.cell?
  (Addr.mk
  w'.heap.size
  3
  none) =
  some
  (Value.int
  IntKind.u8
  n_22) ∧
  w'_10.cell?
  (Addr.mk
  w'.heap.size
  4
  none) =
  some
  (Value.int
  IntKind.i64
  n_23) ∧
  True) ∧
  ∃ (b :
  Bool),
  EqRuns
  Proofs.Tryd.prog
  BinOp.eql
  24
  (Operand.tmp
  31)
  (Operand.tmp
  32)
  (Value.agg
  #[Value.int
  IntKind.u8
  n_19,
  Value.int
  IntKind.u8
  n_20,
  Value.int
  IntKind.u8
  n_21,
  Value.int
  IntKind.u8
  n_22,
  Value.int
  IntKind.i64
  n_23])
  (Value.agg
  #[Value.int
  IntKind.u8
  15,
  Value.int
  IntKind.u8
  1,
  Value.int
  IntKind.u8
  0,
  Value.int
  IntKind.u8
  0,
  Value.int
  IntKind.i64
  (-1)])
  b ∧
  cnd
  b
  (cnd
  (n_5 ==
  0)
  (cnd
  (n_10 ==
  7)
  (cnd
  (n_15 ==
  7)
  (cnd
  ((↑n :
  Int) ==
  1)
  (cnd
  (n_16 ==
  0)
  (cnd
  (n_18 ==
  7)
  (Calls
  Proofs.Tryd.prog
  9
  #[Value.agg
  #[Value.int
  IntKind.u8
  29,
  Value.int
  IntKind.u8
  0,
  Value.int
  IntKind.u8
  5,
  Value.int
  IntKind.u8
  0,
  Value.int
  IntKind.i64
  (-4)]]
  w'_10
  fun
  (e :
  Ending)
  (w' :
  World) =>
  ∃
  (s
  :
  ByteArray),
  e =
  Ending.returned
  (Value.string
  s) ∧
  cnd
  (s.toList ==
  (ByteArray.mk
  #[98,
  110,
  101,
  32,
  120,
  53,
  32,
  120,
  48,
  32,
  45,
  52]).toList)
  (Calls
  Proofs.Tryd.prog
  9
  #[Value.agg
  #[Value.int
  IntKind.u8
  0,
  Value.int
  IntKind.u8
  0,
  Value.int
  IntKind.u8
  0,
  Value.int
  IntKind.u8
  0,
  Value.int
  IntKind.i64
  0]]
  w'
  fun
  (e :
  Ending)
  (w' :
  World) =>
  ∃
  (s
  :
  ByteArray),
  e =
  Ending.returned
  (Value.string
  s) ∧
  R
  (Ending.returned
  (Value.bool
  (s.toList ==
  (ByteArray.mk
  #[63]).toList)))
  w')
  (R
  (Ending.returned
  (Value.bool
  false))
  w'))
  (R
  (Ending.returned
  (Value.bool
  false))
  w'_10))
  (R
  (Ending.returned
  (Value.bool
  false))
  w'_10))
  (R
  (Ending.returned
  (Value.bool
  false))
  w'_10))
  (R
  (Ending.returned
  (Value.bool
  false))
  w'_10))
  (R
  (Ending.returned
  (Value.bool
  false))
  w'_10))
  (R
  (Ending.returned
  (Value.bool
  false))
  w'_10))
  (R
  (Ending.returned
  (Value.bool
  false))
  w'_10)
theorem law03_alive.vc_eq (w : World) (R : Ending → World → Prop) : fnV Tryd.prog law03_alive.H 11 [] w R = law03_alive.vc w R := by kernel_rfl
theorem law03_alive.calls {w : World} {R : Ending → World → Prop} (h : law03_alive.vc w R) : Calls Tryd.prog 11 ([] : List Value).toArray w R := calls_of_eq (law03_alive.vc_eq w R) h

/- function 3: sacristy/sacristylaw03.DisasWords -/
abbrev law03_DisasWords.N : FuncId := 3
def law03_DisasWords.H : Hints := {  }
def law03_DisasWords.vc (w' : Int) (x'_0 : Int) (x'_1 : Int) (x'_2 : Int) (x'_3 : Int) (x'_4 : Int) (w : World) (R : Ending → World → Prop) : Prop :=
  ∀ (w'_1 : World),
  w'_1 =
  w.alloc
  (Obj.cells
  #[Value.int IntKind.u8 x'_0, Value.int IntKind.u8 x'_1, Value.int IntKind.u8 x'_2, Value.int IntKind.u8 x'_3,
  Value.int IntKind.i64 x'_4]
  24) →
  Calls Proofs.Tryd.prog 7 #[Value.int IntKind.u32 w'] w'_1 fun (e : Ending) (w'_2 : World) =>
  ∃ (n : Int),
  ∃ (n_1 : Int),
  ∃ (n_2 : Int),
  ∃ (n_3 : Int),
  ∃ (n_4 : Int),
  ∃ (n_5 : Int),
  e =
  Ending.returned
  (Value.tuple
  #[Value.agg
  #[Value.int IntKind.u8 n, Value.int IntKind.u8 n_1, Value.int IntKind.u8 n_2,
  Value.int IntKind.u8 n_3, Value.int IntKind.i64 n_4],
  Value.int IntKind.i64 n_5]) ∧
  ∀ (w'_3 : World),
  w'_3 =
  w'_2.alloc
  (Obj.cells
  #[Value.int IntKind.u8 0, Value.int IntKind.u8 0, Value.int IntKind.u8 0,
  Value.int IntKind.u8 0, Value.int IntKind.i64 0]
  24) →
  SetsAt w'_3 (Addr.mk w'_2.heap.size 0 none) 0
  [Value.int IntKind.u8 n, Value.int IntKind.u8 n_1, Value.int IntKind.u8 n_2,
  Value.int IntKind.u8 n_3, Value.int IntKind.i64 n_4] ∧
  ∀ (w'_4 : World),
  w'_4 =
  setCellsAt w'_3 (Addr.mk w'_2.heap.size 0 none) 0
  [Value.int IntKind.u8 n, Value.int IntKind.u8 n_1, Value.int IntKind.u8 n_2,
  Value.int IntKind.u8 n_3, Value.int IntKind.i64 n_4] →
  Calls Proofs.Tryd.prog 8 #[Value.int IntKind.u32 w'] w'_4 fun (e : Ending) (w' : World) =>
  ∃ (n : Int),
  ∃ (n_6 : Int),
  ∃ (n_7 : Int),
  ∃ (n_8 : Int),
  ∃ (n_9 : Int),
  ∃ (n_10 : Int),
  e =
  Ending.returned
  (Value.tuple
  #[Value.agg
  #[Value.int IntKind.u8 n, Value.int IntKind.u8 n_6,
  Value.int IntKind.u8 n_7, Value.int IntKind.u8 n_8,
  Value.int IntKind.i64 n_9],
  Value.int IntKind.i64 n_10]) ∧
  ∀ (w'_5 : World),
  w'_5 =
  w'.alloc
  (Obj.cells
  #[Value.int IntKind.u8 0, Value.int IntKind.u8 0,
  Value.int IntKind.u8 0, Value.int IntKind.u8 0,
  Value.int IntKind.i64 0]
  24) →
  SetsAt w'_5 (Addr.mk w'.heap.size 0 none) 0
  [Value.int IntKind.u8 n, Value.int IntKind.u8 n_6,
  Value.int IntKind.u8 n_7, Value.int IntKind.u8 n_8,
  Value.int IntKind.i64 n_9] ∧
  ∀ (w'_6 : World),
  w'_6 =
  setCellsAt w'_5 (Addr.mk w'.heap.size 0 none) 0
  [Value.int IntKind.u8 n, Value.int IntKind.u8 n_6,
  Value.int IntKind.u8 n_7, Value.int IntKind.u8 n_8,
  Value.int IntKind.i64 n_9] →
  ∃ (n : Int),
  ∃ (n_11 : Int),
  ∃ (n_12 : Int),
  ∃ (n_13 : Int),
  ∃ (n_14 : Int),
  (∀ (w' : World),
  Later w'_6 w' →
  w'.cell? (Addr.mk w'_2.heap.size 0 none) =
  some (Value.int IntKind.u8 n) ∧
  w'.cell? (Addr.mk w'_2.heap.size 1 none) =
  some (Value.int IntKind.u8 n_11) ∧
  w'.cell? (Addr.mk w'_2.heap.size 2 none) =
  some (Value.int IntKind.u8 n_12) ∧
  w'.cell? (Addr.mk w'_2.heap.size 3 none) =
  some (Value.int IntKind.u8 n_13) ∧
  w'.cell?
  (Addr.mk w'_2.heap.size 4 none) =
  some (Value.int IntKind.i64 n_14) ∧
  True) ∧
  ∃ (n_15 : Int),
  ∃ (n_16 : Int),
  ∃ (n_17 : Int),
  ∃ (n_18 : Int),
  ∃ (n_19 : Int),
  (∀ (w'_7 : World),
  Later w'_6 w'_7 →
  w'_7.cell?
  (Addr.mk w'.heap.size 0
  none) =
  some
  (Value.int IntKind.u8 n_15) ∧
  w'_7.cell?
  (Addr.mk w'.heap.size 1
  none) =
  some
  (Value.int IntKind.u8
  n_16) ∧
  w'_7.cell?
  (Addr.mk w'.heap.size 2
  none) =
  some
  (Value.int IntKind.u8
  n_17) ∧
  w'_7.cell?
  (Addr.mk w'.heap.size 3
  none) =
  some
  (Value.int IntKind.u8
  n_18) ∧
  w'_7.cell?
  (Addr.mk w'.heap.size
  4 none) =
  some
  (Value.int IntKind.i64
  n_19) ∧
  True) ∧
  ∃ (b : Bool),
  EqRuns Proofs.Tryd.prog BinOp.eql 24
  (Operand.tmp 19) (Operand.tmp 20)
  (Value.agg
  #[Value.int IntKind.u8 n,
  Value.int IntKind.u8 n_11,
  Value.int IntKind.u8 n_12,
  Value.int IntKind.u8 n_13,
  Value.int IntKind.i64 n_14])
  (Value.agg
  #[Value.int IntKind.u8 n_15,
  Value.int IntKind.u8 n_16,
  Value.int IntKind.u8 n_17,
  Value.int IntKind.u8 n_18,
  Value.int IntKind.i64 n_19])
  b ∧
  cnd b
  (cnd (n_5 == n_10)
  (∃ (n : Int),
  ∃ (n_20 : Int),
  ∃ (n_21 : Int),
  ∃ (n_22 : Int),
  ∃ (n_23 : Int),
  (∀ (w' : World),
  Later w'_6 w' →
  w'.cell?
  (Addr.mk
  w.heap.size
  0
  none) =
  some
  (Value.int
  IntKind.u8
  n) ∧
  w'.cell?
  (Addr.mk
  w.heap.size
  1
  none) =
  some
  (Value.int
  IntKind.u8
  n_20) ∧
  w'.cell?
  (Addr.mk
  w.heap.size
  2
  none) =
  some
  (Value.int
  IntKind.u8
  n_21) ∧
  w'.cell?
  (Addr.mk
  w.heap.size
  3
  none) =
  some
  (Value.int
  IntKind.u8
  n_22) ∧
  w'.cell?
  (Addr.mk
  w.heap.size
  4
  none) =
  some
  (Value.int
  IntKind.i64
  n_23) ∧
  True) ∧
  ∃ (s : ByteArray),
  (∀ (w' : World),
  Later w'_6
  w' →
  Calls
  Proofs.Tryd.prog
  9
  #[Value.agg
  #[Value.int
  IntKind.u8
  n,
  Value.int
  IntKind.u8
  n_20,
  Value.int
  IntKind.u8
  n_21,
  Value.int
  IntKind.u8
  n_22,
  Value.int
  IntKind.i64
  n_23]]
  w'
  fun
  (e :
  Ending)
  (w'' :
  World) =>
  e =
  Ending.returned
  (Value.string
  s) ∧
  Later w'
  w'') ∧
  ∃ (n : Int),
  ∃ (n_24 :
  Int),
  ∃ (n_25 :
  Int),
  ∃ (n_26 :
  Int),
  ∃ (n_27
  :
  Int),
  (∀
  (w' :
  World),
  Later
  w'_6
  w' →
  w'.cell?
  (Addr.mk
  w.heap.size
  0
  none) =
  some
  (Value.int
  IntKind.u8
  n) ∧
  w'.cell?
  (Addr.mk
  w.heap.size
  1
  none) =
  some
  (Value.int
  IntKind.u8
  n_24) ∧
  w'.cell?
  (Addr.mk
  w.heap.size
  2
  none) =
  some
  (Value.int
  IntKind.u8
  n_25) ∧
  w'.cell?
  (Addr.mk
  w.heap.size
  3
  none) =
  some
  (Value.int
  IntKind.u8
  n_26) ∧
  w'.cell?
  (Addr.mk
  w.heap.size
  4
  none) =
  some
  (Value.int
  IntKind.i64
  n_27) ∧
  True) ∧
  ∃
  (s_1
  :
  ByteArray),
  (∀
  (w' :
  World),
  Later
  w'_6
  w' →
  Calls
  Proofs.Tryd.prog
  10
  #[Value.agg
  #[Value.int
  IntKind.u8
  n,
  Value.int
  IntKind.u8
  n_24,
  Value.int
  IntKind.u8
  n_25,
  Value.int
  IntKind.u8
  n_26,
  Value.int
  IntKind.i64
  n_27]]
  w'
  fun
  (e :
  Ending)
  (w'' :
  World) =>
  e =
  Ending.returned
  (Value.string
  s_1) ∧
  Later
  w'
  w'') ∧
  cnd
  (s.toList ==
  s_1.toList)
  (∃
  (n
  :
  Int),
  ∃
  (n_28
  :
  Int),
  ∃
  (n_29
  :
  Int),
  ∃
  (n_30
  :
  Int),
  ∃
  (n_31
  :
  Int),
  (∀
  (w' :
  World),
  Later
  w'_6
  w' →
  w'.cell?
  (Addr.mk
  w'_2.heap.size
  0
  none) =
  some
  (Value.int
  IntKind.u8
  n) ∧
  w'.cell?
  (Addr.mk
  w'_2.heap.size
  1
  none) =
  some
  (Value.int
  IntKind.u8
  n_28) ∧
  w'.cell?
  (Addr.mk
  w'_2.heap.size
  2
  none) =
  some
  (Value.int
  IntKind.u8
  n_29) ∧
  w'.cell?
  (Addr.mk
  w'_2.heap.size
  3
  none) =
  some
  (Value.int
  IntKind.u8
  n_30) ∧
  w'.cell?
  (Addr.mk
  w'_2.heap.size
  4
  none) =
  some
  (Value.int
  IntKind.i64
  n_31) ∧
  True) ∧
  ∃
  (s
  :
  ByteArray),
  (∀
  (w' :
  World),
  Later
  w'_6
  w' →
  Calls
  Proofs.Tryd.prog
  9
  #[Value.agg
  #[Value.int
  IntKind.u8
  n,
  Value.int
  IntKind.u8
  n_28,
  Value.int
  IntKind.u8
  n_29,
  Value.int
  IntKind.u8
  n_30,
  Value.int
  IntKind.i64
  n_31]]
  w'
  fun
  (e :
  Ending)
  (w'' :
  World) =>
  e =
  Ending.returned
  (Value.string
  s) ∧
  Later
  w'
  w'') ∧
  ∃
  (n
  :
  Int),
  ∃
  (n_32
  :
  Int),
  ∃
  (n_33
  :
  Int),
  ∃
  (n_34
  :
  Int),
  ∃
  (n_35
  :
  Int),
  (∀
  (w'_7 :
  World),
  Later
  w'_6
  w'_7 →
  w'_7.cell?
  (Addr.mk
  w'.heap.size
  0
  none) =
  some
  (Value.int
  IntKind.u8
  n) ∧
  w'_7.cell?
  (Addr.mk
  w'.heap.size
  1
  none) =
  some
  (Value.int
  IntKind.u8
  n_32) ∧
  w'_7.cell?
  (Addr.mk
  w'.heap.size
  2
  none) =
  some
  (Value.int
  IntKind.u8
  n_33) ∧
  w'_7.cell?
  (Addr.mk
  w'.heap.size
  3
  none) =
  some
  (Value.int
  IntKind.u8
  n_34) ∧
  w'_7.cell?
  (Addr.mk
  w'.heap.size
  4
  none) =
  some
  (Value.int
  IntKind.i64
  n_35) ∧
  True) ∧
  ∃
  (s_2
  :
  ByteArray),
  (∀
  (w' :
  World),
  Later
  w'_6
  w' →
  Calls
  Proofs.Tryd.prog
  10
  #[Value.agg
  #[Value.int
  IntKind.u8
  n,
  Value.int
  IntKind.u8
  n_32,
  Value.int
  IntKind.u8
  n_33,
  Value.int
  IntKind.u8
  n_34,
  Value.int
  IntKind.i64
  n_35]]
  w'
  fun
  (e :
  Ending)
  (w'' :
  World) =>
  e =
  Ending.returned
  (Value.string
  s_2) ∧
  Later
  w'
  w'') ∧
  cnd
  (s.toList ==
  s_2.toList)
  (∃
  (b
  :
  Bool),
  (∀
  (w' :
  World),
  Later
  w'_6
  w' →
  Calls
  Proofs.Tryd.prog
  11
  #[]
  w'
  fun
  (e :
  Ending)
  (w'' :
  World) =>
  e =
  Ending.returned
  (Value.bool
  b) ∧
  Later
  w'
  w'') ∧
  ∀
  (w' :
  World),
  Later
  w'_6
  w' →
  R
  (Ending.returned
  (Value.bool
  b))
  w')
  (∀
  (w' :
  World),
  Later
  w'_6
  w' →
  R
  (Ending.returned
  (Value.bool
  false))
  w'))
  (∀
  (w' :
  World),
  Later
  w'_6
  w' →
  R
  (Ending.returned
  (Value.bool
  false))
  w'))
  (∀ (w' : World),
  Later w'_6 w' →
  R
  (Ending.returned
  (Value.bool false))
  w'))
  (∀ (w' : World),
  Later w'_6 w' →
  R
  (Ending.returned
  (Value.bool false))
  w')
theorem law03_DisasWords.vc_eq (w' : Int) (x'_0 : Int) (x'_1 : Int) (x'_2 : Int) (x'_3 : Int) (x'_4 : Int) (w : World) (R : Ending → World → Prop) : fnV Tryd.prog law03_DisasWords.H 3 [Value.int IntKind.u32 w',
  Value.agg
  #[Value.int IntKind.u8 x'_0, Value.int IntKind.u8 x'_1, Value.int IntKind.u8 x'_2, Value.int IntKind.u8 x'_3,
  Value.int IntKind.i64 x'_4]] w R = law03_DisasWords.vc w' x'_0 x'_1 x'_2 x'_3 x'_4 w R := by kernel_rfl
theorem law03_DisasWords.calls {w' : Int} {x'_0 : Int} {x'_1 : Int} {x'_2 : Int} {x'_3 : Int} {x'_4 : Int} {w : World} {R : Ending → World → Prop} (h : law03_DisasWords.vc w' x'_0 x'_1 x'_2 x'_3 x'_4 w R) : Calls Tryd.prog 3 ([Value.int IntKind.u32 w',
  Value.agg
  #[Value.int IntKind.u8 x'_0, Value.int IntKind.u8 x'_1, Value.int IntKind.u8 x'_2, Value.int IntKind.u8 x'_3,
  Value.int IntKind.i64 x'_4]] : List Value).toArray w R := calls_of_eq (law03_DisasWords.vc_eq w' x'_0 x'_1 x'_2 x'_3 x'_4 w R) h

/- function 4: sacristy/sacristylaw03.DisasAll -/
abbrev law03_DisasAll.N : FuncId := 4
def law03_DisasAll.H : Hints := {  }
def law03_DisasAll.vc (s' : ByteArray) (w : World) (R : Ending → World → Prop) : Prop :=
  cnd (decide ((↑s'.size : Int) > 2048))
  (Calls Proofs.Tryd.prog 11 #[] w fun (e : Ending) (w' : World) =>
  ∃ (b : Bool), e = Ending.returned (Value.bool b) ∧ R (Ending.returned (Value.bool b)) w')
  (Calls Proofs.Tryd.prog 12 #[Value.string s'] w fun (e : Ending) (w' : World) =>
  ∃ (p : Option Addr),
  ∃ (n : Nat),
  ∃ (c : Nat),
  ∃ (n_1 : Int),
  e = Ending.returned (Value.tuple #[Value.slice p n c, Value.int IntKind.i64 n_1]) ∧
  Calls Proofs.Tryd.prog 13 #[Value.string s'] w' fun (e : Ending) (w' : World) =>
  ∃ (p_1 : Option Addr),
  ∃ (n_2 : Nat),
  ∃ (c_1 : Nat),
  ∃ (n_3 : Int),
  e = Ending.returned (Value.tuple #[Value.slice p_1 n_2 c_1, Value.int IntKind.i64 n_3]) ∧
  Calls Proofs.Tryd.prog 14 #[Value.slice p n c, Value.slice p_1 n_2 c_1] w'
  fun (e : Ending) (w' : World) =>
  ∃ (b : Bool),
  e = Ending.returned (Value.bool b) ∧
  cnd b
  (cnd (n_1 == n_3)
  (Calls Proofs.Tryd.prog 11 #[] w' fun (e : Ending) (w' : World) =>
  ∃ (b : Bool),
  e = Ending.returned (Value.bool b) ∧ R (Ending.returned (Value.bool b)) w')
  (R (Ending.returned (Value.bool false)) w'))
  (R (Ending.returned (Value.bool false)) w'))
theorem law03_DisasAll.vc_eq (s' : ByteArray) (w : World) (R : Ending → World → Prop) : fnV Tryd.prog law03_DisasAll.H 4 [Value.string s'] w R = law03_DisasAll.vc s' w R := by kernel_rfl
theorem law03_DisasAll.calls {s' : ByteArray} {w : World} {R : Ending → World → Prop} (h : law03_DisasAll.vc s' w R) : Calls Tryd.prog 4 ([Value.string s'] : List Value).toArray w R := calls_of_eq (law03_DisasAll.vc_eq s' w R) h

/- function 5: sacristy/sacristylaw03.DisasBack -/
abbrev law03_DisasBack.N : FuncId := 5
def law03_DisasBack.H : Hints := {  }
def law03_DisasBack.vc (x'_0 : Int) (x'_1 : Int) (x'_2 : Int) (x'_3 : Int) (x'_4 : Int) (w' : Int) (w : World) (R : Ending → World → Prop) : Prop :=
  ∀ (w'_1 : World),
  w'_1 =
  w.alloc
  (Obj.cells
  #[Value.int IntKind.u8 x'_0, Value.int IntKind.u8 x'_1, Value.int IntKind.u8 x'_2, Value.int IntKind.u8 x'_3,
  Value.int IntKind.i64 x'_4]
  24) →
  ∃ (n : Int),
  ∃ (n_1 : Int),
  ∃ (n_2 : Int),
  ∃ (n_3 : Int),
  ∃ (n_4 : Int),
  (w'_1.cell? (Addr.mk w.heap.size 0 none) = some (Value.int IntKind.u8 n) ∧
  w'_1.cell? (Addr.mk w.heap.size 1 none) = some (Value.int IntKind.u8 n_1) ∧
  w'_1.cell? (Addr.mk w.heap.size 2 none) = some (Value.int IntKind.u8 n_2) ∧
  w'_1.cell? (Addr.mk w.heap.size 3 none) = some (Value.int IntKind.u8 n_3) ∧
  w'_1.cell? (Addr.mk w.heap.size 4 none) = some (Value.int IntKind.i64 n_4) ∧ True) ∧
  Calls Proofs.Tryd.prog 15
  #[Value.agg
  #[Value.int IntKind.u8 n, Value.int IntKind.u8 n_1, Value.int IntKind.u8 n_2,
  Value.int IntKind.u8 n_3, Value.int IntKind.i64 n_4]]
  w'_1 fun (e : Ending) (w'_2 : World) =>
  ∃ (n : Int),
  ∃ (n_5 : Int),
  e = Ending.returned (Value.tuple #[Value.int IntKind.u32 n, Value.int IntKind.i64 n_5]) ∧
  cnd (n_5 == 0)
  (Calls Proofs.Tryd.prog 7 #[Value.int IntKind.u32 n] w'_2 fun (e : Ending) (w'_3 : World) =>
  ∃ (n : Int),
  ∃ (n_6 : Int),
  ∃ (n_7 : Int),
  ∃ (n_8 : Int),
  ∃ (n_9 : Int),
  ∃ (n_10 : Int),
  e =
  Ending.returned
  (Value.tuple
  #[Value.agg
  #[Value.int IntKind.u8 n, Value.int IntKind.u8 n_6,
  Value.int IntKind.u8 n_7, Value.int IntKind.u8 n_8,
  Value.int IntKind.i64 n_9],
  Value.int IntKind.i64 n_10]) ∧
  ∀ (w'_4 : World),
  w'_4 =
  w'_3.alloc
  (Obj.cells
  #[Value.int IntKind.u8 0, Value.int IntKind.u8 0,
  Value.int IntKind.u8 0, Value.int IntKind.u8 0,
  Value.int IntKind.i64 0]
  24) →
  SetsAt w'_4 (Addr.mk w'_3.heap.size 0 none) 0
  [Value.int IntKind.u8 n, Value.int IntKind.u8 n_6,
  Value.int IntKind.u8 n_7, Value.int IntKind.u8 n_8,
  Value.int IntKind.i64 n_9] ∧
  ∀ (w'_5 : World),
  w'_5 =
  setCellsAt w'_4 (Addr.mk w'_3.heap.size 0 none) 0
  [Value.int IntKind.u8 n, Value.int IntKind.u8 n_6,
  Value.int IntKind.u8 n_7, Value.int IntKind.u8 n_8,
  Value.int IntKind.i64 n_9] →
  cnd (n_10 != 0) (R (Ending.returned (Value.bool false)) w'_5)
  (∃ (n : Int),
  ∃ (n_11 : Int),
  ∃ (n_12 : Int),
  ∃ (n_13 : Int),
  ∃ (n_14 : Int),
  (w'_5.cell? (Addr.mk w'_3.heap.size 0 none) =
  some (Value.int IntKind.u8 n) ∧
  w'_5.cell? (Addr.mk w'_3.heap.size 1 none) =
  some (Value.int IntKind.u8 n_11) ∧
  w'_5.cell? (Addr.mk w'_3.heap.size 2 none) =
  some (Value.int IntKind.u8 n_12) ∧
  w'_5.cell? (Addr.mk w'_3.heap.size 3 none) =
  some (Value.int IntKind.u8 n_13) ∧
  w'_5.cell? (Addr.mk w'_3.heap.size 4 none) =
  some (Value.int IntKind.i64 n_14) ∧
  True) ∧
  ∃ (n_15 : Int),
  ∃ (n_16 : Int),
  ∃ (n_17 : Int),
  ∃ (n_18 : Int),
  ∃ (n_19 : Int),
  (w'_5.cell? (Addr.mk w.heap.size 0 none) =
  some (Value.int IntKind.u8 n_15) ∧
  w'_5.cell?
  (Addr.mk w.heap.size 1 none) =
  some (Value.int IntKind.u8 n_16) ∧
  w'_5.cell?
  (Addr.mk w.heap.size 2 none) =
  some (Value.int IntKind.u8 n_17) ∧
  w'_5.cell?
  (Addr.mk w.heap.size 3 none) =
  some
  (Value.int IntKind.u8 n_18) ∧
  w'_5.cell?
  (Addr.mk w.heap.size 4
  none) =
  some
  (Value.int IntKind.i64
  n_19) ∧
  True) ∧
  ∃ (b : Bool),
  EqRuns Proofs.Tryd.prog BinOp.neq 24
  (Operand.tmp 28) (Operand.tmp 29)
  (Value.agg
  #[Value.int IntKind.u8 n,
  Value.int IntKind.u8 n_11,
  Value.int IntKind.u8 n_12,
  Value.int IntKind.u8 n_13,
  Value.int IntKind.i64 n_14])
  (Value.agg
  #[Value.int IntKind.u8 n_15,
  Value.int IntKind.u8 n_16,
  Value.int IntKind.u8 n_17,
  Value.int IntKind.u8 n_18,
  Value.int IntKind.i64 n_19])
  b ∧
  cnd b
  (R
  (Ending.returned
  (Value.bool false))
  w'_5)
  (Calls Proofs.Tryd.prog 7
  #[Value.int IntKind.u32 w'] w'_5
  fun (e : Ending) (w'_6 : World) =>
  ∃ (n : Int),
  ∃ (n_20 : Int),
  ∃ (n_21 : Int),
  ∃ (n_22 : Int),
  ∃ (n_23 : Int),
  ∃ (n_24 : Int),
  e =
  Ending.returned
  (Value.tuple
  #[Value.agg
  #[Value.int
  IntKind.u8
  n,
  Value.int
  IntKind.u8
  n_20,
  Value.int
  IntKind.u8
  n_21,
  Value.int
  IntKind.u8
  n_22,
  Value.int
  IntKind.i64
  n_23],
  Value.int
  IntKind.i64
  n_24]) ∧
  ∀ (w'_7 : World),
  w'_7 =
  w'_6.alloc
  (Obj.cells
  #[Value.int
  IntKind.u8
  0,
  Value.int
  IntKind.u8
  0,
  Value.int
  IntKind.u8
  0,
  Value.int
  IntKind.u8
  0,
  Value.int
  IntKind.i64
  0]
  24) →
  SetsAt w'_7
  (Addr.mk
  w'_6.heap.size
  0 none)
  0
  [Value.int
  IntKind.u8
  n,
  Value.int
  IntKind.u8
  n_20,
  Value.int
  IntKind.u8
  n_21,
  Value.int
  IntKind.u8
  n_22,
  Value.int
  IntKind.i64
  n_23] ∧
  ∀
  (w'_8 :
  World),
  w'_8 =
  setCellsAt
  w'_7
  (Addr.mk
  w'_6.heap.size
  0
  none)
  0
  [Value.int
  IntKind.u8
  n,
  Value.int
  IntKind.u8
  n_20,
  Value.int
  IntKind.u8
  n_21,
  Value.int
  IntKind.u8
  n_22,
  Value.int
  IntKind.i64
  n_23] →
  cnd
  (n_24 !=
  0)
  (cnd
  (n_24 ==
  7)
  (∃ (n
  :
  Int),
  ∃
  (n_25
  :
  Int),
  ∃
  (n_26
  :
  Int),
  ∃
  (n_27
  :
  Int),
  ∃
  (n_28
  :
  Int),
  (w'_8.cell?
  (Addr.mk
  w'_6.heap.size
  0
  none) =
  some
  (Value.int
  IntKind.u8
  n) ∧
  w'_8.cell?
  (Addr.mk
  w'_6.heap.size
  1
  none) =
  some
  (Value.int
  IntKind.u8
  n_25) ∧
  w'_8.cell?
  (Addr.mk
  w'_6.heap.size
  2
  none) =
  some
  (Value.int
  IntKind.u8
  n_26) ∧
  w'_8.cell?
  (Addr.mk
  w'_6.heap.size
  3
  none) =
  some
  (Value.int
  IntKind.u8
  n_27) ∧
  w'_8.cell?
  (Addr.mk
  w'_6.heap.size
  4
  none) =
  some
  (Value.int
  IntKind.i64
  n_28) ∧
  True) ∧
  ∃
  (b
  :
  Bool),
  EqRuns
  Proofs.Tryd.prog
  BinOp.eql
  24
  (Operand.tmp
  42)
  (Operand.tmp
  43)
  (Value.agg
  #[Value.int
  IntKind.u8
  n,
  Value.int
  IntKind.u8
  n_25,
  Value.int
  IntKind.u8
  n_26,
  Value.int
  IntKind.u8
  n_27,
  Value.int
  IntKind.i64
  n_28])
  (Value.agg
  #[Value.int
  IntKind.u8
  0,
  Value.int
  IntKind.u8
  0,
  Value.int
  IntKind.u8
  0,
  Value.int
  IntKind.u8
  0,
  Value.int
  IntKind.i64
  0])
  b ∧
  cnd
  b
  (Calls
  Proofs.Tryd.prog
  11
  #[]
  w'_8
  fun
  (e :
  Ending)
  (w' :
  World) =>
  ∃
  (b
  :
  Bool),
  e =
  Ending.returned
  (Value.bool
  b) ∧
  R
  (Ending.returned
  (Value.bool
  b))
  w')
  (R
  (Ending.returned
  (Value.bool
  false))
  w'_8))
  (R
  (Ending.returned
  (Value.bool
  false))
  w'_8))
  (∃ (n :
  Int),
  ∃
  (n_25
  :
  Int),
  ∃
  (n_26
  :
  Int),
  ∃
  (n_27
  :
  Int),
  ∃
  (n_28
  :
  Int),
  (w'_8.cell?
  (Addr.mk
  w'_6.heap.size
  0
  none) =
  some
  (Value.int
  IntKind.u8
  n) ∧
  w'_8.cell?
  (Addr.mk
  w'_6.heap.size
  1
  none) =
  some
  (Value.int
  IntKind.u8
  n_25) ∧
  w'_8.cell?
  (Addr.mk
  w'_6.heap.size
  2
  none) =
  some
  (Value.int
  IntKind.u8
  n_26) ∧
  w'_8.cell?
  (Addr.mk
  w'_6.heap.size
  3
  none) =
  some
  (Value.int
  IntKind.u8
  n_27) ∧
  w'_8.cell?
  (Addr.mk
  w'_6.heap.size
  4
  none) =
  some
  (Value.int
  IntKind.i64
  n_28) ∧
  True) ∧
  Calls
  Proofs.Tryd.prog
  15
  #[Value.agg
  #[Value.int
  IntKind.u8
  n,
  Value.int
  IntKind.u8
  n_25,
  Value.int
  IntKind.u8
  n_26,
  Value.int
  IntKind.u8
  n_27,
  Value.int
  IntKind.i64
  n_28]]
  w'_8
  fun
  (e :
  Ending)
  (w'_9 :
  World) =>
  ∃
  (n
  :
  Int),
  ∃
  (n_29
  :
  Int),
  e =
  Ending.returned
  (Value.tuple
  #[Value.int
  IntKind.u32
  n,
  Value.int
  IntKind.i64
  n_29]) ∧
  cnd
  (n ==
  w')
  (cnd
  (n_29 ==
  0)
  (Calls
  Proofs.Tryd.prog
  11
  #[]
  w'_9
  fun
  (e :
  Ending)
  (w' :
  World) =>
  ∃
  (b
  :
  Bool),
  e =
  Ending.returned
  (Value.bool
  b) ∧
  R
  (Ending.returned
  (Value.bool
  b))
  w')
  (R
  (Ending.returned
  (Value.bool
  false))
  w'_9))
  (R
  (Ending.returned
  (Value.bool
  false))
  w'_9)))))
  (Calls Proofs.Tryd.prog 7 #[Value.int IntKind.u32 w'] w'_2 fun (e : Ending) (w'_3 : World) =>
  ∃ (n : Int),
  ∃ (n_6 : Int),
  ∃ (n_7 : Int),
  ∃ (n_8 : Int),
  ∃ (n_9 : Int),
  ∃ (n_10 : Int),
  e =
  Ending.returned
  (Value.tuple
  #[Value.agg
  #[Value.int IntKind.u8 n, Value.int IntKind.u8 n_6,
  Value.int IntKind.u8 n_7, Value.int IntKind.u8 n_8,
  Value.int IntKind.i64 n_9],
  Value.int IntKind.i64 n_10]) ∧
  ∀ (w'_4 : World),
  w'_4 =
  w'_3.alloc
  (Obj.cells
  #[Value.int IntKind.u8 0, Value.int IntKind.u8 0,
  Value.int IntKind.u8 0, Value.int IntKind.u8 0,
  Value.int IntKind.i64 0]
  24) →
  SetsAt w'_4 (Addr.mk w'_3.heap.size 0 none) 0
  [Value.int IntKind.u8 n, Value.int IntKind.u8 n_6,
  Value.int IntKind.u8 n_7, Value.int IntKind.u8 n_8,
  Value.int IntKind.i64 n_9] ∧
  ∀ (w'_5 : World),
  w'_5 =
  setCellsAt w'_4 (Addr.mk w'_3.heap.size 0 none) 0
  [Value.int IntKind.u8 n, Value.int IntKind.u8 n_6,
  Value.int IntKind.u8 n_7, Value.int IntKind.u8 n_8,
  Value.int IntKind.i64 n_9] →
  cnd (n_10 != 0)
  (cnd (n_10 == 7)
  (∃ (n : Int),
  ∃ (n_11 : Int),
  ∃ (n_12 : Int),
  ∃ (n_13 : Int),
  ∃ (n_14 : Int),
  (w'_5.cell? (Addr.mk w'_3.heap.size 0 none) =
  some (Value.int IntKind.u8 n) ∧
  w'_5.cell? (Addr.mk w'_3.heap.size 1 none) =
  some (Value.int IntKind.u8 n_11) ∧
  w'_5.cell? (Addr.mk w'_3.heap.size 2 none) =
  some (Value.int IntKind.u8 n_12) ∧
  w'_5.cell? (Addr.mk w'_3.heap.size 3 none) =
  some (Value.int IntKind.u8 n_13) ∧
  w'_5.cell? (Addr.mk w'_3.heap.size 4 none) =
  some (Value.int IntKind.i64 n_14) ∧
  True) ∧
  ∃ (b : Bool),
  EqRuns Proofs.Tryd.prog BinOp.eql 24
  (Operand.tmp 42) (Operand.tmp 43)
  (Value.agg
  #[Value.int IntKind.u8 n,
  Value.int IntKind.u8 n_11,
  Value.int IntKind.u8 n_12,
  Value.int IntKind.u8 n_13,
  Value.int IntKind.i64 n_14])
  (Value.agg
  #[Value.int IntKind.u8 0,
  Value.int IntKind.u8 0,
  Value.int IntKind.u8 0,
  Value.int IntKind.u8 0,
  Value.int IntKind.i64 0])
  b ∧
  cnd b
  (Calls Proofs.Tryd.prog 11 #[] w'_5
  fun (e : Ending) (w' : World) =>
  ∃ (b : Bool),
  e = Ending.returned (Value.bool b) ∧
  R (Ending.returned (Value.bool b)) w')
  (R (Ending.returned (Value.bool false)) w'_5))
  (R (Ending.returned (Value.bool false)) w'_5))
  (∃ (n : Int),
  ∃ (n_11 : Int),
  ∃ (n_12 : Int),
  ∃ (n_13 : Int),
  ∃ (n_14 : Int),
  (w'_5.cell? (Addr.mk w'_3.heap.size 0 none) =
  some (Value.int IntKind.u8 n) ∧
  w'_5.cell? (Addr.mk w'_3.heap.size 1 none) =
  some (Value.int IntKind.u8 n_11) ∧
  w'_5.cell? (Addr.mk w'_3.heap.size 2 none) =
  some (Value.int IntKind.u8 n_12) ∧
  w'_5.cell? (Addr.mk w'_3.heap.size 3 none) =
  some (Value.int IntKind.u8 n_13) ∧
  w'_5.cell? (Addr.mk w'_3.heap.size 4 none) =
  some (Value.int IntKind.i64 n_14) ∧
  True) ∧
  Calls Proofs.Tryd.prog 15
  #[Value.agg
  #[Value.int IntKind.u8 n,
  Value.int IntKind.u8 n_11,
  Value.int IntKind.u8 n_12,
  Value.int IntKind.u8 n_13,
  Value.int IntKind.i64 n_14]]
  w'_5 fun (e : Ending) (w'_6 : World) =>
  ∃ (n : Int),
  ∃ (n_15 : Int),
  e =
  Ending.returned
  (Value.tuple
  #[Value.int IntKind.u32 n,
  Value.int IntKind.i64 n_15]) ∧
  cnd (n == w')
  (cnd (n_15 == 0)
  (Calls Proofs.Tryd.prog 11 #[] w'_6
  fun (e : Ending) (w' : World) =>
  ∃ (b : Bool),
  e = Ending.returned (Value.bool b) ∧
  R (Ending.returned (Value.bool b))
  w')
  (R (Ending.returned (Value.bool false))
  w'_6))
  (R (Ending.returned (Value.bool false))
  w'_6)))
theorem law03_DisasBack.vc_eq (x'_0 : Int) (x'_1 : Int) (x'_2 : Int) (x'_3 : Int) (x'_4 : Int) (w' : Int) (w : World) (R : Ending → World → Prop) : fnV Tryd.prog law03_DisasBack.H 5 [Value.agg
  #[Value.int IntKind.u8 x'_0, Value.int IntKind.u8 x'_1, Value.int IntKind.u8 x'_2, Value.int IntKind.u8 x'_3,
  Value.int IntKind.i64 x'_4],
  Value.int IntKind.u32 w'] w R = law03_DisasBack.vc x'_0 x'_1 x'_2 x'_3 x'_4 w' w R := by kernel_rfl
theorem law03_DisasBack.calls {x'_0 : Int} {x'_1 : Int} {x'_2 : Int} {x'_3 : Int} {x'_4 : Int} {w' : Int} {w : World} {R : Ending → World → Prop} (h : law03_DisasBack.vc x'_0 x'_1 x'_2 x'_3 x'_4 w' w R) : Calls Tryd.prog 5 ([Value.agg
  #[Value.int IntKind.u8 x'_0, Value.int IntKind.u8 x'_1, Value.int IntKind.u8 x'_2, Value.int IntKind.u8 x'_3,
  Value.int IntKind.i64 x'_4],
  Value.int IntKind.u32 w'] : List Value).toArray w R := calls_of_eq (law03_DisasBack.vc_eq x'_0 x'_1 x'_2 x'_3 x'_4 w' w R) h

/- function 6: sacristy/sacristylaw03.DisasTexts -/
abbrev law03_DisasTexts.N : FuncId := 6
def law03_DisasTexts.H : Hints := { loops := [(11, [(7, .one (.int .i64))]), (14, [(8, .one (.int .i64))])] }
def law03_DisasTexts.vc (l' : Option Addr) (l'n : Nat) (l'c : Nat) (w : World) (R : Ending → World → Prop) : Prop :=
  cnd (decide ((↑l'n : Int) > 60))
  (Calls Proofs.Tryd.prog 11 #[] w fun (e : Ending) (w' : World) =>
  ∃ (b : Bool), e = Ending.returned (Value.bool b) ∧ R (Ending.returned (Value.bool b)) w')
  (RunsV Proofs.Tryd.prog (Builtin.append_ #[31, 31] 31 #[Value.slice none 0 0, Value.slice l' l'n l'c]) w
  fun (v : Value) (w' : World) =>
  ∃ (p : Option Addr),
  ∃ (n : Nat),
  ∃ (c : Nat),
  v = Value.slice p n c ∧
  Calls Proofs.Tryd.prog 16 #[Value.slice p n c] w' fun (e : Ending) (w' : World) =>
  ∃ (s : ByteArray),
  ∃ (n : Int),
  e = Ending.returned (Value.tuple #[Value.string s, Value.int IntKind.i64 n]) ∧
  cnd (n != 0)
  (Calls Proofs.Tryd.prog 11 #[] w' fun (e : Ending) (w' : World) =>
  ∃ (b : Bool), e = Ending.returned (Value.bool b) ∧ R (Ending.returned (Value.bool b)) w')
  (Calls Proofs.Tryd.prog 12 #[Value.string s] w' fun (e : Ending) (w' : World) =>
  ∃ (p : Option Addr),
  ∃ (n : Nat),
  ∃ (c : Nat),
  ∃ (n_1 : Int),
  e = Ending.returned (Value.tuple #[Value.slice p n c, Value.int IntKind.i64 n_1]) ∧
  cnd (n_1 != 0) (R (Ending.returned (Value.bool false)) w')
  (Calls Proofs.Tryd.prog 14 #[Value.slice p n c, Value.slice l' l'n l'c] w'
  fun (e : Ending) (w' : World) =>
  ∃ (b : Bool),
  e = Ending.returned (Value.bool b) ∧
  cnd (!b) (R (Ending.returned (Value.bool false)) w')
  (∃ (I : List Value → World → Prop),
  ∃ (μ : List Value → World → Nat),
  I [Value.int IntKind.i64 0] w' ∧
  ∀ (g : Nat → Value) (i : Int) (w' : World),
  I [Value.int IntKind.i64 i] w' →
  cnd (decide (i < (↑l'n : Int)))
  (∃ (I_1 : List Value → World → Prop),
  ∃ (μ_1 : List Value → World → Nat),
  I_1 [Value.int IntKind.i64 0] w' ∧
  ∀ (g : Nat → Value) (k : Int) (w'_1 : World),
  I_1 [Value.int IntKind.i64 k] w'_1 →
  cnd (decide (k < i))
  ((0 ≤ i ∧ i < (↑l'n : Int)) ∧
  Deref l' fun (a : Addr) =>
  ∃ (n : Int),
  ∃ (n_2 : Int),
  ∃ (n_3 : Int),
  ∃ (n_4 : Int),
  ∃ (n_5 : Int),
  (∀ (w' : World),
  Later w'_1 w' →
  w'.cell? (a.add (i.toNat * 5)) =
  some
  (Value.int IntKind.u8 n) ∧
  w'.cell?
  ((a.add
  (i.toNat * 5)).add
  1) =
  some
  (Value.int IntKind.u8
  n_2) ∧
  w'.cell?
  ((a.add
  (i.toNat *
  5)).add
  2) =
  some
  (Value.int IntKind.u8
  n_3) ∧
  w'.cell?
  ((a.add
  (i.toNat *
  5)).add
  3) =
  some
  (Value.int
  IntKind.u8 n_4) ∧
  w'.cell?
  ((a.add
  (i.toNat *
  5)).add
  4) =
  some
  (Value.int
  IntKind.i64
  n_5) ∧
  True) ∧
  ∃ (s : ByteArray),
  (∀ (w' : World),
  Later w'_1 w' →
  Calls Proofs.Tryd.prog 9
  #[Value.agg
  #[Value.int IntKind.u8
  n,
  Value.int IntKind.u8
  n_2,
  Value.int IntKind.u8
  n_3,
  Value.int IntKind.u8
  n_4,
  Value.int
  IntKind.i64 n_5]]
  w'
  fun (e : Ending)
  (w'' : World) =>
  e =
  Ending.returned
  (Value.string s) ∧
  Later w' w'') ∧
  (0 ≤ k ∧ k < (↑l'n : Int)) ∧
  Deref l' fun (a : Addr) =>
  ∃ (n : Int),
  ∃ (n_6 : Int),
  ∃ (n_7 : Int),
  ∃ (n_8 : Int),
  ∃ (n_9 : Int),
  (∀ (w' : World),
  Later w'_1
  w' →
  w'.cell?
  (a.add
  (k.toNat *
  5)) =
  some
  (Value.int
  IntKind.u8
  n) ∧
  w'.cell?
  ((a.add
  (k.toNat *
  5)).add
  1) =
  some
  (Value.int
  IntKind.u8
  n_6) ∧
  w'.cell?
  ((a.add
  (k.toNat *
  5)).add
  2) =
  some
  (Value.int
  IntKind.u8
  n_7) ∧
  w'.cell?
  ((a.add
  (k.toNat *
  5)).add
  3) =
  some
  (Value.int
  IntKind.u8
  n_8) ∧
  w'.cell?
  ((a.add
  (k.toNat *
  5)).add
  4) =
  some
  (Value.int
  IntKind.i64
  n_9) ∧
  True) ∧
  ∃ (s_1 :
  ByteArray),
  (∀
  (w' :
  World),
  Later w'_1
  w' →
  Calls
  Proofs.Tryd.prog
  9
  #[Value.agg
  #[Value.int
  IntKind.u8
  n,
  Value.int
  IntKind.u8
  n_6,
  Value.int
  IntKind.u8
  n_7,
  Value.int
  IntKind.u8
  n_8,
  Value.int
  IntKind.i64
  n_9]]
  w'
  fun
  (e :
  Ending)
  (w'' :
  World) =>
  e =
  Ending.returned
  (Value.string
  s_1) ∧
  Later
  w'
  w'') ∧
  (0 ≤ i ∧
  i <
  (↑l'n :
  Int)) ∧
  Deref l'
  fun
  (a :
  Addr) =>
  ∃ (n :
  Int),
  ∃
  (n_10
  :
  Int),
  ∃
  (n_11
  :
  Int),
  ∃
  (n_12
  :
  Int),
  ∃
  (n_13
  :
  Int),
  (∀
  (w' :
  World),
  Later
  w'_1
  w' →
  w'.cell?
  (a.add
  (i.toNat *
  5)) =
  some
  (Value.int
  IntKind.u8
  n) ∧
  w'.cell?
  ((a.add
  (i.toNat *
  5)).add
  1) =
  some
  (Value.int
  IntKind.u8
  n_10) ∧
  w'.cell?
  ((a.add
  (i.toNat *
  5)).add
  2) =
  some
  (Value.int
  IntKind.u8
  n_11) ∧
  w'.cell?
  ((a.add
  (i.toNat *
  5)).add
  3) =
  some
  (Value.int
  IntKind.u8
  n_12) ∧
  w'.cell?
  ((a.add
  (i.toNat *
  5)).add
  4) =
  some
  (Value.int
  IntKind.i64
  n_13) ∧
  True) ∧
  (0 ≤
  k ∧
  k <
  (↑l'n :
  Int)) ∧
  Deref
  l'
  fun
  (a :
  Addr) =>
  ∃
  (n_14
  :
  Int),
  ∃
  (n_15
  :
  Int),
  ∃
  (n_16
  :
  Int),
  ∃
  (n_17
  :
  Int),
  ∃
  (n_18
  :
  Int),
  (∀
  (w' :
  World),
  Later
  w'_1
  w' →
  w'.cell?
  (a.add
  (k.toNat *
  5)) =
  some
  (Value.int
  IntKind.u8
  n_14) ∧
  w'.cell?
  ((a.add
  (k.toNat *
  5)).add
  1) =
  some
  (Value.int
  IntKind.u8
  n_15) ∧
  w'.cell?
  ((a.add
  (k.toNat *
  5)).add
  2) =
  some
  (Value.int
  IntKind.u8
  n_16) ∧
  w'.cell?
  ((a.add
  (k.toNat *
  5)).add
  3) =
  some
  (Value.int
  IntKind.u8
  n_17) ∧
  w'.cell?
  ((a.add
  (k.toNat *
  5)).add
  4) =
  some
  (Value.int
  IntKind.i64
  n_18) ∧
  True) ∧
  ∃
  (b
  :
  Bool),
  EqRuns
  Proofs.Tryd.prog
  BinOp.eql
  24
  (Operand.tmp
  60)
  (Operand.tmp
  64)
  (Value.agg
  #[Value.int
  IntKind.u8
  n,
  Value.int
  IntKind.u8
  n_10,
  Value.int
  IntKind.u8
  n_11,
  Value.int
  IntKind.u8
  n_12,
  Value.int
  IntKind.i64
  n_13])
  (Value.agg
  #[Value.int
  IntKind.u8
  n_14,
  Value.int
  IntKind.u8
  n_15,
  Value.int
  IntKind.u8
  n_16,
  Value.int
  IntKind.u8
  n_17,
  Value.int
  IntKind.i64
  n_18])
  b ∧
  ∀
  (w' :
  World),
  Later
  w'_1
  w' →
  cnd
  (!(s.toList ==
  s_1.toList) ==
  b)
  (R
  (Ending.returned
  (Value.bool
  false))
  w')
  (Goes
  I_1
  μ_1
  [Value.int
  IntKind.i64
  k]
  w'_1
  [Value.int
  IntKind.i64
  (IntKind.i64.wrap
  (k +
  1))]
  w'))
  (Goes I μ [Value.int IntKind.i64 i] w'
  [Value.int IntKind.i64 (IntKind.i64.wrap (i + 1))]
  w'_1))
  (Calls Proofs.Tryd.prog 11 #[] w'
  fun (e : Ending) (w' : World) =>
  ∃ (b : Bool),
  e = Ending.returned (Value.bool b) ∧
  R (Ending.returned (Value.bool b)) w')))))
theorem law03_DisasTexts.vc_eq (l' : Option Addr) (l'n : Nat) (l'c : Nat) (w : World) (R : Ending → World → Prop) : fnV Tryd.prog law03_DisasTexts.H 6 [Value.slice l' l'n l'c] w R = law03_DisasTexts.vc l' l'n l'c w R := by kernel_rfl
theorem law03_DisasTexts.calls {l' : Option Addr} {l'n : Nat} {l'c : Nat} {w : World} {R : Ending → World → Prop} (h : law03_DisasTexts.vc l' l'n l'c w R) : Calls Tryd.prog 6 ([Value.slice l' l'n l'c] : List Value).toArray w R := calls_of_eq (law03_DisasTexts.vc_eq l' l'n l'c w R) h

end Go.Proofs.YtgchaghdhofnoaaDoor

/-
An instruction's text, whole: package disas.
Conditions: two of the library's tables read as they are laid.
-/
namespace Go.Proofs.YtgchaghdhofnoaaDoor
open Go Go.Vc Go.RowKit
set_option linter.unusedVariables false
set_option linter.unusedSimpArgs false
set_option linter.unnecessarySimpa false
set_option maxRecDepth 100000

def hasImmS (o : Int) : Bool := decide (14 < o) && !(decide (o = 34))
theorem disas_hasImm_ok (o : Int) (w0 : World) : Calls Tryd.prog disas_hasImm.N #[.int .u8 o] w0 (Gives (.bool (hasImmS o)) w0) := by
  refine disas_hasImm.calls ?_
  unfold disas_hasImm.vc hasImmS
  repeat' (refine cnd_of (fun h => ?_) fun h => ?_)
  all_goals refine ⟨bEnd ?_, Later.refl _⟩
  all_goals simp at *
  all_goals omega
def wordsS (o d a b v : Int) : List ByteArray :=
  ((([nmO o] ++ if hasRdS o = true then [xS d] else []) ++ if hasRs1S o = true then [xS a] else []) ++ if hasRs2S o = true then [xS b] else []) ++ if hasImmS o = true then [decS v] else []
def textL (o d a b v : Int) : List UInt8 := Lib.join ((wordsS o d a b v).map (·.data.toList)) [32]
def textV (o d a b v : Int) : ByteArray := match encv o d a b v with | none => ⟨#[63]⟩ | some _ => ⟨(textL o d a b v).toArray⟩
theorem bytes_len (s : ByteArray) : s.data.toList.length = s.size := by rw [Array.length_toList]; rfl
theorem wordsS_len (o d a b v : Int) : 1 ≤ (wordsS o d a b v).length ∧ (wordsS o d a b v).length ≤ 5 := by
  unfold wordsS
  repeat' split
  all_goals simp
theorem textL_tail (o d a b v : Int) : textL o d a b v = (nmO o).data.toList ++ ((((if hasRdS o = true then 32 :: (xS d).data.toList else []) ++ if hasRs1S o = true then 32 :: (xS a).data.toList else []) ++ if hasRs2S o = true then 32 :: (xS b).data.toList else []) ++ if hasImmS o = true then 32 :: (decS v).data.toList else []) := by
  unfold textL wordsS
  repeat' split
  all_goals simp [Lib.join_cons, Lib.joinTail]
theorem textL_len {o d a b v : Int} (hd : 0 ≤ d ∧ d ≤ 255) (ha : 0 ≤ a ∧ a ≤ 255) (hb : 0 ≤ b ∧ b ≤ 255) (hv : -2147483648 ≤ v ∧ v < 2147483648) : (textL o d a b v).length ≤ 4294967296 := by
  have z : ∀ r : Int, 0 ≤ r ∧ r ≤ 255 → (xS r).data.toList.length ≤ 300 := fun r hr => by
    rw [bytes_len, xS_size, decS_size]
    have := itoa_len (n := r) (k := 255) (by omega)
    omega
  have zd := z d hd
  have za := z a ha
  have zb := z b hb
  have zn : (nmO o).data.toList.length ≤ 5 := by rw [bytes_len]; exact nmO_size o
  have zv : (decS v).data.toList.length ≤ 2147483650 := by rw [bytes_len, decS_size]; exact itoa_len (by omega)
  rw [textL_tail]
  repeat' split
  all_goals simp only [List.length_append, List.length_cons, List.length_nil]
  all_goals omega
theorem alloc_size (w : World) (o : Obj) : (w.alloc o).heap.size = w.heap.size + 1 := Array.size_push ..
theorem opt_len {α : Type} (h : Prop) [Decidable h] (x : α) : (if h then [x] else []).length ≤ 1 := by split <;> simp
theorem LAt.start {w0 w4 w5 : World} {lb sb x : Nat} {s : ByteArray} {cs : List Value} (hl : Later w0 w4) (ho : OwnS w0 w4 9 1 (.slice (some ⟨sb, 0, none⟩) 1 1) 1 [.string s]) (hh : Has w4 lb [.slice none 0 0]) (hlb : w0.heap.size ≤ lb) (hne : sb ≠ lb)
    (hx : Has w4 x cs) (hxs : x ≠ sb) (hxl : x ≠ lb) (e5 : w5 = w4.setCell ⟨lb, 0, none⟩ (.slice (some ⟨sb, 0, none⟩) 1 1)) : LAt w0 w5 lb [x] [s] ∧ Later w0 w5 ∧ Has w5 x cs := by
  have T : Trk w0 w4 [(lb, [.slice none 0 0])] := ⟨hl, by intro y hy; simp at hy; subst hy; exact ⟨hlb, hh⟩, by simp⟩
  have T5 := T.setCell 0 (i := 0) (.slice (some ⟨sb, 0, none⟩) 1 1) rfl
  rw [← e5] at T5
  have other : ∀ k, k ≠ lb → w5.heap[k]? = w4.heap[k]? := fun k hk => by
    rw [e5]
    simp only [World.setCell, Array.getElem?_modify]
    rw [if_neg (fun h => hk h.symm)]
  refine ⟨⟨⟨some ⟨sb, 0, none⟩, 1, T5.has 0 rfl, OwnS.kept ho fun k hk => other k ?_, fun k hk => ?_⟩, hlb, fun k hk => ?_⟩, T5.to, hx.kept (other x hxl)⟩
  · simp [rowB] at hk; omega
  · simp only [List.mem_cons, List.not_mem_nil, or_false] at hk
    rcases hk with rfl | rfl <;> simp [rowB] <;> omega
  · simp only [List.mem_cons, List.not_mem_nil, or_false] at hk
    subst hk
    have := (hx.kept (other k hxl)).lt
    exact ⟨hxl, this⟩
theorem name_cell {o : Int} (h1 : 1 ≤ o) (h2 : o ≤ 34) {w w' : World} (e : w' = w.alloc (.cells (nms.map Value.string).toArray 9)) : w'.cell? ((⟨w.heap.size, 0, none⟩ : Addr).add ((IntKind.u8.wrap (o - 1)).toNat * 1)) = some (.string (nmO o)) := by
  rw [wrap_u8, show ((o - 1) % 256).toNat * 1 = 0 + (o - 1).toNat by omega, e]
  refine CellsAt_get (CellsAt_new' w _ _ _) (o - 1).toNat (.string (nmO o)) ?_
  simp only [List.getElem?_map, nmO_at h1 h2]; rfl
theorem join_use {w0 w : World} {lb : Nat} {ks : List Nat} {xs : List ByteArray} (h : LAt w0 w lb ks xs) (hl : Later w0 w) (hx : 1 ≤ xs.length ∧ xs.length ≤ 1000) (hz : (Lib.join (xs.map (·.data.toList)) [32]).length ≤ 4294967296) {K : ByteArray → World → Prop} (hK : ∀ w', Later w0 w' → K ⟨(Lib.join (xs.map (·.data.toList)) [32]).toArray⟩ w') :
    Deref (some (⟨lb, 0, none⟩ : Addr)) fun ad => ∃ p n c, w.cell? ad = some (.slice p n c) ∧ Calls Tryd.prog 29 #[.slice p n c, .string (ByteArray.mk #[32])] w fun e w' => ∃ s, e = .returned (.string s) ∧ K s w' := by
  obtain ⟨⟨p, c, hh, ho, hd⟩, hnew, hne⟩ := h
  obtain ⟨g, rfl, _, hc, _⟩ := ho.split (by omega)
  refine Deref_some rfl ⟨_, _, _, hh.cell rfl, ?_⟩
  refine (Tryd.strings_Join g 0 c xs (ByteArray.mk #[32]) w (fun j x hj => ?_) (ho.lt rfl).2 (by omega) hc (by exact Nat.le_trans hz (by omega))).mono fun e w' ⟨he, hb⟩ => ⟨_, he, hK w' (hl.trans hb)⟩
  have := CellsAt_get ho.cells j (.string x) (by rw [List.getElem?_map, hj]; rfl)
  cases j with
  | zero => exact this
  | succ j => simpa [Addr.add] using this
set_option maxHeartbeats 800000 in
theorem disas_Text_ok {o d a b v : Int} (ho : U8 o) (hd : U8 d) (ha : U8 a) (hb : U8 b) (hv : I64 v) (w : World) (hT : Tabs w) : Calls Tryd.prog disas_Text.N #[insv o d a b v] w (Gives (.string (textV o d a b v)) w) := by
  refine disas_Text.calls ?_
  unfold disas_Text.vc
  intro w1 e1
  have T1 := (Trk.start w).alloc e1
  refine ⟨_, _, _, _, _, ⟨T1.cell 0 rfl rfl, T1.cell 0 rfl rfl, T1.cell 0 rfl rfl, T1.cell 0 rfl rfl, T1.cell 0 rfl rfl, trivial⟩, (insn_Encode_ok o d a b v ho hd ha hb hv w1).mono fun e w2 ⟨he, l2⟩ => ?_⟩
  have T2 := T1.later l2
  have hx2 := T2.has 0 rfl
  cases hE : encv o d a b v with
  | none =>
    rw [hE, encR_none] at he
    refine ⟨_, _, he, cnd_true rfl ⟨?_, T2.to⟩⟩
    unfold textV; rw [hE]
  | some wd =>
    rw [hE, encR_some] at he
    obtain ⟨p1, p2, p3, p4, p5, p6, p7⟩ := encv_parts hE
    have d0 := hd.1; have a0 := ha.1; have b0 := hb.1
    have tv : textV o d a b v = ⟨(textL o d a b v).toArray⟩ := by unfold textV; rw [hE]
    have xlt : w.heap.size < w2.heap.size := hx2.lt
    have wr : (0 ≤ IntKind.u8.wrap (o - 1) ∧ IntKind.u8.wrap (o - 1) < ((34 : Nat) : Int)) := by rw [wrap_u8]; omega
    refine ⟨_, _, he, cnd_false rfl ?_⟩
    refine ⟨fun vs w' => ∃ lb, vs = [.pointer (some ⟨lb, 0, none⟩)] ∧ LAt w w' lb [w.heap.size] [nmO o] ∧ Later w w' ∧ Has w' w.heap.size [u8v o, u8v d, u8v a, u8v b, i64v v], ?_, ?_⟩
    · have fin : ∀ {w4 : World} {lb sb : Nat}, Later w2 w4 → OwnS w w4 9 1 (.slice (some ⟨sb, 0, none⟩) 1 1) 1 [.string (nmO o)] → Has w4 lb [.slice none 0 0] → w2.heap.size ≤ lb → w2.heap.size ≤ sb → sb ≠ lb →
          ((w4.cell? ⟨lb, 0, none⟩).isSome = true ∧ w4.frozen? ⟨lb, 0, none⟩ = false) ∧ ∀ w5, w5 = w4.setCell ⟨lb, 0, none⟩ (.slice (some ⟨sb, 0, none⟩) 1 1) → Later w2 w5 ∧ ∃ lb', [Value.pointer (some ⟨lb, 0, none⟩)] = [Value.pointer (some ⟨lb', 0, none⟩)] ∧ LAt w w5 lb' [w.heap.size] [nmO o] ∧ Later w w5 ∧ Has w5 w.heap.size [u8v o, u8v d, u8v a, u8v b, i64v v] := by
        intro w4 lb sb l4 ho4 hh4 h1 h2 h3
        refine ⟨⟨by rw [hh4.cell (i := 0) rfl]; rfl, hh4.frozen 0⟩, fun w5 e5 => ?_⟩
        have hs := LAt.start (T2.to.trans l4) ho4 hh4 (by have := T2.to.size; omega) h3 (hx2.later l4) (by omega) (by omega) e5
        have T : Trk w2 w4 [(lb, [.slice none 0 0])] := ⟨l4, by intro y hy; simp at hy; subst hy; exact ⟨h1, hh4⟩, by simp⟩
        have T5 := T.setCell 0 (i := 0) (.slice (some ⟨sb, 0, none⟩) 1 1) rfl
        rw [← e5] at T5
        exact ⟨T5.to, lb, rfl, hs.1, hs.2.1, hs.2.2⟩
      refine ⟨Later w2, fun _ h => h, fun w3 l3 => ⟨o, fun w' h => (hx2.later h).cell rfl, ⟨?_, ?_, trivial⟩⟩⟩
      · refine (fields_use w3 (hT.later (T2.to.trans l3))).mono fun e w4 ⟨he4, e4⟩ => ⟨_, _, _, he4, ?_⟩
        have l4 : Later w2 w4 := e4 ▸ l3.alloc _
        have nc := name_cell p1 p2 e4
        refine ⟨l4, wr, Deref_some rfl ⟨⟨_, nc, l4, ⟨fun w5 e5 => ⟨e5 ▸ l4.alloc _, ⟨fun w6 e6 => ?_, trivial⟩⟩, fun w5 e5 => ⟨e5 ▸ l4.alloc _, ⟨fun w6 e6 => ?_, trivial⟩⟩, trivial⟩⟩, fun w5 e5 => ⟨e5 ▸ l4.alloc _, ⟨⟨nmO o, ?_, e5 ▸ l4.alloc _, ⟨fun w6 e6 => ?_, trivial⟩⟩, trivial⟩⟩, trivial⟩⟩
        · have l5 : Later w2 w5 := e5 ▸ l4.alloc _
          have l6 : Later w2 w6 := e6 ▸ l5.alloc _
          have z : w5.heap.size = w4.heap.size + 1 := by rw [e5, alloc_size]
          exact ⟨l6, fin l6 (e6 ▸ (own_new (T2.to.trans l4) e5).alloc _) (e6 ▸ Has.new w5 [.slice none 0 0] _) l5.size l4.size (by omega), trivial⟩
        · have l5 : Later w2 w5 := e5 ▸ l4.alloc _
          have l6 : Later w2 w6 := e6 ▸ l5.alloc _
          have z : w5.heap.size = w4.heap.size + 1 := by rw [e5, alloc_size]
          exact ⟨l6, fin l6 (own_new (T2.to.trans l5) e6) ((e5 ▸ Has.new w4 [.slice none 0 0] _ : Has w5 w4.heap.size [.slice none 0 0]).later (e6 ▸ Later.alloc' w5 _)) l4.size l5.size (by omega), trivial⟩
        · exact (Below.cell (show Below _ _ _ from e5 ▸ Later.alloc' w4 _) (World.block_lt_of_cell? w4 _ nc)).trans nc
        · have l5 : Later w2 w5 := e5 ▸ l4.alloc _
          have l6 : Later w2 w6 := e6 ▸ l5.alloc _
          have z : w5.heap.size = w4.heap.size + 1 := by rw [e5, alloc_size]
          exact ⟨l6, fin l6 (own_new (T2.to.trans l5) e6) ((e5 ▸ Has.new w4 [.slice none 0 0] _ : Has w5 w4.heap.size [.slice none 0 0]).later (e6 ▸ Later.alloc' w5 _)) l4.size l5.size (by omega), trivial⟩
      · intro w4 e4
        have l4 : Later w2 w4 := e4 ▸ l3.alloc _
        have hh4 : Has w4 w3.heap.size [.slice none 0 0] := e4 ▸ Has.new w3 [.slice none 0 0] _
        refine ⟨l4, (fields_use w4 (hT.later (T2.to.trans l4))).mono fun e w5 ⟨he5, e5⟩ => ⟨_, _, _, he5, ?_⟩, trivial⟩
        have l5 : Later w2 w5 := e5 ▸ l4.alloc _
        refine ⟨l5, wr, Deref_some rfl ⟨⟨_, name_cell p1 p2 e5, l5, ⟨fun w6 e6 => ?_, trivial⟩⟩, trivial⟩⟩
        have l6 : Later w2 w6 := e6 ▸ l5.alloc _
        have z : w4.heap.size = w3.heap.size + 1 := by rw [e4, alloc_size]
        have z5 : w5.heap.size = w4.heap.size + 1 := by rw [e5, alloc_size]
        exact ⟨l6, fin l6 (own_new (T2.to.trans l5) e6) ((hh4.later (e5 ▸ Later.alloc' w4 _)).later (e6 ▸ Later.alloc' w5 _)) l3.size l5.size (by omega), trivial⟩
    · rintro g l w3 ⟨lb, hs, hL, l3, hx3⟩
      simp only [List.cons.injEq, Value.pointer.injEq, and_true] at hs
      subst hs
      have nx : ∀ {wa wb : World}, Has wa w.heap.size [u8v o, u8v d, u8v a, u8v b, i64v v] → (∀ k ∈ [w.heap.size], wb.heap[k]? = wa.heap[k]?) → Has wb w.heap.size [u8v o, u8v d, u8v a, u8v b, i64v v] := fun h k => h.kept (k _ (by simp))
      refine ⟨fun w' => Later w w' ∧ Has w' w.heap.size [u8v o, u8v d, u8v a, u8v b, i64v v], fun w' h => ⟨l3.trans h, hx3.later h⟩, fun w4 l4 => ⟨_, fun w' h => h.2.cell rfl, _, fun w' h => h.2.cell rfl, (disas_hasRd_ok o w4).mono fun e w5 ⟨he5, l5⟩ => ⟨_, he5, ⟨(l3.trans l4).trans l5, (hx3.later l4).later l5⟩, ?_⟩⟩⟩
      refine (disas_reg_ok (hasRdS o) hd (hL.later (l4.trans l5)) ((l3.trans l4).trans l5) hT (by simp)).mono fun e w6 ⟨he6, hL6, l6, k6⟩ => ⟨he6, ?_⟩
      have hx6 := nx ((hx3.later l4).later l5) k6
      refine ⟨⟨l6, hx6⟩, fun w' => Later w w' ∧ Has w' w.heap.size [u8v o, u8v d, u8v a, u8v b, i64v v], fun w' h => ⟨l6.trans h, hx6.later h⟩, fun w7 l7 => ⟨_, fun w' h => h.2.cell rfl, _, fun w' h => h.2.cell rfl, (disas_hasRs1_ok o w7).mono fun e w8 ⟨he8, l8⟩ => ⟨_, he8, ⟨(l6.trans l7).trans l8, (hx6.later l7).later l8⟩, ?_⟩⟩⟩
      have m6 : ([nmO o] ++ if hasRdS o = true then [xS d] else []).length ≤ 2 := by rw [List.length_append]; have := opt_len (hasRdS o = true) (xS d); simp only [List.length_cons, List.length_nil]; omega
      refine (disas_reg_ok (hasRs1S o) ha (hL6.later (l7.trans l8)) ((l6.trans l7).trans l8) hT (by omega)).mono fun e w9 ⟨he9, hL9, l9, k9⟩ => ⟨he9, ?_⟩
      have hx9 := nx ((hx6.later l7).later l8) k9
      have m9 : (([nmO o] ++ if hasRdS o = true then [xS d] else []) ++ if hasRs1S o = true then [xS a] else []).length ≤ 3 := by rw [List.length_append]; have := opt_len (hasRs1S o = true) (xS a); omega
      refine ⟨⟨l9, hx9⟩, fun w' => Later w w' ∧ Has w' w.heap.size [u8v o, u8v d, u8v a, u8v b, i64v v], fun w' h => ⟨l9.trans h, hx9.later h⟩, fun w10 l10 => ⟨_, fun w' h => h.2.cell rfl, _, fun w' h => h.2.cell rfl, (disas_hasRs2_ok o w10).mono fun e w11 ⟨he11, l11⟩ => ⟨_, he11, ⟨(l9.trans l10).trans l11, (hx9.later l10).later l11⟩, ?_⟩⟩⟩
      refine (disas_reg_ok (hasRs2S o) hb (hL9.later (l10.trans l11)) ((l9.trans l10).trans l11) hT (by omega)).mono fun e w12 ⟨he12, hL12, l12, k12⟩ => ⟨he12, ?_⟩
      have hx12 := nx ((hx9.later l10).later l11) k12
      have m12 : ((([nmO o] ++ if hasRdS o = true then [xS d] else []) ++ if hasRs1S o = true then [xS a] else []) ++ if hasRs2S o = true then [xS b] else []).length ≤ 4 := by rw [List.length_append]; have := opt_len (hasRs2S o = true) (xS b); omega
      refine ⟨⟨l12, hx12⟩, _, hx12.cell rfl, (disas_hasImm_ok o w12).mono fun e w13 ⟨he13, l13⟩ => ⟨_, he13, ?_⟩⟩
      have hL13 := hL12.later l13
      have l13' := l12.trans l13
      have hx13 := hx12.later l13
      have wl := wordsS_len o d a b v
      have tl := textL_len (o := o) (d := d) (a := a) (b := b) (v := v) ⟨d0, by omega⟩ ⟨a0, by omega⟩ ⟨b0, by omega⟩ ⟨p6, p7⟩
      refine cnd_of (fun hi => ?_) fun hi => ?_
      · obtain ⟨⟨p, c, hh, _, _⟩, _, _⟩ := id hL13
        refine ⟨fun w' => w'.cell? ⟨lb, 0, none⟩ = some (.slice p _ c) ∧ Has w' w.heap.size [u8v o, u8v d, u8v a, u8v b, i64v v], fun w' h => ⟨(hh.later h).cell rfl, hx13.later h⟩, fun w14 l14 => Deref_some rfl ⟨_, _, _, fun w' h => h.1, _, fun w' h => h.2.cell rfl, ?_⟩⟩
        refine (format_use hv (hT.later (l13'.trans l14))).mono fun e w15 ⟨he15, l15⟩ => ⟨_, he15, ⟨(hh.later (l14.trans l15)).cell rfl, hx13.later (l14.trans l15)⟩, fun w16 e16 => ⟨⟨(hh.later ((l14.trans l15).trans (e16 ▸ Later.alloc' w15 _))).cell rfl, hx13.later ((l14.trans l15).trans (e16 ▸ Later.alloc' w15 _))⟩, ?_⟩⟩
        refine LAt.push (hL13.later (l14.trans l15)) (l13'.trans (l14.trans l15)) (by omega) (decS v) e16 ((hh.later (l14.trans l15)).cell rfl) (fun w' _ hk => ⟨(((hh.later (l14.trans l15)).kept (hk lb (by simp)))).cell rfl, (hx13.later (l14.trans l15)).kept (hk _ (by simp))⟩) fun w' hL' l' _ => ?_
        have ew : wordsS o d a b v = ((([nmO o] ++ if hasRdS o = true then [xS d] else []) ++ if hasRs1S o = true then [xS a] else []) ++ if hasRs2S o = true then [xS b] else []) ++ [decS v] := by unfold wordsS; rw [if_pos hi]
        rw [← ew] at hL'
        exact join_use (K := fun s w'' => Gives (.string (textV o d a b v)) w (.returned (.string s)) w'') hL' l' (by omega) tl fun w'' h'' => ⟨by rw [tv]; rfl, h''⟩
      · have ew : wordsS o d a b v = ((([nmO o] ++ if hasRdS o = true then [xS d] else []) ++ if hasRs1S o = true then [xS a] else []) ++ if hasRs2S o = true then [xS b] else []) := by unfold wordsS; rw [if_neg (show ¬ (hasImmS o = true) by rw [hi]; decide), List.append_nil]
        rw [← ew] at hL13
        exact join_use (K := fun s w'' => Gives (.string (textV o d a b v)) w (.returned (.string s)) w'') hL13 l13' (by omega) tl fun w'' h'' => ⟨by rw [tv]; rfl, h''⟩
end Go.Proofs.YtgchaghdhofnoaaDoor

/-
An instruction's text, whole: the document's answer says the same.
Conditions: none.
-/
namespace Go.Proofs.YtgchaghdhofnoaaDoor
open Go Go.Vc Go.RowKit
set_option linter.unusedVariables false
set_option linter.unusedSimpArgs false
set_option linter.unnecessarySimpa false
set_option maxRecDepth 100000

theorem forms_text {o : Int} (h1 : 1 ≤ o) (h2 : o ≤ 34) : ∃ x, tabR[(o - 1).toNat]? = some x ∧ hasRdS o = decide (x.2.2.2 ≠ 5 ∧ x.2.2.2 ≠ 6 ∧ x.2.2.2 ≠ 8) ∧ hasRs1S o = decide (x.2.2.2 ≠ 4 ∧ x.2.2.2 ≠ 7 ∧ x.2.2.2 ≠ 8) ∧
    hasRs2S o = decide (x.2.2.2 = 1 ∨ x.2.2.2 = 5 ∨ x.2.2.2 = 6) ∧ hasImmS o = decide (x.2.2.2 ≠ 1 ∧ x.2.2.2 ≠ 8) := by
  have h : ∀ k : Fin 34, (match tabR[k.1]? with | some x => decide (hasRdS ((k.1 : Int) + 1) = decide (x.2.2.2 ≠ 5 ∧ x.2.2.2 ≠ 6 ∧ x.2.2.2 ≠ 8) ∧ hasRs1S ((k.1 : Int) + 1) = decide (x.2.2.2 ≠ 4 ∧ x.2.2.2 ≠ 7 ∧ x.2.2.2 ≠ 8) ∧
    hasRs2S ((k.1 : Int) + 1) = decide (x.2.2.2 = 1 ∨ x.2.2.2 = 5 ∨ x.2.2.2 = 6) ∧ hasImmS ((k.1 : Int) + 1) = decide (x.2.2.2 ≠ 1 ∧ x.2.2.2 ≠ 8)) | none => false) = true := by decide
  have := h ⟨(o - 1).toNat, by omega⟩
  simp only at this
  rw [show (((o - 1).toNat : Nat) : Int) + 1 = o by omega] at this
  split at this
  · rename_i x hx
    exact ⟨x, hx, of_decide_eq_true this⟩
  · cases this
theorem ref03_name_ok {o : Int} (h1 : 1 ≤ o) (h2 : o ≤ 34) (w : World) : Calls Tryd.prog ref03_name.N #[u8v o] w (Gives (.string (nmO o)) w) := by
  refine ref03_name.calls ?_
  unfold ref03_name.vc
  intro w1 e1
  have e2 : w1 = w.alloc (.cells (nms.map Value.string).toArray 9) := e1
  exact ⟨by rw [wrap_u8]; omega, _, name_cell h1 h2 e2, rfl, e1 ▸ Later.alloc' w _⟩
def bsL (l : List UInt8) : ByteArray := ⟨l.toArray⟩
theorem bsL_size (l : List UInt8) : (bsL l).size = l.length := by simp [bsL, ByteArray.size]
theorem bsL_add (A : List UInt8) (s : ByteArray) : bsL A ++ s = bsL (A ++ s.data.toList) := by
  apply ByteArray.ext
  simp [bsL]
theorem bsL_of (s : ByteArray) : s = bsL s.data.toList := by
  apply ByteArray.ext
  simp [bsL]
theorem part_len {h : Prop} [Decidable h] {A : List UInt8} {r : Int} (hr : 0 ≤ r ∧ r ≤ 255) {n : Nat} (hA : A.length ≤ n) : (A ++ if h then 32 :: (xS r).data.toList else []).length ≤ n + 300 := by
  have z : (xS r).data.toList.length ≤ 258 := by
    rw [bytes_len, xS_size, decS_size]
    have := itoa_len (n := r) (k := 255) (by omega)
    omega
  rw [List.length_append]
  split
  · rw [List.length_cons]; omega
  · simp only [List.length_nil]; omega
set_option maxHeartbeats 800000 in
theorem ref03_Text_ok {o d a b v : Int} (ho : U8 o) (hd : U8 d) (ha : U8 a) (hb : U8 b) (hv : I64 v) (w : World) : Calls Tryd.prog ref03_Text.N #[insv o d a b v] w (Gives (.string (textV o d a b v)) w) := by
  refine ref03_Text.calls ?_
  unfold ref03_Text.vc
  intro w1 e1
  have T1 := (Trk.start w).alloc e1
  refine ⟨_, _, _, _, _, ⟨T1.cell 0 rfl rfl, T1.cell 0 rfl rfl, T1.cell 0 rfl rfl, T1.cell 0 rfl rfl, T1.cell 0 rfl rfl, trivial⟩, (ref02_Encode_ok o d a b v ho hd ha hb hv w1).mono fun e w2 ⟨he, l2⟩ => ?_⟩
  have T2 := T1.later l2
  cases hE : encv o d a b v with
  | none =>
    rw [hE, encR_none] at he
    refine ⟨_, _, he, cnd_true rfl ⟨?_, T2.to⟩⟩
    unfold textV; rw [hE]
  | some wd =>
    rw [hE, encR_some] at he
    obtain ⟨p1, p2, p3, p4, p5, p6, p7⟩ := encv_parts hE
    have d0 := hd.1; have a0 := ha.1; have b0 := hb.1
    obtain ⟨x, hx, f1, f2, f3, f4⟩ := forms_text p1 p2
    refine ⟨_, _, he, cnd_false rfl ⟨_, T2.cell 0 rfl rfl, (ref02_Of_yes o p1 p2 x hx w2).mono fun e w3 ⟨he3, l3⟩ => ⟨_, _, _, _, _, he3, fun w4 e4 => ?_⟩⟩⟩
    refine ((T2.later l3).alloc e4).setAll 1 rfl (by rfl) (ones rfl) fun w5 T5 => ?_
    refine ⟨_, T5.cell 1 rfl rfl, _, T5.cell 0 rfl rfl, (ref03_name_ok p1 p2 w5).mono fun e w6 ⟨he6, l6⟩ => ⟨_, he6, ?_⟩⟩
    have hx6 := (T5.later l6).has 0 rfl
    have l6' := (T5.later l6).to
    generalize hm : x.2.2.2 = m at f1 f2 f3 f4 ⊢
    have zn : (nmO o).data.toList.length ≤ 5 := by rw [bytes_len]; exact nmO_size o
    obtain ⟨A1, hA1⟩ : ∃ A, A = (nmO o).data.toList ++ if hasRdS o = true then 32 :: (xS d).data.toList else [] := ⟨_, rfl⟩
    obtain ⟨A2, hA2⟩ : ∃ A, A = A1 ++ if hasRs1S o = true then 32 :: (xS a).data.toList else [] := ⟨_, rfl⟩
    obtain ⟨A3, hA3⟩ : ∃ A, A = A2 ++ if hasRs2S o = true then 32 :: (xS b).data.toList else [] := ⟨_, rfl⟩
    obtain ⟨A4, hA4⟩ : ∃ A, A = A3 ++ if hasImmS o = true then 32 :: (decS v).data.toList else [] := ⟨_, rfl⟩
    have z1 : A1.length ≤ 305 := hA1 ▸ part_len ⟨d0, by omega⟩ zn
    have z2 : A2.length ≤ 605 := hA2 ▸ part_len ⟨a0, by omega⟩ z1
    have z3 : A3.length ≤ 905 := hA3 ▸ part_len ⟨b0, by omega⟩ z2
    have tv : textV o d a b v = bsL A4 := by
      unfold textV; rw [hE]
      show bsL (textL o d a b v) = _
      rw [textL_tail, hA4, hA3, hA2, hA1]
      simp only [List.append_assoc]
    have zx : ∀ r : Int, 0 ≤ r ∧ r ≤ 255 → (decS r).size ≤ 257 := fun r hr => by
      rw [decS_size]; exact itoa_len (by omega)
    have zv : (decS v).size ≤ 2147483650 := by rw [decS_size]; exact itoa_len (by omega)
    have adds : ∀ (A : List UInt8) (r : Int), bsL A ++ ByteArray.mk #[32, 120] ++ decS r = bsL (A ++ 32 :: (xS r).data.toList) := fun A r => by
      rw [bsL_add, bsL_add]
      unfold xS
      simp
    refine ⟨fun vs w' => vs = [.bool (hasRdS o)] ∧ Later w6 w', ?_, ?_⟩
    · rw [f1]
      repeat' (refine cnd_of (fun h => ?_) fun h => ?_)
      all_goals refine ⟨bl ?_, Later.refl _⟩
      all_goals simp at *
      all_goals omega
    rintro g s36 w7 ⟨hs, l7⟩
    simp only [List.cons.injEq, Value.bool.injEq, and_true] at hs
    subst hs
    refine ⟨fun vs w' => vs = [.string (bsL A1)] ∧ Later w6 w', cnd_of (fun h => ?_) (fun h => ?_), ?_⟩
    · have zs := nmO_size o
      refine ⟨by omega, d, (hx6.later l7).cell rfl, ?_⟩
      rw [i64_in (by omega) (by omega)]
      refine (ref03_number_ok d ⟨by omega, by omega⟩ w7).mono fun e w8 ⟨he8, l8⟩ => ⟨_, he8, ?_, ?_, l7.trans l8⟩
      · rw [ByteArray.size_append]
        have := zx d ⟨d0, by omega⟩
        have e2 : (ByteArray.mk #[32, 120]).size = 2 := rfl
        omega
      · rw [hA1, if_pos h, ← adds, ← bsL_of]
    · refine ⟨?_, l7⟩
      rw [hA1, if_neg (show ¬ (hasRdS o = true) by rw [h]; decide), List.append_nil, ← bsL_of]
    rintro g s w8 ⟨hs, l8⟩
    simp only [List.cons.injEq, Value.string.injEq, and_true] at hs
    subst hs
    refine ⟨fun vs w' => vs = [.bool (hasRs1S o)] ∧ Later w6 w', ?_, ?_⟩
    · rw [f2]
      repeat' (refine cnd_of (fun h => ?_) fun h => ?_)
      all_goals refine ⟨bl ?_, l8⟩
      all_goals simp at *
      all_goals omega
    rintro g s53 w9 ⟨hs, l9⟩
    simp only [List.cons.injEq, Value.bool.injEq, and_true] at hs
    subst hs
    refine ⟨fun vs w' => vs = [.string (bsL A2)] ∧ Later w6 w', cnd_of (fun h => ?_) (fun h => ?_), ?_⟩
    · refine ⟨by rw [bsL_size]; omega, a, (hx6.later l9).cell rfl, ?_⟩
      rw [i64_in (by omega) (by omega)]
      refine (ref03_number_ok a ⟨by omega, by omega⟩ w9).mono fun e w10 ⟨he10, l10⟩ => ⟨_, he10, ?_, ?_, l9.trans l10⟩
      · rw [ByteArray.size_append, bsL_size]
        have := zx a ⟨a0, by omega⟩
        have e2 : (ByteArray.mk #[32, 120]).size = 2 := rfl
        omega
      · rw [hA2, if_pos h, ← adds]
    · refine ⟨?_, l9⟩
      rw [hA2, if_neg (show ¬ (hasRs1S o = true) by rw [h]; decide), List.append_nil]
    rintro g s w10 ⟨hs, l10⟩
    simp only [List.cons.injEq, Value.string.injEq, and_true] at hs
    subst hs
    refine ⟨fun vs w' => vs = [.bool (hasRs2S o)] ∧ Later w6 w', ?_, ?_⟩
    · rw [f3]
      repeat' (refine cnd_of (fun h => ?_) fun h => ?_)
      all_goals refine ⟨bl ?_, l10⟩
      all_goals simp at *
      all_goals omega
    rintro g s70 w11 ⟨hs, l11⟩
    simp only [List.cons.injEq, Value.bool.injEq, and_true] at hs
    subst hs
    refine ⟨fun vs w' => vs = [.string (bsL A3)] ∧ Later w6 w', cnd_of (fun h => ?_) (fun h => ?_), ?_⟩
    · refine ⟨by rw [bsL_size]; omega, b, (hx6.later l11).cell rfl, ?_⟩
      rw [i64_in (by omega) (by omega)]
      refine (ref03_number_ok b ⟨by omega, by omega⟩ w11).mono fun e w12 ⟨he12, l12⟩ => ⟨_, he12, ?_, ?_, l11.trans l12⟩
      · rw [ByteArray.size_append, bsL_size]
        have := zx b ⟨b0, by omega⟩
        have e2 : (ByteArray.mk #[32, 120]).size = 2 := rfl
        omega
      · rw [hA3, if_pos h, ← adds]
    · refine ⟨?_, l11⟩
      rw [hA3, if_neg (show ¬ (hasRs2S o = true) by rw [h]; decide), List.append_nil]
    rintro g s w12 ⟨hs, l12⟩
    simp only [List.cons.injEq, Value.string.injEq, and_true] at hs
    subst hs
    refine ⟨fun vs w' => vs = [.bool (hasImmS o)] ∧ Later w6 w', ?_, ?_⟩
    · rw [f4]
      repeat' (refine cnd_of (fun h => ?_) fun h => ?_)
      all_goals refine ⟨bl ?_, l12⟩
      all_goals simp at *
      all_goals omega
    rintro g s83 w13 ⟨hs, l13⟩
    simp only [List.cons.injEq, Value.bool.injEq, and_true] at hs
    subst hs
    refine ⟨fun vs w' => vs = [.string (bsL A4)] ∧ Later w6 w', cnd_of (fun h => ?_) (fun h => ?_), ?_⟩
    · refine ⟨by rw [bsL_size]; omega, v, (hx6.later l13).cell rfl, ?_⟩
      refine (ref03_number_ok v ⟨by omega, by omega⟩ w13).mono fun e w14 ⟨he14, l14⟩ => ⟨_, he14, ?_, ?_, l13.trans l14⟩
      · rw [ByteArray.size_append, bsL_size]
        have e2 : (ByteArray.mk #[32]).size = 1 := rfl
        omega
      · rw [hA4, if_pos h, bsL_add, bsL_add]
        simp
    · refine ⟨?_, l13⟩
      rw [hA4, if_neg (show ¬ (hasImmS o = true) by rw [h]; decide), List.append_nil]
    rintro g s w14 ⟨hs, l14⟩
    simp only [List.cons.injEq, Value.string.injEq, and_true] at hs
    subst hs
    exact ⟨by rw [tv], l6'.trans l14⟩
end Go.Proofs.YtgchaghdhofnoaaDoor

/-
'==' of two structs whose fields are numbers, bools or texts, of one cell each.
Conditions: closed facts of the struct's type; the cells are of the fields' kinds.
-/
namespace Go.Vc
open Go.RowKit
set_option linter.unusedVariables false
set_option linter.unusedSimpArgs false
set_option linter.unnecessarySimpa false

def eq1 : Value → Value → Bool
  | .int _ a, .int _ b => a == b
  | .bool a, .bool b => a == b
  | .string a, .string b => a.toList == b.toList
  | _, _ => false
def eqL : List Value → List Value → Bool
  | v :: vs, u :: us => eq1 v u && eqL vs us
  | _, _ => true
/-- Two cells of a type: numbers of its kind, bools, texts. -/
def ty2 (P : Program) (t : TypeId) (v u : Value) : Bool :=
  match P.underlying t, v, u with
  | some (.int k), .int k1 _, .int k2 _ => decide (k = k1) && decide (k = k2)
  | some .bool, .bool _, .bool _ => true
  | some .string, .string _, .string _ => true
  | _, _, _ => false
def flatL (P : Program) : Nat → List Field → List Value → List Value → Bool
  | _, [], [], [] => true
  | k, f :: fs, v :: vs, u :: us => !(f.name == "_") && Nat.beq f.offset k && ty2 P f.type v u && flatL P (k + 1) fs vs us
  | _, _, _, _ => false
theorem ty2_run {P : Program} {t : TypeId} {v u : Value} (h : ty2 P t v u = true) (d : Nat) (w : World) : (isAgg t).run P w = .ok false w ∧ (Op.equalIn (d + 1) t v u).run P w = .ok (eq1 v u) w := by
  unfold ty2 at h
  split at h
  · rename_i k k1 a k2 b hu
    simp only [Bool.and_eq_true, decide_eq_true_eq] at h
    obtain ⟨rfl, rfl⟩ := h
    exact ⟨by rw [run_isAgg hu]; simp [isAggT, hu], run_equalIn_int w d t _ _ a b hu⟩
  · rename_i a b hu
    exact ⟨by rw [run_isAgg hu]; simp [isAggT, hu], run_equalIn_bool' w d t a b hu⟩
  · rename_i a b hu
    exact ⟨by rw [run_isAgg hu]; simp [isAggT, hu], run_equalIn_string w d t a b hu⟩
  · cases h
theorem flat_run {P : Program} (d : Nat) (w : World) (xs ys : Array Value) : ∀ (fs : List Field) (k : Nat) (vs us : List Value), (∀ i, xs[k + i]? = vs[i]?) → (∀ i, ys[k + i]? = us[i]?) → flatL P k fs vs us = true →
    (Op.eqFields (d + 1) xs ys fs).run P w = .ok (eqL vs us) w := by
  intro fs
  induction fs with
  | nil =>
    intro k vs us _ _ h
    cases vs <;> cases us <;> first | (simp [Op.eqFields, eqL]; done) | (simp [flatL] at h)
  | cons f fs ih =>
    intro k vs us hx hy h
    cases vs with
    | nil => simp [flatL] at h
    | cons v vs =>
      cases us with
      | nil => simp [flatL] at h
      | cons u us =>
        simp only [flatL, Bool.and_eq_true, Bool.not_eq_true'] at h
        obtain ⟨⟨⟨hn, ho⟩, ht⟩, hr⟩ := h
        have ho : f.offset = k := Nat.eq_of_beq_eq_true ho
        obtain ⟨h1, h2⟩ := ty2_run ht d w
        have hv : xs[f.offset]? = some v := by have := hx 0; rw [ho]; simpa using this
        have hu : ys[f.offset]? = some u := by have := hy 0; rw [ho]; simpa using this
        have hn' : f.name ≠ "_" := by simpa using hn
        have := ih (k + 1) vs us (fun i => by have := hx (i + 1); simpa [Nat.add_assoc, Nat.add_comm 1 i] using this) (fun i => by have := hy (i + 1); simpa [Nat.add_assoc, Nat.add_comm 1 i] using this) hr
        simp only [Op.eqFields, if_pos hn', Sem.run_bind, part, h1, Result.andThen_ok, Bool.false_eq_true, if_false, hv, hu, Sem.run_pure, h2, Sem.run_ite, this, eqL]
        cases eq1 v u <;> simp
theorem eq_flat {P : Program} {t : TypeId} {fs : Array Field} {vs us : List Value} (xo yo : Operand) (hu : P.underlying t = some (.struct fs)) (hp : P.stoodInHeld t = false) (hm : P.eqGuardType P.depth t = false) (h : flatL P 0 fs.toList vs us = true) :
    EqRuns P .eql t xo yo (.agg vs.toArray) (.agg us.toArray) (eqL vs us) ∧ EqRuns P .neq t xo yo (.agg vs.toArray) (.agg us.toArray) (!eqL vs us) := by
  have hf : P.fieldsOf t = fs := by simp [Program.fieldsOf, hu]
  have main : ∀ w : World, (Op.equalIn 10000 t (.agg vs.toArray) (.agg us.toArray)).run P w = .ok (eqL vs us) w := fun w => by
    rw [show (10000 : Nat) = 9998 + 1 + 1 from rfl, run_equalIn_struct w (9998 + 1) t _ _ (by rw [hf]; exact hu) hp, hf]
    exact flat_run 9998 w _ _ _ 0 vs us (by simp) (by simp) h
  constructor
  · intro w
    simp only [Sem.run_bind, run_eqGuard_agg w .eql t xo yo _ _ hm, Result.andThen_ok, run_eql_struct, main w]
  · intro w
    simp only [Sem.run_bind, run_eqGuard_agg w .neq t xo yo _ _ hm, Result.andThen_ok, run_neq_struct, main w]
/-- As flatL, and a field may be a struct of such fields. -/
def flat2 (P : Program) : Nat → List Field → List Value → List Value → Bool
  | _, [], [], [] => true
  | _, [], _, _ => false
  | k, f :: fs, vs, us => !(f.name == "_") && Nat.beq f.offset k && (match P.underlying f.type with
    | some (.struct gs) => (match cellsT P f.type with
      | some n => isAggT P f.type && !P.stoodInHeld f.type && Nat.ble n vs.length && Nat.ble n us.length && flatL P 0 gs.toList (vs.take n) (us.take n) && flat2 P (k + n) fs (vs.drop n) (us.drop n)
      | none => false)
    | _ => (match vs, us with
      | v :: vs, u :: us => ty2 P f.type v u && flat2 P (k + 1) fs vs us
      | _, _ => false))
theorem eqL_split : ∀ (n : Nat) (vs us : List Value), n ≤ vs.length → n ≤ us.length → eqL vs us = (eqL (vs.take n) (us.take n) && eqL (vs.drop n) (us.drop n))
  | 0, vs, us, _, _ => by simp [eqL]
  | n + 1, [], us, h, _ => by simp at h
  | n + 1, _ :: _, [], _, h => by simp at h
  | n + 1, v :: vs, u :: us, h, h' => by
    simp only [List.length_cons, Nat.add_le_add_iff_right] at h h'
    simp only [eqL, List.take_succ_cons, List.drop_succ_cons, eqL_split n vs us h h', Bool.and_assoc]
theorem flat2_run {P : Program} (d : Nat) (w : World) (xs ys : Array Value) : ∀ (fs : List Field) (k : Nat) (vs us : List Value), (∀ i, xs[k + i]? = vs[i]?) → (∀ i, ys[k + i]? = us[i]?) → flat2 P k fs vs us = true →
    (Op.eqFields (d + 1 + 1) xs ys fs).run P w = .ok (eqL vs us) w := by
  intro fs
  induction fs with
  | nil =>
    intro k vs us _ _ h
    cases vs <;> cases us <;> first | (simp [Op.eqFields, eqL]; done) | (simp [flat2] at h)
  | cons f fs ih =>
    intro k vs us hx hy h
    unfold flat2 at h
    simp only [Bool.and_eq_true, Bool.not_eq_true'] at h
    obtain ⟨⟨hn, ho⟩, h⟩ := h
    have ho : f.offset = k := Nat.eq_of_beq_eq_true ho
    have hn' : f.name ≠ "_" := by simpa using hn
    split at h
    · rename_i gs hu
      split at h
      · rename_i n hc
        simp only [Bool.and_eq_true, Bool.not_eq_true'] at h
        obtain ⟨⟨⟨⟨⟨ha, hp⟩, hlv⟩, hlu⟩, hin⟩, hr⟩ := h
        have hlv := Nat.le_of_ble_eq_true hlv
        have hlu := Nat.le_of_ble_eq_true hlu
        have hfo : P.fieldsOf f.type = gs := by simp [Program.fieldsOf, hu]
        have get : ∀ (zs : Array Value) (ls : List Value), (∀ i, zs[k + i]? = ls[i]?) → n ≤ ls.length → zs.extract k (k + n) = (ls.take n).toArray := by
          intro zs ls hz hl
          apply Array.ext_getElem?
          intro i
          rw [Array.getElem?_extract]
          by_cases hi : i < n
          · have := hz i
            have hb : ls[i]? = some ls[i] := List.getElem?_eq_getElem (by omega)
            have hzk : k + i < zs.size := by
              rw [hb] at this
              exact (Array.getElem?_eq_some_iff.1 this).1
            rw [if_pos (by omega), this]
            simp [List.getElem?_take, hi]
          · have hzs : ¬ i < min (k + n) zs.size - k := by omega
            rw [if_neg hzs]
            simp [List.getElem?_take, hi]
        have px : (part f.type xs f.offset).run P w = .ok (.agg (vs.take n).toArray) w := by
          rw [ho, ← get xs vs hx hlv]
          simp [part, run_isAgg hu, ha, run_sizeOf hc]
        have py : (part f.type ys f.offset).run P w = .ok (.agg (us.take n).toArray) w := by
          rw [ho, ← get ys us hy hlu]
          simp [part, run_isAgg hu, ha, run_sizeOf hc]
        have he : (Op.equalIn (d + 1 + 1) f.type (.agg (vs.take n).toArray) (.agg (us.take n).toArray)).run P w = .ok (eqL (vs.take n) (us.take n)) w := by
          rw [run_equalIn_struct w (d + 1) f.type _ _ (by rw [hfo]; exact hu) hp, hfo]
          exact flat_run d w _ _ _ 0 _ _ (by simp) (by simp) hin
        have := ih (k + n) (vs.drop n) (us.drop n) (fun i => by rw [Nat.add_assoc, hx]; simp) (fun i => by rw [Nat.add_assoc, hy]; simp) hr
        rw [eqL_split n vs us hlv hlu]
        simp only [Op.eqFields, if_pos hn', Sem.run_bind, px, py, Result.andThen_ok, he, Sem.run_ite, Sem.run_pure, this]
        cases eqL (vs.take n) (us.take n) <;> simp
      · cases h
    · split at h
      · rename_i v vs' u us'
        simp only [Bool.and_eq_true] at h
        obtain ⟨ht, hr⟩ := h
        obtain ⟨h1, h2⟩ := ty2_run ht (d + 1) w
        have hv : xs[f.offset]? = some v := by have := hx 0; rw [ho]; simpa using this
        have hu : ys[f.offset]? = some u := by have := hy 0; rw [ho]; simpa using this
        have := ih (k + 1) vs' us' (fun i => by have := hx (i + 1); simpa [Nat.add_assoc, Nat.add_comm 1 i] using this) (fun i => by have := hy (i + 1); simpa [Nat.add_assoc, Nat.add_comm 1 i] using this) hr
        simp only [Op.eqFields, if_pos hn', Sem.run_bind, part, h1, Result.andThen_ok, Bool.false_eq_true, if_false, hv, hu, Sem.run_pure, h2, Sem.run_ite, this, eqL]
        cases eq1 v u <;> simp
      · cases h
theorem eq_flat2 {P : Program} {t : TypeId} {fs : Array Field} {vs us : List Value} (xo yo : Operand) (hu : P.underlying t = some (.struct fs)) (hp : P.stoodInHeld t = false) (hm : P.eqGuardType P.depth t = false) (h : flat2 P 0 fs.toList vs us = true) :
    EqRuns P .eql t xo yo (.agg vs.toArray) (.agg us.toArray) (eqL vs us) ∧ EqRuns P .neq t xo yo (.agg vs.toArray) (.agg us.toArray) (!eqL vs us) := by
  have hf : P.fieldsOf t = fs := by simp [Program.fieldsOf, hu]
  have main : ∀ w : World, (Op.equalIn 10000 t (.agg vs.toArray) (.agg us.toArray)).run P w = .ok (eqL vs us) w := fun w => by
    rw [show (10000 : Nat) = 9997 + 1 + 1 + 1 from rfl, run_equalIn_struct w (9997 + 1 + 1) t _ _ (by rw [hf]; exact hu) hp, hf]
    exact flat2_run 9997 w _ _ _ 0 vs us (by simp) (by simp) h
  constructor
  · intro w
    simp only [Sem.run_bind, run_eqGuard_agg w .eql t xo yo _ _ hm, Result.andThen_ok, run_eql_struct, main w]
  · intro w
    simp only [Sem.run_bind, run_eqGuard_agg w .neq t xo yo _ _ hm, Result.andThen_ok, run_neq_struct, main w]
end Go.Vc

/-
Rows of instructions: their cells, when two are equal, rows that were made.
Conditions: each number is of its kind.
-/
namespace Go.Proofs.YtgchaghdhofnoaaDoor
open Go Go.Vc Go.RowKit
set_option linter.unusedVariables false
set_option linter.unusedSimpArgs false
set_option linter.unnecessarySimpa false
set_option maxRecDepth 100000

theorem eq_ins (o d a b v o' d' a' b' v' : Int) (xo yo : Operand) : EqRuns Tryd.prog .eql 24 xo yo (insv o d a b v) (insv o' d' a' b' v') (o == o' && (d == d' && (a == a' && (b == b' && v == v')))) ∧
    EqRuns Tryd.prog .neq 24 xo yo (insv o d a b v) (insv o' d' a' b' v') (!(o == o' && (d == d' && (a == a' && (b == b' && v == v'))))) := by
  have := eq_flat (P := Tryd.prog) (vs := [u8v o, u8v d, u8v a, u8v b, i64v v]) (us := [u8v o', u8v d', u8v a', u8v b', i64v v']) xo yo Tryd.underlying24 (by kernel_rfl) (by kernel_rfl) (by kernel_rfl)
  simpa [eqL, eq1] using this
def insCells (F : Nat → Nat → Int) : Nat → List Value
  | 0 => []
  | n + 1 => insCells F n ++ [u8v (F n 0), u8v (F n 1), u8v (F n 2), u8v (F n 3), i64v (F n 4)]
theorem insCells_length (F : Nat → Nat → Int) : ∀ n, (insCells F n).length = n * 5
  | 0 => rfl
  | n + 1 => by rw [insCells, List.length_append, insCells_length F n]; simp; omega
theorem insCells_get (F : Nat → Nat → Int) : ∀ (n i j : Nat), i < n → j < 5 → (insCells F n)[i * 5 + j]? = [u8v (F i 0), u8v (F i 1), u8v (F i 2), u8v (F i 3), i64v (F i 4)][j]?
  | 0, i, j, h, _ => absurd h (Nat.not_lt_zero i)
  | n + 1, i, j, h, hj => by
    rw [insCells]
    have hl := insCells_length F n
    by_cases hi : i < n
    · rw [List.getElem?_append_left (by omega)]
      exact insCells_get F n i j hi hj
    · obtain rfl : i = n := by omega
      rw [List.getElem?_append_right (by omega), hl]
      congr 1
      omega
theorem insCells_one (F : Nat → Nat → Int) : ∀ n, ∀ u ∈ insCells F n, u.oneCell' = true
  | 0, u, h => by cases h
  | n + 1, u, h => by
    rw [insCells] at h
    rcases List.mem_append.1 h with h | h
    · exact insCells_one F n u h
    · exact ones (l := [u8v (F n 0), u8v (F n 1), u8v (F n 2), u8v (F n 3), i64v (F n 4)]) rfl u h
theorem insRow : RowTy Tryd.prog 31 24 5 16 := RowTy.of (.agg #[u8v 0, u8v 0, u8v 0, u8v 0, i64v 0]) (by kernel_rfl) (by kernel_rfl) rfl (by decide)
theorem row_at {w : World} {ad : Addr} {n : Nat} {F : Nat → Nat → Int} (h : IntRow w (some ad) n insK F) : CellsAt w ad 0 (insCells F n) := by
  refine CellsAt_of_get fun j u hj => ?_
  rw [Nat.zero_add]
  have hjl := (List.getElem?_eq_some_iff.1 hj).1
  rw [insCells_length] at hjl
  obtain ⟨ad', he, hc⟩ := h (j / 5) (by omega)
  obtain rfl := Option.some.inj he
  have hg := insCells_get F n (j / 5) (j % 5) (by omega) (by omega)
  rw [show j / 5 * 5 + j % 5 = j by omega, hj] at hg
  have e : (ad.add (j / 5 * 5)).add (j % 5) = ad.add j := by rw [Deep.add_add, show j / 5 * 5 + j % 5 = j by omega]
  rw [← e]
  have : j % 5 = 0 ∨ j % 5 = 1 ∨ j % 5 = 2 ∨ j % 5 = 3 ∨ j % 5 = 4 := by omega
  rcases this with h5 | h5 | h5 | h5 | h5 <;> rw [h5] at hg ⊢ <;> obtain rfl := Option.some.inj hg
  · exact (hc 0 .u8 rfl).1
  · exact (hc 1 .u8 rfl).1
  · exact (hc 2 .u8 rfl).1
  · exact (hc 3 .u8 rfl).1
  · exact (hc 4 .i64 rfl).1
theorem own_row {w0 w : World} {b : Option Addr} {bn c n : Nat} {F : Nat → Nat → Int} (h : OwnS w0 w 24 5 (.slice b bn c) n (insCells F n)) (hF : ∀ i, i < n → U8 (F i 0) ∧ U8 (F i 1) ∧ U8 (F i 2) ∧ U8 (F i 3) ∧ I64 (F i 4)) : IntRow w b n insK F := by
  intro i hi
  cases b with
  | none =>
    obtain ⟨_, h | ⟨g, cap, cur, h2, _⟩⟩ := h
    · omega
    · cases h2
  | some ad =>
    have hc := h.cells
    refine ⟨ad, rfl, fun j k hj => ?_⟩
    have hj5 : j < 5 := (List.getElem?_eq_some_iff.1 hj).1
    have hg := insCells_get F n i j hi hj5
    obtain ⟨f0, f1, f2, f3, f4⟩ := hF i hi
    have get : ∀ u, [u8v (F i 0), u8v (F i 1), u8v (F i 2), u8v (F i 3), i64v (F i 4)][j]? = some u → w.cell? ((ad.add (i * 5)).add j) = some u := by
      intro u hu
      rw [hu] at hg
      have := CellsAt_get hc (i * 5 + j) u hg
      rwa [Nat.zero_add, ← Deep.add_add] at this
    have wfu : ∀ x : Int, U8 x → (Lit.int .u8 x).wf = true := by
      intro x hx
      simp only [Lit.wf, decide_eq_true_eq, Bool.and_eq_true]
      exact ⟨by rw [show IntKind.u8.min = 0 from rfl]; exact hx.1, by rw [show IntKind.u8.max = 255 from rfl]; have := hx.2; omega⟩
    have wfi : ∀ x : Int, I64 x → (Lit.int .i64 x).wf = true := by
      intro x hx
      simp only [Lit.wf, decide_eq_true_eq, Bool.and_eq_true]
      exact ⟨by rw [show IntKind.i64.min = -9223372036854775808 from rfl]; exact hx.1, by rw [show IntKind.i64.max = 9223372036854775807 from rfl]; have := hx.2; omega⟩
    have : j = 0 ∨ j = 1 ∨ j = 2 ∨ j = 3 ∨ j = 4 := by omega
    rcases this with rfl | rfl | rfl | rfl | rfl <;> obtain rfl := Option.some.inj hj
    · exact ⟨get _ rfl, wfu _ f0⟩
    · exact ⟨get _ rfl, wfu _ f1⟩
    · exact ⟨get _ rfl, wfu _ f2⟩
    · exact ⟨get _ rfl, wfu _ f3⟩
    · exact ⟨get _ rfl, wfi _ f4⟩
end Go.Proofs.YtgchaghdhofnoaaDoor

/-
Bytes as instructions: package disas's All, and the document's answer.
Conditions: the string is not too long.
-/
namespace Go.Proofs.YtgchaghdhofnoaaDoor
open Go Go.Vc Go.RowKit
set_option linter.unusedVariables false
set_option linter.unusedSimpArgs false
set_option linter.unnecessarySimpa false
set_option maxRecDepth 100000

def decF (w : Int) (j : Nat) : Int :=
  match decK w with
  | some k => (match j with | 0 => (k.1 : Int) + 1 | 1 => gRd ((k.1 : Int) + 1) w | 2 => gR1 ((k.1 : Int) + 1) w | 3 => gR2 ((k.1 : Int) + 1) w | _ => numS ((k.1 : Int) + 1) w)
  | none => 0
theorem decI_eq (w : Int) : decI w = [u8v (decF w 0), u8v (decF w 1), u8v (decF w 2), u8v (decF w 3), i64v (decF w 4)] := by
  unfold decI decF
  cases decK w <;> rfl
theorem decF_range (w : Int) : U8 (decF w 0) ∧ U8 (decF w 1) ∧ U8 (decF w 2) ∧ U8 (decF w 3) ∧ I64 (decF w 4) := by
  unfold decF
  cases hk : decK w with
  | none =>
    simp only
    exact ⟨⟨by omega, by omega⟩, ⟨by omega, by omega⟩, ⟨by omega, by omega⟩, ⟨by omega, by omega⟩, ⟨by omega, by omega⟩⟩
  | some k =>
    simp only
    have f1 := fld5 w 7
    have f2 := fld5 w 15
    have f3 := fld5 w 20
    have hk := k.2
    refine ⟨⟨by omega, by omega⟩, ?_, ?_, ?_, numS_range _ _⟩
    · unfold gRd; split <;> exact ⟨by omega, by omega⟩
    · unfold gR1; split <;> exact ⟨by omega, by omega⟩
    · unfold gR2; split <;> exact ⟨by omega, by omega⟩
theorem decE_or (w : Int) : decE w = 0 ∨ decE w = 7 := by
  unfold decE
  cases decK w <;> simp
def insT : ElT Int := { sz := 5, pos := by decide, enc := decI, len := fun a => by rw [decI_eq]; rfl, one := fun a u hu => by rw [decI_eq] at hu; exact ones rfl u hu }
def wd (s : ByteArray) (k : Nat) : Int := (wordL ((s.data.toList.drop (4 * k)).take 4) : Nat)
def wds (s : ByteArray) (n : Nat) : List Int := (List.range n).map (wd s)
theorem wds_len (s : ByteArray) (n : Nat) : (wds s n).length = n := by simp [wds]
theorem wds_succ (s : ByteArray) (n : Nat) : wds s (n + 1) = wds s n ++ [wd s n] := by simp [wds, List.range_succ]
theorem wds_get (s : ByteArray) {n i : Nat} (h : i < n) : (wds s n)[i]? = some (wd s i) := by simp [wds, h]
theorem wd_range (s : ByteArray) (k : Nat) : W32 (wd s k) := by
  unfold W32 wd
  have h := wordL_lt ((s.data.toList.drop (4 * k)).take 4)
  have : ((s.data.toList.drop (4 * k)).take 4).length ≤ 4 := by rw [List.length_take]; omega
  have hp : (2 : Nat) ^ (8 * ((s.data.toList.drop (4 * k)).take 4).length) ≤ 2 ^ 32 := Nat.pow_le_pow_right (by decide) (by omega)
  omega
def AllOk (s : ByteArray) : Prop := s.size % 4 = 0 ∧ ∀ i, i < s.size / 4 → decE (wd s i) = 0
def AllP (s : ByteArray) (w : World) (e : Ending) (w' : World) : Prop :=
  Later w w' ∧ ((AllOk s ∧ ∃ b c, e = .returned (.tuple #[.slice b (s.size / 4) c, i64v 0]) ∧ IntRow w' b (s.size / 4) insK fun i j => decF (wd s i) j) ∨ (¬ AllOk s ∧ e = .returned (.tuple #[.slice none 0 0, i64v 7])))
theorem u8_wf {x : Int} (hx : U8 x) : (Lit.int .u8 x).wf = true := by
  simp only [Lit.wf, decide_eq_true_eq, Bool.and_eq_true]
  exact ⟨by rw [show IntKind.u8.min = 0 from rfl]; exact hx.1, by rw [show IntKind.u8.max = 255 from rfl]; have := hx.2; omega⟩
theorem i64_wf {x : Int} (hx : I64 x) : (Lit.int .i64 x).wf = true := by
  simp only [Lit.wf, decide_eq_true_eq, Bool.and_eq_true]
  exact ⟨by rw [show IntKind.i64.min = -9223372036854775808 from rfl]; exact hx.1, by rw [show IntKind.i64.max = 9223372036854775807 from rfl]; have := hx.2; omega⟩
theorem words_row {w : World} {b : Option Addr} {s : ByteArray} {n : Nat} (h : ERow insT w b (wds s n)) : IntRow w b n insK fun i j => decF (wd s i) j := by
  intro i hi
  obtain ⟨ad, e, hc⟩ := h i _ (wds_get s hi)
  refine ⟨ad, e, fun j k hj => ?_⟩
  obtain ⟨r0, r1, r2, r3, r4⟩ := decF_range (wd s i)
  have hj5 : j < 5 := (List.getElem?_eq_some_iff.1 hj).1
  have hget : ∀ v, [u8v (decF (wd s i) 0), u8v (decF (wd s i) 1), u8v (decF (wd s i) 2), u8v (decF (wd s i) 3), i64v (decF (wd s i) 4)][j]? = some v → w.cell? ((ad.add (i * 5)).add j) = some v := fun v hv => hc j v (by show (decI (wd s i))[j]? = _; rw [decI_eq]; exact hv)
  have : j = 0 ∨ j = 1 ∨ j = 2 ∨ j = 3 ∨ j = 4 := by omega
  rcases this with rfl | rfl | rfl | rfl | rfl <;> obtain rfl := Option.some.inj hj
  · exact ⟨hget _ rfl, u8_wf r0⟩
  · exact ⟨hget _ rfl, u8_wf r1⟩
  · exact ⟨hget _ rfl, u8_wf r2⟩
  · exact ⟨hget _ rfl, u8_wf r3⟩
  · exact ⟨hget _ rfl, i64_wf r4⟩
theorem ext_bytes (s : ByteArray) (a b : Nat) : (s.extract a b).data.toList = (s.data.toList.drop a).take (b - a) := by
  rw [ByteArray.data_extract, Array.toList_extract, List.extract_eq_take_drop]
theorem bytes_ext {s t : ByteArray} (h : s.data.toList = t.data.toList) : s = t := by
  apply ByteArray.ext
  exact Array.ext' h
theorem size_list (s : ByteArray) : s.data.toList.length = s.size := by rw [Array.length_toList]; rfl
theorem word_use (s t : ByteArray) (hs : s.size ≤ 4000000) {k : Nat} (hk : 4 * k + 4 ≤ s.size) (ht : t.data.toList = (s.data.toList.drop (4 * k)).take 4) : (if 1 ≤ t.size ∧ t.size ≤ 8 then pairv (u64v (wordL t.data.toList)) okv else pairv (u64v 0) (i64v 2)) = pairv (u64v (wd s k)) okv := by
  have e : t.size = 4 := by
    rw [← size_list, ht, List.length_take, List.length_drop, size_list]; omega
  rw [if_pos (by omega), ht]
  rfl
set_option maxHeartbeats 1000000 in
theorem disas_All_ok (s : ByteArray) (hs : s.size ≤ 4000000) (w : World) : Calls Tryd.prog disas_All.N #[.string s] w (AllP s w) := by
  refine disas_All.calls ?_
  unfold disas_All.vc
  rw [tmod_nn _ (by omega)]
  refine cnd_of (fun h => ?_) (fun h => ?_)
  · refine ⟨Later.refl _, .inr ⟨fun hh => ?_, rfl⟩⟩
    have h1 := hh.1
    simp at h
    omega
  have h4 : s.size % 4 = 0 := by simp at h; omega
  obtain ⟨n, hn⟩ : ∃ n, s.size = 4 * n := ⟨s.size / 4, by omega⟩
  have hn4 : s.size / 4 = n := by omega
  refine ⟨fun vs w' => ∃ k b c, k ≤ n ∧ vs = [.string (s.extract (4 * k) s.size), .slice b (wds s k).length c] ∧ OwnE insT w w' 24 b c (wds s k) ∧ (∀ i, i < k → decE (wd s i) = 0) ∧ Later w w',
    fun vs _ => match vs with | [.string t, _] => t.size | _ => 0, ⟨0, none, 0, Nat.zero_le _, ?_, OwnE.nil _ _ _, fun i hi => absurd hi (Nat.not_lt_zero i), Later.refl _⟩, ?_⟩
  · rw [show s.extract (4 * 0) s.size = s from bytes_ext (by rw [ext_bytes, Nat.mul_zero, List.drop_zero, Nat.sub_zero, ← size_list, List.take_length])]
    rfl
  rintro g t b ln c w2 ⟨k, _, _, hk, hvs, ho, hz, l2⟩
  simp only [List.cons.injEq, Value.string.injEq, Value.slice.injEq, and_true] at hvs
  obtain ⟨rfl, rfl, rfl, rfl⟩ := hvs
  have hsz : (s.extract (4 * k) s.size).size = s.size - 4 * k := by rw [ByteArray.size_extract]; omega
  refine cnd_of (fun h => ?_) (fun h => ?_)
  · have h := of_decide_eq_true h
    rw [hsz] at h
    have hkn : k < n := by omega
    have eg : gomin 4 ((s.extract (4 * k) s.size).size : Int) = 4 := by unfold gomin; rw [hsz, if_neg (by omega)]
    rw [eg]
    have eb : ((s.extract (4 * k) s.size).extract 0 (4 : Int).toNat).data.toList = (s.data.toList.drop (4 * k)).take 4 := by
      rw [ext_bytes, ext_bytes, List.drop_zero, List.take_take]
      congr 1
      show min 4 _ = 4
      omega
    have es : (s.extract (4 * k) s.size).extract (4 : Int).toNat (s.extract (4 * k) s.size).size = s.extract (4 * (k + 1)) s.size := by
      refine bytes_ext ?_
      rw [ext_bytes, ext_bytes, ext_bytes, hsz, show (4 : Int).toNat = 4 from rfl, List.drop_take, List.drop_drop, List.take_take, show 4 * k + 4 = 4 * (k + 1) by omega, show min (s.size - 4 * k - 4) (s.size - 4 * k - 4) = s.size - 4 * (k + 1) by omega]
    refine ⟨⟨by omega, by rw [hsz]; omega⟩, (word_Word_ok _ (by rw [← size_list, eb, List.length_take]; omega) w2).mono fun e w3 ⟨he, l3⟩ => ?_⟩
    rw [word_use s _ hs (by omega) eb] at he
    refine ⟨_, _, he, ?_⟩
    have hw := wd_range s k
    have e32 : IntKind.u32.wrap (wd s k) = wd s k := u32_in hw.1 (by have := hw.2; omega)
    rw [e32]
    refine (disas_Decode_ok hw w3).mono fun e w4 ⟨he4, l4⟩ => ?_
    rw [decI_eq] at he4
    refine ⟨_, _, _, _, _, _, he4, fun w5 e5 => ?_⟩
    have l24 := l3.trans l4
    refine ((Trk.start w4).alloc e5).setAll 0 rfl (by rfl) (ones rfl) fun w6 T6 => ?_
    have l26 : Later w2 w6 := l24.trans T6.to
    have l06 := l2.trans l26
    rcases decE_or (wd s k) with h0 | h7
    · rw [h0]
      refine cnd_false rfl ?_
      have hx6 := T6.has 0 rfl
      refine ⟨fun w' => Has w' w4.heap.size [u8v (decF (wd s k) 0), u8v (decF (wd s k) 1), u8v (decF (wd s k) 2), u8v (decF (wd s k) 3), i64v (decF (wd s k) 4)], fun w' h' => hx6.later h', fun w7 l7 => ⟨_, _, _, _, _, fun w' h' => ⟨h'.cell rfl, h'.cell rfl, h'.cell rfl, h'.cell rfl, h'.cell rfl, trivial⟩, ⟨by omega, by rw [hsz]; omega⟩, fun w8 e8 => ⟨(hx6.later l7).later (e8 ▸ Later.alloc' w7 _), ?_, trivial⟩, trivial⟩⟩
      have ho7 := OwnS.later ho (l26.trans l7)
      have hr : rowB b ≠ some w4.heap.size := fun e => by
        have := (OwnS.lt ho e).2
        have := l24.size
        omega
      have l07 := l06.trans l7
      refine OwnE.pushG (T := insT) 31 insRow (wd s k) ho7 l07.size (by rw [wds_len]; simp only [maxLen]; omega) (by rw [wds_len]; omega) e8 (by rw [show insT.enc (wd s k) = decI (wd s k) from rfl, decI_eq]) fun b' c' w9 ho9 hb9 hn9 => ?_
      have hx9 : Has w9 w4.heap.size [u8v (decF (wd s k) 0), u8v (decF (wd s k) 1), u8v (decF (wd s k) 2), u8v (decF (wd s k) 3), i64v (decF (wd s k) 4)] := (hx6.later l7).kept (hb9.keep _ (hx6.later l7).lt hr)
      refine ⟨_, _, _, rfl, hx9, ⟨k + 1, b', c', by omega, ?_, by rw [wds_succ]; exact ho9, fun i hi => ?_, hb9.later l07 fun k' hk' => (OwnS.lt ho7 hk').1⟩, ?_⟩
      · rw [es, wds_succ]
      · rcases Nat.lt_succ_iff_lt_or_eq.1 hi with hi | rfl
        · exact hz i hi
        · exact h0
      · simp only
        rw [es, hsz, ByteArray.size_extract]
        omega
    · rw [h7]
      refine cnd_true rfl ⟨l06, .inr ⟨fun hh => ?_, rfl⟩⟩
      have := hh.2 k (by omega)
      omega
  · have h := of_decide_eq_false h
    rw [hsz] at h
    obtain rfl : k = n := by omega
    refine ⟨l2, .inl ⟨⟨h4, fun i hi => hz i (by omega)⟩, b, c, ?_, ?_⟩⟩
    · rw [wds_len, hn4]
    · rw [hn4]; exact words_row (OwnE.row ho)
set_option maxHeartbeats 1000000 in
theorem ref03_All_ok (s : ByteArray) (hs : s.size ≤ 4000000) (w : World) : Calls Tryd.prog ref03_All.N #[.string s] w (AllP s w) := by
  refine ref03_All.calls ?_
  unfold ref03_All.vc
  rw [tmod_nn _ (by omega)]
  refine cnd_of (fun h => ?_) (fun h => ?_)
  · refine ⟨Later.refl _, .inr ⟨fun hh => ?_, rfl⟩⟩
    have h1 := hh.1
    simp at h
    omega
  have h4 : s.size % 4 = 0 := by simp at h; omega
  obtain ⟨n, hn⟩ : ∃ n, s.size = 4 * n := ⟨s.size / 4, by omega⟩
  have hn4 : s.size / 4 = n := by omega
  refine ⟨fun vs w' => ∃ (k : Nat) (b : Option Addr) (c : Nat), k ≤ n ∧ vs = [.slice b (wds s k).length c, i64v (4 * k : Nat)] ∧ OwnE insT w w' 24 b c (wds s k) ∧ (∀ i, i < k → decE (wd s i) = 0) ∧ Later w w',
    fun vs _ => match vs with | [_, .int _ i] => s.size - i.toNat | _ => 0, ⟨0, none, 0, Nat.zero_le _, rfl, OwnE.nil _ _ _, fun i hi => absurd hi (Nat.not_lt_zero i), Later.refl _⟩, ?_⟩
  rintro g b ln c i w2 ⟨k, _, _, hk, hvs, ho, hz, l2⟩
  simp only [List.cons.injEq, Value.int.injEq, Value.slice.injEq, true_and, and_true] at hvs
  obtain ⟨⟨rfl, rfl, rfl⟩, rfl⟩ := hvs
  refine cnd_of (fun h => ?_) (fun h => ?_)
  · have h := of_decide_eq_true h
    have hkn : k < n := by omega
    have ei : IntKind.i64.wrap (((4 * k : Nat) : Int) + 4) = ((4 * (k + 1) : Nat) : Int) := by rw [i64_in (by omega) (by omega)]; omega
    rw [ei]
    have eb : (s.extract ((4 * k : Nat) : Int).toNat ((4 * (k + 1) : Nat) : Int).toNat).data.toList = (s.data.toList.drop (4 * k)).take 4 := by
      rw [ext_bytes]
      congr 1
      omega
    refine ⟨⟨by omega, by omega⟩, ⟨by omega, by omega⟩, (ref01_Word_ok _ (by rw [← size_list, eb, List.length_take]; omega) w2).mono fun e w3 ⟨he, l3⟩ => ?_⟩
    rw [word_use s _ hs (by omega) eb] at he
    refine ⟨_, _, he, ?_⟩
    have hw := wd_range s k
    have e32 : IntKind.u32.wrap (wd s k) = wd s k := u32_in hw.1 (by have := hw.2; omega)
    rw [e32]
    refine (ref03_Decode_ok hw w3).mono fun e w4 ⟨he4, l4⟩ => ?_
    rw [decI_eq] at he4
    refine ⟨_, _, _, _, _, _, he4, fun w5 e5 => ?_⟩
    have l24 := l3.trans l4
    refine ((Trk.start w4).alloc e5).setAll 0 rfl (by rfl) (ones rfl) fun w6 T6 => ?_
    have l26 : Later w2 w6 := l24.trans T6.to
    have l06 := l2.trans l26
    rcases decE_or (wd s k) with h0 | h7
    · rw [h0]
      refine cnd_false rfl ⟨_, _, _, _, _, ⟨T6.cell 0 rfl rfl, T6.cell 0 rfl rfl, T6.cell 0 rfl rfl, T6.cell 0 rfl rfl, T6.cell 0 rfl rfl, trivial⟩, fun w8 e8 => ?_⟩
      have ho6 := OwnS.later ho l26
      refine OwnE.pushG (T := insT) 31 insRow (wd s k) ho6 l06.size (by rw [wds_len]; simp only [maxLen]; omega) (by rw [wds_len]; omega) e8 (by rw [show insT.enc (wd s k) = decI (wd s k) from rfl, decI_eq]) fun b' c' w9 ho9 hb9 hn9 => ?_
      refine ⟨_, _, _, rfl, ⟨k + 1, b', c', by omega, ?_, by rw [wds_succ]; exact ho9, fun i hi => ?_, hb9.later l06 fun k' hk' => (OwnS.lt ho6 hk').1⟩, ?_⟩
      · rw [wds_succ]
      · rcases Nat.lt_succ_iff_lt_or_eq.1 hi with hi | rfl
        · exact hz i hi
        · exact h0
      · simp only
        omega
    · rw [h7]
      refine cnd_true rfl ⟨l06, .inr ⟨fun hh => ?_, rfl⟩⟩
      have := hh.2 k (by omega)
      omega
  · have h := of_decide_eq_false h
    obtain rfl : k = n := by omega
    refine ⟨l2, .inl ⟨⟨h4, fun i hi => hz i (by omega)⟩, b, c, ?_, ?_⟩⟩
    · rw [wds_len, hn4]
    · rw [hn4]; exact words_row (OwnE.row ho)
end Go.Proofs.YtgchaghdhofnoaaDoor

/-
Two rows of instructions that are the same: the document's answer says so.
Conditions: at most a million.
-/
namespace Go.Proofs.YtgchaghdhofnoaaDoor
open Go Go.Vc Go.RowKit
set_option linter.unusedVariables false
set_option linter.unusedSimpArgs false
set_option linter.unnecessarySimpa false
set_option maxRecDepth 100000

theorem ref03_Same_ok {A B : Option Addr} {n ca cb : Nat} {F : Nat → Nat → Int} (hn : n ≤ 1000000) (w : World) (hA : IntRow w A n insK F) (hB : IntRow w B n insK F) : Calls Tryd.prog ref03_Same.N #[.slice A n ca, .slice B n cb] w (Gives (.bool true) w) := by
  refine ref03_Same.calls ?_
  unfold ref03_Same.vc
  refine cnd_false (by simp) ?_
  refine ⟨fun vs w' => ∃ k : Nat, vs = [.int .i64 k] ∧ k ≤ n ∧ Later w w', fun vs _ => match vs with | [.int _ k] => (n - k.toNat) | _ => 0, ⟨0, rfl, Nat.zero_le _, Later.refl _⟩, ?_⟩
  rintro g _ w4 ⟨k, hs, hk, l4⟩
  simp only [List.cons.injEq, Value.int.injEq, true_and, and_true] at hs
  subst hs
  refine cnd_of (fun h => ?_) (fun h => ?_)
  · have h := of_decide_eq_true h
    have hkn : k < n := by omega
    obtain ⟨ad, rfl, ⟨c0, c1, c2, c3, c4, -⟩, -⟩ := row_cells (hA.later l4) hkn
    obtain ⟨ae, rfl, ⟨d0, d1, d2, d3, d4, -⟩, -⟩ := row_cells (hB.later l4) hkn
    refine ⟨⟨by omega, by omega⟩, Deref_some rfl ⟨_, _, _, _, _, fun w' h' => ⟨h'.cell_some c0, h'.cell_some c1, h'.cell_some c2, h'.cell_some c3, h'.cell_some c4, trivial⟩, ⟨by omega, by omega⟩, Deref_some rfl ⟨_, _, _, _, _, fun w' h' => ⟨h'.cell_some d0, h'.cell_some d1, h'.cell_some d2, h'.cell_some d3, h'.cell_some d4, trivial⟩, _, (eq_ins _ _ _ _ _ _ _ _ _ _ _ _).2, fun w5 h5 => cnd_false (by simp) ?_⟩⟩⟩
    rw [i64_in (by omega) (by omega)]
    refine ⟨⟨k + 1, rfl, by omega, l4.trans h5⟩, ?_⟩
    simp only
    omega
  · exact ⟨rfl, l4⟩
end Go.Proofs.YtgchaghdhofnoaaDoor

/-
The laws of chapter 03, first part: the chapter's examples.
Conditions: two of the library's tables read as they are laid.
-/
namespace Go.Proofs.YtgchaghdhofnoaaDoor
open Go Go.Vc Go.RowKit
set_option linter.unusedVariables false
set_option linter.unusedSimpArgs false
set_option linter.unnecessarySimpa false
set_option maxRecDepth 100000

theorem dec_addi : decI 4293918867 = [u8v 15, u8v 1, u8v 0, u8v 0, i64v (-1)] ∧ decE 4293918867 = 0 := ⟨by kernel_rfl, by kernel_rfl⟩
theorem dec_zero : decE 0 = 7 := by kernel_rfl
theorem dec_ones : decE 4294967295 = 7 := by kernel_rfl
theorem ecall_ok : AllOk (ByteArray.mk #[115, 0, 0, 0]) := by
  refine ⟨by decide, fun i hi => ?_⟩
  have : i = 0 := by have : (ByteArray.mk #[115, 0, 0, 0]).size = 4 := rfl; omega
  subst this
  exact (show decE (wd (ByteArray.mk #[115, 0, 0, 0]) 0) = 0 by kernel_rfl)
theorem short_not : ¬ AllOk (ByteArray.mk #[115]) := fun h => absurd h.1 (by decide)
theorem enc_bne : (encv 29 0 5 0 (-4)).isSome = true := by kernel_rfl
theorem enc_none : encv 0 0 0 0 0 = none := by kernel_rfl
theorem itoa_5 : Lib.itoa 5 = [53] := by simp [Lib.itoa, Lib.decDigits]
theorem itoa_0 : Lib.itoa 0 = [48] := by simp [Lib.itoa, Lib.decDigits]
theorem itoa_4 : Lib.itoa (-4) = [45, 52] := by simp [Lib.itoa, Lib.decDigits]
theorem text_bne : textV 29 0 5 0 (-4) = ByteArray.mk #[98, 110, 101, 32, 120, 53, 32, 120, 48, 32, 45, 52] := by
  obtain ⟨v, hv⟩ := Option.isSome_iff_exists.1 enc_bne
  unfold textV
  rw [hv]
  show bsL (textL 29 0 5 0 (-4)) = _
  rw [textL_tail, if_neg (show ¬ hasRdS 29 = true by decide), if_pos (show hasRs1S 29 = true by decide), if_pos (show hasRs2S 29 = true by decide), if_pos (show hasImmS 29 = true by decide)]
  unfold xS decS
  rw [itoa_5, itoa_0, itoa_4]
  rfl
theorem text_none : textV 0 0 0 0 0 = ByteArray.mk #[63] := by unfold textV; rw [enc_none]
theorem law03_alive_ok (w : World) (hT : Tabs w) : Calls Tryd.prog law03_alive.N #[] w (Gives (.bool true) w) := by
  refine law03_alive.calls ?_
  unfold law03_alive.vc
  refine (disas_Decode_ok (wv := 4293918867) ⟨by decide, by decide⟩ w).mono fun e w1 ⟨he, l1⟩ => ?_
  rw [dec_addi.1, dec_addi.2] at he
  refine ⟨_, _, _, _, _, _, he, fun w2 e2 => ?_⟩
  refine ((Trk.here l1).alloc e2).setAll 0 rfl (by rfl) (ones rfl) fun w3 T3 => ?_
  refine (disas_Decode_ok (wv := 0) ⟨by decide, by decide⟩ w3).mono fun e w4 ⟨he, l4⟩ => ?_
  rw [decI_eq, dec_zero] at he
  refine ⟨_, _, _, _, _, _, he, fun w5 e5 => ?_⟩
  refine ((T3.later l4).alloc e5).setAll 1 rfl (by rfl) (ones rfl) fun w6 T6 => ?_
  refine (disas_Decode_ok (wv := 4294967295) ⟨by decide, by decide⟩ w6).mono fun e w7 ⟨he, l7⟩ => ?_
  rw [decI_eq, dec_ones] at he
  refine ⟨_, _, _, _, _, _, he, fun w8 e8 => ?_⟩
  refine ((T6.later l7).alloc e8).setAll 2 rfl (by rfl) (ones rfl) fun w9 T9 => ?_
  refine (disas_All_ok (ByteArray.mk #[115, 0, 0, 0]) (by decide) w9).mono fun e w10 ⟨l10, h10⟩ => ?_
  rcases h10 with ⟨_, b, c, he, _⟩ | ⟨h, _⟩
  · refine ⟨_, _, _, _, he, ?_⟩
    refine (disas_All_ok (ByteArray.mk #[115]) (by decide) w10).mono fun e w11 ⟨l11, h11⟩ => ?_
    rcases h11 with ⟨h, _⟩ | ⟨_, he⟩
    · exact absurd h short_not
    · have T11 := (T9.later l10).later l11
      refine ⟨_, _, _, _, he, _, _, _, _, _, ⟨T11.cell 0 rfl rfl, T11.cell 0 rfl rfl, T11.cell 0 rfl rfl, T11.cell 0 rfl rfl, T11.cell 0 rfl rfl, trivial⟩, _, (eq_ins _ _ _ _ _ _ _ _ _ _ _ _).1, ?_⟩
      refine cnd_true rfl (cnd_true rfl (cnd_true rfl (cnd_true rfl (cnd_true rfl (cnd_true rfl (cnd_true rfl ?_))))))
      refine (disas_Text_ok (o := 29) (d := 0) (a := 5) (b := 0) (v := -4) ⟨by decide, by decide⟩ ⟨by decide, by decide⟩ ⟨by decide, by decide⟩ ⟨by decide, by decide⟩ ⟨by decide, by decide⟩ w11 (hT.later T11.to)).mono fun e w12 ⟨he, l12⟩ => ?_
      rw [text_bne] at he
      refine ⟨_, he, cnd_true (by simp) ?_⟩
      refine (disas_Text_ok (o := 0) (d := 0) (a := 0) (b := 0) (v := 0) ⟨by decide, by decide⟩ ⟨by decide, by decide⟩ ⟨by decide, by decide⟩ ⟨by decide, by decide⟩ ⟨by decide, by decide⟩ w12 (hT.later (T11.to.trans l12))).mono fun e w13 ⟨he, l13⟩ => ?_
      rw [text_none] at he
      exact ⟨_, he, by simp, (T11.to.trans l12).trans l13⟩
  · exact absurd ecall_ok h
theorem law03_DisasAll_ok (s : ByteArray) (w : World) (hT : Tabs w) : Calls Tryd.prog law03_DisasAll.N #[.string s] w (Gives (.bool true) w) := by
  refine law03_DisasAll.calls ?_
  unfold law03_DisasAll.vc
  refine cnd_of (fun h => ?_) (fun h => ?_)
  · exact (law03_alive_ok w hT).mono fun e w1 ⟨he, l1⟩ => ⟨_, he, rfl, l1⟩
  · have h := of_decide_eq_false h
    refine (disas_All_ok s (by omega) w).mono fun e w1 ⟨l1, h1⟩ => ?_
    rcases h1 with ⟨ok, b, c, he, hr⟩ | ⟨ok, he⟩
    · refine ⟨_, _, _, _, he, (ref03_All_ok s (by omega) w1).mono fun e w2 ⟨l2, h2⟩ => ?_⟩
      rcases h2 with ⟨_, b2, c2, he2, hr2⟩ | ⟨no, _⟩
      · refine ⟨_, _, _, _, he2, (ref03_Same_ok (by omega) w2 (hr.later l2) hr2).mono fun e w3 ⟨he3, l3⟩ => ⟨_, he3, cnd_true rfl (cnd_true rfl ?_)⟩⟩
        exact (law03_alive_ok w3 (hT.later ((l1.trans l2).trans l3))).mono fun e w4 ⟨he, l4⟩ => ⟨_, he, rfl, ((l1.trans l2).trans l3).trans l4⟩
      · exact absurd ok no
    · refine ⟨_, _, _, _, he, (ref03_All_ok s (by omega) w1).mono fun e w2 ⟨l2, h2⟩ => ?_⟩
      rcases h2 with ⟨yes, _⟩ | ⟨_, he2⟩
      · exact absurd yes ok
      · refine ⟨_, _, _, _, he2, (ref03_Same_ok (n := 0) (F := fun _ _ => 0) (by omega) w2 (fun i hi => absurd hi (Nat.not_lt_zero i)) (fun i hi => absurd hi (Nat.not_lt_zero i))).mono fun e w3 ⟨he3, l3⟩ => ⟨_, he3, cnd_true rfl (cnd_true rfl ?_)⟩⟩
        exact (law03_alive_ok w3 (hT.later ((l1.trans l2).trans l3))).mono fun e w4 ⟨he, l4⟩ => ⟨_, he, rfl, ((l1.trans l2).trans l3).trans l4⟩
end Go.Proofs.YtgchaghdhofnoaaDoor

/-
The plain laws of chapter 03: what was encoded is decoded.
Conditions: each number is of its kind.
-/
namespace Go.Proofs.YtgchaghdhofnoaaDoor
open Go Go.Vc Go.RowKit
set_option linter.unusedVariables false
set_option linter.unusedSimpArgs false
set_option linter.unnecessarySimpa false
set_option maxRecDepth 100000

/-- What is decoded is encoded as the word. -/
theorem dec_enc {w : Int} (h : decE w = 0) : encv (decF w 0) (decF w 1) (decF w 2) (decF w 3) (decF w 4) = some w := by
  unfold decE at h
  unfold decF
  cases hk : decK w with
  | none => rw [hk] at h; cases h
  | some k =>
    have hf := List.find?_some hk
    unfold fitG at hf
    exact of_decide_eq_true hf
theorem dec_none {w : Int} (h : decE w ≠ 0) : decE w = 7 ∧ ∀ j, decF w j = 0 := by
  unfold decE at h ⊢
  unfold decF
  cases hk : decK w with
  | none => exact ⟨rfl, fun j => rfl⟩
  | some k => rw [hk] at h; exact absurd rfl h
def kapF (D : FD) : Bool × Bool × Bool × Int := (D.rd, D.rs1, D.rs2, D.nb)
theorem sgn_small (v : Int) (n : Nat) (N : Int) (e : N = n) (h1 : 1 ≤ n) (h2 : n ≤ 63) : sgn v N = signI v n := by
  subst e
  unfold sgn signv
  rw [if_pos (by omega), Int.toNat_natCast]
  have hr := signI_range v n h1
  have hp : (2 : Int) ^ (n - 1) ≤ 9223372036854775808 := pow_le63 n h1 (by omega)
  exact wrap_i64_small (by omega) (by omega)
theorem formD_key {m : Int} (hm : 1 ≤ m ∧ m ≤ 8) {D : FD} {k : Int} (hk : ∀ j : Int, (1 ≤ j ∧ j ≤ 8) → kapF (formD j) = kapF D → j = k) (h : formD m = D) : m = k := hk m hm (by rw [h])
theorem sx_signI (x : Int) (n : Nat) (h1 : 1 ≤ n) (h0 : 0 ≤ x) (h2 : x < 2 ^ n) : signI x n = sx (2 ^ n) x := by
  unfold signI sx
  rw [Int.emod_eq_of_lt h0 h2]
  have e : (2 : Int) ^ n = 2 * 2 ^ (n - 1) := half_pow n h1
  by_cases h : 2 ^ (n - 1) ≤ x
  · rw [if_pos h, if_neg (by omega)]
  · rw [if_neg h, if_pos (by omega)]
/-- A word's parts are what its instruction has. -/
theorem lin_dec {o : Int} (h1 : 1 ≤ o) (h2 : o ≤ 34) {x : Int × Int × Int × Int} (hx : tabR[(o - 1).toNat]? = some x) {d a b v w : Int} (hw : W32 w) (h : Lin (x.1, x.2.1, x.2.2.1, formD x.2.2.2) d a b v w) :
    gRd o w = d ∧ gR1 o w = a ∧ gR2 o w = b ∧ numS o w = v := by
  obtain ⟨y, hy, hm, f1, f2, f3, f4⟩ := forms_all ⟨(o - 1).toNat, by omega⟩
  simp only at hy f1 f2 f3 f4
  rw [hx] at hy
  obtain rfl := Option.some.inj hy
  rw [show (((o - 1).toNat : Nat) : Int) + 1 = o by omega] at f1 f2 f3 f4
  obtain ⟨w0, w1⟩ := hw
  unfold gRd gR1 gR2
  rw [f1, f2, f3, numS_K, f4]
  simp only [decide_eq_true_eq]
  generalize hD : (x.1, x.2.1, x.2.2.1, formD x.2.2.2) = z at h
  have hD4 : formD x.2.2.2 = z.2.2.2 := by rw [← hD]
  have key : ∀ (D : FD) (k : Int), (∀ j : Int, (1 ≤ j ∧ j ≤ 8) → kapF (formD j) = kapF D → j = k) → formD x.2.2.2 = D → x.2.2.2 = k := fun D k hk h => formD_key hm hk h
  have all8 : ∀ {p : Int → Prop}, (p 1 ∧ p 2 ∧ p 3 ∧ p 4 ∧ p 5 ∧ p 6 ∧ p 7 ∧ p 8) → ∀ j : Int, (1 ≤ j ∧ j ≤ 8) → p j := by
    intro p hp j hj
    have : j = 1 ∨ j = 2 ∨ j = 3 ∨ j = 4 ∨ j = 5 ∨ j = 6 ∨ j = 7 ∨ j = 8 := by omega
    obtain ⟨q1, q2, q3, q4, q5, q6, q7, q8⟩ := hp
    rcases this with rfl | rfl | rfl | rfl | rfl | rfl | rfl | rfl <;> assumption
  cases h with
  | two f g d a b w hc hd hf ha hb hg =>
    rw [key twoD 1 (all8 (p := fun j => kapF (formD j) = kapF twoD → j = 1) (by decide)) hD4]
    unfold fldI numK fK
    simp only [hd, ha, hb]
    refine ⟨?_, ?_, ?_, ?_⟩ <;> simp
  | number c f d a v w hk hc hd hf ha hv =>
    rw [key numberD 2 (all8 (p := fun j => kapF (formD j) = kapF numberD → j = 2) (by decide)) hD4]
    have e : fldI w 20 12 = w / 1048576 := by unfold fldI; omega
    refine ⟨?_, ?_, ?_, ?_⟩
    · simp [fldI, hd]
    · simp [fldI, ha]
    · simp
    · show numK 1 w = v
      unfold numK
      rw [if_pos rfl, e, sgn_small _ 12 12 rfl (by decide) (by decide), sx_signI _ 12 (by decide) (by omega) (by omega), hv]
      rfl
  | shift f g d a v w hk hc hd hf ha hv hg =>
    rw [key shiftD 3 (all8 (p := fun j => kapF (formD j) = kapF shiftD → j = 3) (by decide)) hD4]
    refine ⟨?_, ?_, ?_, ?_⟩
    · simp [fldI, hd]
    · simp [fldI, ha]
    · simp
    · show numK 2 w = v
      unfold numK fldI
      rw [if_neg (by decide), if_pos rfl, hv]
      rfl
  | large d v w hc hd hv =>
    rw [key largeD 4 (all8 (p := fun j => kapF (formD j) = kapF largeD → j = 4) (by decide)) hD4]
    have e : fldI w 12 20 * 4096 = w / 4096 * 4096 := by unfold fldI; omega
    refine ⟨?_, ?_, ?_, ?_⟩
    · simp [fldI, hd]
    · simp
    · simp
    · show numK 3 w = v
      unfold numK
      rw [if_neg (by decide), if_neg (by decide), if_pos rfl, e, sgn_small _ 32 32 rfl (by decide) (by decide), sx_signI _ 32 (by decide) (by omega) (by omega), hv]
      rfl
  | jump d v w hc hd hv =>
    rw [key jumpD 7 (all8 (p := fun j => kapF (formD j) = kapF jumpD → j = 7) (by decide)) hD4]
    have e : fldI w 21 10 * 2 + fldI w 20 1 * 2048 + fldI w 12 8 * 4096 + fldI w 31 1 * 1048576 = 2 * (w / 2097152 % 1024) + 2048 * (w / 1048576 % 2) + 4096 * (w / 4096 % 256) + 1048576 * (w / 2147483648) := by unfold fldI; omega
    refine ⟨?_, ?_, ?_, ?_⟩
    · simp [fldI, hd]
    · simp
    · simp
    · show numK 6 w = v
      unfold numK
      rw [if_neg (by decide), if_neg (by decide), if_neg (by decide), if_neg (by decide), if_neg (by decide), if_pos rfl, e, sgn_small _ 21 21 rfl (by decide) (by decide), sx_signI _ 21 (by decide) (by omega) (by omega), hv]
      rfl
  | store f a b v w hc hf ha hb hv =>
    rw [key storeD 5 (all8 (p := fun j => kapF (formD j) = kapF storeD → j = 5) (by decide)) hD4]
    have e : fldI w 25 7 * 32 + fldI w 7 5 = w / 128 % 32 + 32 * (w / 33554432) := by unfold fldI; omega
    refine ⟨?_, ?_, ?_, ?_⟩
    · simp
    · simp [fldI, ha]
    · simp [fldI, hb]
    · show numK 4 w = v
      unfold numK
      rw [if_neg (by decide), if_neg (by decide), if_neg (by decide), if_pos rfl, e, sgn_small _ 12 12 rfl (by decide) (by decide), sx_signI _ 12 (by decide) (by omega) (by omega), hv]
      rfl
  | branch f a b v w hc hf ha hb hv =>
    rw [key branchD 6 (all8 (p := fun j => kapF (formD j) = kapF branchD → j = 6) (by decide)) hD4]
    have e : fldI w 8 4 * 2 + fldI w 25 6 * 32 + fldI w 7 1 * 2048 + fldI w 31 1 * 4096 = 2 * (w / 256 % 16) + 32 * (w / 33554432 % 64) + 2048 * (w / 128 % 2) + 4096 * (w / 2147483648) := by unfold fldI; omega
    refine ⟨?_, ?_, ?_, ?_⟩
    · simp
    · simp [fldI, ha]
    · simp [fldI, hb]
    · show numK 5 w = v
      unfold numK
      rw [if_neg (by decide), if_neg (by decide), if_neg (by decide), if_neg (by decide), if_pos rfl, e, sgn_small _ 13 13 rfl (by decide) (by decide), sx_signI _ 13 (by decide) (by omega) (by omega), hv]
      rfl
  | bare =>
    rw [key bareD 8 (all8 (p := fun j => kapF (formD j) = kapF bareD → j = 8) (by decide)) hD4]
    refine ⟨?_, ?_, ?_, ?_⟩ <;> simp [numK]
/-- What was encoded is decoded. -/
theorem enc_dec {o d a b v w : Int} (ho : U8 o) (hd : U8 d) (ha : U8 a) (hb : U8 b) (h : encv o d a b v = some w) : decE w = 0 ∧ decF w 0 = o ∧ decF w 1 = d ∧ decF w 2 = a ∧ decF w 3 = b ∧ decF w 4 = v := by
  obtain ⟨p1, p2, _⟩ := encv_parts h
  obtain ⟨w0, w1⟩ := encv_range ho hd ha hb h
  obtain ⟨x, hx, _⟩ := forms_text p1 p2
  have hl : tabL[(o - 1).toNat]? = some (x.1, x.2.1, x.2.2.1, formD x.2.2.2) := by rw [← tabR_is, List.getElem?_map, hx]; rfl
  have hr : rowOf o = some (x.1, x.2.1, x.2.2.1, formD x.2.2.2) := by unfold rowOf; rw [if_pos p1, hl]
  have h0 := h
  unfold encv at h0
  rw [hr] at h0
  simp only at h0
  split at h0
  · rename_i hm
    have hL := tab_lin _ (List.mem_of_getElem? hl) d a b v hd.1 ha.1 hb.1 hm
    rw [Option.some.inj h0] at hL
    obtain ⟨e1, e2, e3, e4⟩ := lin_dec p1 p2 hx ⟨w0, w1⟩ hL
    have hfit : fitG w ⟨(o - 1).toNat, by omega⟩ = true := by
      unfold fitG encG
      simp only
      rw [show (((o - 1).toNat : Nat) : Int) + 1 = o by omega, e1, e2, e3, e4, h]
      exact decide_eq_true rfl
    have hE : decE w = 0 := by
      unfold decE decK
      cases hk : (List.finRange 34).find? (fitG w) with
      | none => exact absurd hfit (List.find?_eq_none.1 hk _ (List.mem_finRange _))
      | some k => rfl
    have hq := dec_enc hE
    obtain ⟨r0, r1, r2, r3, r4⟩ := decF_range w
    have := enc_inj r1 r2 r3 hd ha hb hq h
    exact ⟨hE, this.1, this.2.1, this.2.2.1, this.2.2.2.1, this.2.2.2.2⟩
  · cases h0
end Go.Proofs.YtgchaghdhofnoaaDoor

/-
The plain law of chapter 03's texts: unlike instructions that have words have unlike texts.
Conditions: each number is of its kind.
-/
namespace Go.Proofs.YtgchaghdhofnoaaDoor
open Go Go.Vc Go.RowKit
set_option linter.unusedVariables false
set_option linter.unusedSimpArgs false
set_option linter.unnecessarySimpa false
set_option maxRecDepth 100000

theorem app_split : ∀ (x x' T T' : List UInt8), (32 : UInt8) ∉ x → (32 : UInt8) ∉ x' → (T = [] ∨ T.head? = some 32) → (T' = [] ∨ T'.head? = some 32) → x ++ T = x' ++ T' → x = x' ∧ T = T'
  | [], [], T, T', _, _, _, _, h => ⟨rfl, h⟩
  | [], c :: x', T, T', _, h2, h3, _, h => by
    exfalso
    rcases h3 with h3 | h3
    · rw [h3] at h; cases h
    · simp only [List.nil_append] at h
      rw [h] at h3
      simp only [List.cons_append, List.head?_cons, Option.some.injEq] at h3
      exact h2 (by simp [h3])
  | c :: x, [], T, T', h1, _, _, h3, h => by
    exfalso
    rcases h3 with h3 | h3
    · rw [h3] at h; cases h
    · simp only [List.nil_append] at h
      rw [← h] at h3
      simp only [List.cons_append, List.head?_cons, Option.some.injEq] at h3
      exact h1 (by simp [h3])
  | c :: x, c' :: x', T, T', h1, h2, h3, h4, h => by
    simp only [List.cons_append, List.cons.injEq] at h
    obtain ⟨e, g⟩ := app_split x x' T T' (fun q => h1 (List.mem_cons_of_mem _ q)) (fun q => h2 (List.mem_cons_of_mem _ q)) h3 h4 h.2
    exact ⟨by rw [h.1, e], g⟩
theorem tail_cons (x : List UInt8) (xs : List (List UInt8)) : Lib.joinTail [32] (x :: xs) = 32 :: (x ++ Lib.joinTail [32] xs) := by simp [Lib.joinTail]
theorem tail_nil : Lib.joinTail [32] [] = [] := by simp [Lib.joinTail]
theorem tail_head (xs : List (List UInt8)) : Lib.joinTail [32] xs = [] ∨ (Lib.joinTail [32] xs).head? = some 32 := by
  cases xs with
  | nil => exact .inl tail_nil
  | cons x xs => exact .inr (by rw [tail_cons]; rfl)
theorem tail_inj : ∀ (xs ys : List (List UInt8)), (∀ x ∈ xs, (32 : UInt8) ∉ x) → (∀ x ∈ ys, (32 : UInt8) ∉ x) → Lib.joinTail [32] xs = Lib.joinTail [32] ys → xs = ys
  | [], [], _, _, _ => rfl
  | [], y :: ys, _, _, h => by rw [tail_nil, tail_cons] at h; cases h
  | x :: xs, [], _, _, h => by rw [tail_nil, tail_cons] at h; cases h
  | x :: xs, y :: ys, hx, hy, h => by
    rw [tail_cons, tail_cons, List.cons.injEq] at h
    obtain ⟨e, g⟩ := app_split x y _ _ (hx x (by simp)) (hy y (by simp)) (tail_head xs) (tail_head ys) h.2
    rw [e, tail_inj xs ys (fun q hq => hx q (by simp [hq])) (fun q hq => hy q (by simp [hq])) g]
theorem join_inj {xs ys : List (List UInt8)} (hx : ∀ x ∈ xs, (32 : UInt8) ∉ x) (hy : ∀ x ∈ ys, (32 : UInt8) ∉ x) (n1 : xs ≠ []) (n2 : ys ≠ []) (h : Lib.join xs [32] = Lib.join ys [32]) : xs = ys := by
  cases xs with
  | nil => exact absurd rfl n1
  | cons x xs =>
    cases ys with
    | nil => exact absurd rfl n2
    | cons y ys =>
      rw [Lib.join_cons, Lib.join_cons] at h
      obtain ⟨e, g⟩ := app_split x y _ _ (hx x (by simp)) (hy y (by simp)) (tail_head xs) (tail_head ys) h
      rw [e, tail_inj xs ys (fun q hq => hx q (by simp [hq])) (fun q hq => hy q (by simp [hq])) g]

def valD (l : List UInt8) : Nat := l.foldl (fun a c => 10 * a + (c.toNat - 48)) 0
theorem dig_nat {k : Nat} (h : k < 10) : (UInt8.ofNat (48 + k)).toNat = 48 + k := by
  rw [UInt8.toNat_ofNat']; omega
theorem valD_dec (u : Nat) : valD (Lib.decDigits u) = u := by
  induction u using Nat.strongRecOn with
  | _ u ih =>
    rw [Lib.decDigits]
    by_cases h : u < 10
    · rw [dif_pos h]
      unfold valD
      simp only [List.foldl_cons, List.foldl_nil, dig_nat h]
      omega
    · rw [dif_neg h]
      have e := ih (u / 10) (by omega)
      unfold valD at e ⊢
      rw [List.foldl_append, e]
      simp only [List.foldl_cons, List.foldl_nil, dig_nat (k := u % 10) (by omega)]
      omega
theorem dec_dig (u : Nat) : ∀ c ∈ Lib.decDigits u, 48 ≤ c.toNat := by
  induction u using Nat.strongRecOn with
  | _ u ih =>
    intro c hc
    rw [Lib.decDigits] at hc
    by_cases h : u < 10
    · rw [dif_pos h] at hc
      simp only [List.mem_singleton] at hc
      rw [hc, dig_nat h]; omega
    · rw [dif_neg h, List.mem_append] at hc
      rcases hc with hc | hc
      · exact ih (u / 10) (by omega) c hc
      · simp only [List.mem_singleton] at hc
        rw [hc, dig_nat (by omega)]; omega
theorem itoa_inj {m n : Int} (h : Lib.itoa m = Lib.itoa n) : m = n := by
  unfold Lib.itoa at h
  by_cases hm : m < 0 <;> by_cases hn : n < 0
  · rw [if_pos hm, if_pos hn, List.cons.injEq] at h
    have := congrArg valD h.2
    rw [valD_dec, valD_dec] at this
    omega
  · rw [if_pos hm, if_neg hn] at h
    have := dec_dig n.toNat 45 (by rw [← h]; simp)
    exact absurd this (by decide)
  · rw [if_neg hm, if_pos hn] at h
    have := dec_dig m.toNat 45 (by rw [h]; simp)
    exact absurd this (by decide)
  · rw [if_neg hm, if_neg hn] at h
    have := congrArg valD h
    rw [valD_dec, valD_dec] at this
    omega
theorem itoa_no32 (n : Int) : (32 : UInt8) ∉ Lib.itoa n := by
  intro h
  unfold Lib.itoa at h
  split at h
  · rcases List.mem_cons.1 h with h | h
    · exact absurd h (by decide)
    · exact absurd (dec_dig _ _ h) (by decide)
  · exact absurd (dec_dig _ _ h) (by decide)
theorem decS_list (n : Int) : (decS n).data.toList = Lib.itoa n := by simp [decS]
theorem xS_list (n : Int) : (xS n).data.toList = 120 :: Lib.itoa n := by
  unfold xS
  rw [ByteArray.data_append, Array.toList_append, decS_list]; rfl
theorem xS_inj {m n : Int} (h : (xS m).data.toList = (xS n).data.toList) : m = n := by
  rw [xS_list, xS_list, List.cons.injEq] at h
  exact itoa_inj h.2
theorem nms_no32 : ∀ s ∈ nms, (32 : UInt8) ∉ s.data.toList := by decide +kernel
theorem nms_apart : ∀ i j : Fin 34, (nms.getD i.val ⟨#[]⟩).data.toList = (nms.getD j.val ⟨#[]⟩).data.toList → i = j := by decide +kernel
theorem nmO_no32 (o : Int) : (32 : UInt8) ∉ (nmO o).data.toList := by
  unfold nmO
  rw [List.getD_eq_getElem?_getD]
  cases h : nms[(o - 1).toNat]? with
  | none => decide
  | some s => exact nms_no32 s (List.mem_of_getElem? h)
theorem nmO_inj {o o' : Int} (h1 : 1 ≤ o) (h2 : o ≤ 34) (h1' : 1 ≤ o') (h2' : o' ≤ 34) (h : (nmO o).data.toList = (nmO o').data.toList) : o = o' := by
  have := nms_apart ⟨(o - 1).toNat, by omega⟩ ⟨(o' - 1).toNat, by omega⟩ h
  have := congrArg Fin.val this
  simp only at this
  omega
theorem flags_all : ∀ k : Fin 34, ∃ x, tabL[k.val]? = some x ∧ x.2.2.2.rd = hasRdS ((k.val : Int) + 1) ∧ x.2.2.2.rs1 = hasRs1S ((k.val : Int) + 1) ∧ x.2.2.2.rs2 = hasRs2S ((k.val : Int) + 1) ∧ (hasImmS ((k.val : Int) + 1) = false → x.2.2.2.nb = 0 ∧ x.2.2.2.step = 0) := by
  have h : (List.range 34).all (fun k => match tabL[k]? with | some x => decide (x.2.2.2.rd = hasRdS ((k : Int) + 1)) && decide (x.2.2.2.rs1 = hasRs1S ((k : Int) + 1)) && decide (x.2.2.2.rs2 = hasRs2S ((k : Int) + 1)) && (hasImmS ((k : Int) + 1) || (decide (x.2.2.2.nb = 0) && decide (x.2.2.2.step = 0))) | none => false) = true := by decide +kernel
  intro k
  have := List.all_eq_true.1 h k.val (by simp)
  cases hx : tabL[k.val]? with
  | none => rw [hx] at this; cases this
  | some x =>
    rw [hx] at this
    simp only [Bool.and_eq_true, Bool.or_eq_true, decide_eq_true_eq] at this
    obtain ⟨⟨⟨q1, q2⟩, q3⟩, q4⟩ := this
    refine ⟨x, rfl, q1, q2, q3, fun hi => ?_⟩
    rcases q4 with q4 | q4
    · rw [hi] at q4; cases q4
    · exact q4
/-- What an instruction that has a word has not is 0. -/
theorem enc_zero {o d a b v w : Int} (h : encv o d a b v = some w) : (hasRdS o = false → d = 0) ∧ (hasRs1S o = false → a = 0) ∧ (hasRs2S o = false → b = 0) ∧ (hasImmS o = false → v = 0) := by
  obtain ⟨h1, h2, -⟩ := encv_parts h
  obtain ⟨x, hx, f1, f2, f3, f4⟩ := flags_all ⟨(o - 1).toNat, by omega⟩
  simp only at hx f1 f2 f3 f4
  rw [show (((o - 1).toNat : Nat) : Int) + 1 = o by omega] at f1 f2 f3 f4
  unfold encv rowOf at h
  rw [if_pos h1, hx] at h
  simp only at h
  by_cases hm : mayF x.2.2.2 d a b v = true
  · obtain ⟨-, -, -, g1, g2, g3, g4⟩ := may_regs hm
    refine ⟨fun q => g1 (f1.trans q), fun q => g2 (f2.trans q), fun q => g3 (f3.trans q), fun q => ?_⟩
    obtain ⟨e1, e2⟩ := f4 q
    rw [e1, e2] at g4
    exact fits_two g4
  · rw [if_neg hm] at h; cases h
theorem words_no32 (o d a b v : Int) : ∀ x ∈ (wordsS o d a b v).map (fun s => s.data.toList), (32 : UInt8) ∉ x := by
  have hxs : ∀ r, (32 : UInt8) ∉ (xS r).data.toList := fun r h => by
    rw [xS_list, List.mem_cons] at h
    rcases h with h | h
    · exact absurd h (by decide)
    · exact itoa_no32 _ h
  have hds : ∀ r, (32 : UInt8) ∉ (decS r).data.toList := fun r h => by rw [decS_list] at h; exact itoa_no32 _ h
  have hn := nmO_no32 o
  intro x hx
  unfold wordsS at hx
  simp only [List.map_append, List.mem_append, List.map_cons, List.map_nil, List.mem_singleton] at hx
  have opt : ∀ (c : Bool) (s : ByteArray), (32 : UInt8) ∉ s.data.toList → x ∈ (if c = true then [s] else []).map (fun s => s.data.toList) → (32 : UInt8) ∉ x := by
    intro c s hs h
    cases c with
    | false => simp at h
    | true => simp at h; rw [h]; exact hs
  rcases hx with (((hx | hx) | hx) | hx) | hx
  · rw [hx]; exact hn
  · exact opt _ _ (hxs d) hx
  · exact opt _ _ (hxs a) hx
  · exact opt _ _ (hxs b) hx
  · exact opt _ _ (hds v) hx
theorem words_inj {o d a b v d' a' b' v' : Int} (h : (wordsS o d a b v).map (fun s => s.data.toList) = (wordsS o d' a' b' v').map (fun s => s.data.toList)) :
    (hasRdS o = true → d = d') ∧ (hasRs1S o = true → a = a') ∧ (hasRs2S o = true → b = b') ∧ (hasImmS o = true → v = v') := by
  have hd : ∀ {m n : Int}, (decS m).data.toList = (decS n).data.toList → m = n := fun h => by rw [decS_list, decS_list] at h; exact itoa_inj h
  unfold wordsS at h
  cases e1 : hasRdS o <;> cases e2 : hasRs1S o <;> cases e3 : hasRs2S o <;> cases e4 : hasImmS o
  all_goals
    rw [e1, e2, e3, e4] at h
    simp only [if_true, if_false, Bool.false_eq_true, List.append_nil, List.map_append, List.map_cons, List.map_nil, List.cons_append, List.nil_append, List.cons.injEq, true_and, and_true] at h
    refine ⟨fun q => ?_, fun q => ?_, fun q => ?_, fun q => ?_⟩
    all_goals first
      | exact absurd q (by decide)
      | (first | exact xS_inj h | exact xS_inj h.1 | exact xS_inj h.2 | exact xS_inj h.2.1 | exact xS_inj h.2.2 | exact xS_inj h.2.2.1 | exact xS_inj h.2.2.2)
      | (first | exact hd h | exact hd h.1 | exact hd h.2 | exact hd h.2.1 | exact hd h.2.2 | exact hd h.2.2.1 | exact hd h.2.2.2)
theorem words_head {o d a b v o' d' a' b' v' : Int} (h : (wordsS o d a b v).map (fun s => s.data.toList) = (wordsS o' d' a' b' v').map (fun s => s.data.toList)) : (nmO o).data.toList = (nmO o').data.toList := by
  have := congrArg List.head? h
  unfold wordsS at this
  simpa using this
theorem words_ne (o d a b v : Int) : (wordsS o d a b v).map (fun s => s.data.toList) ≠ [] := by
  unfold wordsS; simp
/-- Unlike instructions that have words have unlike texts. -/
theorem text_inj {o d a b v w o' d' a' b' v' w' : Int} (h : encv o d a b v = some w) (h' : encv o' d' a' b' v' = some w') (e : textV o d a b v = textV o' d' a' b' v') : o = o' ∧ d = d' ∧ a = a' ∧ b = b' ∧ v = v' := by
  unfold textV at e
  rw [h, h'] at e
  simp only [ByteArray.mk.injEq] at e
  have e := congrArg Array.toList e
  simp only [textL] at e
  have e := join_inj (words_no32 o d a b v) (words_no32 o' d' a' b' v') (words_ne _ _ _ _ _) (words_ne _ _ _ _ _) e
  obtain ⟨h1, h2, -⟩ := encv_parts h
  obtain ⟨h1', h2', -⟩ := encv_parts h'
  obtain rfl := nmO_inj h1 h2 h1' h2' (words_head e)
  obtain ⟨q1, q2, q3, q4⟩ := words_inj e
  obtain ⟨z1, z2, z3, z4⟩ := enc_zero h
  obtain ⟨y1, y2, y3, y4⟩ := enc_zero h'
  refine ⟨rfl, ?_, ?_, ?_, ?_⟩
  · cases hq : hasRdS o with
    | true => exact q1 hq
    | false => rw [z1 hq, y1 hq]
  · cases hq : hasRs1S o with
    | true => exact q2 hq
    | false => rw [z2 hq, y2 hq]
  · cases hq : hasRs2S o with
    | true => exact q3 hq
    | false => rw [z3 hq, y3 hq]
  · cases hq : hasImmS o with
    | true => exact q4 hq
    | false => rw [z4 hq, y4 hq]
end Go.Proofs.YtgchaghdhofnoaaDoor

/-
The laws of chapter 03, third part: instructions' bytes are decoded as they are, unlike instructions have unlike texts.
Conditions: two of the library's tables read as they are laid.
-/
namespace Go.Proofs.YtgchaghdhofnoaaDoor
open Go Go.Vc Go.RowKit
set_option linter.unusedVariables false
set_option linter.unusedSimpArgs false
set_option linter.unnecessarySimpa false
set_option maxRecDepth 100000

theorem wordL_b4 (n : Nat) : ∀ k : Nat, wordL ((bytesOf n k).data.toList) = n % 2 ^ (8 * k) := by
  intro k
  have hl : ∀ k, ((bytesOf n k).data.toList).length = k := fun k => by simp [bytesOf, strOf]
  induction k with
  | zero => simp [bytesOf, strOf, wordL, Nat.mod_one]
  | succ k ih =>
    have e : (bytesOf n (k + 1)).data.toList = (bytesOf n k).data.toList ++ [UInt8.ofNat (bytev n k).toNat] := by
      simp [bytesOf, strOf, List.range_succ]
    have eb : (UInt8.ofNat (bytev n k).toNat).toNat = n / 2 ^ (8 * k) % 256 := by
      have : bytev n k = ((n / 2 ^ (8 * k) % 256 : Nat) : Int) := by unfold bytev; simp
      rw [this, Int.toNat_natCast, UInt8.toNat_ofNat']
      omega
    rw [e, wordL_snoc, ih, hl, eb, show 8 * (k + 1) = 8 * k + 8 by omega, Nat.pow_add, Nat.mod_mul, Nat.mul_comm (n / 2 ^ (8 * k) % 256)]
theorem word_bytes4 {w : Int} (h : W32 w) : (wordL (bytes4 w) : Int) = w := by
  obtain ⟨n, rfl⟩ := Int.eq_ofNat_of_zero_le h.1
  unfold bytes4
  rw [wordL_b4, Nat.mod_eq_of_lt (by have := h.2; omega)]
theorem allB_piece (E : Nat → Option Int) : ∀ (n i : Nat), i < n → ((allB E n).drop (4 * i)).take 4 = bytes4 ((E i).getD 0)
  | 0, i, h => absurd h (Nat.not_lt_zero i)
  | n + 1, i, h => by
    have hl := allB_length E n
    have h4 := bytes4_length ((E n).getD 0)
    rw [allB]
    by_cases hi : i < n
    · rw [List.drop_append_of_le_length (by omega), List.take_append_of_le_length (by rw [List.length_drop]; omega)]
      exact allB_piece E n i hi
    · obtain rfl : i = n := by omega
      rw [← hl, List.drop_left, ← h4, List.take_length]
theorem int_congr {w : World} {A : Option Addr} {n : Nat} {ks : List IntKind} {F G : Nat → Nat → Int} (h : IntRow w A n ks F) (e : ∀ i j, i < n → j < ks.length → F i j = G i j) : IntRow w A n ks G := by
  intro i hi
  obtain ⟨ad, h1, h2⟩ := h i hi
  refine ⟨ad, h1, fun j k hj => ?_⟩
  rw [← e i j hi (List.getElem?_eq_some_iff.1 hj).1]
  exact h2 j k hj
/-- A copy of what was handed in. -/
theorem copyI {A : Option Addr} {n cap : Nat} {F : Nat → Nat → Int} {w : World} (hn : n ≤ 300) (hle : n ≤ cap) (hR : IntRow w A n insK F) {K : Value → World → Prop}
    (hK : ∀ b c w', IntRow w' b n insK F → Later w w' → K (.slice b n c) w') : RunsV Tryd.prog (Builtin.append_ #[31, 31] 31 #[.slice none 0 0, .slice A n cap]) w K := by
  have hF : ∀ i, i < n → U8 (F i 0) ∧ U8 (F i 1) ∧ U8 (F i 2) ∧ U8 (F i 3) ∧ I64 (F i 4) := by
    intro i hi
    obtain ⟨ad, _, _, u⟩ := row_cells hR hi
    exact u
  cases A with
  | none =>
    obtain rfl : n = 0 := by
      rcases Nat.eq_zero_or_pos n with h | h
      · exact h
      · obtain ⟨ad, he, _⟩ := hR 0 h
        cases he
    obtain ⟨i, z, hi, hz, hs, hby, hzs⟩ := insRow.info
    refine RunsV_of (v := .slice none 0 0) (w' := w) ?_ (hK none 0 w (fun i hi => absurd hi (Nat.not_lt_zero i)) (Below.refl _ _))
    exact run_append_nothing w _ _ _ _ i insRow.under hi none 0 0 (Nat.le_refl 0) (.slice none 0 cap) ⟨.inl ⟨_, insRow.under⟩, fun w' => by simp [Builtin.lenOf], by simp [Builtin.firstCells], by simp [Builtin.firstCells], by simp, by simp⟩
  | some ad =>
    refine RunsV_append 31 insRow (n := 0) (xs := []) (OwnS_nil w w _ _) (Below.refl _ _) (m := n) (news := insCells F n) (insCells_length F n) (row_at hR) (insCells_one F n) (by unfold maxLen; omega) (by omega) ?_
    intro b' bn' bc' w' ho hl _
    rw [Nat.zero_add, List.nil_append] at ho
    obtain rfl := ho.len
    exact hK _ _ _ (own_row ho hF) hl
theorem textV_eq {o d a b v o' d' a' b' v' w w' : Int} (h : encv o d a b v = some w) (h' : encv o' d' a' b' v' = some w') :
    ((textV o d a b v).toList == (textV o' d' a' b' v').toList) = (o == o' && (d == d' && (a == a' && (b == b' && v == v')))) := by
  rw [Bool.eq_iff_iff]
  constructor
  · intro e
    have e := eq_of_beq e
    rw [ByteArray.toList_eq, ByteArray.toList_eq] at e
    obtain ⟨rfl, rfl, rfl, rfl, rfl⟩ := text_inj h h' (bytes_ext e)
    simp
  · intro e
    simp only [Bool.and_eq_true, beq_iff_eq] at e
    obtain ⟨rfl, rfl, rfl, rfl, rfl⟩ := e
    exact beq_self_eq_true _
theorem law03_DisasTexts_ok (A : Option Addr) (n cap : Nat) (F : Nat → Nat → Int) (hle : n ≤ cap) (w : World) (hT : Tabs w) (hR : IntRow w A n insK F) :
    Calls Tryd.prog law03_DisasTexts.N #[.slice A n cap] w (Gives (.bool true) w) := by
  refine law03_DisasTexts.calls ?_
  unfold law03_DisasTexts.vc
  have fin : ∀ w', Later w w' → Calls Tryd.prog law03_alive.N #[] w' fun e w'' => ∃ b, e = .returned (.bool b) ∧ Gives (.bool true) w (.returned (.bool b)) w'' := fun w' l => (law03_alive_ok w' (hT.later l)).mono fun e w'' ⟨he, l2⟩ => ⟨_, he, rfl, l.trans l2⟩
  refine cnd_of (fun h => fin w (Later.refl _)) (fun h => ?_)
  have h := of_decide_eq_false h
  have hn : n ≤ 60 := by omega
  refine copyI (by omega) hle hR fun b c w1 hb l1 => ⟨_, _, _, rfl, ?_⟩
  refine (insn_All_ok b n c F (by omega) w1 hb).mono fun e w2 ⟨he, l2⟩ => ?_
  have l02 := l1.trans l2
  by_cases hok : allOk (encF F) n
  · rw [allR_good hok] at he
    refine ⟨_, _, he, cnd_false (by decide) ?_⟩
    generalize hs : (⟨(allB (encF F) n).toArray⟩ : ByteArray) = s at he
    have hd : s.data.toList = allB (encF F) n := by rw [← hs]
    have hz : s.size = 4 * n := by rw [← size_list, hd, allB_length]
    have hz4 : s.size / 4 = n := by omega
    have each : ∀ i, i < n → ∃ wi, encF F i = some wi ∧ decE (wd s i) = 0 ∧ decF (wd s i) 0 = F i 0 ∧ decF (wd s i) 1 = F i 1 ∧ decF (wd s i) 2 = F i 2 ∧ decF (wd s i) 3 = F i 3 ∧ decF (wd s i) 4 = F i 4 := by
      intro i hi
      obtain ⟨wi, hwi⟩ := Option.isSome_iff_exists.1 (hok i hi)
      obtain ⟨ad, _, _, u0, u1, u2, u3, u4⟩ := row_cells hR hi
      have hr := encv_range u0 u1 u2 u3 (show encv (F i 0) (F i 1) (F i 2) (F i 3) (F i 4) = some wi from hwi)
      have e1 : wd s i = wi := by
        unfold wd
        rw [hd, allB_piece _ n i hi, hwi]
        exact word_bytes4 hr
      obtain ⟨k0, k1, k2, k3, k4, k5⟩ := enc_dec u0 u1 u2 u3 (show encv (F i 0) (F i 1) (F i 2) (F i 3) (F i 4) = some wi from hwi)
      rw [e1]
      exact ⟨wi, hwi, k0, k1, k2, k3, k4, k5⟩
    have hall : AllOk s := ⟨by omega, fun i hi => by rw [hz4] at hi; obtain ⟨_, _, h0, _⟩ := each i hi; exact h0⟩
    refine (disas_All_ok s (by omega) w2).mono fun e w3 ⟨l3, h3⟩ => ?_
    rcases h3 with ⟨_, b3, c3, he3, hr3⟩ | ⟨no, _⟩
    · rw [hz4] at he3 hr3
      have hr3 : IntRow w3 b3 n insK F := int_congr hr3 fun i j hi hj => by
        obtain ⟨wi, _, _, k1, k2, k3, k4, k5⟩ := each i hi
        have : j = 0 ∨ j = 1 ∨ j = 2 ∨ j = 3 ∨ j = 4 := by have : j < 5 := hj; omega
        rcases this with rfl | rfl | rfl | rfl | rfl <;> assumption
      have l03 := l02.trans l3
      refine ⟨_, _, _, _, he3, cnd_false (by decide) ?_⟩
      refine (ref03_Same_ok (by omega) w3 hr3 (hR.later l03)).mono fun e w4 ⟨he4, l4⟩ => ⟨_, he4, cnd_false rfl ?_⟩
      have l04 := l03.trans l4
      refine ⟨fun vs w' => ∃ k : Nat, vs = [.int .i64 k] ∧ k ≤ n ∧ Later w4 w', fun vs _ => match vs with | [.int _ k] => (n - k.toNat) | _ => 0, ⟨0, rfl, Nat.zero_le _, Later.refl _⟩, ?_⟩
      rintro g _ w5 ⟨i, hs', hi, l5⟩
      simp only [List.cons.injEq, Value.int.injEq, true_and, and_true] at hs'
      subst hs'
      refine cnd_of (fun h => ?_) (fun h => fin w5 (l04.trans l5))
      have h := of_decide_eq_true h
      have hin : i < n := by omega
      refine ⟨fun vs w' => ∃ k : Nat, vs = [.int .i64 k] ∧ k ≤ i ∧ Later w5 w', fun vs _ => match vs with | [.int _ k] => (i - k.toNat) | _ => 0, ⟨0, rfl, Nat.zero_le _, Later.refl _⟩, ?_⟩
      rintro g _ w6 ⟨k, hs', hk, l6⟩
      simp only [List.cons.injEq, Value.int.injEq, true_and, and_true] at hs'
      subst hs'
      have l06 := (l04.trans l5).trans l6
      refine cnd_of (fun h2 => ?_) (fun h2 => ?_)
      · have h2 := of_decide_eq_true h2
        have hkn : k < n := by omega
        obtain ⟨ad, rfl, hc, u0, u1, u2, u3, u4⟩ := row_cells (hR.later l06) hin
        obtain ⟨ae, hae, hd', v0, v1, v2, v3, v4⟩ := row_cells (hR.later l06) hkn
        obtain rfl := Option.some.inj hae
        obtain ⟨c0, c1, c2, c3, c4, -⟩ := hc
        obtain ⟨d0, d1, d2, d3, d4, -⟩ := hd'
        obtain ⟨wi, hwi, -⟩ := each i hin
        obtain ⟨wk, hwk, -⟩ := each k hkn
        refine ⟨⟨by omega, by omega⟩, Deref_some rfl ⟨_, _, _, _, _, fun w' h' => ⟨h'.cell_some c0, h'.cell_some c1, h'.cell_some c2, h'.cell_some c3, h'.cell_some c4, trivial⟩, _, fun w' h' => disas_Text_ok u0 u1 u2 u3 u4 w' (hT.later (l06.trans h')), ⟨by omega, by omega⟩, Deref_some rfl ⟨_, _, _, _, _, fun w' h' => ⟨h'.cell_some d0, h'.cell_some d1, h'.cell_some d2, h'.cell_some d3, h'.cell_some d4, trivial⟩, _, fun w' h' => disas_Text_ok v0 v1 v2 v3 v4 w' (hT.later (l06.trans h')), ⟨by omega, by omega⟩, Deref_some rfl ⟨_, _, _, _, _, fun w' h' => ⟨h'.cell_some c0, h'.cell_some c1, h'.cell_some c2, h'.cell_some c3, h'.cell_some c4, trivial⟩, ⟨by omega, by omega⟩, Deref_some rfl ⟨_, _, _, _, _, fun w' h' => ⟨h'.cell_some d0, h'.cell_some d1, h'.cell_some d2, h'.cell_some d3, h'.cell_some d4, trivial⟩, _, (eq_ins _ _ _ _ _ _ _ _ _ _ _ _).1, fun w7 l7 => cnd_false ?_ ?_⟩⟩⟩⟩⟩
        · rw [textV_eq hwi hwk]; simp
        · rw [i64_in (by omega) (by omega)]
          refine ⟨⟨k + 1, rfl, by omega, l6.trans l7⟩, ?_⟩
          simp only
          omega
      · rw [i64_in (by omega) (by omega)]
        refine ⟨⟨i + 1, rfl, by omega, l5.trans l6⟩, ?_⟩
        simp only
        omega
    · exact absurd hall no
  · have e2 : allR (encF F) n = pairv (.string ⟨#[]⟩) (i64v 2) := by
      unfold allR; rw [if_neg hok]
    rw [e2] at he
    exact ⟨_, _, he, cnd_true (by decide) (fin w2 l02)⟩
end Go.Proofs.YtgchaghdhofnoaaDoor
