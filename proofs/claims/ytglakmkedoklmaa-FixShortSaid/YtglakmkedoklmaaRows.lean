/-
  No cell of these rows narrows 'for every input' (looked for: loops, veiled, ifaces, maps, wideKeys, modest, calm, conditions, laid).
  DERIVED. THE GIVEN ROWS OF THIS SEAT. 3 by the template 'for every input the law returns true; each argument reads behind the call as it read before'; 0 by the template 'total and deterministic' (their statements: YtglakmkedoklmaaTotals.lean).
  GIVEN WITH THE SEED: the statements are not yours to turn. If you find one false, say at which input.
  Laid BY PROGRAM, IN A SANDBOX (cutbox-rows.mjs): the forced cells as the released guide's own fill.sh prints them over the translation eed7bb67bc98af9d… (all of the seat's roots in one cut). By AI agents, Wed Nov 11 2026. No macro, syntax, notation, axiom, sorry.
-/
import Derived.Test.YtglakmkedoklmaaChecked
import GoSem.Claim
import GoSem.ClaimJoined
import GoSem.ClaimMapViews
import Derived.JoinedTies
import Derived.KernelRfl
namespace Go.Proofs.Ytglakmkedoklmaa
/- THE CELL 'sum', in the pinned program and in every row, IS THE sha256 OF THE DUMP (.gsa) THAT YtglakmkedoklmaaProg.lean LOADS. Nothing in Lean hashes anything: it is a label: what it is worth is what the hold of that sum in a sandbox is worth. -/
noncomputable def Try.pinned : Pinned := { name := "ytglakmkedoklmaa", sum := "eed7bb67bc98af9d48a89dff2cad576377bc3bdf2ac98cd986d3dabbc4f47d18", checked := Try.checked }
namespace Rows
def none {H : Type} : Left H := { results := [], args := [] }

/-- 'sacristylaw29.FixTells': WHATEVER THE INPUT: true; the input reads as it did. -/
def fixTellsSpec : ChangeSpec := { name := "fixTells", fn := fun _ => fun
  | [d] => { results := [.lit (.bool true)], args := [d] }
  | _ => none }
def fixTellsRow : OpenClaim := { program := "ytglakmkedoklmaa", sum := "eed7bb67bc98af9d48a89dff2cad576377bc3bdf2ac98cd986d3dabbc4f47d18", func := "sacristy/sacristylaw29.FixTells", spec := "fixTells", unfollowed := true, recurses := true, apart := false }
def FixTellsSaid : Prop := fixTellsRow.holds Try.pinned (OpenSpec.ofChange fixTellsSpec)

/-- ITS FALSE NEIGHBOUR: 'it returns false'. Refute it at one input. -/
def fixTellsWrong : ChangeSpec := { name := "fixTells", fn := fun _ => fun
  | [d] => { results := [.lit (.bool false)], args := [d] }
  | _ => none }
def FixTellsWrongFalsely : Prop := fixTellsRow.holds Try.pinned (OpenSpec.ofChange fixTellsWrong)

/-- 'sacristylaw29.FixShort': WHATEVER THE INPUT: true; the input reads as it did. -/
def fixShortSpec : ChangeSpec := { name := "fixShort", fn := fun _ => fun
  | [d] => { results := [.lit (.bool true)], args := [d] }
  | _ => none }
def fixShortRow : OpenClaim := { program := "ytglakmkedoklmaa", sum := "eed7bb67bc98af9d48a89dff2cad576377bc3bdf2ac98cd986d3dabbc4f47d18", func := "sacristy/sacristylaw29.FixShort", spec := "fixShort", unfollowed := true, recurses := true, apart := false }
def FixShortSaid : Prop := fixShortRow.holds Try.pinned (OpenSpec.ofChange fixShortSpec)

/-- ITS FALSE NEIGHBOUR: 'it returns false'. Refute it at one input. -/
def fixShortWrong : ChangeSpec := { name := "fixShort", fn := fun _ => fun
  | [d] => { results := [.lit (.bool false)], args := [d] }
  | _ => none }
def FixShortWrongFalsely : Prop := fixShortRow.holds Try.pinned (OpenSpec.ofChange fixShortWrong)

/-- 'sacristylaw29.FixGoes': WHATEVER THE INPUT: true; the input reads as it did. -/
def fixGoesSpec : ChangeSpec := { name := "fixGoes", fn := fun _ => fun
  | [d] => { results := [.lit (.bool true)], args := [d] }
  | _ => none }
def fixGoesRow : OpenClaim := { program := "ytglakmkedoklmaa", sum := "eed7bb67bc98af9d48a89dff2cad576377bc3bdf2ac98cd986d3dabbc4f47d18", func := "sacristy/sacristylaw29.FixGoes", spec := "fixGoes", inPlace := ["internal/abi.NoEscape"], unfollowed := true, recurses := true, apart := false }
def FixGoesSaid : Prop := fixGoesRow.holds Try.pinned (OpenSpec.ofChange fixGoesSpec)

/-- ITS FALSE NEIGHBOUR: 'it returns false'. Refute it at one input. -/
def fixGoesWrong : ChangeSpec := { name := "fixGoes", fn := fun _ => fun
  | [d] => { results := [.lit (.bool false)], args := [d] }
  | _ => none }
def FixGoesWrongFalsely : Prop := fixGoesRow.holds Try.pinned (OpenSpec.ofChange fixGoesWrong)

/- THE SECOND FORM. 'bulk': how many values and letters a reading holds, each counted each time it is reached (what is shared counts as often as it is met; a slice's spare places count too). A statement '..UptoSaid' is the law's where the arguments, and the package variables that the reading takes, are together of bulk at most 1048576: NARROWER than '..Said'. Prove '..Said' where nothing that the law and all that it calls make is longer than what came in: it says more and counts as full. Else prove '..UptoSaid'. A law counts once. -/
mutual
def uptoBulk {H : Type} : DataW H → Nat
  | .lit (.string bytes) => bytes.length + 1
  | .lit _ => 1
  | .nil => 1
  | .ptr d => uptoBulk d + 1
  | .slice elems spare => uptoBulkAll elems + uptoBulkAll spare + 1
  | .agg parts => uptoBulkAll parts + 1
  | .iface _ d => uptoBulk d + 1
  | .map entries => uptoBulkEntries entries + 1
  | .held _ => 1
def uptoBulkAll {H : Type} : List (DataW H) → Nat
  | [] => 0
  | d :: r => uptoBulk d + uptoBulkAll r
def uptoBulkEntries {H : Type} : List (Lit × DataW H) → Nat
  | [] => 0
  | x :: r => uptoBulkEntry x + uptoBulkEntries r
def uptoBulkEntry {H : Type} : Lit × DataW H → Nat
  | (.string bytes, d) => bytes.length + uptoBulk d + 1
  | (_, d) => uptoBulk d + 1
 end
def uptoSmall : (H : Type) → List (DataW H) → Bool := fun _ ds => decide (uptoBulkAll ds ≤ 1048576)
def OpenSpec.upto (s : _root_.Go.ChangeSpec) : _root_.Go.OpenSpec := { _root_.Go.OpenSpec.ofChange s with cond := some uptoSmall }

/-- 'sacristylaw29.FixTells', WHERE WHAT IT READS IS OF BULK AT MOST 1048576: true; the input reads as it did. -/
def fixTellsUptoRow : OpenClaim := { program := "ytglakmkedoklmaa", sum := "eed7bb67bc98af9d48a89dff2cad576377bc3bdf2ac98cd986d3dabbc4f47d18", func := "sacristy/sacristylaw29.FixTells", spec := "fixTells", unfollowed := true, recurses := true, apart := false, narrowed := true }
def FixTellsUptoSaid : Prop := fixTellsUptoRow.holds Try.pinned (OpenSpec.upto fixTellsSpec)

/-- 'sacristylaw29.FixShort', WHERE WHAT IT READS IS OF BULK AT MOST 1048576: true; the input reads as it did. -/
def fixShortUptoRow : OpenClaim := { program := "ytglakmkedoklmaa", sum := "eed7bb67bc98af9d48a89dff2cad576377bc3bdf2ac98cd986d3dabbc4f47d18", func := "sacristy/sacristylaw29.FixShort", spec := "fixShort", unfollowed := true, recurses := true, apart := false, narrowed := true }
def FixShortUptoSaid : Prop := fixShortUptoRow.holds Try.pinned (OpenSpec.upto fixShortSpec)

/-- 'sacristylaw29.FixGoes', WHERE WHAT IT READS IS OF BULK AT MOST 1048576: true; the input reads as it did. -/
def fixGoesUptoRow : OpenClaim := { program := "ytglakmkedoklmaa", sum := "eed7bb67bc98af9d48a89dff2cad576377bc3bdf2ac98cd986d3dabbc4f47d18", func := "sacristy/sacristylaw29.FixGoes", spec := "fixGoes", inPlace := ["internal/abi.NoEscape"], unfollowed := true, recurses := true, apart := false, narrowed := true }
def FixGoesUptoSaid : Prop := fixGoesUptoRow.holds Try.pinned (OpenSpec.upto fixGoesSpec)

end Rows
end Go.Proofs.Ytglakmkedoklmaa
