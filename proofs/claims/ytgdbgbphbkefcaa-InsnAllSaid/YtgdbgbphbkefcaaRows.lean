/-
  No cell of these rows narrows 'for every input' (looked for: loops, veiled, ifaces, maps, wideKeys, modest, calm, conditions, laid).
  DERIVED. THE GIVEN ROWS OF THIS SEAT. 5 by the template 'for every input the law returns true; each argument reads behind the call as it read before'; 0 by the template 'total and deterministic' (their statements: YtgdbgbphbkefcaaTotals.lean).
  GIVEN WITH THE SEED: the statements are not yours to turn. If you find one false, say at which input.
  Laid BY PROGRAM, IN A SANDBOX (cutbox-rows.mjs): the forced cells as the released guide's own fill.sh prints them over the translation 786e81bcce069d8f… (all of the seat's roots in one cut). By AI agents, Wed Nov 11 2026. No macro, syntax, notation, axiom, sorry.
-/
import Derived.Test.YtgdbgbphbkefcaaChecked
import GoSem.Claim
import GoSem.ClaimJoined
import GoSem.ClaimMapViews
import Derived.JoinedTies
import Derived.KernelRfl
namespace Go.Proofs.Ytgdbgbphbkefcaa
/- THE CELL 'sum', in the pinned program and in every row, IS THE sha256 OF THE DUMP (.gsa) THAT YtgdbgbphbkefcaaProg.lean LOADS. Nothing in Lean hashes anything: it is a label: what it is worth is what the hold of that sum in a sandbox is worth. -/
noncomputable def Try.pinned : Pinned := { name := "ytgdbgbphbkefcaa", sum := "786e81bcce069d8fb39d9b926d242642b2c60932b7cc35ba5eeddd060c79c0fa", checked := Try.checked }
namespace Rows
def none {H : Type} : Left H := { results := [], args := [] }

/-- 'sacristylaw02.InsnWords': WHATEVER THE INPUT: true; the input reads as it did. -/
def insnWordsSpec : ChangeSpec := { name := "insnWords", fn := fun _ => fun
  | [d] => { results := [.lit (.bool true)], args := [d] }
  | _ => none }
def insnWordsRow : OpenClaim := { program := "ytgdbgbphbkefcaa", sum := "786e81bcce069d8fb39d9b926d242642b2c60932b7cc35ba5eeddd060c79c0fa", func := "sacristy/sacristylaw02.InsnWords", spec := "insnWords", inPlace := ["internal/abi.NoEscape"], apart := false }
def InsnWordsSaid : Prop := insnWordsRow.holds Try.pinned (OpenSpec.ofChange insnWordsSpec)

/-- ITS FALSE NEIGHBOUR: 'it returns false'. Refute it at one input. -/
def insnWordsWrong : ChangeSpec := { name := "insnWords", fn := fun _ => fun
  | [d] => { results := [.lit (.bool false)], args := [d] }
  | _ => none }
def InsnWordsWrongFalsely : Prop := insnWordsRow.holds Try.pinned (OpenSpec.ofChange insnWordsWrong)

/-- 'sacristylaw02.InsnAll': WHATEVER THE INPUT: true; the input reads as it did. -/
def insnAllSpec : ChangeSpec := { name := "insnAll", fn := fun _ => fun
  | [d] => { results := [.lit (.bool true)], args := [d] }
  | _ => none }
def insnAllRow : OpenClaim := { program := "ytgdbgbphbkefcaa", sum := "786e81bcce069d8fb39d9b926d242642b2c60932b7cc35ba5eeddd060c79c0fa", func := "sacristy/sacristylaw02.InsnAll", spec := "insnAll", inPlace := ["internal/abi.NoEscape"], apart := false }
def InsnAllSaid : Prop := insnAllRow.holds Try.pinned (OpenSpec.ofChange insnAllSpec)

/-- ITS FALSE NEIGHBOUR: 'it returns false'. Refute it at one input. -/
def insnAllWrong : ChangeSpec := { name := "insnAll", fn := fun _ => fun
  | [d] => { results := [.lit (.bool false)], args := [d] }
  | _ => none }
def InsnAllWrongFalsely : Prop := insnAllRow.holds Try.pinned (OpenSpec.ofChange insnAllWrong)

/-- 'sacristylaw02.InsnApart': WHATEVER THE INPUT: true; the input reads as it did. -/
def insnApartSpec : ChangeSpec := { name := "insnApart", fn := fun _ => fun
  | [d1, d2] => { results := [.lit (.bool true)], args := [d1, d2] }
  | _ => none }
def insnApartRow : OpenClaim := { program := "ytgdbgbphbkefcaa", sum := "786e81bcce069d8fb39d9b926d242642b2c60932b7cc35ba5eeddd060c79c0fa", func := "sacristy/sacristylaw02.InsnApart", spec := "insnApart", inPlace := ["internal/abi.NoEscape"], apart := false }
def InsnApartSaid : Prop := insnApartRow.holds Try.pinned (OpenSpec.ofChange insnApartSpec)

/-- ITS FALSE NEIGHBOUR: 'it returns false'. Refute it at one input. -/
def insnApartWrong : ChangeSpec := { name := "insnApart", fn := fun _ => fun
  | [d1, d2] => { results := [.lit (.bool false)], args := [d1, d2] }
  | _ => none }
def InsnApartWrongFalsely : Prop := insnApartRow.holds Try.pinned (OpenSpec.ofChange insnApartWrong)

/-- 'sacristylaw02.InsnTurned': WHATEVER THE INPUT: true; the input reads as it did. -/
def insnTurnedSpec : ChangeSpec := { name := "insnTurned", fn := fun _ => fun
  | [d1, d2, d3] => { results := [.lit (.bool true)], args := [d1, d2, d3] }
  | _ => none }
def insnTurnedRow : OpenClaim := { program := "ytgdbgbphbkefcaa", sum := "786e81bcce069d8fb39d9b926d242642b2c60932b7cc35ba5eeddd060c79c0fa", func := "sacristy/sacristylaw02.InsnTurned", spec := "insnTurned", inPlace := ["internal/abi.NoEscape"], apart := false }
def InsnTurnedSaid : Prop := insnTurnedRow.holds Try.pinned (OpenSpec.ofChange insnTurnedSpec)

/-- ITS FALSE NEIGHBOUR: 'it returns false'. Refute it at one input. -/
def insnTurnedWrong : ChangeSpec := { name := "insnTurned", fn := fun _ => fun
  | [d1, d2, d3] => { results := [.lit (.bool false)], args := [d1, d2, d3] }
  | _ => none }
def InsnTurnedWrongFalsely : Prop := insnTurnedRow.holds Try.pinned (OpenSpec.ofChange insnTurnedWrong)

/-- 'sacristylaw02.InsnFits': WHATEVER THE INPUT: true; the input reads as it did. -/
def insnFitsSpec : ChangeSpec := { name := "insnFits", fn := fun _ => fun
  | [d1, d2, d3] => { results := [.lit (.bool true)], args := [d1, d2, d3] }
  | _ => none }
def insnFitsRow : OpenClaim := { program := "ytgdbgbphbkefcaa", sum := "786e81bcce069d8fb39d9b926d242642b2c60932b7cc35ba5eeddd060c79c0fa", func := "sacristy/sacristylaw02.InsnFits", spec := "insnFits", inPlace := ["internal/abi.NoEscape"], apart := false }
def InsnFitsSaid : Prop := insnFitsRow.holds Try.pinned (OpenSpec.ofChange insnFitsSpec)

/-- ITS FALSE NEIGHBOUR: 'it returns false'. Refute it at one input. -/
def insnFitsWrong : ChangeSpec := { name := "insnFits", fn := fun _ => fun
  | [d1, d2, d3] => { results := [.lit (.bool false)], args := [d1, d2, d3] }
  | _ => none }
def InsnFitsWrongFalsely : Prop := insnFitsRow.holds Try.pinned (OpenSpec.ofChange insnFitsWrong)

/- THE SECOND FORM. 'bulk': how many values and letters a reading holds, each counted each time it is reached (what is shared counts as often as it is met; a slice's spare places count too). A statement '..UptoSaid' is the law's where the arguments, and the package variables that the reading takes, are together of bulk at most 1048576: NARROWER than '..Said'. Prove '..Said' where nothing that the law and all that it calls make is longer than what came in: it says more and counts as full. Else prove '..UptoSaid'. A law counts once. -/
mutual
def uptoBulk {H : Type} : DataW H → Nat
  | .lit (.string bytes) => bytes.length + 1
  | .lit _ => 1
  | .nil => 1
  | .ptr d => uptoBulk d + 1
  | .slice elems spare => uptoBulkAll elems + uptoBulkAll spare + 1
  | .agg parts => uptoBulkAll parts + 1
  | .iface _ d => uptoBulk d + 1
  | .map entries => uptoBulkEntries entries + 1
  | .held _ => 1
def uptoBulkAll {H : Type} : List (DataW H) → Nat
  | [] => 0
  | d :: r => uptoBulk d + uptoBulkAll r
def uptoBulkEntries {H : Type} : List (Lit × DataW H) → Nat
  | [] => 0
  | x :: r => uptoBulkEntry x + uptoBulkEntries r
def uptoBulkEntry {H : Type} : Lit × DataW H → Nat
  | (.string bytes, d) => bytes.length + uptoBulk d + 1
  | (_, d) => uptoBulk d + 1
 end
def uptoSmall : (H : Type) → List (DataW H) → Bool := fun _ ds => decide (uptoBulkAll ds ≤ 1048576)
def OpenSpec.upto (s : _root_.Go.ChangeSpec) : _root_.Go.OpenSpec := { _root_.Go.OpenSpec.ofChange s with cond := some uptoSmall }

/-- 'sacristylaw02.InsnWords', WHERE WHAT IT READS IS OF BULK AT MOST 1048576: true; the input reads as it did. -/
def insnWordsUptoRow : OpenClaim := { program := "ytgdbgbphbkefcaa", sum := "786e81bcce069d8fb39d9b926d242642b2c60932b7cc35ba5eeddd060c79c0fa", func := "sacristy/sacristylaw02.InsnWords", spec := "insnWords", inPlace := ["internal/abi.NoEscape"], apart := false, narrowed := true }
def InsnWordsUptoSaid : Prop := insnWordsUptoRow.holds Try.pinned (OpenSpec.upto insnWordsSpec)

/-- 'sacristylaw02.InsnAll', WHERE WHAT IT READS IS OF BULK AT MOST 1048576: true; the input reads as it did. -/
def insnAllUptoRow : OpenClaim := { program := "ytgdbgbphbkefcaa", sum := "786e81bcce069d8fb39d9b926d242642b2c60932b7cc35ba5eeddd060c79c0fa", func := "sacristy/sacristylaw02.InsnAll", spec := "insnAll", inPlace := ["internal/abi.NoEscape"], apart := false, narrowed := true }
def InsnAllUptoSaid : Prop := insnAllUptoRow.holds Try.pinned (OpenSpec.upto insnAllSpec)

/-- 'sacristylaw02.InsnApart', WHERE WHAT IT READS IS OF BULK AT MOST 1048576: true; the input reads as it did. -/
def insnApartUptoRow : OpenClaim := { program := "ytgdbgbphbkefcaa", sum := "786e81bcce069d8fb39d9b926d242642b2c60932b7cc35ba5eeddd060c79c0fa", func := "sacristy/sacristylaw02.InsnApart", spec := "insnApart", inPlace := ["internal/abi.NoEscape"], apart := false, narrowed := true }
def InsnApartUptoSaid : Prop := insnApartUptoRow.holds Try.pinned (OpenSpec.upto insnApartSpec)

/-- 'sacristylaw02.InsnTurned', WHERE WHAT IT READS IS OF BULK AT MOST 1048576: true; the input reads as it did. -/
def insnTurnedUptoRow : OpenClaim := { program := "ytgdbgbphbkefcaa", sum := "786e81bcce069d8fb39d9b926d242642b2c60932b7cc35ba5eeddd060c79c0fa", func := "sacristy/sacristylaw02.InsnTurned", spec := "insnTurned", inPlace := ["internal/abi.NoEscape"], apart := false, narrowed := true }
def InsnTurnedUptoSaid : Prop := insnTurnedUptoRow.holds Try.pinned (OpenSpec.upto insnTurnedSpec)

/-- 'sacristylaw02.InsnFits', WHERE WHAT IT READS IS OF BULK AT MOST 1048576: true; the input reads as it did. -/
def insnFitsUptoRow : OpenClaim := { program := "ytgdbgbphbkefcaa", sum := "786e81bcce069d8fb39d9b926d242642b2c60932b7cc35ba5eeddd060c79c0fa", func := "sacristy/sacristylaw02.InsnFits", spec := "insnFits", inPlace := ["internal/abi.NoEscape"], apart := false, narrowed := true }
def InsnFitsUptoSaid : Prop := insnFitsUptoRow.holds Try.pinned (OpenSpec.upto insnFitsSpec)

end Rows
end Go.Proofs.Ytgdbgbphbkefcaa
