/-
  No cell of these rows narrows 'for every input' (looked for: loops, veiled, ifaces, maps, wideKeys, modest, calm, conditions, laid).
  DERIVED. THE GIVEN ROWS OF THIS SEAT. 3 by the template 'for every input the law returns true; each argument reads behind the call as it read before'; 0 by the template 'total and deterministic' (their statements: YtngpkmpbhkbgoaaTotals.lean).
  GIVEN WITH THE SEED: the statements are not yours to turn. If you find one false, say at which input.
  Laid BY PROGRAM, IN A SANDBOX (cutbox-rows.mjs): the forced cells as the released guide's own fill.sh prints them over the translation 8479e393c4733933… (all of the seat's roots in one cut). By AI agents, Wed Nov 11 2026. No macro, syntax, notation, axiom, sorry.
-/
import Derived.Test.YtngpkmpbhkbgoaaChecked
import GoSem.Claim
import GoSem.ClaimJoined
import GoSem.ClaimMapViews
import Derived.JoinedTies
import Derived.KernelRfl
namespace Go.Proofs.Ytngpkmpbhkbgoaa
/- THE CELL 'sum', in the pinned program and in every row, IS THE sha256 OF THE DUMP (.gsa) THAT YtngpkmpbhkbgoaaProg.lean LOADS. Nothing in Lean hashes anything: it is a label: what it is worth is what the hold of that sum in a sandbox is worth. -/
noncomputable def Try.pinned : Pinned := { name := "ytngpkmpbhkbgoaa", sum := "8479e393c47339336785b02e0eabf20d9186d02759c1f525907581fdf2bf96be", checked := Try.checked }
namespace Rows
def none {H : Type} : Left H := { results := [], args := [] }

/-- 'sacristylaw27.ParTells': WHATEVER THE INPUT: true; the input reads as it did. -/
def parTellsSpec : ChangeSpec := { name := "parTells", fn := fun _ => fun
  | [d1, d2] => { results := [.lit (.bool true)], args := [d1, d2] }
  | _ => none }
def parTellsRow : OpenClaim := { program := "ytngpkmpbhkbgoaa", sum := "8479e393c47339336785b02e0eabf20d9186d02759c1f525907581fdf2bf96be", func := "sacristy/sacristylaw27.ParTells", spec := "parTells", unfollowed := true, recurses := true, plainKeys := false, apart := false }
def ParTellsSaid : Prop := parTellsRow.holds Try.pinned (OpenSpec.ofChange parTellsSpec)

/-- ITS FALSE NEIGHBOUR: 'it returns false'. Refute it at one input. -/
def parTellsWrong : ChangeSpec := { name := "parTells", fn := fun _ => fun
  | [d1, d2] => { results := [.lit (.bool false)], args := [d1, d2] }
  | _ => none }
def ParTellsWrongFalsely : Prop := parTellsRow.holds Try.pinned (OpenSpec.ofChange parTellsWrong)

/-- 'sacristylaw27.ParAtOnce': WHATEVER THE INPUT: true; the input reads as it did. -/
def parAtOnceSpec : ChangeSpec := { name := "parAtOnce", fn := fun _ => fun
  | [d1, d2] => { results := [.lit (.bool true)], args := [d1, d2] }
  | _ => none }
def parAtOnceRow : OpenClaim := { program := "ytngpkmpbhkbgoaa", sum := "8479e393c47339336785b02e0eabf20d9186d02759c1f525907581fdf2bf96be", func := "sacristy/sacristylaw27.ParAtOnce", spec := "parAtOnce", unfollowed := true, recurses := true, plainKeys := false, apart := false }
def ParAtOnceSaid : Prop := parAtOnceRow.holds Try.pinned (OpenSpec.ofChange parAtOnceSpec)

/-- ITS FALSE NEIGHBOUR: 'it returns false'. Refute it at one input. -/
def parAtOnceWrong : ChangeSpec := { name := "parAtOnce", fn := fun _ => fun
  | [d1, d2] => { results := [.lit (.bool false)], args := [d1, d2] }
  | _ => none }
def ParAtOnceWrongFalsely : Prop := parAtOnceRow.holds Try.pinned (OpenSpec.ofChange parAtOnceWrong)

/-- 'sacristylaw27.ParFew': WHATEVER THE INPUT: true; the input reads as it did. -/
def parFewSpec : ChangeSpec := { name := "parFew", fn := fun _ => fun
  | [d1, d2] => { results := [.lit (.bool true)], args := [d1, d2] }
  | _ => none }
def parFewRow : OpenClaim := { program := "ytngpkmpbhkbgoaa", sum := "8479e393c47339336785b02e0eabf20d9186d02759c1f525907581fdf2bf96be", func := "sacristy/sacristylaw27.ParFew", spec := "parFew", unfollowed := true, recurses := true, plainKeys := false, apart := false }
def ParFewSaid : Prop := parFewRow.holds Try.pinned (OpenSpec.ofChange parFewSpec)

/-- ITS FALSE NEIGHBOUR: 'it returns false'. Refute it at one input. -/
def parFewWrong : ChangeSpec := { name := "parFew", fn := fun _ => fun
  | [d1, d2] => { results := [.lit (.bool false)], args := [d1, d2] }
  | _ => none }
def ParFewWrongFalsely : Prop := parFewRow.holds Try.pinned (OpenSpec.ofChange parFewWrong)

/- THE SECOND FORM. 'bulk': how many values and letters a reading holds, each counted each time it is reached (what is shared counts as often as it is met; a slice's spare places count too). A statement '..UptoSaid' is the law's where the arguments, and the package variables that the reading takes, are together of bulk at most 1048576: NARROWER than '..Said'. Prove '..Said' where nothing that the law and all that it calls make is longer than what came in: it says more and counts as full. Else prove '..UptoSaid'. A law counts once. -/
mutual
def uptoBulk {H : Type} : DataW H → Nat
  | .lit (.string bytes) => bytes.length + 1
  | .lit _ => 1
  | .nil => 1
  | .ptr d => uptoBulk d + 1
  | .slice elems spare => uptoBulkAll elems + uptoBulkAll spare + 1
  | .agg parts => uptoBulkAll parts + 1
  | .iface _ d => uptoBulk d + 1
  | .map entries => uptoBulkEntries entries + 1
  | .held _ => 1
def uptoBulkAll {H : Type} : List (DataW H) → Nat
  | [] => 0
  | d :: r => uptoBulk d + uptoBulkAll r
def uptoBulkEntries {H : Type} : List (Lit × DataW H) → Nat
  | [] => 0
  | x :: r => uptoBulkEntry x + uptoBulkEntries r
def uptoBulkEntry {H : Type} : Lit × DataW H → Nat
  | (.string bytes, d) => bytes.length + uptoBulk d + 1
  | (_, d) => uptoBulk d + 1
 end
def uptoSmall : (H : Type) → List (DataW H) → Bool := fun _ ds => decide (uptoBulkAll ds ≤ 1048576)
def OpenSpec.upto (s : _root_.Go.ChangeSpec) : _root_.Go.OpenSpec := { _root_.Go.OpenSpec.ofChange s with cond := some uptoSmall }

/-- 'sacristylaw27.ParTells', WHERE WHAT IT READS IS OF BULK AT MOST 1048576: true; the input reads as it did. -/
def parTellsUptoRow : OpenClaim := { program := "ytngpkmpbhkbgoaa", sum := "8479e393c47339336785b02e0eabf20d9186d02759c1f525907581fdf2bf96be", func := "sacristy/sacristylaw27.ParTells", spec := "parTells", unfollowed := true, recurses := true, plainKeys := false, apart := false, narrowed := true }
def ParTellsUptoSaid : Prop := parTellsUptoRow.holds Try.pinned (OpenSpec.upto parTellsSpec)

/-- 'sacristylaw27.ParAtOnce', WHERE WHAT IT READS IS OF BULK AT MOST 1048576: true; the input reads as it did. -/
def parAtOnceUptoRow : OpenClaim := { program := "ytngpkmpbhkbgoaa", sum := "8479e393c47339336785b02e0eabf20d9186d02759c1f525907581fdf2bf96be", func := "sacristy/sacristylaw27.ParAtOnce", spec := "parAtOnce", unfollowed := true, recurses := true, plainKeys := false, apart := false, narrowed := true }
def ParAtOnceUptoSaid : Prop := parAtOnceUptoRow.holds Try.pinned (OpenSpec.upto parAtOnceSpec)

/-- 'sacristylaw27.ParFew', WHERE WHAT IT READS IS OF BULK AT MOST 1048576: true; the input reads as it did. -/
def parFewUptoRow : OpenClaim := { program := "ytngpkmpbhkbgoaa", sum := "8479e393c47339336785b02e0eabf20d9186d02759c1f525907581fdf2bf96be", func := "sacristy/sacristylaw27.ParFew", spec := "parFew", unfollowed := true, recurses := true, plainKeys := false, apart := false, narrowed := true }
def ParFewUptoSaid : Prop := parFewUptoRow.holds Try.pinned (OpenSpec.upto parFewSpec)

end Rows
end Go.Proofs.Ytngpkmpbhkbgoaa
