/-
  No cell of these rows narrows 'for every input' (looked for: loops, veiled, ifaces, maps, wideKeys, modest, calm, conditions, laid).
  DERIVED. THE GIVEN ROWS OF THIS SEAT. 5 by the template 'for every input the law returns true; each argument reads behind the call as it read before'; 0 by the template 'total and deterministic' (their statements: YtcnnnlhoiodeaaaGreatTotals.lean).
  GIVEN WITH THE SEED: the statements are not yours to turn. If you find one false, say at which input.
  Laid BY PROGRAM, IN A SANDBOX (cutbox-rows.mjs): the forced cells as the released guide's own fill.sh prints them over the translation ca0da5ee48050e1a… (all of the seat's roots in one cut). By AI agents, Wed Nov 11 2026. No macro, syntax, notation, axiom, sorry.
-/
import Derived.Test.YtcnnnlhoiodeaaaGreatChecked
import GoSem.Claim
import GoSem.ClaimJoined
import GoSem.ClaimMapViews
import Derived.JoinedTies
import Derived.KernelRfl
namespace Go.Proofs.YtcnnnlhoiodeaaaGreat
/- THE CELL 'sum', in the pinned program and in every row, IS THE sha256 OF THE DUMP (.gsa) THAT YtcnnnlhoiodeaaaGreatProg.lean LOADS. Nothing in Lean hashes anything: it is a label: what it is worth is what the hold of that sum in a sandbox is worth. -/
noncomputable def Tryz.pinned : Pinned := { name := "ytcnnnlhoiodeaaagreat", sum := "ca0da5ee48050e1a10caec3e3ce22bb73297e00a7c033c2e919888d5bdd53f73", checked := Tryz.checked }
namespace Rows
def none {H : Type} : Left H := { results := [], args := [] }

/-- 'sacristylaw05.CpuOps': WHATEVER THE INPUT: true; the input reads as it did. -/
def cpuOpsSpec : ChangeSpec := { name := "cpuOps", fn := fun _ => fun
  | [d1, d2, d3, d4, d5] => { results := [.lit (.bool true)], args := [d1, d2, d3, d4, d5] }
  | _ => none }
def cpuOpsRow : OpenClaim := { program := "ytcnnnlhoiodeaaagreat", sum := "ca0da5ee48050e1a10caec3e3ce22bb73297e00a7c033c2e919888d5bdd53f73", func := "sacristy/sacristylaw05.CpuOps", spec := "cpuOps", unfollowed := true, recurses := true, apart := false }
def CpuOpsSaid : Prop := cpuOpsRow.holds Tryz.pinned (OpenSpec.ofChange cpuOpsSpec)

/-- ITS FALSE NEIGHBOUR: 'it returns false'. Refute it at one input. -/
def cpuOpsWrong : ChangeSpec := { name := "cpuOps", fn := fun _ => fun
  | [d1, d2, d3, d4, d5] => { results := [.lit (.bool false)], args := [d1, d2, d3, d4, d5] }
  | _ => none }
def CpuOpsWrongFalsely : Prop := cpuOpsRow.holds Tryz.pinned (OpenSpec.ofChange cpuOpsWrong)

/-- 'sacristylaw05.CpuNil': WHATEVER THE INPUT: true; the input reads as it did. -/
def cpuNilSpec : ChangeSpec := { name := "cpuNil", fn := fun _ => fun
  | [d1, d2, d3] => { results := [.lit (.bool true)], args := [d1, d2, d3] }
  | _ => none }
def cpuNilRow : OpenClaim := { program := "ytcnnnlhoiodeaaagreat", sum := "ca0da5ee48050e1a10caec3e3ce22bb73297e00a7c033c2e919888d5bdd53f73", func := "sacristy/sacristylaw05.CpuNil", spec := "cpuNil", unfollowed := true, recurses := true, apart := false }
def CpuNilSaid : Prop := cpuNilRow.holds Tryz.pinned (OpenSpec.ofChange cpuNilSpec)

/-- ITS FALSE NEIGHBOUR: 'it returns false'. Refute it at one input. -/
def cpuNilWrong : ChangeSpec := { name := "cpuNil", fn := fun _ => fun
  | [d1, d2, d3] => { results := [.lit (.bool false)], args := [d1, d2, d3] }
  | _ => none }
def CpuNilWrongFalsely : Prop := cpuNilRow.holds Tryz.pinned (OpenSpec.ofChange cpuNilWrong)

/-- 'sacristylaw05.CpuRuns': WHATEVER THE INPUT: true; the input reads as it did. -/
def cpuRunsSpec : ChangeSpec := { name := "cpuRuns", fn := fun _ => fun
  | [d1, d2, d3] => { results := [.lit (.bool true)], args := [d1, d2, d3] }
  | _ => none }
def cpuRunsRow : OpenClaim := { program := "ytcnnnlhoiodeaaagreat", sum := "ca0da5ee48050e1a10caec3e3ce22bb73297e00a7c033c2e919888d5bdd53f73", func := "sacristy/sacristylaw05.CpuRuns", spec := "cpuRuns", unfollowed := true, recurses := true, apart := false }
def CpuRunsSaid : Prop := cpuRunsRow.holds Tryz.pinned (OpenSpec.ofChange cpuRunsSpec)

/-- ITS FALSE NEIGHBOUR: 'it returns false'. Refute it at one input. -/
def cpuRunsWrong : ChangeSpec := { name := "cpuRuns", fn := fun _ => fun
  | [d1, d2, d3] => { results := [.lit (.bool false)], args := [d1, d2, d3] }
  | _ => none }
def CpuRunsWrongFalsely : Prop := cpuRunsRow.holds Tryz.pinned (OpenSpec.ofChange cpuRunsWrong)

/-- 'sacristylaw05.CpuPlays': WHATEVER THE INPUT: true; the input reads as it did. -/
def cpuPlaysSpec : ChangeSpec := { name := "cpuPlays", fn := fun _ => fun
  | [d1, d2] => { results := [.lit (.bool true)], args := [d1, d2] }
  | _ => none }
def cpuPlaysRow : OpenClaim := { program := "ytcnnnlhoiodeaaagreat", sum := "ca0da5ee48050e1a10caec3e3ce22bb73297e00a7c033c2e919888d5bdd53f73", func := "sacristy/sacristylaw05.CpuPlays", spec := "cpuPlays", unfollowed := true, recurses := true, apart := false }
def CpuPlaysSaid : Prop := cpuPlaysRow.holds Tryz.pinned (OpenSpec.ofChange cpuPlaysSpec)

/-- ITS FALSE NEIGHBOUR: 'it returns false'. Refute it at one input. -/
def cpuPlaysWrong : ChangeSpec := { name := "cpuPlays", fn := fun _ => fun
  | [d1, d2] => { results := [.lit (.bool false)], args := [d1, d2] }
  | _ => none }
def CpuPlaysWrongFalsely : Prop := cpuPlaysRow.holds Tryz.pinned (OpenSpec.ofChange cpuPlaysWrong)

/-- 'sacristylaw05.CpuApart': WHATEVER THE INPUT: true; the input reads as it did. -/
def cpuApartSpec : ChangeSpec := { name := "cpuApart", fn := fun _ => fun
  | [d1, d2, d3] => { results := [.lit (.bool true)], args := [d1, d2, d3] }
  | _ => none }
def cpuApartRow : OpenClaim := { program := "ytcnnnlhoiodeaaagreat", sum := "ca0da5ee48050e1a10caec3e3ce22bb73297e00a7c033c2e919888d5bdd53f73", func := "sacristy/sacristylaw05.CpuApart", spec := "cpuApart", unfollowed := true, recurses := true, apart := false }
def CpuApartSaid : Prop := cpuApartRow.holds Tryz.pinned (OpenSpec.ofChange cpuApartSpec)

/-- ITS FALSE NEIGHBOUR: 'it returns false'. Refute it at one input. -/
def cpuApartWrong : ChangeSpec := { name := "cpuApart", fn := fun _ => fun
  | [d1, d2, d3] => { results := [.lit (.bool false)], args := [d1, d2, d3] }
  | _ => none }
def CpuApartWrongFalsely : Prop := cpuApartRow.holds Tryz.pinned (OpenSpec.ofChange cpuApartWrong)

/- THE SECOND FORM. 'bulk': how many values and letters a reading holds, each counted each time it is reached (what is shared counts as often as it is met; a slice's spare places count too). A statement '..UptoSaid' is the law's where the arguments, and the package variables that the reading takes, are together of bulk at most 1048576: NARROWER than '..Said'. Prove '..Said' where nothing that the law and all that it calls make is longer than what came in: it says more and counts as full. Else prove '..UptoSaid'. A law counts once. -/
mutual
def uptoBulk {H : Type} : DataW H → Nat
  | .lit (.string bytes) => bytes.length + 1
  | .lit _ => 1
  | .nil => 1
  | .ptr d => uptoBulk d + 1
  | .slice elems spare => uptoBulkAll elems + uptoBulkAll spare + 1
  | .agg parts => uptoBulkAll parts + 1
  | .iface _ d => uptoBulk d + 1
  | .map entries => uptoBulkEntries entries + 1
  | .held _ => 1
def uptoBulkAll {H : Type} : List (DataW H) → Nat
  | [] => 0
  | d :: r => uptoBulk d + uptoBulkAll r
def uptoBulkEntries {H : Type} : List (Lit × DataW H) → Nat
  | [] => 0
  | x :: r => uptoBulkEntry x + uptoBulkEntries r
def uptoBulkEntry {H : Type} : Lit × DataW H → Nat
  | (.string bytes, d) => bytes.length + uptoBulk d + 1
  | (_, d) => uptoBulk d + 1
 end
def uptoSmall : (H : Type) → List (DataW H) → Bool := fun _ ds => decide (uptoBulkAll ds ≤ 1048576)
def OpenSpec.upto (s : _root_.Go.ChangeSpec) : _root_.Go.OpenSpec := { _root_.Go.OpenSpec.ofChange s with cond := some uptoSmall }

/-- 'sacristylaw05.CpuOps', WHERE WHAT IT READS IS OF BULK AT MOST 1048576: true; the input reads as it did. -/
def cpuOpsUptoRow : OpenClaim := { program := "ytcnnnlhoiodeaaagreat", sum := "ca0da5ee48050e1a10caec3e3ce22bb73297e00a7c033c2e919888d5bdd53f73", func := "sacristy/sacristylaw05.CpuOps", spec := "cpuOps", unfollowed := true, recurses := true, apart := false, narrowed := true }
def CpuOpsUptoSaid : Prop := cpuOpsUptoRow.holds Tryz.pinned (OpenSpec.upto cpuOpsSpec)

/-- 'sacristylaw05.CpuNil', WHERE WHAT IT READS IS OF BULK AT MOST 1048576: true; the input reads as it did. -/
def cpuNilUptoRow : OpenClaim := { program := "ytcnnnlhoiodeaaagreat", sum := "ca0da5ee48050e1a10caec3e3ce22bb73297e00a7c033c2e919888d5bdd53f73", func := "sacristy/sacristylaw05.CpuNil", spec := "cpuNil", unfollowed := true, recurses := true, apart := false, narrowed := true }
def CpuNilUptoSaid : Prop := cpuNilUptoRow.holds Tryz.pinned (OpenSpec.upto cpuNilSpec)

/-- 'sacristylaw05.CpuRuns', WHERE WHAT IT READS IS OF BULK AT MOST 1048576: true; the input reads as it did. -/
def cpuRunsUptoRow : OpenClaim := { program := "ytcnnnlhoiodeaaagreat", sum := "ca0da5ee48050e1a10caec3e3ce22bb73297e00a7c033c2e919888d5bdd53f73", func := "sacristy/sacristylaw05.CpuRuns", spec := "cpuRuns", unfollowed := true, recurses := true, apart := false, narrowed := true }
def CpuRunsUptoSaid : Prop := cpuRunsUptoRow.holds Tryz.pinned (OpenSpec.upto cpuRunsSpec)

/-- 'sacristylaw05.CpuPlays', WHERE WHAT IT READS IS OF BULK AT MOST 1048576: true; the input reads as it did. -/
def cpuPlaysUptoRow : OpenClaim := { program := "ytcnnnlhoiodeaaagreat", sum := "ca0da5ee48050e1a10caec3e3ce22bb73297e00a7c033c2e919888d5bdd53f73", func := "sacristy/sacristylaw05.CpuPlays", spec := "cpuPlays", unfollowed := true, recurses := true, apart := false, narrowed := true }
def CpuPlaysUptoSaid : Prop := cpuPlaysUptoRow.holds Tryz.pinned (OpenSpec.upto cpuPlaysSpec)

/-- 'sacristylaw05.CpuApart', WHERE WHAT IT READS IS OF BULK AT MOST 1048576: true; the input reads as it did. -/
def cpuApartUptoRow : OpenClaim := { program := "ytcnnnlhoiodeaaagreat", sum := "ca0da5ee48050e1a10caec3e3ce22bb73297e00a7c033c2e919888d5bdd53f73", func := "sacristy/sacristylaw05.CpuApart", spec := "cpuApart", unfollowed := true, recurses := true, apart := false, narrowed := true }
def CpuApartUptoSaid : Prop := cpuApartUptoRow.holds Tryz.pinned (OpenSpec.upto cpuApartSpec)

end Rows
end Go.Proofs.YtcnnnlhoiodeaaaGreat
