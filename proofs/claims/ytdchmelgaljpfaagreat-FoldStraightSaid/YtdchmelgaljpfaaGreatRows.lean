/-
  No cell of these rows narrows 'for every input' (looked for: loops, veiled, ifaces, maps, wideKeys, modest, calm, conditions, laid).
  DERIVED. THE GIVEN ROWS OF THIS SEAT. 3 by the template 'for every input the law returns true; each argument reads behind the call as it read before'; 0 by the template 'total and deterministic' (their statements: YtdchmelgaljpfaaGreatTotals.lean).
  GIVEN WITH THE SEED: the statements are not yours to turn. If you find one false, say at which input.
  Laid BY PROGRAM, IN A SANDBOX (cutbox-rows.mjs): the forced cells as the released guide's own fill.sh prints them over the translation 8b85c91650a2a80f… (all of the seat's roots in one cut). By AI agents, Wed Nov 11 2026. No macro, syntax, notation, axiom, sorry.
-/
import Derived.Test.YtdchmelgaljpfaaGreatChecked
import GoSem.Claim
import GoSem.ClaimJoined
import GoSem.ClaimMapViews
import Derived.JoinedTies
import Derived.KernelRfl
namespace Go.Proofs.YtdchmelgaljpfaaGreat
/- THE CELL 'sum', in the pinned program and in every row, IS THE sha256 OF THE DUMP (.gsa) THAT YtdchmelgaljpfaaGreatProg.lean LOADS. Nothing in Lean hashes anything: it is a label: what it is worth is what the hold of that sum in a sandbox is worth. -/
noncomputable def Tryz.pinned : Pinned := { name := "ytdchmelgaljpfaagreat", sum := "8b85c91650a2a80fb67ee990a3db11bd90b515df938cae4d06f85307c396c0f0", checked := Tryz.checked }
namespace Rows
def none {H : Type} : Left H := { results := [], args := [] }

/-- 'barbicanlaw25.FoldTells': WHATEVER THE INPUT: true; the input reads as it did. -/
def foldTellsSpec : ChangeSpec := { name := "foldTells", fn := fun _ => fun
  | [d] => { results := [.lit (.bool true)], args := [d] }
  | _ => none }
def foldTellsRow : OpenClaim := { program := "ytdchmelgaljpfaagreat", sum := "8b85c91650a2a80fb67ee990a3db11bd90b515df938cae4d06f85307c396c0f0", func := "barbican/barbicanlaw25.FoldTells", spec := "foldTells", unfollowed := true, recurses := true, apart := false }
def FoldTellsSaid : Prop := foldTellsRow.holds Tryz.pinned (OpenSpec.ofChange foldTellsSpec)

/-- ITS FALSE NEIGHBOUR: 'it returns false'. Refute it at one input. -/
def foldTellsWrong : ChangeSpec := { name := "foldTells", fn := fun _ => fun
  | [d] => { results := [.lit (.bool false)], args := [d] }
  | _ => none }
def FoldTellsWrongFalsely : Prop := foldTellsRow.holds Tryz.pinned (OpenSpec.ofChange foldTellsWrong)

/-- 'barbicanlaw25.FoldTrue': WHATEVER THE INPUT: true; the input reads as it did. -/
def foldTrueSpec : ChangeSpec := { name := "foldTrue", fn := fun _ => fun
  | [d1, d2, d3] => { results := [.lit (.bool true)], args := [d1, d2, d3] }
  | _ => none }
def foldTrueRow : OpenClaim := { program := "ytdchmelgaljpfaagreat", sum := "8b85c91650a2a80fb67ee990a3db11bd90b515df938cae4d06f85307c396c0f0", func := "barbican/barbicanlaw25.FoldTrue", spec := "foldTrue", unfollowed := true, recurses := true, apart := false }
def FoldTrueSaid : Prop := foldTrueRow.holds Tryz.pinned (OpenSpec.ofChange foldTrueSpec)

/-- ITS FALSE NEIGHBOUR: 'it returns false'. Refute it at one input. -/
def foldTrueWrong : ChangeSpec := { name := "foldTrue", fn := fun _ => fun
  | [d1, d2, d3] => { results := [.lit (.bool false)], args := [d1, d2, d3] }
  | _ => none }
def FoldTrueWrongFalsely : Prop := foldTrueRow.holds Tryz.pinned (OpenSpec.ofChange foldTrueWrong)

/-- 'barbicanlaw25.FoldStraight': WHATEVER THE INPUT: true; the input reads as it did. -/
def foldStraightSpec : ChangeSpec := { name := "foldStraight", fn := fun _ => fun
  | [d1, d2] => { results := [.lit (.bool true)], args := [d1, d2] }
  | _ => none }
def foldStraightRow : OpenClaim := { program := "ytdchmelgaljpfaagreat", sum := "8b85c91650a2a80fb67ee990a3db11bd90b515df938cae4d06f85307c396c0f0", func := "barbican/barbicanlaw25.FoldStraight", spec := "foldStraight", unfollowed := true, recurses := true, apart := false }
def FoldStraightSaid : Prop := foldStraightRow.holds Tryz.pinned (OpenSpec.ofChange foldStraightSpec)

/-- ITS FALSE NEIGHBOUR: 'it returns false'. Refute it at one input. -/
def foldStraightWrong : ChangeSpec := { name := "foldStraight", fn := fun _ => fun
  | [d1, d2] => { results := [.lit (.bool false)], args := [d1, d2] }
  | _ => none }
def FoldStraightWrongFalsely : Prop := foldStraightRow.holds Tryz.pinned (OpenSpec.ofChange foldStraightWrong)

/- THE SECOND FORM. 'bulk': how many values and letters a reading holds, each counted each time it is reached (what is shared counts as often as it is met; a slice's spare places count too). A statement '..UptoSaid' is the law's where the arguments, and the package variables that the reading takes, are together of bulk at most 1048576: NARROWER than '..Said'. Prove '..Said' where nothing that the law and all that it calls make is longer than what came in: it says more and counts as full. Else prove '..UptoSaid'. A law counts once. -/
mutual
def uptoBulk {H : Type} : DataW H → Nat
  | .lit (.string bytes) => bytes.length + 1
  | .lit _ => 1
  | .nil => 1
  | .ptr d => uptoBulk d + 1
  | .slice elems spare => uptoBulkAll elems + uptoBulkAll spare + 1
  | .agg parts => uptoBulkAll parts + 1
  | .iface _ d => uptoBulk d + 1
  | .map entries => uptoBulkEntries entries + 1
  | .held _ => 1
def uptoBulkAll {H : Type} : List (DataW H) → Nat
  | [] => 0
  | d :: r => uptoBulk d + uptoBulkAll r
def uptoBulkEntries {H : Type} : List (Lit × DataW H) → Nat
  | [] => 0
  | x :: r => uptoBulkEntry x + uptoBulkEntries r
def uptoBulkEntry {H : Type} : Lit × DataW H → Nat
  | (.string bytes, d) => bytes.length + uptoBulk d + 1
  | (_, d) => uptoBulk d + 1
 end
def uptoSmall : (H : Type) → List (DataW H) → Bool := fun _ ds => decide (uptoBulkAll ds ≤ 1048576)
def OpenSpec.upto (s : _root_.Go.ChangeSpec) : _root_.Go.OpenSpec := { _root_.Go.OpenSpec.ofChange s with cond := some uptoSmall }

/-- 'barbicanlaw25.FoldTells', WHERE WHAT IT READS IS OF BULK AT MOST 1048576: true; the input reads as it did. -/
def foldTellsUptoRow : OpenClaim := { program := "ytdchmelgaljpfaagreat", sum := "8b85c91650a2a80fb67ee990a3db11bd90b515df938cae4d06f85307c396c0f0", func := "barbican/barbicanlaw25.FoldTells", spec := "foldTells", unfollowed := true, recurses := true, apart := false, narrowed := true }
def FoldTellsUptoSaid : Prop := foldTellsUptoRow.holds Tryz.pinned (OpenSpec.upto foldTellsSpec)

/-- 'barbicanlaw25.FoldTrue', WHERE WHAT IT READS IS OF BULK AT MOST 1048576: true; the input reads as it did. -/
def foldTrueUptoRow : OpenClaim := { program := "ytdchmelgaljpfaagreat", sum := "8b85c91650a2a80fb67ee990a3db11bd90b515df938cae4d06f85307c396c0f0", func := "barbican/barbicanlaw25.FoldTrue", spec := "foldTrue", unfollowed := true, recurses := true, apart := false, narrowed := true }
def FoldTrueUptoSaid : Prop := foldTrueUptoRow.holds Tryz.pinned (OpenSpec.upto foldTrueSpec)

/-- 'barbicanlaw25.FoldStraight', WHERE WHAT IT READS IS OF BULK AT MOST 1048576: true; the input reads as it did. -/
def foldStraightUptoRow : OpenClaim := { program := "ytdchmelgaljpfaagreat", sum := "8b85c91650a2a80fb67ee990a3db11bd90b515df938cae4d06f85307c396c0f0", func := "barbican/barbicanlaw25.FoldStraight", spec := "foldStraight", unfollowed := true, recurses := true, apart := false, narrowed := true }
def FoldStraightUptoSaid : Prop := foldStraightUptoRow.holds Tryz.pinned (OpenSpec.upto foldStraightSpec)

end Rows
end Go.Proofs.YtdchmelgaljpfaaGreat
