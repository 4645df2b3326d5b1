/-
  No cell of these rows narrows 'for every input' (looked for: loops, veiled, ifaces, maps, wideKeys, modest, calm, conditions, laid).
  DERIVED. THE GIVEN ROWS OF THIS SEAT. 3 by the template 'for every input the law returns true; each argument reads behind the call as it read before'; 0 by the template 'total and deterministic' (their statements: YtdgniibolfahaaaTotals.lean).
  GIVEN WITH THE SEED: the statements are not yours to turn. If you find one false, say at which input.
  Laid BY PROGRAM, IN A SANDBOX (cutbox-rows.mjs): the forced cells as the released guide's own fill.sh prints them over the translation a9fc893d72b37945… (all of the seat's roots in one cut). By AI agents, Wed Nov 11 2026. No macro, syntax, notation, axiom, sorry.
-/
import Derived.Test.YtdgniibolfahaaaChecked
import GoSem.Claim
import GoSem.ClaimJoined
import GoSem.ClaimMapViews
import Derived.JoinedTies
import Derived.KernelRfl
namespace Go.Proofs.Ytdgniibolfahaaa
/- THE CELL 'sum', in the pinned program and in every row, IS THE sha256 OF THE DUMP (.gsa) THAT YtdgniibolfahaaaProg.lean LOADS. Nothing in Lean hashes anything: it is a label: what it is worth is what the hold of that sum in a sandbox is worth. -/
noncomputable def Try.pinned : Pinned := { name := "ytdgniibolfahaaa", sum := "a9fc893d72b3794581b5b2149efdd6c2e46358c5e7b5bd20adfdad2c0e626af7", checked := Try.checked }
namespace Rows
def none {H : Type} : Left H := { results := [], args := [] }

/-- 'barbicanlaw20.OptForm': WHATEVER THE INPUT: true; the input reads as it did. -/
def optFormSpec : ChangeSpec := { name := "optForm", fn := fun _ => fun
  | [d] => { results := [.lit (.bool true)], args := [d] }
  | _ => none }
def optFormRow : OpenClaim := { program := "ytdgniibolfahaaa", sum := "a9fc893d72b3794581b5b2149efdd6c2e46358c5e7b5bd20adfdad2c0e626af7", func := "barbican/barbicanlaw20.OptForm", spec := "optForm", recurses := true, apart := false }
def OptFormSaid : Prop := optFormRow.holds Try.pinned (OpenSpec.ofChange optFormSpec)

/-- ITS FALSE NEIGHBOUR: 'it returns false'. Refute it at one input. -/
def optFormWrong : ChangeSpec := { name := "optForm", fn := fun _ => fun
  | [d] => { results := [.lit (.bool false)], args := [d] }
  | _ => none }
def OptFormWrongFalsely : Prop := optFormRow.holds Try.pinned (OpenSpec.ofChange optFormWrong)

/-- 'barbicanlaw20.OptChains': WHATEVER THE INPUT: true; the input reads as it did. -/
def optChainsSpec : ChangeSpec := { name := "optChains", fn := fun _ => fun
  | [d] => { results := [.lit (.bool true)], args := [d] }
  | _ => none }
def optChainsRow : OpenClaim := { program := "ytdgniibolfahaaa", sum := "a9fc893d72b3794581b5b2149efdd6c2e46358c5e7b5bd20adfdad2c0e626af7", func := "barbican/barbicanlaw20.OptChains", spec := "optChains", recurses := true, apart := false }
def OptChainsSaid : Prop := optChainsRow.holds Try.pinned (OpenSpec.ofChange optChainsSpec)

/-- ITS FALSE NEIGHBOUR: 'it returns false'. Refute it at one input. -/
def optChainsWrong : ChangeSpec := { name := "optChains", fn := fun _ => fun
  | [d] => { results := [.lit (.bool false)], args := [d] }
  | _ => none }
def OptChainsWrongFalsely : Prop := optChainsRow.holds Try.pinned (OpenSpec.ofChange optChainsWrong)

/-- 'barbicanlaw20.OptThreads': WHATEVER THE INPUT: true; the input reads as it did. -/
def optThreadsSpec : ChangeSpec := { name := "optThreads", fn := fun _ => fun
  | [d] => { results := [.lit (.bool true)], args := [d] }
  | _ => none }
def optThreadsRow : OpenClaim := { program := "ytdgniibolfahaaa", sum := "a9fc893d72b3794581b5b2149efdd6c2e46358c5e7b5bd20adfdad2c0e626af7", func := "barbican/barbicanlaw20.OptThreads", spec := "optThreads", recurses := true, apart := false }
def OptThreadsSaid : Prop := optThreadsRow.holds Try.pinned (OpenSpec.ofChange optThreadsSpec)

/-- ITS FALSE NEIGHBOUR: 'it returns false'. Refute it at one input. -/
def optThreadsWrong : ChangeSpec := { name := "optThreads", fn := fun _ => fun
  | [d] => { results := [.lit (.bool false)], args := [d] }
  | _ => none }
def OptThreadsWrongFalsely : Prop := optThreadsRow.holds Try.pinned (OpenSpec.ofChange optThreadsWrong)

/- THE SECOND FORM. 'bulk': how many values and letters a reading holds, each counted each time it is reached (what is shared counts as often as it is met; a slice's spare places count too). A statement '..UptoSaid' is the law's where the arguments, and the package variables that the reading takes, are together of bulk at most 1048576: NARROWER than '..Said'. Prove '..Said' where nothing that the law and all that it calls make is longer than what came in: it says more and counts as full. Else prove '..UptoSaid'. A law counts once. -/
mutual
def uptoBulk {H : Type} : DataW H → Nat
  | .lit (.string bytes) => bytes.length + 1
  | .lit _ => 1
  | .nil => 1
  | .ptr d => uptoBulk d + 1
  | .slice elems spare => uptoBulkAll elems + uptoBulkAll spare + 1
  | .agg parts => uptoBulkAll parts + 1
  | .iface _ d => uptoBulk d + 1
  | .map entries => uptoBulkEntries entries + 1
  | .held _ => 1
def uptoBulkAll {H : Type} : List (DataW H) → Nat
  | [] => 0
  | d :: r => uptoBulk d + uptoBulkAll r
def uptoBulkEntries {H : Type} : List (Lit × DataW H) → Nat
  | [] => 0
  | x :: r => uptoBulkEntry x + uptoBulkEntries r
def uptoBulkEntry {H : Type} : Lit × DataW H → Nat
  | (.string bytes, d) => bytes.length + uptoBulk d + 1
  | (_, d) => uptoBulk d + 1
 end
def uptoSmall : (H : Type) → List (DataW H) → Bool := fun _ ds => decide (uptoBulkAll ds ≤ 1048576)
def OpenSpec.upto (s : _root_.Go.ChangeSpec) : _root_.Go.OpenSpec := { _root_.Go.OpenSpec.ofChange s with cond := some uptoSmall }

/-- 'barbicanlaw20.OptForm', WHERE WHAT IT READS IS OF BULK AT MOST 1048576: true; the input reads as it did. -/
def optFormUptoRow : OpenClaim := { program := "ytdgniibolfahaaa", sum := "a9fc893d72b3794581b5b2149efdd6c2e46358c5e7b5bd20adfdad2c0e626af7", func := "barbican/barbicanlaw20.OptForm", spec := "optForm", recurses := true, apart := false, narrowed := true }
def OptFormUptoSaid : Prop := optFormUptoRow.holds Try.pinned (OpenSpec.upto optFormSpec)

/-- 'barbicanlaw20.OptChains', WHERE WHAT IT READS IS OF BULK AT MOST 1048576: true; the input reads as it did. -/
def optChainsUptoRow : OpenClaim := { program := "ytdgniibolfahaaa", sum := "a9fc893d72b3794581b5b2149efdd6c2e46358c5e7b5bd20adfdad2c0e626af7", func := "barbican/barbicanlaw20.OptChains", spec := "optChains", recurses := true, apart := false, narrowed := true }
def OptChainsUptoSaid : Prop := optChainsUptoRow.holds Try.pinned (OpenSpec.upto optChainsSpec)

/-- 'barbicanlaw20.OptThreads', WHERE WHAT IT READS IS OF BULK AT MOST 1048576: true; the input reads as it did. -/
def optThreadsUptoRow : OpenClaim := { program := "ytdgniibolfahaaa", sum := "a9fc893d72b3794581b5b2149efdd6c2e46358c5e7b5bd20adfdad2c0e626af7", func := "barbican/barbicanlaw20.OptThreads", spec := "optThreads", recurses := true, apart := false, narrowed := true }
def OptThreadsUptoSaid : Prop := optThreadsUptoRow.holds Try.pinned (OpenSpec.upto optThreadsSpec)

end Rows
end Go.Proofs.Ytdgniibolfahaaa
