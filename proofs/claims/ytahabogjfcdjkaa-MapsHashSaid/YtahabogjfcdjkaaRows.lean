/-
  No cell of these rows narrows 'for every input' (looked for: loops, veiled, ifaces, maps, wideKeys, modest, calm, conditions, laid).
  DERIVED. THE GIVEN ROWS OF THIS SEAT. 4 by the template 'for every input the law returns true; each argument reads behind the call as it read before'; 0 by the template 'total and deterministic' (their statements: YtahabogjfcdjkaaTotals.lean).
  GIVEN WITH THE SEED: the statements are not yours to turn. If you find one false, say at which input.
  Laid BY PROGRAM, IN A SANDBOX (cutbox-rows.mjs): the forced cells as the released guide's own fill.sh prints them over the translation cd642ce64164b9b6… (all of the seat's roots in one cut). By AI agents, Wed Nov 11 2026. No macro, syntax, notation, axiom, sorry.
-/
import Derived.Test.YtahabogjfcdjkaaChecked
import GoSem.Claim
import GoSem.ClaimJoined
import GoSem.ClaimMapViews
import Derived.JoinedTies
import Derived.KernelRfl
namespace Go.Proofs.Ytahabogjfcdjkaa
/- THE CELL 'sum', in the pinned program and in every row, IS THE sha256 OF THE DUMP (.gsa) THAT YtahabogjfcdjkaaProg.lean LOADS. Nothing in Lean hashes anything: it is a label: what it is worth is what the hold of that sum in a sandbox is worth. -/
noncomputable def Try.pinned : Pinned := { name := "ytahabogjfcdjkaa", sum := "cd642ce64164b9b6f11e080b4b82e3333cb4af0945bd0b303197e840c29eba10", checked := Try.checked }
namespace Rows
def none {H : Type} : Left H := { results := [], args := [] }

/-- 'barbicanlaw9.MapsArray': WHATEVER THE INPUT: true; the input reads as it did. -/
def mapsArraySpec : ChangeSpec := { name := "mapsArray", fn := fun _ => fun
  | [d1, d2, d3] => { results := [.lit (.bool true)], args := [d1, d2, d3] }
  | _ => none }
def mapsArrayRow : OpenClaim := { program := "ytahabogjfcdjkaa", sum := "cd642ce64164b9b6f11e080b4b82e3333cb4af0945bd0b303197e840c29eba10", func := "barbican/barbicanlaw9.MapsArray", spec := "mapsArray", unfollowed := true, recurses := true, apart := false }
def MapsArraySaid : Prop := mapsArrayRow.holds Try.pinned (OpenSpec.ofChange mapsArraySpec)

/-- ITS FALSE NEIGHBOUR: 'it returns false'. Refute it at one input. -/
def mapsArrayWrong : ChangeSpec := { name := "mapsArray", fn := fun _ => fun
  | [d1, d2, d3] => { results := [.lit (.bool false)], args := [d1, d2, d3] }
  | _ => none }
def MapsArrayWrongFalsely : Prop := mapsArrayRow.holds Try.pinned (OpenSpec.ofChange mapsArrayWrong)

/-- 'barbicanlaw9.MapsFlags': WHATEVER THE INPUT: true; the input reads as it did. -/
def mapsFlagsSpec : ChangeSpec := { name := "mapsFlags", fn := fun _ => fun
  | [d1, d2, d3] => { results := [.lit (.bool true)], args := [d1, d2, d3] }
  | _ => none }
def mapsFlagsRow : OpenClaim := { program := "ytahabogjfcdjkaa", sum := "cd642ce64164b9b6f11e080b4b82e3333cb4af0945bd0b303197e840c29eba10", func := "barbican/barbicanlaw9.MapsFlags", spec := "mapsFlags", inPlace := ["internal/bytealg.Compare"], unfollowed := true, recurses := true, apart := false }
def MapsFlagsSaid : Prop := mapsFlagsRow.holds Try.pinned (OpenSpec.ofChange mapsFlagsSpec)

/-- ITS FALSE NEIGHBOUR: 'it returns false'. Refute it at one input. -/
def mapsFlagsWrong : ChangeSpec := { name := "mapsFlags", fn := fun _ => fun
  | [d1, d2, d3] => { results := [.lit (.bool false)], args := [d1, d2, d3] }
  | _ => none }
def MapsFlagsWrongFalsely : Prop := mapsFlagsRow.holds Try.pinned (OpenSpec.ofChange mapsFlagsWrong)

/-- 'barbicanlaw9.MapsKeys': WHATEVER THE INPUT: true; the input reads as it did. -/
def mapsKeysSpec : ChangeSpec := { name := "mapsKeys", fn := fun _ => fun
  | [d] => { results := [.lit (.bool true)], args := [d] }
  | _ => none }
def mapsKeysRow : OpenClaim := { program := "ytahabogjfcdjkaa", sum := "cd642ce64164b9b6f11e080b4b82e3333cb4af0945bd0b303197e840c29eba10", func := "barbican/barbicanlaw9.MapsKeys", spec := "mapsKeys", inPlace := ["internal/bytealg.Compare"], unfollowed := true, recurses := true, apart := false }
def MapsKeysSaid : Prop := mapsKeysRow.holds Try.pinned (OpenSpec.ofChange mapsKeysSpec)

/-- ITS FALSE NEIGHBOUR: 'it returns false'. Refute it at one input. -/
def mapsKeysWrong : ChangeSpec := { name := "mapsKeys", fn := fun _ => fun
  | [d] => { results := [.lit (.bool false)], args := [d] }
  | _ => none }
def MapsKeysWrongFalsely : Prop := mapsKeysRow.holds Try.pinned (OpenSpec.ofChange mapsKeysWrong)

/-- 'barbicanlaw9.MapsHash': WHATEVER THE INPUT: true; the input reads as it did. -/
def mapsHashSpec : ChangeSpec := { name := "mapsHash", fn := fun _ => fun
  | [d1, d2] => { results := [.lit (.bool true)], args := [d1, d2] }
  | _ => none }
def mapsHashRow : OpenClaim := { program := "ytahabogjfcdjkaa", sum := "cd642ce64164b9b6f11e080b4b82e3333cb4af0945bd0b303197e840c29eba10", func := "barbican/barbicanlaw9.MapsHash", spec := "mapsHash", inPlace := ["internal/bytealg.Compare"], unfollowed := true, recurses := true, apart := false }
def MapsHashSaid : Prop := mapsHashRow.holds Try.pinned (OpenSpec.ofChange mapsHashSpec)

/-- ITS FALSE NEIGHBOUR: 'it returns false'. Refute it at one input. -/
def mapsHashWrong : ChangeSpec := { name := "mapsHash", fn := fun _ => fun
  | [d1, d2] => { results := [.lit (.bool false)], args := [d1, d2] }
  | _ => none }
def MapsHashWrongFalsely : Prop := mapsHashRow.holds Try.pinned (OpenSpec.ofChange mapsHashWrong)

/- THE SECOND FORM. 'bulk': how many values and letters a reading holds, each counted each time it is reached (what is shared counts as often as it is met; a slice's spare places count too). A statement '..UptoSaid' is the law's where the arguments, and the package variables that the reading takes, are together of bulk at most 1048576: NARROWER than '..Said'. Prove '..Said' where nothing that the law and all that it calls make is longer than what came in: it says more and counts as full. Else prove '..UptoSaid'. A law counts once. -/
mutual
def uptoBulk {H : Type} : DataW H → Nat
  | .lit (.string bytes) => bytes.length + 1
  | .lit _ => 1
  | .nil => 1
  | .ptr d => uptoBulk d + 1
  | .slice elems spare => uptoBulkAll elems + uptoBulkAll spare + 1
  | .agg parts => uptoBulkAll parts + 1
  | .iface _ d => uptoBulk d + 1
  | .map entries => uptoBulkEntries entries + 1
  | .held _ => 1
def uptoBulkAll {H : Type} : List (DataW H) → Nat
  | [] => 0
  | d :: r => uptoBulk d + uptoBulkAll r
def uptoBulkEntries {H : Type} : List (Lit × DataW H) → Nat
  | [] => 0
  | x :: r => uptoBulkEntry x + uptoBulkEntries r
def uptoBulkEntry {H : Type} : Lit × DataW H → Nat
  | (.string bytes, d) => bytes.length + uptoBulk d + 1
  | (_, d) => uptoBulk d + 1
 end
def uptoSmall : (H : Type) → List (DataW H) → Bool := fun _ ds => decide (uptoBulkAll ds ≤ 1048576)
def OpenSpec.upto (s : _root_.Go.ChangeSpec) : _root_.Go.OpenSpec := { _root_.Go.OpenSpec.ofChange s with cond := some uptoSmall }

/-- 'barbicanlaw9.MapsArray', WHERE WHAT IT READS IS OF BULK AT MOST 1048576: true; the input reads as it did. -/
def mapsArrayUptoRow : OpenClaim := { program := "ytahabogjfcdjkaa", sum := "cd642ce64164b9b6f11e080b4b82e3333cb4af0945bd0b303197e840c29eba10", func := "barbican/barbicanlaw9.MapsArray", spec := "mapsArray", unfollowed := true, recurses := true, apart := false, narrowed := true }
def MapsArrayUptoSaid : Prop := mapsArrayUptoRow.holds Try.pinned (OpenSpec.upto mapsArraySpec)

/-- 'barbicanlaw9.MapsFlags', WHERE WHAT IT READS IS OF BULK AT MOST 1048576: true; the input reads as it did. -/
def mapsFlagsUptoRow : OpenClaim := { program := "ytahabogjfcdjkaa", sum := "cd642ce64164b9b6f11e080b4b82e3333cb4af0945bd0b303197e840c29eba10", func := "barbican/barbicanlaw9.MapsFlags", spec := "mapsFlags", inPlace := ["internal/bytealg.Compare"], unfollowed := true, recurses := true, apart := false, narrowed := true }
def MapsFlagsUptoSaid : Prop := mapsFlagsUptoRow.holds Try.pinned (OpenSpec.upto mapsFlagsSpec)

/-- 'barbicanlaw9.MapsKeys', WHERE WHAT IT READS IS OF BULK AT MOST 1048576: true; the input reads as it did. -/
def mapsKeysUptoRow : OpenClaim := { program := "ytahabogjfcdjkaa", sum := "cd642ce64164b9b6f11e080b4b82e3333cb4af0945bd0b303197e840c29eba10", func := "barbican/barbicanlaw9.MapsKeys", spec := "mapsKeys", inPlace := ["internal/bytealg.Compare"], unfollowed := true, recurses := true, apart := false, narrowed := true }
def MapsKeysUptoSaid : Prop := mapsKeysUptoRow.holds Try.pinned (OpenSpec.upto mapsKeysSpec)

/-- 'barbicanlaw9.MapsHash', WHERE WHAT IT READS IS OF BULK AT MOST 1048576: true; the input reads as it did. -/
def mapsHashUptoRow : OpenClaim := { program := "ytahabogjfcdjkaa", sum := "cd642ce64164b9b6f11e080b4b82e3333cb4af0945bd0b303197e840c29eba10", func := "barbican/barbicanlaw9.MapsHash", spec := "mapsHash", inPlace := ["internal/bytealg.Compare"], unfollowed := true, recurses := true, apart := false, narrowed := true }
def MapsHashUptoSaid : Prop := mapsHashUptoRow.holds Try.pinned (OpenSpec.upto mapsHashSpec)

end Rows
end Go.Proofs.Ytahabogjfcdjkaa
