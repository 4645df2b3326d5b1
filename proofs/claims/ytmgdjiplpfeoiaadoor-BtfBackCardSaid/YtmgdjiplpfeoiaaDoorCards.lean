/-
  DERIVED. GIVEN WITH THE SEED: THE CARDS: each row of YtmgdjiplpfeoiaaDoorRows.lean that lists a variable, with what it lists TIED to the program's text (the seventh form; the later family's looks); each row that meets fmt, with fmt's text TOLD by the authors' own Lean function (tested against real Go, not proved from fmt's source: count such statements apart). THE CARD IS WHAT COUNTS. Prove the row's statement (the work); the ties are given (YtmgdjiplpfeoiaaDoorTie.lean); close each card by the builder's one call (the guide's Derived/Test/ToyasCard.lean, 'card_holds'). Laid BY PROGRAM, IN A SANDBOX (cutbox-door.mjs). By AI agents, Wed Nov 11 2026. No macro, syntax, notation, axiom, sorry.
-/
import Derived.Test.YtmgdjiplpfeoiaaDoorRows
import GoSem.ClaimSeven
namespace Go.Proofs.YtmgdjiplpfeoiaaDoor
namespace Rows

/-- THE TIED CARD OF 'barbicanlaw4.BtfFields'. -/
def btfFieldsCard : Claim7 := { stood := { row := btfFieldsRow, standIns := [], harness := (true, "015944d8e65ef78cc105f601a80f1c35f1be21162c277e413a06f298740040f3"), looks := false }, kinds := [], alts := [], laidByText := true, laidKinds := [.data, .data, .data], laidTests := true, laidLooks := .later }
def BtfFieldsCardSaid : Prop := Claim7.holds Tryd.pinned (.plain (OpenSpec.ofChange btfFieldsSpec)) btfFieldsCard

/-- THE TIED CARD OF 'barbicanlaw4.BtfWays'. -/
def btfWaysCard : Claim7 := { stood := { row := btfWaysRow, standIns := [], harness := (true, "015944d8e65ef78cc105f601a80f1c35f1be21162c277e413a06f298740040f3"), looks := false }, kinds := [], alts := [], laidByText := true, laidKinds := [.data, .data, .data], laidTests := true, laidLooks := .later }
def BtfWaysCardSaid : Prop := Claim7.holds Tryd.pinned (.plain (OpenSpec.ofChange btfWaysSpec)) btfWaysCard

/-- THE TIED CARD OF 'barbicanlaw4.BtfArrays'. -/
def btfArraysCard : Claim7 := { stood := { row := btfArraysRow, standIns := [], harness := (true, "015944d8e65ef78cc105f601a80f1c35f1be21162c277e413a06f298740040f3"), looks := false }, kinds := [], alts := [], laidByText := true, laidKinds := [.data, .data, .data], laidTests := true, laidLooks := .later }
def BtfArraysCardSaid : Prop := Claim7.holds Tryd.pinned (.plain (OpenSpec.ofChange btfArraysSpec)) btfArraysCard

/-- THE TIED CARD OF 'barbicanlaw4.BtfRounds'. -/
def btfRoundsCard : Claim7 := { stood := { row := btfRoundsRow, standIns := [], harness := (true, "015944d8e65ef78cc105f601a80f1c35f1be21162c277e413a06f298740040f3"), looks := false }, kinds := [], alts := [], laidByText := true, laidKinds := [.data, .data, .data], laidTests := true, laidLooks := .later }
def BtfRoundsCardSaid : Prop := Claim7.holds Tryd.pinned (.plain (OpenSpec.ofChange btfRoundsSpec)) btfRoundsCard

/-- THE TIED CARD OF 'barbicanlaw4.BtfStructs'. -/
def btfStructsCard : Claim7 := { stood := { row := btfStructsRow, standIns := [], harness := (true, "015944d8e65ef78cc105f601a80f1c35f1be21162c277e413a06f298740040f3"), looks := false }, kinds := [], alts := [], laidByText := true, laidKinds := [.data, .data, .data], laidTests := true, laidLooks := .later }
def BtfStructsCardSaid : Prop := Claim7.holds Tryd.pinned (.plain (OpenSpec.ofChange btfStructsSpec)) btfStructsCard

/-- THE TIED CARD OF 'barbicanlaw4.BtfBytes'. -/
def btfBytesCard : Claim7 := { stood := { row := btfBytesRow, standIns := [], harness := (true, "015944d8e65ef78cc105f601a80f1c35f1be21162c277e413a06f298740040f3"), looks := false }, kinds := [], alts := [], laidByText := true, laidKinds := [.data, .data, .data], laidTests := true, laidLooks := .later }
def BtfBytesCardSaid : Prop := Claim7.holds Tryd.pinned (.plain (OpenSpec.ofChange btfBytesSpec)) btfBytesCard

/-- THE TIED CARD OF 'barbicanlaw4.BtfBack'. -/
def btfBackCard : Claim7 := { stood := { row := btfBackRow, standIns := [], harness := (true, "015944d8e65ef78cc105f601a80f1c35f1be21162c277e413a06f298740040f3"), looks := false }, kinds := [], alts := [], laidByText := true, laidKinds := [.data, .data, .data], laidTests := true, laidLooks := .later }
def BtfBackCardSaid : Prop := Claim7.holds Tryd.pinned (.plain (OpenSpec.ofChange btfBackSpec)) btfBackCard

/-- THE SECOND FORM's CARD OF 'barbicanlaw4.BtfFields'. -/
def btfFieldsUptoCard : Claim7 := { stood := { row := btfFieldsUptoRow, standIns := [], harness := (true, "015944d8e65ef78cc105f601a80f1c35f1be21162c277e413a06f298740040f3"), looks := false }, kinds := [], alts := [], laidByText := true, laidKinds := [.data, .data, .data], laidTests := true, laidLooks := .later }
def BtfFieldsUptoCardSaid : Prop := Claim7.holds Tryd.pinned (.plain (OpenSpec.upto btfFieldsSpec)) btfFieldsUptoCard

/-- THE SECOND FORM's CARD OF 'barbicanlaw4.BtfWays'. -/
def btfWaysUptoCard : Claim7 := { stood := { row := btfWaysUptoRow, standIns := [], harness := (true, "015944d8e65ef78cc105f601a80f1c35f1be21162c277e413a06f298740040f3"), looks := false }, kinds := [], alts := [], laidByText := true, laidKinds := [.data, .data, .data], laidTests := true, laidLooks := .later }
def BtfWaysUptoCardSaid : Prop := Claim7.holds Tryd.pinned (.plain (OpenSpec.upto btfWaysSpec)) btfWaysUptoCard

/-- THE SECOND FORM's CARD OF 'barbicanlaw4.BtfArrays'. -/
def btfArraysUptoCard : Claim7 := { stood := { row := btfArraysUptoRow, standIns := [], harness := (true, "015944d8e65ef78cc105f601a80f1c35f1be21162c277e413a06f298740040f3"), looks := false }, kinds := [], alts := [], laidByText := true, laidKinds := [.data, .data, .data], laidTests := true, laidLooks := .later }
def BtfArraysUptoCardSaid : Prop := Claim7.holds Tryd.pinned (.plain (OpenSpec.upto btfArraysSpec)) btfArraysUptoCard

/-- THE SECOND FORM's CARD OF 'barbicanlaw4.BtfRounds'. -/
def btfRoundsUptoCard : Claim7 := { stood := { row := btfRoundsUptoRow, standIns := [], harness := (true, "015944d8e65ef78cc105f601a80f1c35f1be21162c277e413a06f298740040f3"), looks := false }, kinds := [], alts := [], laidByText := true, laidKinds := [.data, .data, .data], laidTests := true, laidLooks := .later }
def BtfRoundsUptoCardSaid : Prop := Claim7.holds Tryd.pinned (.plain (OpenSpec.upto btfRoundsSpec)) btfRoundsUptoCard

/-- THE SECOND FORM's CARD OF 'barbicanlaw4.BtfStructs'. -/
def btfStructsUptoCard : Claim7 := { stood := { row := btfStructsUptoRow, standIns := [], harness := (true, "015944d8e65ef78cc105f601a80f1c35f1be21162c277e413a06f298740040f3"), looks := false }, kinds := [], alts := [], laidByText := true, laidKinds := [.data, .data, .data], laidTests := true, laidLooks := .later }
def BtfStructsUptoCardSaid : Prop := Claim7.holds Tryd.pinned (.plain (OpenSpec.upto btfStructsSpec)) btfStructsUptoCard

/-- THE SECOND FORM's CARD OF 'barbicanlaw4.BtfBytes'. -/
def btfBytesUptoCard : Claim7 := { stood := { row := btfBytesUptoRow, standIns := [], harness := (true, "015944d8e65ef78cc105f601a80f1c35f1be21162c277e413a06f298740040f3"), looks := false }, kinds := [], alts := [], laidByText := true, laidKinds := [.data, .data, .data], laidTests := true, laidLooks := .later }
def BtfBytesUptoCardSaid : Prop := Claim7.holds Tryd.pinned (.plain (OpenSpec.upto btfBytesSpec)) btfBytesUptoCard

/-- THE SECOND FORM's CARD OF 'barbicanlaw4.BtfBack'. -/
def btfBackUptoCard : Claim7 := { stood := { row := btfBackUptoRow, standIns := [], harness := (true, "015944d8e65ef78cc105f601a80f1c35f1be21162c277e413a06f298740040f3"), looks := false }, kinds := [], alts := [], laidByText := true, laidKinds := [.data, .data, .data], laidTests := true, laidLooks := .later }
def BtfBackUptoCardSaid : Prop := Claim7.holds Tryd.pinned (.plain (OpenSpec.upto btfBackSpec)) btfBackUptoCard
end Rows
end Go.Proofs.YtmgdjiplpfeoiaaDoor
