/-
  DERIVED. GIVEN WITH THE SEED: THE CARDS: each row of YtlpglibnjmjjkaaGreatDoorRows.lean that lists a variable, with what it lists TIED to the program's text (the seventh form; the later family's looks); each row that meets fmt, with fmt's text TOLD by the authors' own Lean function (tested against real Go, not proved from fmt's source: count such statements apart). THE CARD IS WHAT COUNTS. Prove the row's statement (the work); the ties are given (YtlpglibnjmjjkaaGreatDoorTie.lean); close each card by the builder's one call (the guide's Derived/Test/ToyasCard.lean, 'card_holds'). Laid BY PROGRAM, IN A SANDBOX (cutbox-door.mjs). By AI agents, Wed Nov 11 2026. No macro, syntax, notation, axiom, sorry.
-/
import Derived.Test.YtlpglibnjmjjkaaGreatDoorRows
import GoSem.ClaimSeven
namespace Go.Proofs.YtlpglibnjmjjkaaGreatDoor
namespace Rows

/-- THE TIED CARD OF 'laws.FnExpansions'. -/
def fnExpansionsCard : Claim7 := { stood := { row := fnExpansionsRow, standIns := [], harness := (true, "169c13c03c48cd4dec0275280cdae9b57a11875fbaf30e2f006cc6b7d29b3b42"), looks := true }, kinds := [], alts := [], laidByText := true, laidKinds := [.data, .data, .data, .data, .sentinel, .sentinel, .pinned], laidTests := true, laidLooks := .later }
def FnExpansionsCardSaid : Prop := Claim7.holds Tryz.pinned (.plain (OpenSpec.ofChange fnExpansionsSpec)) fnExpansionsCard

/-- THE TIED CARD OF 'laws.FnSigned'. -/
def fnSignedCard : Claim7 := { stood := { row := fnSignedRow, standIns := [], harness := (true, "169c13c03c48cd4dec0275280cdae9b57a11875fbaf30e2f006cc6b7d29b3b42"), looks := true }, kinds := [], alts := [], laidByText := true, laidKinds := [.data, .data, .data, .data, .sentinel, .sentinel, .pinned], laidTests := true, laidLooks := .later }
def FnSignedCardSaid : Prop := Claim7.holds Tryz.pinned (.plain (OpenSpec.ofChange fnSignedSpec)) fnSignedCard

/-- THE SECOND FORM's CARD OF 'laws.FnExpansions'. -/
def fnExpansionsUptoCard : Claim7 := { stood := { row := fnExpansionsUptoRow, standIns := [], harness := (true, "169c13c03c48cd4dec0275280cdae9b57a11875fbaf30e2f006cc6b7d29b3b42"), looks := true }, kinds := [], alts := [], laidByText := true, laidKinds := [.data, .data, .data, .data, .sentinel, .sentinel, .pinned], laidTests := true, laidLooks := .later }
def FnExpansionsUptoCardSaid : Prop := Claim7.holds Tryz.pinned (.plain (OpenSpec.upto fnExpansionsSpec)) fnExpansionsUptoCard

/-- THE SECOND FORM's CARD OF 'laws.FnSigned'. -/
def fnSignedUptoCard : Claim7 := { stood := { row := fnSignedUptoRow, standIns := [], harness := (true, "169c13c03c48cd4dec0275280cdae9b57a11875fbaf30e2f006cc6b7d29b3b42"), looks := true }, kinds := [], alts := [], laidByText := true, laidKinds := [.data, .data, .data, .data, .sentinel, .sentinel, .pinned], laidTests := true, laidLooks := .later }
def FnSignedUptoCardSaid : Prop := Claim7.holds Tryz.pinned (.plain (OpenSpec.upto fnSignedSpec)) fnSignedUptoCard
end Rows
end Go.Proofs.YtlpglibnjmjjkaaGreatDoor
