/-
  DERIVED. GIVEN WITH THE SEED: THE CARDS: each row of YtjhlmecfjfcohaaGreatDoorRows.lean that lists a variable, with what it lists TIED to the program's text (the seventh form; the later family's looks); each row that meets fmt, with fmt's text TOLD by the authors' own Lean function (tested against real Go, not proved from fmt's source: count such statements apart). THE CARD IS WHAT COUNTS. Prove the row's statement (the work); the ties are given (YtjhlmecfjfcohaaGreatDoorTie.lean); close each card by the builder's one call (the guide's Derived/Test/ToyasCard.lean, 'card_holds'). Laid BY PROGRAM, IN A SANDBOX (cutbox-door.mjs). By AI agents, Wed Nov 11 2026. No macro, syntax, notation, axiom, sorry.
-/
import Derived.Test.YtjhlmecfjfcohaaGreatDoorRows
import GoSem.ClaimSeven
namespace Go.Proofs.YtjhlmecfjfcohaaGreatDoor
namespace Rows

/-- THE TIED CARD OF 'basculelaw.PostDoes'. -/
def postDoesCard : Claim7 := { stood := { row := postDoesRow, standIns := [], harness := (true, "bb62227aefc17200a1c0e7d4cd268430c22ac199a888efa40e985b277b242bce"), looks := false }, kinds := [], alts := [], laidByText := true, laidKinds := [.data, .data], laidTests := true, laidLooks := .later }
def PostDoesCardSaid : Prop := Claim7.holds Tryz.pinned (.plain (OpenSpec.ofChange postDoesSpec)) postDoesCard

/-- THE SECOND FORM's CARD OF 'basculelaw.PostDoes'. -/
def postDoesUptoCard : Claim7 := { stood := { row := postDoesUptoRow, standIns := [], harness := (true, "bb62227aefc17200a1c0e7d4cd268430c22ac199a888efa40e985b277b242bce"), looks := false }, kinds := [], alts := [], laidByText := true, laidKinds := [.data, .data], laidTests := true, laidLooks := .later }
def PostDoesUptoCardSaid : Prop := Claim7.holds Tryz.pinned (.plain (OpenSpec.upto postDoesSpec)) postDoesUptoCard
end Rows
end Go.Proofs.YtjhlmecfjfcohaaGreatDoor
