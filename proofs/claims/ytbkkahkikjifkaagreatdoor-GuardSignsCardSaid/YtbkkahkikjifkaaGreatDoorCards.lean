/-
  DERIVED. GIVEN WITH THE SEED: THE CARDS: each row of YtbkkahkikjifkaaGreatDoorRows.lean that lists a variable, with what it lists TIED to the program's text (the seventh form; the later family's looks); each row that meets fmt, with fmt's text TOLD by the authors' own Lean function (tested against real Go, not proved from fmt's source: count such statements apart). THE CARD IS WHAT COUNTS. Prove the row's statement (the work); the ties are given (YtbkkahkikjifkaaGreatDoorTie.lean); close each card by the builder's one call (the guide's Derived/Test/ToyasCard.lean, 'card_holds'). Laid BY PROGRAM, IN A SANDBOX (cutbox-door.mjs). By AI agents, Wed Nov 11 2026. No macro, syntax, notation, axiom, sorry.
-/
import Derived.Test.YtbkkahkikjifkaaGreatDoorRows
import GoSem.ClaimSeven
namespace Go.Proofs.YtbkkahkikjifkaaGreatDoor
namespace Rows

/-- THE TIED CARD OF 'basculelaw.GuardSigns'. -/
def guardSignsCard : Claim7 := { stood := { row := guardSignsRow, standIns := [], harness := (true, "7f6e19b9a9be0fb5506decc20a29cf1d2e13ff4b971e7a7267079a6fc2ef8fa1"), looks := false }, kinds := [], alts := [], laidByText := true, laidKinds := [.data, .data], laidTests := true, laidLooks := .later }
def GuardSignsCardSaid : Prop := Claim7.holds Tryz.pinned (.plain (OpenSpec.ofChange guardSignsSpec)) guardSignsCard

/-- THE TIED CARD OF 'basculelaw.QuorumChecks'. -/
def quorumChecksCard : Claim7 := { stood := { row := quorumChecksRow, standIns := [], harness := (true, "7f6e19b9a9be0fb5506decc20a29cf1d2e13ff4b971e7a7267079a6fc2ef8fa1"), looks := false }, kinds := [], alts := [], laidByText := true, laidKinds := [.data, .data], laidTests := true, laidLooks := .later }
def QuorumChecksCardSaid : Prop := Claim7.holds Tryz.pinned (.plain (OpenSpec.ofChange quorumChecksSpec)) quorumChecksCard

/-- THE SECOND FORM's CARD OF 'basculelaw.GuardSigns'. -/
def guardSignsUptoCard : Claim7 := { stood := { row := guardSignsUptoRow, standIns := [], harness := (true, "7f6e19b9a9be0fb5506decc20a29cf1d2e13ff4b971e7a7267079a6fc2ef8fa1"), looks := false }, kinds := [], alts := [], laidByText := true, laidKinds := [.data, .data], laidTests := true, laidLooks := .later }
def GuardSignsUptoCardSaid : Prop := Claim7.holds Tryz.pinned (.plain (OpenSpec.upto guardSignsSpec)) guardSignsUptoCard

/-- THE SECOND FORM's CARD OF 'basculelaw.QuorumChecks'. -/
def quorumChecksUptoCard : Claim7 := { stood := { row := quorumChecksUptoRow, standIns := [], harness := (true, "7f6e19b9a9be0fb5506decc20a29cf1d2e13ff4b971e7a7267079a6fc2ef8fa1"), looks := false }, kinds := [], alts := [], laidByText := true, laidKinds := [.data, .data], laidTests := true, laidLooks := .later }
def QuorumChecksUptoCardSaid : Prop := Claim7.holds Tryz.pinned (.plain (OpenSpec.upto quorumChecksSpec)) quorumChecksUptoCard
end Rows
end Go.Proofs.YtbkkahkikjifkaaGreatDoor
