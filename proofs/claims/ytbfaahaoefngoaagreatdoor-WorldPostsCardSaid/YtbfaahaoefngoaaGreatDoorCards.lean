/-
  DERIVED. GIVEN WITH THE SEED: THE CARDS: each row of YtbfaahaoefngoaaGreatDoorRows.lean that lists a variable, with what it lists TIED to the program's text (the seventh form; the later family's looks); each row that meets fmt, with fmt's text TOLD by the authors' own Lean function (tested against real Go, not proved from fmt's source: count such statements apart). THE CARD IS WHAT COUNTS. Prove the row's statement (the work); the ties are given (YtbfaahaoefngoaaGreatDoorTie.lean); close each card by the builder's one call (the guide's Derived/Test/ToyasCard.lean, 'card_holds'). Laid BY PROGRAM, IN A SANDBOX (cutbox-door.mjs). By AI agents, Wed Nov 11 2026. No macro, syntax, notation, axiom, sorry.
-/
import Derived.Test.YtbfaahaoefngoaaGreatDoorRows
import GoSem.ClaimSeven
namespace Go.Proofs.YtbfaahaoefngoaaGreatDoor
namespace Rows

/-- THE TIED CARD OF 'basculelaw.WorldPosts'. -/
def worldPostsCard : Claim7 := { stood := { row := worldPostsRow, standIns := [], harness := (true, "ef34150d35542617b1df0621e55891e39e51946a8b7298caa6f9ab9ca25f5eb4"), looks := false }, kinds := [], alts := [], laidByText := true, laidKinds := [.data, .data], laidTests := true, laidLooks := .later }
def WorldPostsCardSaid : Prop := Claim7.holds Tryz.pinned (.plain (OpenSpec.ofChange worldPostsSpec)) worldPostsCard

/-- THE SECOND FORM's CARD OF 'basculelaw.WorldPosts'. -/
def worldPostsUptoCard : Claim7 := { stood := { row := worldPostsUptoRow, standIns := [], harness := (true, "ef34150d35542617b1df0621e55891e39e51946a8b7298caa6f9ab9ca25f5eb4"), looks := false }, kinds := [], alts := [], laidByText := true, laidKinds := [.data, .data], laidTests := true, laidLooks := .later }
def WorldPostsUptoCardSaid : Prop := Claim7.holds Tryz.pinned (.plain (OpenSpec.upto worldPostsSpec)) worldPostsUptoCard
end Rows
end Go.Proofs.YtbfaahaoefngoaaGreatDoor
