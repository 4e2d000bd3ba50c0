/-
  DERIVED. GIVEN WITH THE SEED: THE CARDS: each row of YtbkkahkikjifkaaDoorRows.lean that lists a variable, with what it lists TIED to the program's text (the seventh form; the later family's looks); each row that meets fmt, with fmt's text TOLD by the authors' own Lean function (tested against real Go, not proved from fmt's source: count such statements apart). THE CARD IS WHAT COUNTS. Prove the row's statement (the work); the ties are given (YtbkkahkikjifkaaDoorTie.lean); close each card by the builder's one call (the guide's Derived/Test/ToyasCard.lean, 'card_holds'). Laid BY PROGRAM, IN A SANDBOX (cutbox-door.mjs). By AI agents, Wed Nov 11 2026. No macro, syntax, notation, axiom, sorry.
-/
import Derived.Test.YtbkkahkikjifkaaDoorRows
import GoSem.ClaimSeven
namespace Go.Proofs.YtbkkahkikjifkaaDoor
namespace Rows

/-- THE TIED CARD OF 'basculelaw.KeccakTurns'. -/
def keccakTurnsCard : Claim7 := { stood := { row := keccakTurnsRow, standIns := [], harness := (true, "7952c7d6ee2ba3e7270f96bb7482e8e0e89cdab6837682717d045ca861c34a65"), looks := false }, kinds := [], alts := [], laidByText := true, laidKinds := [.data, .data], laidTests := true, laidLooks := .later }
def KeccakTurnsCardSaid : Prop := Claim7.holds Tryd.pinned (.plain (OpenSpec.ofChange keccakTurnsSpec)) keccakTurnsCard

/-- THE TIED CARD OF 'basculelaw.KeccakAdds'. -/
def keccakAddsCard : Claim7 := { stood := { row := keccakAddsRow, standIns := [], harness := (true, "7952c7d6ee2ba3e7270f96bb7482e8e0e89cdab6837682717d045ca861c34a65"), looks := false }, kinds := [], alts := [], laidByText := true, laidKinds := [.data, .data], laidTests := true, laidLooks := .later }
def KeccakAddsCardSaid : Prop := Claim7.holds Tryd.pinned (.plain (OpenSpec.ofChange keccakAddsSpec)) keccakAddsCard

/-- THE TIED CARD OF 'basculelaw.KeccakEnds'. -/
def keccakEndsCard : Claim7 := { stood := { row := keccakEndsRow, standIns := [], harness := (true, "7952c7d6ee2ba3e7270f96bb7482e8e0e89cdab6837682717d045ca861c34a65"), looks := false }, kinds := [], alts := [], laidByText := true, laidKinds := [.data, .data], laidTests := true, laidLooks := .later }
def KeccakEndsCardSaid : Prop := Claim7.holds Tryd.pinned (.plain (OpenSpec.ofChange keccakEndsSpec)) keccakEndsCard

/-- THE TIED CARD OF 'basculelaw.KeccakSums'. -/
def keccakSumsCard : Claim7 := { stood := { row := keccakSumsRow, standIns := [], harness := (true, "7952c7d6ee2ba3e7270f96bb7482e8e0e89cdab6837682717d045ca861c34a65"), looks := false }, kinds := [], alts := [], laidByText := true, laidKinds := [.data, .data], laidTests := true, laidLooks := .later }
def KeccakSumsCardSaid : Prop := Claim7.holds Tryd.pinned (.plain (OpenSpec.ofChange keccakSumsSpec)) keccakSumsCard

/-- THE TIED CARD OF 'basculelaw.BodyWrites'. -/
def bodyWritesCard : Claim7 := { stood := { row := bodyWritesRow, standIns := [], harness := (true, "7952c7d6ee2ba3e7270f96bb7482e8e0e89cdab6837682717d045ca861c34a65"), looks := false }, kinds := [], alts := [], laidByText := true, laidKinds := [.data, .data], laidTests := true, laidLooks := .later }
def BodyWritesCardSaid : Prop := Claim7.holds Tryd.pinned (.plain (OpenSpec.ofChange bodyWritesSpec)) bodyWritesCard

/-- THE TIED CARD OF 'basculelaw.SeenAll'. -/
def seenAllCard : Claim7 := { stood := { row := seenAllRow, standIns := [], harness := (true, "7952c7d6ee2ba3e7270f96bb7482e8e0e89cdab6837682717d045ca861c34a65"), looks := false }, kinds := [], alts := [], laidByText := true, laidKinds := [.data], laidTests := true, laidLooks := .later }
def SeenAllCardSaid : Prop := Claim7.holds Tryd.pinned (.plain (OpenSpec.ofChange seenAllSpec)) seenAllCard

/-- THE TIED CARD OF 'basculelaw.SignPoints'. -/
def signPointsCard : Claim7 := { stood := { row := signPointsRow, standIns := [], harness := (true, "7952c7d6ee2ba3e7270f96bb7482e8e0e89cdab6837682717d045ca861c34a65"), looks := false }, kinds := [], alts := [], laidByText := true, laidKinds := [.data, .data], laidTests := true, laidLooks := .later }
def SignPointsCardSaid : Prop := Claim7.holds Tryd.pinned (.plain (OpenSpec.ofChange signPointsSpec)) signPointsCard

/-- THE TIED CARD OF 'basculelaw.SignMakes'. -/
def signMakesCard : Claim7 := { stood := { row := signMakesRow, standIns := [], harness := (true, "7952c7d6ee2ba3e7270f96bb7482e8e0e89cdab6837682717d045ca861c34a65"), looks := false }, kinds := [], alts := [], laidByText := true, laidKinds := [.data, .data], laidTests := true, laidLooks := .later }
def SignMakesCardSaid : Prop := Claim7.holds Tryd.pinned (.plain (OpenSpec.ofChange signMakesSpec)) signMakesCard

/-- THE TIED CARD OF 'basculelaw.WorldKeys'. -/
def worldKeysCard : Claim7 := { stood := { row := worldKeysRow, standIns := [], harness := (true, "7952c7d6ee2ba3e7270f96bb7482e8e0e89cdab6837682717d045ca861c34a65"), looks := false }, kinds := [], alts := [], laidByText := true, laidKinds := [.data, .data], laidTests := true, laidLooks := .later }
def WorldKeysCardSaid : Prop := Claim7.holds Tryd.pinned (.plain (OpenSpec.ofChange worldKeysSpec)) worldKeysCard

/-- THE SECOND FORM's CARD OF 'basculelaw.KeccakTurns'. -/
def keccakTurnsUptoCard : Claim7 := { stood := { row := keccakTurnsUptoRow, standIns := [], harness := (true, "7952c7d6ee2ba3e7270f96bb7482e8e0e89cdab6837682717d045ca861c34a65"), looks := false }, kinds := [], alts := [], laidByText := true, laidKinds := [.data, .data], laidTests := true, laidLooks := .later }
def KeccakTurnsUptoCardSaid : Prop := Claim7.holds Tryd.pinned (.plain (OpenSpec.upto keccakTurnsSpec)) keccakTurnsUptoCard

/-- THE SECOND FORM's CARD OF 'basculelaw.KeccakAdds'. -/
def keccakAddsUptoCard : Claim7 := { stood := { row := keccakAddsUptoRow, standIns := [], harness := (true, "7952c7d6ee2ba3e7270f96bb7482e8e0e89cdab6837682717d045ca861c34a65"), looks := false }, kinds := [], alts := [], laidByText := true, laidKinds := [.data, .data], laidTests := true, laidLooks := .later }
def KeccakAddsUptoCardSaid : Prop := Claim7.holds Tryd.pinned (.plain (OpenSpec.upto keccakAddsSpec)) keccakAddsUptoCard

/-- THE SECOND FORM's CARD OF 'basculelaw.KeccakEnds'. -/
def keccakEndsUptoCard : Claim7 := { stood := { row := keccakEndsUptoRow, standIns := [], harness := (true, "7952c7d6ee2ba3e7270f96bb7482e8e0e89cdab6837682717d045ca861c34a65"), looks := false }, kinds := [], alts := [], laidByText := true, laidKinds := [.data, .data], laidTests := true, laidLooks := .later }
def KeccakEndsUptoCardSaid : Prop := Claim7.holds Tryd.pinned (.plain (OpenSpec.upto keccakEndsSpec)) keccakEndsUptoCard

/-- THE SECOND FORM's CARD OF 'basculelaw.KeccakSums'. -/
def keccakSumsUptoCard : Claim7 := { stood := { row := keccakSumsUptoRow, standIns := [], harness := (true, "7952c7d6ee2ba3e7270f96bb7482e8e0e89cdab6837682717d045ca861c34a65"), looks := false }, kinds := [], alts := [], laidByText := true, laidKinds := [.data, .data], laidTests := true, laidLooks := .later }
def KeccakSumsUptoCardSaid : Prop := Claim7.holds Tryd.pinned (.plain (OpenSpec.upto keccakSumsSpec)) keccakSumsUptoCard

/-- THE SECOND FORM's CARD OF 'basculelaw.BodyWrites'. -/
def bodyWritesUptoCard : Claim7 := { stood := { row := bodyWritesUptoRow, standIns := [], harness := (true, "7952c7d6ee2ba3e7270f96bb7482e8e0e89cdab6837682717d045ca861c34a65"), looks := false }, kinds := [], alts := [], laidByText := true, laidKinds := [.data, .data], laidTests := true, laidLooks := .later }
def BodyWritesUptoCardSaid : Prop := Claim7.holds Tryd.pinned (.plain (OpenSpec.upto bodyWritesSpec)) bodyWritesUptoCard

/-- THE SECOND FORM's CARD OF 'basculelaw.SeenAll'. -/
def seenAllUptoCard : Claim7 := { stood := { row := seenAllUptoRow, standIns := [], harness := (true, "7952c7d6ee2ba3e7270f96bb7482e8e0e89cdab6837682717d045ca861c34a65"), looks := false }, kinds := [], alts := [], laidByText := true, laidKinds := [.data], laidTests := true, laidLooks := .later }
def SeenAllUptoCardSaid : Prop := Claim7.holds Tryd.pinned (.plain (OpenSpec.upto seenAllSpec)) seenAllUptoCard

/-- THE SECOND FORM's CARD OF 'basculelaw.SignPoints'. -/
def signPointsUptoCard : Claim7 := { stood := { row := signPointsUptoRow, standIns := [], harness := (true, "7952c7d6ee2ba3e7270f96bb7482e8e0e89cdab6837682717d045ca861c34a65"), looks := false }, kinds := [], alts := [], laidByText := true, laidKinds := [.data, .data], laidTests := true, laidLooks := .later }
def SignPointsUptoCardSaid : Prop := Claim7.holds Tryd.pinned (.plain (OpenSpec.upto signPointsSpec)) signPointsUptoCard

/-- THE SECOND FORM's CARD OF 'basculelaw.SignMakes'. -/
def signMakesUptoCard : Claim7 := { stood := { row := signMakesUptoRow, standIns := [], harness := (true, "7952c7d6ee2ba3e7270f96bb7482e8e0e89cdab6837682717d045ca861c34a65"), looks := false }, kinds := [], alts := [], laidByText := true, laidKinds := [.data, .data], laidTests := true, laidLooks := .later }
def SignMakesUptoCardSaid : Prop := Claim7.holds Tryd.pinned (.plain (OpenSpec.upto signMakesSpec)) signMakesUptoCard

/-- THE SECOND FORM's CARD OF 'basculelaw.WorldKeys'. -/
def worldKeysUptoCard : Claim7 := { stood := { row := worldKeysUptoRow, standIns := [], harness := (true, "7952c7d6ee2ba3e7270f96bb7482e8e0e89cdab6837682717d045ca861c34a65"), looks := false }, kinds := [], alts := [], laidByText := true, laidKinds := [.data, .data], laidTests := true, laidLooks := .later }
def WorldKeysUptoCardSaid : Prop := Claim7.holds Tryd.pinned (.plain (OpenSpec.upto worldKeysSpec)) worldKeysUptoCard
end Rows
end Go.Proofs.YtbkkahkikjifkaaDoor
