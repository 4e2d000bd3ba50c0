/-
  NARROWER THAN 'FOR EVERY INPUT', by the rows' own cells (each row's printed sentence says how): KeccakTurns: laid · KeccakAdds: laid · KeccakEnds: laid · KeccakSums: laid · BodyWrites: laid · SeenAll: laid · SignPoints: laid · SignMakes: laid · WorldKeys: laid.
  DERIVED. THE GIVEN ROWS OF THIS SEAT. 9 by the template 'for every input the law returns true; each argument reads behind the call as it read before'; 0 by the template 'total and deterministic' (their statements: YtbkkahkikjifkaaDoorTotals.lean).
  GIVEN WITH THE SEED: the statements are not yours to turn. If you find one false, say at which input.
  Laid BY PROGRAM, IN A SANDBOX (cutbox-rows.mjs): the forced cells as the released guide's own fill.sh prints them over the translation af452b5d955bd103… (all of the seat's roots in one cut). By AI agents, Wed Nov 11 2026. No macro, syntax, notation, axiom, sorry.
-/
import Derived.Test.YtbkkahkikjifkaaDoorChecked
import GoSem.Claim
import GoSem.ClaimJoined
import GoSem.ClaimMapViews
import Derived.JoinedTies
import Derived.KernelRfl
namespace Go.Proofs.YtbkkahkikjifkaaDoor
/- THE CELL 'sum', in the pinned program and in every row, IS THE sha256 OF THE DUMP (.gsa) THAT YtbkkahkikjifkaaDoorProg.lean LOADS. Nothing in Lean hashes anything: it is a label: what it is worth is what the hold of that sum in a sandbox is worth. -/
noncomputable def Tryd.pinned : Pinned := { name := "ytbkkahkikjifkaadoor", sum := "af452b5d955bd103ae4e2f6688e926550762239e9864b640c787cc96ef791d4f", checked := Tryd.checked }
namespace Rows
def none {H : Type} : Left H := { results := [], args := [] }

/- WHAT THE LISTED PACKAGE-LEVEL VARIABLES READ AS WHEN THE CALL BEGINS. Each datum BY PROGRAM (the guide's laid-datum.mjs) off the statement by which the dump's own 'gosem.cut.vars' lays the variable. In a bare row this is a premise. The card (YtbkkahkikjifkaaDoorCards.lean) ties it to the program's text. -/
def laid_bascule_keccak_rounds {H : Type} : DataW H := .agg [.lit (.int .u64 1), .lit (.int .u64 32898), .lit (.int .u64 9223372036854808714), .lit (.int .u64 9223372039002292224), .lit (.int .u64 32907), .lit (.int .u64 2147483649), .lit (.int .u64 9223372039002292353), .lit (.int .u64 9223372036854808585), .lit (.int .u64 138), .lit (.int .u64 136), .lit (.int .u64 2147516425), .lit (.int .u64 2147483658), .lit (.int .u64 2147516555), .lit (.int .u64 9223372036854775947), .lit (.int .u64 9223372036854808713), .lit (.int .u64 9223372036854808579), .lit (.int .u64 9223372036854808578), .lit (.int .u64 9223372036854775936), .lit (.int .u64 32778), .lit (.int .u64 9223372039002259466), .lit (.int .u64 9223372039002292353), .lit (.int .u64 9223372036854808704), .lit (.int .u64 2147483649), .lit (.int .u64 9223372039002292232)]
def laid_bascule_keccak_turns {H : Type} : DataW H := .agg [.lit (.int .i64 0), .lit (.int .i64 1), .lit (.int .i64 62), .lit (.int .i64 28), .lit (.int .i64 27), .lit (.int .i64 36), .lit (.int .i64 44), .lit (.int .i64 6), .lit (.int .i64 55), .lit (.int .i64 20), .lit (.int .i64 3), .lit (.int .i64 10), .lit (.int .i64 43), .lit (.int .i64 25), .lit (.int .i64 39), .lit (.int .i64 41), .lit (.int .i64 45), .lit (.int .i64 15), .lit (.int .i64 21), .lit (.int .i64 8), .lit (.int .i64 18), .lit (.int .i64 2), .lit (.int .i64 61), .lit (.int .i64 56), .lit (.int .i64 14)]
def laid_math_bits_deBruijn64tab {H : Type} : DataW H := .agg [.lit (.int .u8 0), .lit (.int .u8 1), .lit (.int .u8 56), .lit (.int .u8 2), .lit (.int .u8 57), .lit (.int .u8 49), .lit (.int .u8 28), .lit (.int .u8 3), .lit (.int .u8 61), .lit (.int .u8 58), .lit (.int .u8 42), .lit (.int .u8 50), .lit (.int .u8 38), .lit (.int .u8 29), .lit (.int .u8 17), .lit (.int .u8 4), .lit (.int .u8 62), .lit (.int .u8 47), .lit (.int .u8 59), .lit (.int .u8 36), .lit (.int .u8 45), .lit (.int .u8 43), .lit (.int .u8 51), .lit (.int .u8 22), .lit (.int .u8 53), .lit (.int .u8 39), .lit (.int .u8 33), .lit (.int .u8 30), .lit (.int .u8 24), .lit (.int .u8 18), .lit (.int .u8 12), .lit (.int .u8 5), .lit (.int .u8 63), .lit (.int .u8 55), .lit (.int .u8 48), .lit (.int .u8 27), .lit (.int .u8 60), .lit (.int .u8 41), .lit (.int .u8 37), .lit (.int .u8 16), .lit (.int .u8 46), .lit (.int .u8 35), .lit (.int .u8 44), .lit (.int .u8 21), .lit (.int .u8 52), .lit (.int .u8 32), .lit (.int .u8 23), .lit (.int .u8 11), .lit (.int .u8 54), .lit (.int .u8 26), .lit (.int .u8 40), .lit (.int .u8 15), .lit (.int .u8 34), .lit (.int .u8 20), .lit (.int .u8 31), .lit (.int .u8 10), .lit (.int .u8 25), .lit (.int .u8 14), .lit (.int .u8 19), .lit (.int .u8 9), .lit (.int .u8 13), .lit (.int .u8 8), .lit (.int .u8 7), .lit (.int .u8 6)]

/-- 'basculelaw.KeccakTurns': WHATEVER THE INPUT: true; the input reads as it did. -/
def keccakTurnsSpec : ChangeSpec := { name := "keccakTurns", fn := fun _ => fun
  | [d] => { results := [.lit (.bool true)], args := [d] }
  | _ => none }
def keccakTurnsRow : OpenClaim := { program := "ytbkkahkikjifkaadoor", sum := "af452b5d955bd103ae4e2f6688e926550762239e9864b640c787cc96ef791d4f", func := "bascule/basculelaw.KeccakTurns", spec := "keccakTurns", named := ["bascule/keccak.rounds", "bascule/keccak.turns"], apart := false, laid := [("bascule/keccak.rounds", laid_bascule_keccak_rounds), ("bascule/keccak.turns", laid_bascule_keccak_turns)] }
def KeccakTurnsSaid : Prop := keccakTurnsRow.holds Tryd.pinned (OpenSpec.ofChange keccakTurnsSpec)

/-- ITS FALSE NEIGHBOUR: 'it returns false'. Refute it at one input. -/
def keccakTurnsWrong : ChangeSpec := { name := "keccakTurns", fn := fun _ => fun
  | [d] => { results := [.lit (.bool false)], args := [d] }
  | _ => none }
def KeccakTurnsWrongFalsely : Prop := keccakTurnsRow.holds Tryd.pinned (OpenSpec.ofChange keccakTurnsWrong)

/-- 'basculelaw.KeccakAdds': WHATEVER THE INPUT: true; the input reads as it did. -/
def keccakAddsSpec : ChangeSpec := { name := "keccakAdds", fn := fun _ => fun
  | [d1, d2] => { results := [.lit (.bool true)], args := [d1, d2] }
  | _ => none }
def keccakAddsRow : OpenClaim := { program := "ytbkkahkikjifkaadoor", sum := "af452b5d955bd103ae4e2f6688e926550762239e9864b640c787cc96ef791d4f", func := "bascule/basculelaw.KeccakAdds", spec := "keccakAdds", named := ["bascule/keccak.rounds", "bascule/keccak.turns"], apart := false, laid := [("bascule/keccak.rounds", laid_bascule_keccak_rounds), ("bascule/keccak.turns", laid_bascule_keccak_turns)] }
def KeccakAddsSaid : Prop := keccakAddsRow.holds Tryd.pinned (OpenSpec.ofChange keccakAddsSpec)

/-- ITS FALSE NEIGHBOUR: 'it returns false'. Refute it at one input. -/
def keccakAddsWrong : ChangeSpec := { name := "keccakAdds", fn := fun _ => fun
  | [d1, d2] => { results := [.lit (.bool false)], args := [d1, d2] }
  | _ => none }
def KeccakAddsWrongFalsely : Prop := keccakAddsRow.holds Tryd.pinned (OpenSpec.ofChange keccakAddsWrong)

/-- 'basculelaw.KeccakEnds': WHATEVER THE INPUT: true; the input reads as it did. -/
def keccakEndsSpec : ChangeSpec := { name := "keccakEnds", fn := fun _ => fun
  | [d] => { results := [.lit (.bool true)], args := [d] }
  | _ => none }
def keccakEndsRow : OpenClaim := { program := "ytbkkahkikjifkaadoor", sum := "af452b5d955bd103ae4e2f6688e926550762239e9864b640c787cc96ef791d4f", func := "bascule/basculelaw.KeccakEnds", spec := "keccakEnds", named := ["bascule/keccak.rounds", "bascule/keccak.turns"], apart := false, laid := [("bascule/keccak.rounds", laid_bascule_keccak_rounds), ("bascule/keccak.turns", laid_bascule_keccak_turns)] }
def KeccakEndsSaid : Prop := keccakEndsRow.holds Tryd.pinned (OpenSpec.ofChange keccakEndsSpec)

/-- ITS FALSE NEIGHBOUR: 'it returns false'. Refute it at one input. -/
def keccakEndsWrong : ChangeSpec := { name := "keccakEnds", fn := fun _ => fun
  | [d] => { results := [.lit (.bool false)], args := [d] }
  | _ => none }
def KeccakEndsWrongFalsely : Prop := keccakEndsRow.holds Tryd.pinned (OpenSpec.ofChange keccakEndsWrong)

/-- 'basculelaw.KeccakSums': WHATEVER THE INPUT: true; the input reads as it did. -/
def keccakSumsSpec : ChangeSpec := { name := "keccakSums", fn := fun _ => fun
  | [d] => { results := [.lit (.bool true)], args := [d] }
  | _ => none }
def keccakSumsRow : OpenClaim := { program := "ytbkkahkikjifkaadoor", sum := "af452b5d955bd103ae4e2f6688e926550762239e9864b640c787cc96ef791d4f", func := "bascule/basculelaw.KeccakSums", spec := "keccakSums", named := ["bascule/keccak.rounds", "bascule/keccak.turns"], apart := false, laid := [("bascule/keccak.rounds", laid_bascule_keccak_rounds), ("bascule/keccak.turns", laid_bascule_keccak_turns)] }
def KeccakSumsSaid : Prop := keccakSumsRow.holds Tryd.pinned (OpenSpec.ofChange keccakSumsSpec)

/-- ITS FALSE NEIGHBOUR: 'it returns false'. Refute it at one input. -/
def keccakSumsWrong : ChangeSpec := { name := "keccakSums", fn := fun _ => fun
  | [d] => { results := [.lit (.bool false)], args := [d] }
  | _ => none }
def KeccakSumsWrongFalsely : Prop := keccakSumsRow.holds Tryd.pinned (OpenSpec.ofChange keccakSumsWrong)

/-- 'basculelaw.BodyWrites': WHATEVER THE INPUT: true; the input reads as it did. -/
def bodyWritesSpec : ChangeSpec := { name := "bodyWrites", fn := fun _ => fun
  | [d] => { results := [.lit (.bool true)], args := [d] }
  | _ => none }
def bodyWritesRow : OpenClaim := { program := "ytbkkahkikjifkaadoor", sum := "af452b5d955bd103ae4e2f6688e926550762239e9864b640c787cc96ef791d4f", func := "bascule/basculelaw.BodyWrites", spec := "bodyWrites", unfollowed := true, recurses := true, named := ["bascule/keccak.rounds", "bascule/keccak.turns"], apart := false, laid := [("bascule/keccak.rounds", laid_bascule_keccak_rounds), ("bascule/keccak.turns", laid_bascule_keccak_turns)] }
def BodyWritesSaid : Prop := bodyWritesRow.holds Tryd.pinned (OpenSpec.ofChange bodyWritesSpec)

/-- ITS FALSE NEIGHBOUR: 'it returns false'. Refute it at one input. -/
def bodyWritesWrong : ChangeSpec := { name := "bodyWrites", fn := fun _ => fun
  | [d] => { results := [.lit (.bool false)], args := [d] }
  | _ => none }
def BodyWritesWrongFalsely : Prop := bodyWritesRow.holds Tryd.pinned (OpenSpec.ofChange bodyWritesWrong)

/-- 'basculelaw.SeenAll': WHATEVER THE INPUT: true; the input reads as it did. -/
def seenAllSpec : ChangeSpec := { name := "seenAll", fn := fun _ => fun
  | [d1, d2] => { results := [.lit (.bool true)], args := [d1, d2] }
  | _ => none }
def seenAllRow : OpenClaim := { program := "ytbkkahkikjifkaadoor", sum := "af452b5d955bd103ae4e2f6688e926550762239e9864b640c787cc96ef791d4f", func := "bascule/basculelaw.SeenAll", spec := "seenAll", unfollowed := true, recurses := true, named := ["math/bits.deBruijn64tab"], apart := false, laid := [("math/bits.deBruijn64tab", laid_math_bits_deBruijn64tab)] }
def SeenAllSaid : Prop := seenAllRow.holds Tryd.pinned (OpenSpec.ofChange seenAllSpec)

/-- ITS FALSE NEIGHBOUR: 'it returns false'. Refute it at one input. -/
def seenAllWrong : ChangeSpec := { name := "seenAll", fn := fun _ => fun
  | [d1, d2] => { results := [.lit (.bool false)], args := [d1, d2] }
  | _ => none }
def SeenAllWrongFalsely : Prop := seenAllRow.holds Tryd.pinned (OpenSpec.ofChange seenAllWrong)

/-- 'basculelaw.SignPoints': WHATEVER THE INPUT: true; the input reads as it did. -/
def signPointsSpec : ChangeSpec := { name := "signPoints", fn := fun _ => fun
  | [d1, d2, d3] => { results := [.lit (.bool true)], args := [d1, d2, d3] }
  | _ => none }
def signPointsRow : OpenClaim := { program := "ytbkkahkikjifkaadoor", sum := "af452b5d955bd103ae4e2f6688e926550762239e9864b640c787cc96ef791d4f", func := "bascule/basculelaw.SignPoints", spec := "signPoints", inPlace := ["math/bits.Add64", "math/bits.Sub64"], unfollowed := true, recurses := true, named := ["bascule/keccak.rounds", "bascule/keccak.turns"], apart := false, laid := [("bascule/keccak.rounds", laid_bascule_keccak_rounds), ("bascule/keccak.turns", laid_bascule_keccak_turns)] }
def SignPointsSaid : Prop := signPointsRow.holds Tryd.pinned (OpenSpec.ofChange signPointsSpec)

/-- ITS FALSE NEIGHBOUR: 'it returns false'. Refute it at one input. -/
def signPointsWrong : ChangeSpec := { name := "signPoints", fn := fun _ => fun
  | [d1, d2, d3] => { results := [.lit (.bool false)], args := [d1, d2, d3] }
  | _ => none }
def SignPointsWrongFalsely : Prop := signPointsRow.holds Tryd.pinned (OpenSpec.ofChange signPointsWrong)

/-- 'basculelaw.SignMakes': WHATEVER THE INPUT: true; the input reads as it did. -/
def signMakesSpec : ChangeSpec := { name := "signMakes", fn := fun _ => fun
  | [d1, d2, d3] => { results := [.lit (.bool true)], args := [d1, d2, d3] }
  | _ => none }
def signMakesRow : OpenClaim := { program := "ytbkkahkikjifkaadoor", sum := "af452b5d955bd103ae4e2f6688e926550762239e9864b640c787cc96ef791d4f", func := "bascule/basculelaw.SignMakes", spec := "signMakes", inPlace := ["math/bits.Add64", "math/bits.Sub64"], unfollowed := true, recurses := true, named := ["bascule/keccak.rounds", "bascule/keccak.turns"], apart := false, laid := [("bascule/keccak.rounds", laid_bascule_keccak_rounds), ("bascule/keccak.turns", laid_bascule_keccak_turns)] }
def SignMakesSaid : Prop := signMakesRow.holds Tryd.pinned (OpenSpec.ofChange signMakesSpec)

/-- ITS FALSE NEIGHBOUR: 'it returns false'. Refute it at one input. -/
def signMakesWrong : ChangeSpec := { name := "signMakes", fn := fun _ => fun
  | [d1, d2, d3] => { results := [.lit (.bool false)], args := [d1, d2, d3] }
  | _ => none }
def SignMakesWrongFalsely : Prop := signMakesRow.holds Tryd.pinned (OpenSpec.ofChange signMakesWrong)

/-- 'basculelaw.WorldKeys': WHATEVER THE INPUT: true; the input reads as it did. -/
def worldKeysSpec : ChangeSpec := { name := "worldKeys", fn := fun _ => fun
  | [d] => { results := [.lit (.bool true)], args := [d] }
  | _ => none }
def worldKeysRow : OpenClaim := { program := "ytbkkahkikjifkaadoor", sum := "af452b5d955bd103ae4e2f6688e926550762239e9864b640c787cc96ef791d4f", func := "bascule/basculelaw.WorldKeys", spec := "worldKeys", inPlace := ["math/bits.Add64", "math/bits.Sub64"], unfollowed := true, recurses := true, named := ["bascule/keccak.rounds", "bascule/keccak.turns"], apart := false, laid := [("bascule/keccak.rounds", laid_bascule_keccak_rounds), ("bascule/keccak.turns", laid_bascule_keccak_turns)] }
def WorldKeysSaid : Prop := worldKeysRow.holds Tryd.pinned (OpenSpec.ofChange worldKeysSpec)

/-- ITS FALSE NEIGHBOUR: 'it returns false'. Refute it at one input. -/
def worldKeysWrong : ChangeSpec := { name := "worldKeys", fn := fun _ => fun
  | [d] => { results := [.lit (.bool false)], args := [d] }
  | _ => none }
def WorldKeysWrongFalsely : Prop := worldKeysRow.holds Tryd.pinned (OpenSpec.ofChange worldKeysWrong)

/- THE SECOND FORM. 'bulk': how many values and letters a reading holds, each counted each time it is reached (what is shared counts as often as it is met; a slice's spare places count too). A statement '..UptoSaid' is the law's where the arguments, and the package variables that the reading takes, are together of bulk at most 1048576: NARROWER than '..Said'. Prove '..Said' where nothing that the law and all that it calls make is longer than what came in: it says more and counts as full. Else prove '..UptoSaid'. A law counts once. -/
mutual
def uptoBulk {H : Type} : DataW H → Nat
  | .lit (.string bytes) => bytes.length + 1
  | .lit _ => 1
  | .nil => 1
  | .ptr d => uptoBulk d + 1
  | .slice elems spare => uptoBulkAll elems + uptoBulkAll spare + 1
  | .agg parts => uptoBulkAll parts + 1
  | .iface _ d => uptoBulk d + 1
  | .map entries => uptoBulkEntries entries + 1
  | .held _ => 1
def uptoBulkAll {H : Type} : List (DataW H) → Nat
  | [] => 0
  | d :: r => uptoBulk d + uptoBulkAll r
def uptoBulkEntries {H : Type} : List (Lit × DataW H) → Nat
  | [] => 0
  | x :: r => uptoBulkEntry x + uptoBulkEntries r
def uptoBulkEntry {H : Type} : Lit × DataW H → Nat
  | (.string bytes, d) => bytes.length + uptoBulk d + 1
  | (_, d) => uptoBulk d + 1
 end
def uptoSmall : (H : Type) → List (DataW H) → Bool := fun _ ds => decide (uptoBulkAll ds ≤ 1048576)
def OpenSpec.upto (s : _root_.Go.ChangeSpec) : _root_.Go.OpenSpec := { _root_.Go.OpenSpec.ofChange s with cond := some uptoSmall }

/-- 'basculelaw.KeccakTurns', WHERE WHAT IT READS IS OF BULK AT MOST 1048576: true; the input reads as it did. -/
def keccakTurnsUptoRow : OpenClaim := { program := "ytbkkahkikjifkaadoor", sum := "af452b5d955bd103ae4e2f6688e926550762239e9864b640c787cc96ef791d4f", func := "bascule/basculelaw.KeccakTurns", spec := "keccakTurns", named := ["bascule/keccak.rounds", "bascule/keccak.turns"], apart := false, laid := [("bascule/keccak.rounds", laid_bascule_keccak_rounds), ("bascule/keccak.turns", laid_bascule_keccak_turns)], narrowed := true }
def KeccakTurnsUptoSaid : Prop := keccakTurnsUptoRow.holds Tryd.pinned (OpenSpec.upto keccakTurnsSpec)

/-- 'basculelaw.KeccakAdds', WHERE WHAT IT READS IS OF BULK AT MOST 1048576: true; the input reads as it did. -/
def keccakAddsUptoRow : OpenClaim := { program := "ytbkkahkikjifkaadoor", sum := "af452b5d955bd103ae4e2f6688e926550762239e9864b640c787cc96ef791d4f", func := "bascule/basculelaw.KeccakAdds", spec := "keccakAdds", named := ["bascule/keccak.rounds", "bascule/keccak.turns"], apart := false, laid := [("bascule/keccak.rounds", laid_bascule_keccak_rounds), ("bascule/keccak.turns", laid_bascule_keccak_turns)], narrowed := true }
def KeccakAddsUptoSaid : Prop := keccakAddsUptoRow.holds Tryd.pinned (OpenSpec.upto keccakAddsSpec)

/-- 'basculelaw.KeccakEnds', WHERE WHAT IT READS IS OF BULK AT MOST 1048576: true; the input reads as it did. -/
def keccakEndsUptoRow : OpenClaim := { program := "ytbkkahkikjifkaadoor", sum := "af452b5d955bd103ae4e2f6688e926550762239e9864b640c787cc96ef791d4f", func := "bascule/basculelaw.KeccakEnds", spec := "keccakEnds", named := ["bascule/keccak.rounds", "bascule/keccak.turns"], apart := false, laid := [("bascule/keccak.rounds", laid_bascule_keccak_rounds), ("bascule/keccak.turns", laid_bascule_keccak_turns)], narrowed := true }
def KeccakEndsUptoSaid : Prop := keccakEndsUptoRow.holds Tryd.pinned (OpenSpec.upto keccakEndsSpec)

/-- 'basculelaw.KeccakSums', WHERE WHAT IT READS IS OF BULK AT MOST 1048576: true; the input reads as it did. -/
def keccakSumsUptoRow : OpenClaim := { program := "ytbkkahkikjifkaadoor", sum := "af452b5d955bd103ae4e2f6688e926550762239e9864b640c787cc96ef791d4f", func := "bascule/basculelaw.KeccakSums", spec := "keccakSums", named := ["bascule/keccak.rounds", "bascule/keccak.turns"], apart := false, laid := [("bascule/keccak.rounds", laid_bascule_keccak_rounds), ("bascule/keccak.turns", laid_bascule_keccak_turns)], narrowed := true }
def KeccakSumsUptoSaid : Prop := keccakSumsUptoRow.holds Tryd.pinned (OpenSpec.upto keccakSumsSpec)

/-- 'basculelaw.BodyWrites', WHERE WHAT IT READS IS OF BULK AT MOST 1048576: true; the input reads as it did. -/
def bodyWritesUptoRow : OpenClaim := { program := "ytbkkahkikjifkaadoor", sum := "af452b5d955bd103ae4e2f6688e926550762239e9864b640c787cc96ef791d4f", func := "bascule/basculelaw.BodyWrites", spec := "bodyWrites", unfollowed := true, recurses := true, named := ["bascule/keccak.rounds", "bascule/keccak.turns"], apart := false, laid := [("bascule/keccak.rounds", laid_bascule_keccak_rounds), ("bascule/keccak.turns", laid_bascule_keccak_turns)], narrowed := true }
def BodyWritesUptoSaid : Prop := bodyWritesUptoRow.holds Tryd.pinned (OpenSpec.upto bodyWritesSpec)

/-- 'basculelaw.SeenAll', WHERE WHAT IT READS IS OF BULK AT MOST 1048576: true; the input reads as it did. -/
def seenAllUptoRow : OpenClaim := { program := "ytbkkahkikjifkaadoor", sum := "af452b5d955bd103ae4e2f6688e926550762239e9864b640c787cc96ef791d4f", func := "bascule/basculelaw.SeenAll", spec := "seenAll", unfollowed := true, recurses := true, named := ["math/bits.deBruijn64tab"], apart := false, laid := [("math/bits.deBruijn64tab", laid_math_bits_deBruijn64tab)], narrowed := true }
def SeenAllUptoSaid : Prop := seenAllUptoRow.holds Tryd.pinned (OpenSpec.upto seenAllSpec)

/-- 'basculelaw.SignPoints', WHERE WHAT IT READS IS OF BULK AT MOST 1048576: true; the input reads as it did. -/
def signPointsUptoRow : OpenClaim := { program := "ytbkkahkikjifkaadoor", sum := "af452b5d955bd103ae4e2f6688e926550762239e9864b640c787cc96ef791d4f", func := "bascule/basculelaw.SignPoints", spec := "signPoints", inPlace := ["math/bits.Add64", "math/bits.Sub64"], unfollowed := true, recurses := true, named := ["bascule/keccak.rounds", "bascule/keccak.turns"], apart := false, laid := [("bascule/keccak.rounds", laid_bascule_keccak_rounds), ("bascule/keccak.turns", laid_bascule_keccak_turns)], narrowed := true }
def SignPointsUptoSaid : Prop := signPointsUptoRow.holds Tryd.pinned (OpenSpec.upto signPointsSpec)

/-- 'basculelaw.SignMakes', WHERE WHAT IT READS IS OF BULK AT MOST 1048576: true; the input reads as it did. -/
def signMakesUptoRow : OpenClaim := { program := "ytbkkahkikjifkaadoor", sum := "af452b5d955bd103ae4e2f6688e926550762239e9864b640c787cc96ef791d4f", func := "bascule/basculelaw.SignMakes", spec := "signMakes", inPlace := ["math/bits.Add64", "math/bits.Sub64"], unfollowed := true, recurses := true, named := ["bascule/keccak.rounds", "bascule/keccak.turns"], apart := false, laid := [("bascule/keccak.rounds", laid_bascule_keccak_rounds), ("bascule/keccak.turns", laid_bascule_keccak_turns)], narrowed := true }
def SignMakesUptoSaid : Prop := signMakesUptoRow.holds Tryd.pinned (OpenSpec.upto signMakesSpec)

/-- 'basculelaw.WorldKeys', WHERE WHAT IT READS IS OF BULK AT MOST 1048576: true; the input reads as it did. -/
def worldKeysUptoRow : OpenClaim := { program := "ytbkkahkikjifkaadoor", sum := "af452b5d955bd103ae4e2f6688e926550762239e9864b640c787cc96ef791d4f", func := "bascule/basculelaw.WorldKeys", spec := "worldKeys", inPlace := ["math/bits.Add64", "math/bits.Sub64"], unfollowed := true, recurses := true, named := ["bascule/keccak.rounds", "bascule/keccak.turns"], apart := false, laid := [("bascule/keccak.rounds", laid_bascule_keccak_rounds), ("bascule/keccak.turns", laid_bascule_keccak_turns)], narrowed := true }
def WorldKeysUptoSaid : Prop := worldKeysUptoRow.holds Tryd.pinned (OpenSpec.upto worldKeysSpec)

end Rows
end Go.Proofs.YtbkkahkikjifkaaDoor
