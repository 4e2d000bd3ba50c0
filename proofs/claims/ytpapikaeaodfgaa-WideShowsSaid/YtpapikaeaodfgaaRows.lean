/-
  No cell of these rows narrows 'for every input' (looked for: loops, veiled, ifaces, maps, wideKeys, modest, calm, conditions, laid).
  DERIVED. THE GIVEN ROWS OF THIS SEAT. 15 by the template 'for every input the law returns true; each argument reads behind the call as it read before'; 0 by the template 'total and deterministic' (their statements: YtpapikaeaodfgaaTotals.lean).
  GIVEN WITH THE SEED: the statements are not yours to turn. If you find one false, say at which input.
  Laid BY PROGRAM, IN A SANDBOX (cutbox-rows.mjs): the forced cells as the released guide's own fill.sh prints them over the translation 23804ceed507877b… (all of the seat's roots in one cut). By AI agents, Wed Nov 11 2026. No macro, syntax, notation, axiom, sorry.
-/
import Derived.Test.YtpapikaeaodfgaaChecked
import GoSem.Claim
import GoSem.ClaimJoined
import GoSem.ClaimMapViews
import Derived.JoinedTies
import Derived.KernelRfl
namespace Go.Proofs.Ytpapikaeaodfgaa
/- THE CELL 'sum', in the pinned program and in every row, IS THE sha256 OF THE DUMP (.gsa) THAT YtpapikaeaodfgaaProg.lean LOADS. Nothing in Lean hashes anything: it is a label: what it is worth is what the hold of that sum in a sandbox is worth. -/
noncomputable def Try.pinned : Pinned := { name := "ytpapikaeaodfgaa", sum := "23804ceed507877ba2da867895317b76628387392609a0019cae984320da18be", checked := Try.checked }
namespace Rows
def none {H : Type} : Left H := { results := [], args := [] }

/-- 'basculelaw.SetsChecks': WHATEVER THE INPUT: true; the input reads as it did. -/
def setsChecksSpec : ChangeSpec := { name := "setsChecks", fn := fun _ => fun
  | [d] => { results := [.lit (.bool true)], args := [d] }
  | _ => none }
def setsChecksRow : OpenClaim := { program := "ytpapikaeaodfgaa", sum := "23804ceed507877ba2da867895317b76628387392609a0019cae984320da18be", func := "bascule/basculelaw.SetsChecks", spec := "setsChecks", plainKeys := false, apart := false }
def SetsChecksSaid : Prop := setsChecksRow.holds Try.pinned (OpenSpec.ofChange setsChecksSpec)

/-- ITS FALSE NEIGHBOUR: 'it returns false'. Refute it at one input. -/
def setsChecksWrong : ChangeSpec := { name := "setsChecks", fn := fun _ => fun
  | [d] => { results := [.lit (.bool false)], args := [d] }
  | _ => none }
def SetsChecksWrongFalsely : Prop := setsChecksRow.holds Try.pinned (OpenSpec.ofChange setsChecksWrong)

/-- 'basculelaw.SetsBegins': WHATEVER THE INPUT: true; the input reads as it did. -/
def setsBeginsSpec : ChangeSpec := { name := "setsBegins", fn := fun _ => fun
  | [d] => { results := [.lit (.bool true)], args := [d] }
  | _ => none }
def setsBeginsRow : OpenClaim := { program := "ytpapikaeaodfgaa", sum := "23804ceed507877ba2da867895317b76628387392609a0019cae984320da18be", func := "bascule/basculelaw.SetsBegins", spec := "setsBegins", plainKeys := false, apart := false }
def SetsBeginsSaid : Prop := setsBeginsRow.holds Try.pinned (OpenSpec.ofChange setsBeginsSpec)

/-- ITS FALSE NEIGHBOUR: 'it returns false'. Refute it at one input. -/
def setsBeginsWrong : ChangeSpec := { name := "setsBegins", fn := fun _ => fun
  | [d] => { results := [.lit (.bool false)], args := [d] }
  | _ => none }
def SetsBeginsWrongFalsely : Prop := setsBeginsRow.holds Try.pinned (OpenSpec.ofChange setsBeginsWrong)

/-- 'basculelaw.SetsLives': WHATEVER THE INPUT: true; the input reads as it did. -/
def setsLivesSpec : ChangeSpec := { name := "setsLives", fn := fun _ => fun
  | [d1, d2, d3] => { results := [.lit (.bool true)], args := [d1, d2, d3] }
  | _ => none }
def setsLivesRow : OpenClaim := { program := "ytpapikaeaodfgaa", sum := "23804ceed507877ba2da867895317b76628387392609a0019cae984320da18be", func := "bascule/basculelaw.SetsLives", spec := "setsLives", plainKeys := false, apart := false }
def SetsLivesSaid : Prop := setsLivesRow.holds Try.pinned (OpenSpec.ofChange setsLivesSpec)

/-- ITS FALSE NEIGHBOUR: 'it returns false'. Refute it at one input. -/
def setsLivesWrong : ChangeSpec := { name := "setsLives", fn := fun _ => fun
  | [d1, d2, d3] => { results := [.lit (.bool false)], args := [d1, d2, d3] }
  | _ => none }
def SetsLivesWrongFalsely : Prop := setsLivesRow.holds Try.pinned (OpenSpec.ofChange setsLivesWrong)

/-- 'basculelaw.SetsTurns': WHATEVER THE INPUT: true; the input reads as it did. -/
def setsTurnsSpec : ChangeSpec := { name := "setsTurns", fn := fun _ => fun
  | [d1, d2, d3] => { results := [.lit (.bool true)], args := [d1, d2, d3] }
  | _ => none }
def setsTurnsRow : OpenClaim := { program := "ytpapikaeaodfgaa", sum := "23804ceed507877ba2da867895317b76628387392609a0019cae984320da18be", func := "bascule/basculelaw.SetsTurns", spec := "setsTurns", plainKeys := false, apart := false }
def SetsTurnsSaid : Prop := setsTurnsRow.holds Try.pinned (OpenSpec.ofChange setsTurnsSpec)

/-- ITS FALSE NEIGHBOUR: 'it returns false'. Refute it at one input. -/
def setsTurnsWrong : ChangeSpec := { name := "setsTurns", fn := fun _ => fun
  | [d1, d2, d3] => { results := [.lit (.bool false)], args := [d1, d2, d3] }
  | _ => none }
def SetsTurnsWrongFalsely : Prop := setsTurnsRow.holds Try.pinned (OpenSpec.ofChange setsTurnsWrong)

/-- 'basculelaw.GateChecks': WHATEVER THE INPUT: true; the input reads as it did. -/
def gateChecksSpec : ChangeSpec := { name := "gateChecks", fn := fun _ => fun
  | [d] => { results := [.lit (.bool true)], args := [d] }
  | _ => none }
def gateChecksRow : OpenClaim := { program := "ytpapikaeaodfgaa", sum := "23804ceed507877ba2da867895317b76628387392609a0019cae984320da18be", func := "bascule/basculelaw.GateChecks", spec := "gateChecks", plainKeys := false, apart := false }
def GateChecksSaid : Prop := gateChecksRow.holds Try.pinned (OpenSpec.ofChange gateChecksSpec)

/-- ITS FALSE NEIGHBOUR: 'it returns false'. Refute it at one input. -/
def gateChecksWrong : ChangeSpec := { name := "gateChecks", fn := fun _ => fun
  | [d] => { results := [.lit (.bool false)], args := [d] }
  | _ => none }
def GateChecksWrongFalsely : Prop := gateChecksRow.holds Try.pinned (OpenSpec.ofChange gateChecksWrong)

/-- 'basculelaw.GateOffers': WHATEVER THE INPUT: true; the input reads as it did. -/
def gateOffersSpec : ChangeSpec := { name := "gateOffers", fn := fun _ => fun
  | [d1, d2, d3, d4] => { results := [.lit (.bool true)], args := [d1, d2, d3, d4] }
  | _ => none }
def gateOffersRow : OpenClaim := { program := "ytpapikaeaodfgaa", sum := "23804ceed507877ba2da867895317b76628387392609a0019cae984320da18be", func := "bascule/basculelaw.GateOffers", spec := "gateOffers", plainKeys := false, apart := false }
def GateOffersSaid : Prop := gateOffersRow.holds Try.pinned (OpenSpec.ofChange gateOffersSpec)

/-- ITS FALSE NEIGHBOUR: 'it returns false'. Refute it at one input. -/
def gateOffersWrong : ChangeSpec := { name := "gateOffers", fn := fun _ => fun
  | [d1, d2, d3, d4] => { results := [.lit (.bool false)], args := [d1, d2, d3, d4] }
  | _ => none }
def GateOffersWrongFalsely : Prop := gateOffersRow.holds Try.pinned (OpenSpec.ofChange gateOffersWrong)

/-- 'basculelaw.GateTicks': WHATEVER THE INPUT: true; the input reads as it did. -/
def gateTicksSpec : ChangeSpec := { name := "gateTicks", fn := fun _ => fun
  | [d1, d2] => { results := [.lit (.bool true)], args := [d1, d2] }
  | _ => none }
def gateTicksRow : OpenClaim := { program := "ytpapikaeaodfgaa", sum := "23804ceed507877ba2da867895317b76628387392609a0019cae984320da18be", func := "bascule/basculelaw.GateTicks", spec := "gateTicks", plainKeys := false, apart := false }
def GateTicksSaid : Prop := gateTicksRow.holds Try.pinned (OpenSpec.ofChange gateTicksSpec)

/-- ITS FALSE NEIGHBOUR: 'it returns false'. Refute it at one input. -/
def gateTicksWrong : ChangeSpec := { name := "gateTicks", fn := fun _ => fun
  | [d1, d2] => { results := [.lit (.bool false)], args := [d1, d2] }
  | _ => none }
def GateTicksWrongFalsely : Prop := gateTicksRow.holds Try.pinned (OpenSpec.ofChange gateTicksWrong)

/-- 'basculelaw.WideShows': WHATEVER THE INPUT: true; the input reads as it did. -/
def wideShowsSpec : ChangeSpec := { name := "wideShows", fn := fun _ => fun
  | [d] => { results := [.lit (.bool true)], args := [d] }
  | _ => none }
def wideShowsRow : OpenClaim := { program := "ytpapikaeaodfgaa", sum := "23804ceed507877ba2da867895317b76628387392609a0019cae984320da18be", func := "bascule/basculelaw.WideShows", spec := "wideShows", named := ["math/bits.divideError", "math/bits.overflowError"], plainKeys := false, apart := false }
def WideShowsSaid : Prop := wideShowsRow.holds Try.pinned (OpenSpec.ofChange wideShowsSpec)

/-- ITS FALSE NEIGHBOUR: 'it returns false'. Refute it at one input. -/
def wideShowsWrong : ChangeSpec := { name := "wideShows", fn := fun _ => fun
  | [d] => { results := [.lit (.bool false)], args := [d] }
  | _ => none }
def WideShowsWrongFalsely : Prop := wideShowsRow.holds Try.pinned (OpenSpec.ofChange wideShowsWrong)

/-- 'basculelaw.GuardBegins': WHATEVER THE INPUT: true; the input reads as it did. -/
def guardBeginsSpec : ChangeSpec := { name := "guardBegins", fn := fun _ => fun
  | [d1, d2] => { results := [.lit (.bool true)], args := [d1, d2] }
  | _ => none }
def guardBeginsRow : OpenClaim := { program := "ytpapikaeaodfgaa", sum := "23804ceed507877ba2da867895317b76628387392609a0019cae984320da18be", func := "bascule/basculelaw.GuardBegins", spec := "guardBegins", unfollowed := true, recurses := true, plainKeys := false, apart := false }
def GuardBeginsSaid : Prop := guardBeginsRow.holds Try.pinned (OpenSpec.ofChange guardBeginsSpec)

/-- ITS FALSE NEIGHBOUR: 'it returns false'. Refute it at one input. -/
def guardBeginsWrong : ChangeSpec := { name := "guardBegins", fn := fun _ => fun
  | [d1, d2] => { results := [.lit (.bool false)], args := [d1, d2] }
  | _ => none }
def GuardBeginsWrongFalsely : Prop := guardBeginsRow.holds Try.pinned (OpenSpec.ofChange guardBeginsWrong)

/-- 'basculelaw.LoadChecks': WHATEVER THE INPUT: true; the input reads as it did. -/
def loadChecksSpec : ChangeSpec := { name := "loadChecks", fn := fun _ => fun
  | [d] => { results := [.lit (.bool true)], args := [d] }
  | _ => none }
def loadChecksRow : OpenClaim := { program := "ytpapikaeaodfgaa", sum := "23804ceed507877ba2da867895317b76628387392609a0019cae984320da18be", func := "bascule/basculelaw.LoadChecks", spec := "loadChecks", unfollowed := true, recurses := true, plainKeys := false, apart := false }
def LoadChecksSaid : Prop := loadChecksRow.holds Try.pinned (OpenSpec.ofChange loadChecksSpec)

/-- ITS FALSE NEIGHBOUR: 'it returns false'. Refute it at one input. -/
def loadChecksWrong : ChangeSpec := { name := "loadChecks", fn := fun _ => fun
  | [d] => { results := [.lit (.bool false)], args := [d] }
  | _ => none }
def LoadChecksWrongFalsely : Prop := loadChecksRow.holds Try.pinned (OpenSpec.ofChange loadChecksWrong)

/-- 'basculelaw.PaperEncodes': WHATEVER THE INPUT: true; the input reads as it did. -/
def paperEncodesSpec : ChangeSpec := { name := "paperEncodes", fn := fun _ => fun
  | [d] => { results := [.lit (.bool true)], args := [d] }
  | _ => none }
def paperEncodesRow : OpenClaim := { program := "ytpapikaeaodfgaa", sum := "23804ceed507877ba2da867895317b76628387392609a0019cae984320da18be", func := "bascule/basculelaw.PaperEncodes", spec := "paperEncodes", unfollowed := true, recurses := true, plainKeys := false, apart := false }
def PaperEncodesSaid : Prop := paperEncodesRow.holds Try.pinned (OpenSpec.ofChange paperEncodesSpec)

/-- ITS FALSE NEIGHBOUR: 'it returns false'. Refute it at one input. -/
def paperEncodesWrong : ChangeSpec := { name := "paperEncodes", fn := fun _ => fun
  | [d] => { results := [.lit (.bool false)], args := [d] }
  | _ => none }
def PaperEncodesWrongFalsely : Prop := paperEncodesRow.holds Try.pinned (OpenSpec.ofChange paperEncodesWrong)

/-- 'basculelaw.PaperDecodes': WHATEVER THE INPUT: true; the input reads as it did. -/
def paperDecodesSpec : ChangeSpec := { name := "paperDecodes", fn := fun _ => fun
  | [d] => { results := [.lit (.bool true)], args := [d] }
  | _ => none }
def paperDecodesRow : OpenClaim := { program := "ytpapikaeaodfgaa", sum := "23804ceed507877ba2da867895317b76628387392609a0019cae984320da18be", func := "bascule/basculelaw.PaperDecodes", spec := "paperDecodes", unfollowed := true, recurses := true, plainKeys := false, apart := false }
def PaperDecodesSaid : Prop := paperDecodesRow.holds Try.pinned (OpenSpec.ofChange paperDecodesSpec)

/-- ITS FALSE NEIGHBOUR: 'it returns false'. Refute it at one input. -/
def paperDecodesWrong : ChangeSpec := { name := "paperDecodes", fn := fun _ => fun
  | [d] => { results := [.lit (.bool false)], args := [d] }
  | _ => none }
def PaperDecodesWrongFalsely : Prop := paperDecodesRow.holds Try.pinned (OpenSpec.ofChange paperDecodesWrong)

/-- 'basculelaw.PostChecks': WHATEVER THE INPUT: true; the input reads as it did. -/
def postChecksSpec : ChangeSpec := { name := "postChecks", fn := fun _ => fun
  | [d] => { results := [.lit (.bool true)], args := [d] }
  | _ => none }
def postChecksRow : OpenClaim := { program := "ytpapikaeaodfgaa", sum := "23804ceed507877ba2da867895317b76628387392609a0019cae984320da18be", func := "bascule/basculelaw.PostChecks", spec := "postChecks", inPlace := ["internal/bytealg.Compare", "math/bits.Add64"], unfollowed := true, recurses := true, plainKeys := false, apart := false }
def PostChecksSaid : Prop := postChecksRow.holds Try.pinned (OpenSpec.ofChange postChecksSpec)

/-- ITS FALSE NEIGHBOUR: 'it returns false'. Refute it at one input. -/
def postChecksWrong : ChangeSpec := { name := "postChecks", fn := fun _ => fun
  | [d] => { results := [.lit (.bool false)], args := [d] }
  | _ => none }
def PostChecksWrongFalsely : Prop := postChecksRow.holds Try.pinned (OpenSpec.ofChange postChecksWrong)

/-- 'basculelaw.LoadEncodes': WHATEVER THE INPUT: true; the input reads as it did. -/
def loadEncodesSpec : ChangeSpec := { name := "loadEncodes", fn := fun _ => fun
  | [d] => { results := [.lit (.bool true)], args := [d] }
  | _ => none }
def loadEncodesRow : OpenClaim := { program := "ytpapikaeaodfgaa", sum := "23804ceed507877ba2da867895317b76628387392609a0019cae984320da18be", func := "bascule/basculelaw.LoadEncodes", spec := "loadEncodes", unfollowed := true, recurses := true, plainKeys := false, apart := false }
def LoadEncodesSaid : Prop := loadEncodesRow.holds Try.pinned (OpenSpec.ofChange loadEncodesSpec)

/-- ITS FALSE NEIGHBOUR: 'it returns false'. Refute it at one input. -/
def loadEncodesWrong : ChangeSpec := { name := "loadEncodes", fn := fun _ => fun
  | [d] => { results := [.lit (.bool false)], args := [d] }
  | _ => none }
def LoadEncodesWrongFalsely : Prop := loadEncodesRow.holds Try.pinned (OpenSpec.ofChange loadEncodesWrong)

/-- 'basculelaw.LoadDecodes': WHATEVER THE INPUT: true; the input reads as it did. -/
def loadDecodesSpec : ChangeSpec := { name := "loadDecodes", fn := fun _ => fun
  | [d] => { results := [.lit (.bool true)], args := [d] }
  | _ => none }
def loadDecodesRow : OpenClaim := { program := "ytpapikaeaodfgaa", sum := "23804ceed507877ba2da867895317b76628387392609a0019cae984320da18be", func := "bascule/basculelaw.LoadDecodes", spec := "loadDecodes", unfollowed := true, recurses := true, plainKeys := false, apart := false }
def LoadDecodesSaid : Prop := loadDecodesRow.holds Try.pinned (OpenSpec.ofChange loadDecodesSpec)

/-- ITS FALSE NEIGHBOUR: 'it returns false'. Refute it at one input. -/
def loadDecodesWrong : ChangeSpec := { name := "loadDecodes", fn := fun _ => fun
  | [d] => { results := [.lit (.bool false)], args := [d] }
  | _ => none }
def LoadDecodesWrongFalsely : Prop := loadDecodesRow.holds Try.pinned (OpenSpec.ofChange loadDecodesWrong)

/- THE SECOND FORM. 'bulk': how many values and letters a reading holds, each counted each time it is reached (what is shared counts as often as it is met; a slice's spare places count too). A statement '..UptoSaid' is the law's where the arguments, and the package variables that the reading takes, are together of bulk at most 1048576: NARROWER than '..Said'. Prove '..Said' where nothing that the law and all that it calls make is longer than what came in: it says more and counts as full. Else prove '..UptoSaid'. A law counts once. -/
mutual
def uptoBulk {H : Type} : DataW H → Nat
  | .lit (.string bytes) => bytes.length + 1
  | .lit _ => 1
  | .nil => 1
  | .ptr d => uptoBulk d + 1
  | .slice elems spare => uptoBulkAll elems + uptoBulkAll spare + 1
  | .agg parts => uptoBulkAll parts + 1
  | .iface _ d => uptoBulk d + 1
  | .map entries => uptoBulkEntries entries + 1
  | .held _ => 1
def uptoBulkAll {H : Type} : List (DataW H) → Nat
  | [] => 0
  | d :: r => uptoBulk d + uptoBulkAll r
def uptoBulkEntries {H : Type} : List (Lit × DataW H) → Nat
  | [] => 0
  | x :: r => uptoBulkEntry x + uptoBulkEntries r
def uptoBulkEntry {H : Type} : Lit × DataW H → Nat
  | (.string bytes, d) => bytes.length + uptoBulk d + 1
  | (_, d) => uptoBulk d + 1
 end
def uptoSmall : (H : Type) → List (DataW H) → Bool := fun _ ds => decide (uptoBulkAll ds ≤ 1048576)
def OpenSpec.upto (s : _root_.Go.ChangeSpec) : _root_.Go.OpenSpec := { _root_.Go.OpenSpec.ofChange s with cond := some uptoSmall }

/-- 'basculelaw.SetsChecks', WHERE WHAT IT READS IS OF BULK AT MOST 1048576: true; the input reads as it did. -/
def setsChecksUptoRow : OpenClaim := { program := "ytpapikaeaodfgaa", sum := "23804ceed507877ba2da867895317b76628387392609a0019cae984320da18be", func := "bascule/basculelaw.SetsChecks", spec := "setsChecks", plainKeys := false, apart := false, narrowed := true }
def SetsChecksUptoSaid : Prop := setsChecksUptoRow.holds Try.pinned (OpenSpec.upto setsChecksSpec)

/-- 'basculelaw.SetsBegins', WHERE WHAT IT READS IS OF BULK AT MOST 1048576: true; the input reads as it did. -/
def setsBeginsUptoRow : OpenClaim := { program := "ytpapikaeaodfgaa", sum := "23804ceed507877ba2da867895317b76628387392609a0019cae984320da18be", func := "bascule/basculelaw.SetsBegins", spec := "setsBegins", plainKeys := false, apart := false, narrowed := true }
def SetsBeginsUptoSaid : Prop := setsBeginsUptoRow.holds Try.pinned (OpenSpec.upto setsBeginsSpec)

/-- 'basculelaw.SetsLives', WHERE WHAT IT READS IS OF BULK AT MOST 1048576: true; the input reads as it did. -/
def setsLivesUptoRow : OpenClaim := { program := "ytpapikaeaodfgaa", sum := "23804ceed507877ba2da867895317b76628387392609a0019cae984320da18be", func := "bascule/basculelaw.SetsLives", spec := "setsLives", plainKeys := false, apart := false, narrowed := true }
def SetsLivesUptoSaid : Prop := setsLivesUptoRow.holds Try.pinned (OpenSpec.upto setsLivesSpec)

/-- 'basculelaw.SetsTurns', WHERE WHAT IT READS IS OF BULK AT MOST 1048576: true; the input reads as it did. -/
def setsTurnsUptoRow : OpenClaim := { program := "ytpapikaeaodfgaa", sum := "23804ceed507877ba2da867895317b76628387392609a0019cae984320da18be", func := "bascule/basculelaw.SetsTurns", spec := "setsTurns", plainKeys := false, apart := false, narrowed := true }
def SetsTurnsUptoSaid : Prop := setsTurnsUptoRow.holds Try.pinned (OpenSpec.upto setsTurnsSpec)

/-- 'basculelaw.GateChecks', WHERE WHAT IT READS IS OF BULK AT MOST 1048576: true; the input reads as it did. -/
def gateChecksUptoRow : OpenClaim := { program := "ytpapikaeaodfgaa", sum := "23804ceed507877ba2da867895317b76628387392609a0019cae984320da18be", func := "bascule/basculelaw.GateChecks", spec := "gateChecks", plainKeys := false, apart := false, narrowed := true }
def GateChecksUptoSaid : Prop := gateChecksUptoRow.holds Try.pinned (OpenSpec.upto gateChecksSpec)

/-- 'basculelaw.GateOffers', WHERE WHAT IT READS IS OF BULK AT MOST 1048576: true; the input reads as it did. -/
def gateOffersUptoRow : OpenClaim := { program := "ytpapikaeaodfgaa", sum := "23804ceed507877ba2da867895317b76628387392609a0019cae984320da18be", func := "bascule/basculelaw.GateOffers", spec := "gateOffers", plainKeys := false, apart := false, narrowed := true }
def GateOffersUptoSaid : Prop := gateOffersUptoRow.holds Try.pinned (OpenSpec.upto gateOffersSpec)

/-- 'basculelaw.GateTicks', WHERE WHAT IT READS IS OF BULK AT MOST 1048576: true; the input reads as it did. -/
def gateTicksUptoRow : OpenClaim := { program := "ytpapikaeaodfgaa", sum := "23804ceed507877ba2da867895317b76628387392609a0019cae984320da18be", func := "bascule/basculelaw.GateTicks", spec := "gateTicks", plainKeys := false, apart := false, narrowed := true }
def GateTicksUptoSaid : Prop := gateTicksUptoRow.holds Try.pinned (OpenSpec.upto gateTicksSpec)

/-- 'basculelaw.WideShows', WHERE WHAT IT READS IS OF BULK AT MOST 1048576: true; the input reads as it did. -/
def wideShowsUptoRow : OpenClaim := { program := "ytpapikaeaodfgaa", sum := "23804ceed507877ba2da867895317b76628387392609a0019cae984320da18be", func := "bascule/basculelaw.WideShows", spec := "wideShows", named := ["math/bits.divideError", "math/bits.overflowError"], plainKeys := false, apart := false, narrowed := true }
def WideShowsUptoSaid : Prop := wideShowsUptoRow.holds Try.pinned (OpenSpec.upto wideShowsSpec)

/-- 'basculelaw.GuardBegins', WHERE WHAT IT READS IS OF BULK AT MOST 1048576: true; the input reads as it did. -/
def guardBeginsUptoRow : OpenClaim := { program := "ytpapikaeaodfgaa", sum := "23804ceed507877ba2da867895317b76628387392609a0019cae984320da18be", func := "bascule/basculelaw.GuardBegins", spec := "guardBegins", unfollowed := true, recurses := true, plainKeys := false, apart := false, narrowed := true }
def GuardBeginsUptoSaid : Prop := guardBeginsUptoRow.holds Try.pinned (OpenSpec.upto guardBeginsSpec)

/-- 'basculelaw.LoadChecks', WHERE WHAT IT READS IS OF BULK AT MOST 1048576: true; the input reads as it did. -/
def loadChecksUptoRow : OpenClaim := { program := "ytpapikaeaodfgaa", sum := "23804ceed507877ba2da867895317b76628387392609a0019cae984320da18be", func := "bascule/basculelaw.LoadChecks", spec := "loadChecks", unfollowed := true, recurses := true, plainKeys := false, apart := false, narrowed := true }
def LoadChecksUptoSaid : Prop := loadChecksUptoRow.holds Try.pinned (OpenSpec.upto loadChecksSpec)

/-- 'basculelaw.PaperEncodes', WHERE WHAT IT READS IS OF BULK AT MOST 1048576: true; the input reads as it did. -/
def paperEncodesUptoRow : OpenClaim := { program := "ytpapikaeaodfgaa", sum := "23804ceed507877ba2da867895317b76628387392609a0019cae984320da18be", func := "bascule/basculelaw.PaperEncodes", spec := "paperEncodes", unfollowed := true, recurses := true, plainKeys := false, apart := false, narrowed := true }
def PaperEncodesUptoSaid : Prop := paperEncodesUptoRow.holds Try.pinned (OpenSpec.upto paperEncodesSpec)

/-- 'basculelaw.PaperDecodes', WHERE WHAT IT READS IS OF BULK AT MOST 1048576: true; the input reads as it did. -/
def paperDecodesUptoRow : OpenClaim := { program := "ytpapikaeaodfgaa", sum := "23804ceed507877ba2da867895317b76628387392609a0019cae984320da18be", func := "bascule/basculelaw.PaperDecodes", spec := "paperDecodes", unfollowed := true, recurses := true, plainKeys := false, apart := false, narrowed := true }
def PaperDecodesUptoSaid : Prop := paperDecodesUptoRow.holds Try.pinned (OpenSpec.upto paperDecodesSpec)

/-- 'basculelaw.PostChecks', WHERE WHAT IT READS IS OF BULK AT MOST 1048576: true; the input reads as it did. -/
def postChecksUptoRow : OpenClaim := { program := "ytpapikaeaodfgaa", sum := "23804ceed507877ba2da867895317b76628387392609a0019cae984320da18be", func := "bascule/basculelaw.PostChecks", spec := "postChecks", inPlace := ["internal/bytealg.Compare", "math/bits.Add64"], unfollowed := true, recurses := true, plainKeys := false, apart := false, narrowed := true }
def PostChecksUptoSaid : Prop := postChecksUptoRow.holds Try.pinned (OpenSpec.upto postChecksSpec)

/-- 'basculelaw.LoadEncodes', WHERE WHAT IT READS IS OF BULK AT MOST 1048576: true; the input reads as it did. -/
def loadEncodesUptoRow : OpenClaim := { program := "ytpapikaeaodfgaa", sum := "23804ceed507877ba2da867895317b76628387392609a0019cae984320da18be", func := "bascule/basculelaw.LoadEncodes", spec := "loadEncodes", unfollowed := true, recurses := true, plainKeys := false, apart := false, narrowed := true }
def LoadEncodesUptoSaid : Prop := loadEncodesUptoRow.holds Try.pinned (OpenSpec.upto loadEncodesSpec)

/-- 'basculelaw.LoadDecodes', WHERE WHAT IT READS IS OF BULK AT MOST 1048576: true; the input reads as it did. -/
def loadDecodesUptoRow : OpenClaim := { program := "ytpapikaeaodfgaa", sum := "23804ceed507877ba2da867895317b76628387392609a0019cae984320da18be", func := "bascule/basculelaw.LoadDecodes", spec := "loadDecodes", unfollowed := true, recurses := true, plainKeys := false, apart := false, narrowed := true }
def LoadDecodesUptoSaid : Prop := loadDecodesUptoRow.holds Try.pinned (OpenSpec.upto loadDecodesSpec)

end Rows
end Go.Proofs.Ytpapikaeaodfgaa
