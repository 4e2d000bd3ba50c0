/-
  No cell of these rows narrows 'for every input' (looked for: loops, veiled, ifaces, maps, wideKeys, modest, calm, conditions, laid).
  DERIVED. THE GIVEN ROWS OF THIS SEAT. 20 by the template 'for every input the law returns true; each argument reads behind the call as it read before'; 0 by the template 'total and deterministic' (their statements: YtebnjboimekljaaTotals.lean).
  GIVEN WITH THE SEED: the statements are not yours to turn. If you find one false, say at which input.
  Laid BY PROGRAM, IN A SANDBOX (cutbox-rows.mjs): the forced cells as the released guide's own fill.sh prints them over the translation 8fbd2af22b097f19… (all of the seat's roots in one cut). By AI agents, Wed Nov 11 2026. No macro, syntax, notation, axiom, sorry.
-/
import Derived.Test.YtebnjboimekljaaChecked
import GoSem.Claim
import GoSem.ClaimJoined
import GoSem.ClaimMapViews
import Derived.JoinedTies
import Derived.KernelRfl
namespace Go.Proofs.Ytebnjboimekljaa
/- THE CELL 'sum', in the pinned program and in every row, IS THE sha256 OF THE DUMP (.gsa) THAT YtebnjboimekljaaProg.lean LOADS. Nothing in Lean hashes anything: it is a label: what it is worth is what the hold of that sum in a sandbox is worth. -/
noncomputable def Try.pinned : Pinned := { name := "ytebnjboimekljaa", sum := "8fbd2af22b097f19ba02cc500bda3fdba68b4eae13ee27302207c65c5a71c447", checked := Try.checked }
namespace Rows
def none {H : Type} : Left H := { results := [], args := [] }

/-- 'basculelaw.WideTens': WHATEVER THE INPUT: true; the input reads as it did. -/
def wideTensSpec : ChangeSpec := { name := "wideTens", fn := fun _ => fun
  | [d] => { results := [.lit (.bool true)], args := [d] }
  | _ => none }
def wideTensRow : OpenClaim := { program := "ytebnjboimekljaa", sum := "8fbd2af22b097f19ba02cc500bda3fdba68b4eae13ee27302207c65c5a71c447", func := "bascule/basculelaw.WideTens", spec := "wideTens", inPlace := ["math/bits.Add64"], plainKeys := false, apart := false }
def WideTensSaid : Prop := wideTensRow.holds Try.pinned (OpenSpec.ofChange wideTensSpec)

/-- ITS FALSE NEIGHBOUR: 'it returns false'. Refute it at one input. -/
def wideTensWrong : ChangeSpec := { name := "wideTens", fn := fun _ => fun
  | [d] => { results := [.lit (.bool false)], args := [d] }
  | _ => none }
def WideTensWrongFalsely : Prop := wideTensRow.holds Try.pinned (OpenSpec.ofChange wideTensWrong)

/-- 'basculelaw.WideParses': WHATEVER THE INPUT: true; the input reads as it did. -/
def wideParsesSpec : ChangeSpec := { name := "wideParses", fn := fun _ => fun
  | [d] => { results := [.lit (.bool true)], args := [d] }
  | _ => none }
def wideParsesRow : OpenClaim := { program := "ytebnjboimekljaa", sum := "8fbd2af22b097f19ba02cc500bda3fdba68b4eae13ee27302207c65c5a71c447", func := "bascule/basculelaw.WideParses", spec := "wideParses", inPlace := ["math/bits.Add64"], plainKeys := false, apart := false }
def WideParsesSaid : Prop := wideParsesRow.holds Try.pinned (OpenSpec.ofChange wideParsesSpec)

/-- ITS FALSE NEIGHBOUR: 'it returns false'. Refute it at one input. -/
def wideParsesWrong : ChangeSpec := { name := "wideParses", fn := fun _ => fun
  | [d] => { results := [.lit (.bool false)], args := [d] }
  | _ => none }
def WideParsesWrongFalsely : Prop := wideParsesRow.holds Try.pinned (OpenSpec.ofChange wideParsesWrong)

/-- 'basculelaw.WideShows': WHATEVER THE INPUT: true; the input reads as it did. -/
def wideShowsSpec : ChangeSpec := { name := "wideShows", fn := fun _ => fun
  | [d] => { results := [.lit (.bool true)], args := [d] }
  | _ => none }
def wideShowsRow : OpenClaim := { program := "ytebnjboimekljaa", sum := "8fbd2af22b097f19ba02cc500bda3fdba68b4eae13ee27302207c65c5a71c447", func := "bascule/basculelaw.WideShows", spec := "wideShows", named := ["math/bits.divideError", "math/bits.overflowError"], plainKeys := false, apart := false }
def WideShowsSaid : Prop := wideShowsRow.holds Try.pinned (OpenSpec.ofChange wideShowsSpec)

/-- ITS FALSE NEIGHBOUR: 'it returns false'. Refute it at one input. -/
def wideShowsWrong : ChangeSpec := { name := "wideShows", fn := fun _ => fun
  | [d] => { results := [.lit (.bool false)], args := [d] }
  | _ => none }
def WideShowsWrongFalsely : Prop := wideShowsRow.holds Try.pinned (OpenSpec.ofChange wideShowsWrong)

/-- 'basculelaw.WideQuotients': WHATEVER THE INPUT: true; the input reads as it did. -/
def wideQuotientsSpec : ChangeSpec := { name := "wideQuotients", fn := fun _ => fun
  | [d1, d2] => { results := [.lit (.bool true)], args := [d1, d2] }
  | _ => none }
def wideQuotientsRow : OpenClaim := { program := "ytebnjboimekljaa", sum := "8fbd2af22b097f19ba02cc500bda3fdba68b4eae13ee27302207c65c5a71c447", func := "bascule/basculelaw.WideQuotients", spec := "wideQuotients", inPlace := ["math/bits.Add64", "math/bits.Sub64"], plainKeys := false, apart := false }
def WideQuotientsSaid : Prop := wideQuotientsRow.holds Try.pinned (OpenSpec.ofChange wideQuotientsSpec)

/-- ITS FALSE NEIGHBOUR: 'it returns false'. Refute it at one input. -/
def wideQuotientsWrong : ChangeSpec := { name := "wideQuotients", fn := fun _ => fun
  | [d1, d2] => { results := [.lit (.bool false)], args := [d1, d2] }
  | _ => none }
def WideQuotientsWrongFalsely : Prop := wideQuotientsRow.holds Try.pinned (OpenSpec.ofChange wideQuotientsWrong)

/-- 'basculelaw.ScaleUps': WHATEVER THE INPUT: true; the input reads as it did. -/
def scaleUpsSpec : ChangeSpec := { name := "scaleUps", fn := fun _ => fun
  | [d1, d2] => { results := [.lit (.bool true)], args := [d1, d2] }
  | _ => none }
def scaleUpsRow : OpenClaim := { program := "ytebnjboimekljaa", sum := "8fbd2af22b097f19ba02cc500bda3fdba68b4eae13ee27302207c65c5a71c447", func := "bascule/basculelaw.ScaleUps", spec := "scaleUps", inPlace := ["math/bits.Add64"], plainKeys := false, apart := false }
def ScaleUpsSaid : Prop := scaleUpsRow.holds Try.pinned (OpenSpec.ofChange scaleUpsSpec)

/-- ITS FALSE NEIGHBOUR: 'it returns false'. Refute it at one input. -/
def scaleUpsWrong : ChangeSpec := { name := "scaleUps", fn := fun _ => fun
  | [d1, d2] => { results := [.lit (.bool false)], args := [d1, d2] }
  | _ => none }
def ScaleUpsWrongFalsely : Prop := scaleUpsRow.holds Try.pinned (OpenSpec.ofChange scaleUpsWrong)

/-- 'basculelaw.ScaleDowns': WHATEVER THE INPUT: true; the input reads as it did. -/
def scaleDownsSpec : ChangeSpec := { name := "scaleDowns", fn := fun _ => fun
  | [d1, d2] => { results := [.lit (.bool true)], args := [d1, d2] }
  | _ => none }
def scaleDownsRow : OpenClaim := { program := "ytebnjboimekljaa", sum := "8fbd2af22b097f19ba02cc500bda3fdba68b4eae13ee27302207c65c5a71c447", func := "bascule/basculelaw.ScaleDowns", spec := "scaleDowns", inPlace := ["math/bits.Add64", "math/bits.Sub64"], plainKeys := false, apart := false }
def ScaleDownsSaid : Prop := scaleDownsRow.holds Try.pinned (OpenSpec.ofChange scaleDownsSpec)

/-- ITS FALSE NEIGHBOUR: 'it returns false'. Refute it at one input. -/
def scaleDownsWrong : ChangeSpec := { name := "scaleDowns", fn := fun _ => fun
  | [d1, d2] => { results := [.lit (.bool false)], args := [d1, d2] }
  | _ => none }
def ScaleDownsWrongFalsely : Prop := scaleDownsRow.holds Try.pinned (OpenSpec.ofChange scaleDownsWrong)

/-- 'basculelaw.CoinHolds': WHATEVER THE INPUT: true; the input reads as it did. -/
def coinHoldsSpec : ChangeSpec := { name := "coinHolds", fn := fun _ => fun
  | [d1, d2] => { results := [.lit (.bool true)], args := [d1, d2] }
  | _ => none }
def coinHoldsRow : OpenClaim := { program := "ytebnjboimekljaa", sum := "8fbd2af22b097f19ba02cc500bda3fdba68b4eae13ee27302207c65c5a71c447", func := "bascule/basculelaw.CoinHolds", spec := "coinHolds", inPlace := ["internal/bytealg.Compare", "math/bits.Add64"], plainKeys := false, apart := false }
def CoinHoldsSaid : Prop := coinHoldsRow.holds Try.pinned (OpenSpec.ofChange coinHoldsSpec)

/-- ITS FALSE NEIGHBOUR: 'it returns false'. Refute it at one input. -/
def coinHoldsWrong : ChangeSpec := { name := "coinHolds", fn := fun _ => fun
  | [d1, d2] => { results := [.lit (.bool false)], args := [d1, d2] }
  | _ => none }
def CoinHoldsWrongFalsely : Prop := coinHoldsRow.holds Try.pinned (OpenSpec.ofChange coinHoldsWrong)

/-- 'basculelaw.CoinMints': WHATEVER THE INPUT: true; the input reads as it did. -/
def coinMintsSpec : ChangeSpec := { name := "coinMints", fn := fun _ => fun
  | [d1, d2, d3] => { results := [.lit (.bool true)], args := [d1, d2, d3] }
  | _ => none }
def coinMintsRow : OpenClaim := { program := "ytebnjboimekljaa", sum := "8fbd2af22b097f19ba02cc500bda3fdba68b4eae13ee27302207c65c5a71c447", func := "bascule/basculelaw.CoinMints", spec := "coinMints", inPlace := ["internal/bytealg.Compare", "math/bits.Add64"], plainKeys := false, apart := false }
def CoinMintsSaid : Prop := coinMintsRow.holds Try.pinned (OpenSpec.ofChange coinMintsSpec)

/-- ITS FALSE NEIGHBOUR: 'it returns false'. Refute it at one input. -/
def coinMintsWrong : ChangeSpec := { name := "coinMints", fn := fun _ => fun
  | [d1, d2, d3] => { results := [.lit (.bool false)], args := [d1, d2, d3] }
  | _ => none }
def CoinMintsWrongFalsely : Prop := coinMintsRow.holds Try.pinned (OpenSpec.ofChange coinMintsWrong)

/-- 'basculelaw.CoinBurns': WHATEVER THE INPUT: true; the input reads as it did. -/
def coinBurnsSpec : ChangeSpec := { name := "coinBurns", fn := fun _ => fun
  | [d1, d2, d3] => { results := [.lit (.bool true)], args := [d1, d2, d3] }
  | _ => none }
def coinBurnsRow : OpenClaim := { program := "ytebnjboimekljaa", sum := "8fbd2af22b097f19ba02cc500bda3fdba68b4eae13ee27302207c65c5a71c447", func := "bascule/basculelaw.CoinBurns", spec := "coinBurns", inPlace := ["internal/bytealg.Compare", "math/bits.Add64", "math/bits.Sub64"], plainKeys := false, apart := false }
def CoinBurnsSaid : Prop := coinBurnsRow.holds Try.pinned (OpenSpec.ofChange coinBurnsSpec)

/-- ITS FALSE NEIGHBOUR: 'it returns false'. Refute it at one input. -/
def coinBurnsWrong : ChangeSpec := { name := "coinBurns", fn := fun _ => fun
  | [d1, d2, d3] => { results := [.lit (.bool false)], args := [d1, d2, d3] }
  | _ => none }
def CoinBurnsWrongFalsely : Prop := coinBurnsRow.holds Try.pinned (OpenSpec.ofChange coinBurnsWrong)

/-- 'basculelaw.CoinMoves': WHATEVER THE INPUT: true; the input reads as it did. -/
def coinMovesSpec : ChangeSpec := { name := "coinMoves", fn := fun _ => fun
  | [d1, d2, d3, d4] => { results := [.lit (.bool true)], args := [d1, d2, d3, d4] }
  | _ => none }
def coinMovesRow : OpenClaim := { program := "ytebnjboimekljaa", sum := "8fbd2af22b097f19ba02cc500bda3fdba68b4eae13ee27302207c65c5a71c447", func := "bascule/basculelaw.CoinMoves", spec := "coinMoves", inPlace := ["internal/bytealg.Compare", "math/bits.Add64", "math/bits.Sub64"], plainKeys := false, apart := false }
def CoinMovesSaid : Prop := coinMovesRow.holds Try.pinned (OpenSpec.ofChange coinMovesSpec)

/-- ITS FALSE NEIGHBOUR: 'it returns false'. Refute it at one input. -/
def coinMovesWrong : ChangeSpec := { name := "coinMoves", fn := fun _ => fun
  | [d1, d2, d3, d4] => { results := [.lit (.bool false)], args := [d1, d2, d3, d4] }
  | _ => none }
def CoinMovesWrongFalsely : Prop := coinMovesRow.holds Try.pinned (OpenSpec.ofChange coinMovesWrong)

/-- 'basculelaw.FieldSums': WHATEVER THE INPUT: true; the input reads as it did. -/
def fieldSumsSpec : ChangeSpec := { name := "fieldSums", fn := fun _ => fun
  | [d1, d2, d3] => { results := [.lit (.bool true)], args := [d1, d2, d3] }
  | _ => none }
def fieldSumsRow : OpenClaim := { program := "ytebnjboimekljaa", sum := "8fbd2af22b097f19ba02cc500bda3fdba68b4eae13ee27302207c65c5a71c447", func := "bascule/basculelaw.FieldSums", spec := "fieldSums", inPlace := ["math/bits.Add64", "math/bits.Sub64"], unfollowed := true, recurses := true, plainKeys := false, apart := false }
def FieldSumsSaid : Prop := fieldSumsRow.holds Try.pinned (OpenSpec.ofChange fieldSumsSpec)

/-- ITS FALSE NEIGHBOUR: 'it returns false'. Refute it at one input. -/
def fieldSumsWrong : ChangeSpec := { name := "fieldSums", fn := fun _ => fun
  | [d1, d2, d3] => { results := [.lit (.bool false)], args := [d1, d2, d3] }
  | _ => none }
def FieldSumsWrongFalsely : Prop := fieldSumsRow.holds Try.pinned (OpenSpec.ofChange fieldSumsWrong)

/-- 'basculelaw.FieldProducts': WHATEVER THE INPUT: true; the input reads as it did. -/
def fieldProductsSpec : ChangeSpec := { name := "fieldProducts", fn := fun _ => fun
  | [d1, d2, d3] => { results := [.lit (.bool true)], args := [d1, d2, d3] }
  | _ => none }
def fieldProductsRow : OpenClaim := { program := "ytebnjboimekljaa", sum := "8fbd2af22b097f19ba02cc500bda3fdba68b4eae13ee27302207c65c5a71c447", func := "bascule/basculelaw.FieldProducts", spec := "fieldProducts", inPlace := ["math/bits.Add64", "math/bits.Sub64"], unfollowed := true, recurses := true, plainKeys := false, apart := false }
def FieldProductsSaid : Prop := fieldProductsRow.holds Try.pinned (OpenSpec.ofChange fieldProductsSpec)

/-- ITS FALSE NEIGHBOUR: 'it returns false'. Refute it at one input. -/
def fieldProductsWrong : ChangeSpec := { name := "fieldProducts", fn := fun _ => fun
  | [d1, d2, d3] => { results := [.lit (.bool false)], args := [d1, d2, d3] }
  | _ => none }
def FieldProductsWrongFalsely : Prop := fieldProductsRow.holds Try.pinned (OpenSpec.ofChange fieldProductsWrong)

/-- 'basculelaw.FieldPowers': WHATEVER THE INPUT: true; the input reads as it did. -/
def fieldPowersSpec : ChangeSpec := { name := "fieldPowers", fn := fun _ => fun
  | [d1, d2, d3] => { results := [.lit (.bool true)], args := [d1, d2, d3] }
  | _ => none }
def fieldPowersRow : OpenClaim := { program := "ytebnjboimekljaa", sum := "8fbd2af22b097f19ba02cc500bda3fdba68b4eae13ee27302207c65c5a71c447", func := "bascule/basculelaw.FieldPowers", spec := "fieldPowers", inPlace := ["math/bits.Add64", "math/bits.Sub64"], unfollowed := true, recurses := true, plainKeys := false, apart := false }
def FieldPowersSaid : Prop := fieldPowersRow.holds Try.pinned (OpenSpec.ofChange fieldPowersSpec)

/-- ITS FALSE NEIGHBOUR: 'it returns false'. Refute it at one input. -/
def fieldPowersWrong : ChangeSpec := { name := "fieldPowers", fn := fun _ => fun
  | [d1, d2, d3] => { results := [.lit (.bool false)], args := [d1, d2, d3] }
  | _ => none }
def FieldPowersWrongFalsely : Prop := fieldPowersRow.holds Try.pinned (OpenSpec.ofChange fieldPowersWrong)

/-- 'basculelaw.FieldInverses': WHATEVER THE INPUT: true; the input reads as it did. -/
def fieldInversesSpec : ChangeSpec := { name := "fieldInverses", fn := fun _ => fun
  | [d1, d2] => { results := [.lit (.bool true)], args := [d1, d2] }
  | _ => none }
def fieldInversesRow : OpenClaim := { program := "ytebnjboimekljaa", sum := "8fbd2af22b097f19ba02cc500bda3fdba68b4eae13ee27302207c65c5a71c447", func := "bascule/basculelaw.FieldInverses", spec := "fieldInverses", inPlace := ["math/bits.Add64", "math/bits.Sub64"], unfollowed := true, recurses := true, plainKeys := false, apart := false }
def FieldInversesSaid : Prop := fieldInversesRow.holds Try.pinned (OpenSpec.ofChange fieldInversesSpec)

/-- ITS FALSE NEIGHBOUR: 'it returns false'. Refute it at one input. -/
def fieldInversesWrong : ChangeSpec := { name := "fieldInverses", fn := fun _ => fun
  | [d1, d2] => { results := [.lit (.bool false)], args := [d1, d2] }
  | _ => none }
def FieldInversesWrongFalsely : Prop := fieldInversesRow.holds Try.pinned (OpenSpec.ofChange fieldInversesWrong)

/-- 'basculelaw.GateTicks': WHATEVER THE INPUT: true; the input reads as it did. -/
def gateTicksSpec : ChangeSpec := { name := "gateTicks", fn := fun _ => fun
  | [d1, d2] => { results := [.lit (.bool true)], args := [d1, d2] }
  | _ => none }
def gateTicksRow : OpenClaim := { program := "ytebnjboimekljaa", sum := "8fbd2af22b097f19ba02cc500bda3fdba68b4eae13ee27302207c65c5a71c447", func := "bascule/basculelaw.GateTicks", spec := "gateTicks", plainKeys := false, apart := false }
def GateTicksSaid : Prop := gateTicksRow.holds Try.pinned (OpenSpec.ofChange gateTicksSpec)

/-- ITS FALSE NEIGHBOUR: 'it returns false'. Refute it at one input. -/
def gateTicksWrong : ChangeSpec := { name := "gateTicks", fn := fun _ => fun
  | [d1, d2] => { results := [.lit (.bool false)], args := [d1, d2] }
  | _ => none }
def GateTicksWrongFalsely : Prop := gateTicksRow.holds Try.pinned (OpenSpec.ofChange gateTicksWrong)

/-- 'basculelaw.SetsLives': WHATEVER THE INPUT: true; the input reads as it did. -/
def setsLivesSpec : ChangeSpec := { name := "setsLives", fn := fun _ => fun
  | [d1, d2, d3] => { results := [.lit (.bool true)], args := [d1, d2, d3] }
  | _ => none }
def setsLivesRow : OpenClaim := { program := "ytebnjboimekljaa", sum := "8fbd2af22b097f19ba02cc500bda3fdba68b4eae13ee27302207c65c5a71c447", func := "bascule/basculelaw.SetsLives", spec := "setsLives", plainKeys := false, apart := false }
def SetsLivesSaid : Prop := setsLivesRow.holds Try.pinned (OpenSpec.ofChange setsLivesSpec)

/-- ITS FALSE NEIGHBOUR: 'it returns false'. Refute it at one input. -/
def setsLivesWrong : ChangeSpec := { name := "setsLives", fn := fun _ => fun
  | [d1, d2, d3] => { results := [.lit (.bool false)], args := [d1, d2, d3] }
  | _ => none }
def SetsLivesWrongFalsely : Prop := setsLivesRow.holds Try.pinned (OpenSpec.ofChange setsLivesWrong)

/-- 'basculelaw.SetsTurns': WHATEVER THE INPUT: true; the input reads as it did. -/
def setsTurnsSpec : ChangeSpec := { name := "setsTurns", fn := fun _ => fun
  | [d1, d2, d3] => { results := [.lit (.bool true)], args := [d1, d2, d3] }
  | _ => none }
def setsTurnsRow : OpenClaim := { program := "ytebnjboimekljaa", sum := "8fbd2af22b097f19ba02cc500bda3fdba68b4eae13ee27302207c65c5a71c447", func := "bascule/basculelaw.SetsTurns", spec := "setsTurns", plainKeys := false, apart := false }
def SetsTurnsSaid : Prop := setsTurnsRow.holds Try.pinned (OpenSpec.ofChange setsTurnsSpec)

/-- ITS FALSE NEIGHBOUR: 'it returns false'. Refute it at one input. -/
def setsTurnsWrong : ChangeSpec := { name := "setsTurns", fn := fun _ => fun
  | [d1, d2, d3] => { results := [.lit (.bool false)], args := [d1, d2, d3] }
  | _ => none }
def SetsTurnsWrongFalsely : Prop := setsTurnsRow.holds Try.pinned (OpenSpec.ofChange setsTurnsWrong)

/-- 'basculelaw.ForkLines': WHATEVER THE INPUT: true; the input reads as it did. -/
def forkLinesSpec : ChangeSpec := { name := "forkLines", fn := fun _ => fun
  | [d1, d2] => { results := [.lit (.bool true)], args := [d1, d2] }
  | _ => none }
def forkLinesRow : OpenClaim := { program := "ytebnjboimekljaa", sum := "8fbd2af22b097f19ba02cc500bda3fdba68b4eae13ee27302207c65c5a71c447", func := "bascule/basculelaw.ForkLines", spec := "forkLines", recurses := true, plainKeys := false, apart := false }
def ForkLinesSaid : Prop := forkLinesRow.holds Try.pinned (OpenSpec.ofChange forkLinesSpec)

/-- ITS FALSE NEIGHBOUR: 'it returns false'. Refute it at one input. -/
def forkLinesWrong : ChangeSpec := { name := "forkLines", fn := fun _ => fun
  | [d1, d2] => { results := [.lit (.bool false)], args := [d1, d2] }
  | _ => none }
def ForkLinesWrongFalsely : Prop := forkLinesRow.holds Try.pinned (OpenSpec.ofChange forkLinesWrong)

/-- 'basculelaw.ForkGrows': WHATEVER THE INPUT: true; the input reads as it did. -/
def forkGrowsSpec : ChangeSpec := { name := "forkGrows", fn := fun _ => fun
  | [d1, d2, d3] => { results := [.lit (.bool true)], args := [d1, d2, d3] }
  | _ => none }
def forkGrowsRow : OpenClaim := { program := "ytebnjboimekljaa", sum := "8fbd2af22b097f19ba02cc500bda3fdba68b4eae13ee27302207c65c5a71c447", func := "bascule/basculelaw.ForkGrows", spec := "forkGrows", recurses := true, plainKeys := false, apart := false }
def ForkGrowsSaid : Prop := forkGrowsRow.holds Try.pinned (OpenSpec.ofChange forkGrowsSpec)

/-- ITS FALSE NEIGHBOUR: 'it returns false'. Refute it at one input. -/
def forkGrowsWrong : ChangeSpec := { name := "forkGrows", fn := fun _ => fun
  | [d1, d2, d3] => { results := [.lit (.bool false)], args := [d1, d2, d3] }
  | _ => none }
def ForkGrowsWrongFalsely : Prop := forkGrowsRow.holds Try.pinned (OpenSpec.ofChange forkGrowsWrong)

/-- 'basculelaw.ForkSettles': WHATEVER THE INPUT: true; the input reads as it did. -/
def forkSettlesSpec : ChangeSpec := { name := "forkSettles", fn := fun _ => fun
  | [d1, d2] => { results := [.lit (.bool true)], args := [d1, d2] }
  | _ => none }
def forkSettlesRow : OpenClaim := { program := "ytebnjboimekljaa", sum := "8fbd2af22b097f19ba02cc500bda3fdba68b4eae13ee27302207c65c5a71c447", func := "bascule/basculelaw.ForkSettles", spec := "forkSettles", recurses := true, plainKeys := false, apart := false }
def ForkSettlesSaid : Prop := forkSettlesRow.holds Try.pinned (OpenSpec.ofChange forkSettlesSpec)

/-- ITS FALSE NEIGHBOUR: 'it returns false'. Refute it at one input. -/
def forkSettlesWrong : ChangeSpec := { name := "forkSettles", fn := fun _ => fun
  | [d1, d2] => { results := [.lit (.bool false)], args := [d1, d2] }
  | _ => none }
def ForkSettlesWrongFalsely : Prop := forkSettlesRow.holds Try.pinned (OpenSpec.ofChange forkSettlesWrong)

/- THE SECOND FORM. 'bulk': how many values and letters a reading holds, each counted each time it is reached (what is shared counts as often as it is met; a slice's spare places count too). A statement '..UptoSaid' is the law's where the arguments, and the package variables that the reading takes, are together of bulk at most 1048576: NARROWER than '..Said'. Prove '..Said' where nothing that the law and all that it calls make is longer than what came in: it says more and counts as full. Else prove '..UptoSaid'. A law counts once. -/
mutual
def uptoBulk {H : Type} : DataW H → Nat
  | .lit (.string bytes) => bytes.length + 1
  | .lit _ => 1
  | .nil => 1
  | .ptr d => uptoBulk d + 1
  | .slice elems spare => uptoBulkAll elems + uptoBulkAll spare + 1
  | .agg parts => uptoBulkAll parts + 1
  | .iface _ d => uptoBulk d + 1
  | .map entries => uptoBulkEntries entries + 1
  | .held _ => 1
def uptoBulkAll {H : Type} : List (DataW H) → Nat
  | [] => 0
  | d :: r => uptoBulk d + uptoBulkAll r
def uptoBulkEntries {H : Type} : List (Lit × DataW H) → Nat
  | [] => 0
  | x :: r => uptoBulkEntry x + uptoBulkEntries r
def uptoBulkEntry {H : Type} : Lit × DataW H → Nat
  | (.string bytes, d) => bytes.length + uptoBulk d + 1
  | (_, d) => uptoBulk d + 1
 end
def uptoSmall : (H : Type) → List (DataW H) → Bool := fun _ ds => decide (uptoBulkAll ds ≤ 1048576)
def OpenSpec.upto (s : _root_.Go.ChangeSpec) : _root_.Go.OpenSpec := { _root_.Go.OpenSpec.ofChange s with cond := some uptoSmall }

/-- 'basculelaw.WideTens', WHERE WHAT IT READS IS OF BULK AT MOST 1048576: true; the input reads as it did. -/
def wideTensUptoRow : OpenClaim := { program := "ytebnjboimekljaa", sum := "8fbd2af22b097f19ba02cc500bda3fdba68b4eae13ee27302207c65c5a71c447", func := "bascule/basculelaw.WideTens", spec := "wideTens", inPlace := ["math/bits.Add64"], plainKeys := false, apart := false, narrowed := true }
def WideTensUptoSaid : Prop := wideTensUptoRow.holds Try.pinned (OpenSpec.upto wideTensSpec)

/-- 'basculelaw.WideParses', WHERE WHAT IT READS IS OF BULK AT MOST 1048576: true; the input reads as it did. -/
def wideParsesUptoRow : OpenClaim := { program := "ytebnjboimekljaa", sum := "8fbd2af22b097f19ba02cc500bda3fdba68b4eae13ee27302207c65c5a71c447", func := "bascule/basculelaw.WideParses", spec := "wideParses", inPlace := ["math/bits.Add64"], plainKeys := false, apart := false, narrowed := true }
def WideParsesUptoSaid : Prop := wideParsesUptoRow.holds Try.pinned (OpenSpec.upto wideParsesSpec)

/-- 'basculelaw.WideShows', WHERE WHAT IT READS IS OF BULK AT MOST 1048576: true; the input reads as it did. -/
def wideShowsUptoRow : OpenClaim := { program := "ytebnjboimekljaa", sum := "8fbd2af22b097f19ba02cc500bda3fdba68b4eae13ee27302207c65c5a71c447", func := "bascule/basculelaw.WideShows", spec := "wideShows", named := ["math/bits.divideError", "math/bits.overflowError"], plainKeys := false, apart := false, narrowed := true }
def WideShowsUptoSaid : Prop := wideShowsUptoRow.holds Try.pinned (OpenSpec.upto wideShowsSpec)

/-- 'basculelaw.WideQuotients', WHERE WHAT IT READS IS OF BULK AT MOST 1048576: true; the input reads as it did. -/
def wideQuotientsUptoRow : OpenClaim := { program := "ytebnjboimekljaa", sum := "8fbd2af22b097f19ba02cc500bda3fdba68b4eae13ee27302207c65c5a71c447", func := "bascule/basculelaw.WideQuotients", spec := "wideQuotients", inPlace := ["math/bits.Add64", "math/bits.Sub64"], plainKeys := false, apart := false, narrowed := true }
def WideQuotientsUptoSaid : Prop := wideQuotientsUptoRow.holds Try.pinned (OpenSpec.upto wideQuotientsSpec)

/-- 'basculelaw.ScaleUps', WHERE WHAT IT READS IS OF BULK AT MOST 1048576: true; the input reads as it did. -/
def scaleUpsUptoRow : OpenClaim := { program := "ytebnjboimekljaa", sum := "8fbd2af22b097f19ba02cc500bda3fdba68b4eae13ee27302207c65c5a71c447", func := "bascule/basculelaw.ScaleUps", spec := "scaleUps", inPlace := ["math/bits.Add64"], plainKeys := false, apart := false, narrowed := true }
def ScaleUpsUptoSaid : Prop := scaleUpsUptoRow.holds Try.pinned (OpenSpec.upto scaleUpsSpec)

/-- 'basculelaw.ScaleDowns', WHERE WHAT IT READS IS OF BULK AT MOST 1048576: true; the input reads as it did. -/
def scaleDownsUptoRow : OpenClaim := { program := "ytebnjboimekljaa", sum := "8fbd2af22b097f19ba02cc500bda3fdba68b4eae13ee27302207c65c5a71c447", func := "bascule/basculelaw.ScaleDowns", spec := "scaleDowns", inPlace := ["math/bits.Add64", "math/bits.Sub64"], plainKeys := false, apart := false, narrowed := true }
def ScaleDownsUptoSaid : Prop := scaleDownsUptoRow.holds Try.pinned (OpenSpec.upto scaleDownsSpec)

/-- 'basculelaw.CoinHolds', WHERE WHAT IT READS IS OF BULK AT MOST 1048576: true; the input reads as it did. -/
def coinHoldsUptoRow : OpenClaim := { program := "ytebnjboimekljaa", sum := "8fbd2af22b097f19ba02cc500bda3fdba68b4eae13ee27302207c65c5a71c447", func := "bascule/basculelaw.CoinHolds", spec := "coinHolds", inPlace := ["internal/bytealg.Compare", "math/bits.Add64"], plainKeys := false, apart := false, narrowed := true }
def CoinHoldsUptoSaid : Prop := coinHoldsUptoRow.holds Try.pinned (OpenSpec.upto coinHoldsSpec)

/-- 'basculelaw.CoinMints', WHERE WHAT IT READS IS OF BULK AT MOST 1048576: true; the input reads as it did. -/
def coinMintsUptoRow : OpenClaim := { program := "ytebnjboimekljaa", sum := "8fbd2af22b097f19ba02cc500bda3fdba68b4eae13ee27302207c65c5a71c447", func := "bascule/basculelaw.CoinMints", spec := "coinMints", inPlace := ["internal/bytealg.Compare", "math/bits.Add64"], plainKeys := false, apart := false, narrowed := true }
def CoinMintsUptoSaid : Prop := coinMintsUptoRow.holds Try.pinned (OpenSpec.upto coinMintsSpec)

/-- 'basculelaw.CoinBurns', WHERE WHAT IT READS IS OF BULK AT MOST 1048576: true; the input reads as it did. -/
def coinBurnsUptoRow : OpenClaim := { program := "ytebnjboimekljaa", sum := "8fbd2af22b097f19ba02cc500bda3fdba68b4eae13ee27302207c65c5a71c447", func := "bascule/basculelaw.CoinBurns", spec := "coinBurns", inPlace := ["internal/bytealg.Compare", "math/bits.Add64", "math/bits.Sub64"], plainKeys := false, apart := false, narrowed := true }
def CoinBurnsUptoSaid : Prop := coinBurnsUptoRow.holds Try.pinned (OpenSpec.upto coinBurnsSpec)

/-- 'basculelaw.CoinMoves', WHERE WHAT IT READS IS OF BULK AT MOST 1048576: true; the input reads as it did. -/
def coinMovesUptoRow : OpenClaim := { program := "ytebnjboimekljaa", sum := "8fbd2af22b097f19ba02cc500bda3fdba68b4eae13ee27302207c65c5a71c447", func := "bascule/basculelaw.CoinMoves", spec := "coinMoves", inPlace := ["internal/bytealg.Compare", "math/bits.Add64", "math/bits.Sub64"], plainKeys := false, apart := false, narrowed := true }
def CoinMovesUptoSaid : Prop := coinMovesUptoRow.holds Try.pinned (OpenSpec.upto coinMovesSpec)

/-- 'basculelaw.FieldSums', WHERE WHAT IT READS IS OF BULK AT MOST 1048576: true; the input reads as it did. -/
def fieldSumsUptoRow : OpenClaim := { program := "ytebnjboimekljaa", sum := "8fbd2af22b097f19ba02cc500bda3fdba68b4eae13ee27302207c65c5a71c447", func := "bascule/basculelaw.FieldSums", spec := "fieldSums", inPlace := ["math/bits.Add64", "math/bits.Sub64"], unfollowed := true, recurses := true, plainKeys := false, apart := false, narrowed := true }
def FieldSumsUptoSaid : Prop := fieldSumsUptoRow.holds Try.pinned (OpenSpec.upto fieldSumsSpec)

/-- 'basculelaw.FieldProducts', WHERE WHAT IT READS IS OF BULK AT MOST 1048576: true; the input reads as it did. -/
def fieldProductsUptoRow : OpenClaim := { program := "ytebnjboimekljaa", sum := "8fbd2af22b097f19ba02cc500bda3fdba68b4eae13ee27302207c65c5a71c447", func := "bascule/basculelaw.FieldProducts", spec := "fieldProducts", inPlace := ["math/bits.Add64", "math/bits.Sub64"], unfollowed := true, recurses := true, plainKeys := false, apart := false, narrowed := true }
def FieldProductsUptoSaid : Prop := fieldProductsUptoRow.holds Try.pinned (OpenSpec.upto fieldProductsSpec)

/-- 'basculelaw.FieldPowers', WHERE WHAT IT READS IS OF BULK AT MOST 1048576: true; the input reads as it did. -/
def fieldPowersUptoRow : OpenClaim := { program := "ytebnjboimekljaa", sum := "8fbd2af22b097f19ba02cc500bda3fdba68b4eae13ee27302207c65c5a71c447", func := "bascule/basculelaw.FieldPowers", spec := "fieldPowers", inPlace := ["math/bits.Add64", "math/bits.Sub64"], unfollowed := true, recurses := true, plainKeys := false, apart := false, narrowed := true }
def FieldPowersUptoSaid : Prop := fieldPowersUptoRow.holds Try.pinned (OpenSpec.upto fieldPowersSpec)

/-- 'basculelaw.FieldInverses', WHERE WHAT IT READS IS OF BULK AT MOST 1048576: true; the input reads as it did. -/
def fieldInversesUptoRow : OpenClaim := { program := "ytebnjboimekljaa", sum := "8fbd2af22b097f19ba02cc500bda3fdba68b4eae13ee27302207c65c5a71c447", func := "bascule/basculelaw.FieldInverses", spec := "fieldInverses", inPlace := ["math/bits.Add64", "math/bits.Sub64"], unfollowed := true, recurses := true, plainKeys := false, apart := false, narrowed := true }
def FieldInversesUptoSaid : Prop := fieldInversesUptoRow.holds Try.pinned (OpenSpec.upto fieldInversesSpec)

/-- 'basculelaw.GateTicks', WHERE WHAT IT READS IS OF BULK AT MOST 1048576: true; the input reads as it did. -/
def gateTicksUptoRow : OpenClaim := { program := "ytebnjboimekljaa", sum := "8fbd2af22b097f19ba02cc500bda3fdba68b4eae13ee27302207c65c5a71c447", func := "bascule/basculelaw.GateTicks", spec := "gateTicks", plainKeys := false, apart := false, narrowed := true }
def GateTicksUptoSaid : Prop := gateTicksUptoRow.holds Try.pinned (OpenSpec.upto gateTicksSpec)

/-- 'basculelaw.SetsLives', WHERE WHAT IT READS IS OF BULK AT MOST 1048576: true; the input reads as it did. -/
def setsLivesUptoRow : OpenClaim := { program := "ytebnjboimekljaa", sum := "8fbd2af22b097f19ba02cc500bda3fdba68b4eae13ee27302207c65c5a71c447", func := "bascule/basculelaw.SetsLives", spec := "setsLives", plainKeys := false, apart := false, narrowed := true }
def SetsLivesUptoSaid : Prop := setsLivesUptoRow.holds Try.pinned (OpenSpec.upto setsLivesSpec)

/-- 'basculelaw.SetsTurns', WHERE WHAT IT READS IS OF BULK AT MOST 1048576: true; the input reads as it did. -/
def setsTurnsUptoRow : OpenClaim := { program := "ytebnjboimekljaa", sum := "8fbd2af22b097f19ba02cc500bda3fdba68b4eae13ee27302207c65c5a71c447", func := "bascule/basculelaw.SetsTurns", spec := "setsTurns", plainKeys := false, apart := false, narrowed := true }
def SetsTurnsUptoSaid : Prop := setsTurnsUptoRow.holds Try.pinned (OpenSpec.upto setsTurnsSpec)

/-- 'basculelaw.ForkLines', WHERE WHAT IT READS IS OF BULK AT MOST 1048576: true; the input reads as it did. -/
def forkLinesUptoRow : OpenClaim := { program := "ytebnjboimekljaa", sum := "8fbd2af22b097f19ba02cc500bda3fdba68b4eae13ee27302207c65c5a71c447", func := "bascule/basculelaw.ForkLines", spec := "forkLines", recurses := true, plainKeys := false, apart := false, narrowed := true }
def ForkLinesUptoSaid : Prop := forkLinesUptoRow.holds Try.pinned (OpenSpec.upto forkLinesSpec)

/-- 'basculelaw.ForkGrows', WHERE WHAT IT READS IS OF BULK AT MOST 1048576: true; the input reads as it did. -/
def forkGrowsUptoRow : OpenClaim := { program := "ytebnjboimekljaa", sum := "8fbd2af22b097f19ba02cc500bda3fdba68b4eae13ee27302207c65c5a71c447", func := "bascule/basculelaw.ForkGrows", spec := "forkGrows", recurses := true, plainKeys := false, apart := false, narrowed := true }
def ForkGrowsUptoSaid : Prop := forkGrowsUptoRow.holds Try.pinned (OpenSpec.upto forkGrowsSpec)

/-- 'basculelaw.ForkSettles', WHERE WHAT IT READS IS OF BULK AT MOST 1048576: true; the input reads as it did. -/
def forkSettlesUptoRow : OpenClaim := { program := "ytebnjboimekljaa", sum := "8fbd2af22b097f19ba02cc500bda3fdba68b4eae13ee27302207c65c5a71c447", func := "bascule/basculelaw.ForkSettles", spec := "forkSettles", recurses := true, plainKeys := false, apart := false, narrowed := true }
def ForkSettlesUptoSaid : Prop := forkSettlesUptoRow.holds Try.pinned (OpenSpec.upto forkSettlesSpec)

end Rows
end Go.Proofs.Ytebnjboimekljaa
