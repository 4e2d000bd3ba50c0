/-
  No cell of these rows narrows 'for every input' (looked for: loops, veiled, ifaces, maps, wideKeys, modest, calm, conditions, laid).
  DERIVED. THE GIVEN ROWS OF THIS SEAT. 16 by the template 'for every input the law returns true; each argument reads behind the call as it read before'; 0 by the template 'total and deterministic' (their statements: YtokjlmpahlneaaaTotals.lean).
  GIVEN WITH THE SEED: the statements are not yours to turn. If you find one false, say at which input.
  Laid BY PROGRAM, IN A SANDBOX (cutbox-rows.mjs): the forced cells as the released guide's own fill.sh prints them over the translation 646e6bb61055d2e6… (all of the seat's roots in one cut). By AI agents, Wed Nov 11 2026. No macro, syntax, notation, axiom, sorry.
-/
import Derived.Test.YtokjlmpahlneaaaChecked
import GoSem.Claim
import GoSem.ClaimJoined
import GoSem.ClaimMapViews
import Derived.JoinedTies
import Derived.KernelRfl
namespace Go.Proofs.Ytokjlmpahlneaaa
/- THE CELL 'sum', in the pinned program and in every row, IS THE sha256 OF THE DUMP (.gsa) THAT YtokjlmpahlneaaaProg.lean LOADS. Nothing in Lean hashes anything: it is a label: what it is worth is what the hold of that sum in a sandbox is worth. -/
noncomputable def Try.pinned : Pinned := { name := "ytokjlmpahlneaaa", sum := "646e6bb61055d2e69f05b5a9dff5e30e9e2fd70636d452fc3a020fdd388e14ca", checked := Try.checked }
namespace Rows
def none {H : Type} : Left H := { results := [], args := [] }

/-- 'basculelaw.PostChecks': WHATEVER THE INPUT: true; the input reads as it did. -/
def postChecksSpec : ChangeSpec := { name := "postChecks", fn := fun _ => fun
  | [d] => { results := [.lit (.bool true)], args := [d] }
  | _ => none }
def postChecksRow : OpenClaim := { program := "ytokjlmpahlneaaa", sum := "646e6bb61055d2e69f05b5a9dff5e30e9e2fd70636d452fc3a020fdd388e14ca", func := "bascule/basculelaw.PostChecks", spec := "postChecks", inPlace := ["internal/bytealg.Compare", "math/bits.Add64"], unfollowed := true, recurses := true, plainKeys := false, apart := false }
def PostChecksSaid : Prop := postChecksRow.holds Try.pinned (OpenSpec.ofChange postChecksSpec)

/-- ITS FALSE NEIGHBOUR: 'it returns false'. Refute it at one input. -/
def postChecksWrong : ChangeSpec := { name := "postChecks", fn := fun _ => fun
  | [d] => { results := [.lit (.bool false)], args := [d] }
  | _ => none }
def PostChecksWrongFalsely : Prop := postChecksRow.holds Try.pinned (OpenSpec.ofChange postChecksWrong)

/-- 'basculelaw.PostBegins': WHATEVER THE INPUT: true; the input reads as it did. -/
def postBeginsSpec : ChangeSpec := { name := "postBegins", fn := fun _ => fun
  | [d1, d2, d3] => { results := [.lit (.bool true)], args := [d1, d2, d3] }
  | _ => none }
def postBeginsRow : OpenClaim := { program := "ytokjlmpahlneaaa", sum := "646e6bb61055d2e69f05b5a9dff5e30e9e2fd70636d452fc3a020fdd388e14ca", func := "bascule/basculelaw.PostBegins", spec := "postBegins", inPlace := ["internal/bytealg.Compare", "math/bits.Add64"], unfollowed := true, recurses := true, plainKeys := false, apart := false }
def PostBeginsSaid : Prop := postBeginsRow.holds Try.pinned (OpenSpec.ofChange postBeginsSpec)

/-- ITS FALSE NEIGHBOUR: 'it returns false'. Refute it at one input. -/
def postBeginsWrong : ChangeSpec := { name := "postBegins", fn := fun _ => fun
  | [d1, d2, d3] => { results := [.lit (.bool false)], args := [d1, d2, d3] }
  | _ => none }
def PostBeginsWrongFalsely : Prop := postBeginsRow.holds Try.pinned (OpenSpec.ofChange postBeginsWrong)

/-- 'basculelaw.GuardNames': WHATEVER THE INPUT: true; the input reads as it did. -/
def guardNamesSpec : ChangeSpec := { name := "guardNames", fn := fun _ => fun
  | [d] => { results := [.lit (.bool true)], args := [d] }
  | _ => none }
def guardNamesRow : OpenClaim := { program := "ytokjlmpahlneaaa", sum := "646e6bb61055d2e69f05b5a9dff5e30e9e2fd70636d452fc3a020fdd388e14ca", func := "bascule/basculelaw.GuardNames", spec := "guardNames", unfollowed := true, recurses := true, plainKeys := false, apart := false }
def GuardNamesSaid : Prop := guardNamesRow.holds Try.pinned (OpenSpec.ofChange guardNamesSpec)

/-- ITS FALSE NEIGHBOUR: 'it returns false'. Refute it at one input. -/
def guardNamesWrong : ChangeSpec := { name := "guardNames", fn := fun _ => fun
  | [d] => { results := [.lit (.bool false)], args := [d] }
  | _ => none }
def GuardNamesWrongFalsely : Prop := guardNamesRow.holds Try.pinned (OpenSpec.ofChange guardNamesWrong)

/-- 'basculelaw.GuardWaits': WHATEVER THE INPUT: true; the input reads as it did. -/
def guardWaitsSpec : ChangeSpec := { name := "guardWaits", fn := fun _ => fun
  | [d1, d2] => { results := [.lit (.bool true)], args := [d1, d2] }
  | _ => none }
def guardWaitsRow : OpenClaim := { program := "ytokjlmpahlneaaa", sum := "646e6bb61055d2e69f05b5a9dff5e30e9e2fd70636d452fc3a020fdd388e14ca", func := "bascule/basculelaw.GuardWaits", spec := "guardWaits", unfollowed := true, recurses := true, plainKeys := false, apart := false }
def GuardWaitsSaid : Prop := guardWaitsRow.holds Try.pinned (OpenSpec.ofChange guardWaitsSpec)

/-- ITS FALSE NEIGHBOUR: 'it returns false'. Refute it at one input. -/
def guardWaitsWrong : ChangeSpec := { name := "guardWaits", fn := fun _ => fun
  | [d1, d2] => { results := [.lit (.bool false)], args := [d1, d2] }
  | _ => none }
def GuardWaitsWrongFalsely : Prop := guardWaitsRow.holds Try.pinned (OpenSpec.ofChange guardWaitsWrong)

/-- 'basculelaw.CurveChecks': WHATEVER THE INPUT: true; the input reads as it did. -/
def curveChecksSpec : ChangeSpec := { name := "curveChecks", fn := fun _ => fun
  | [d1, d2] => { results := [.lit (.bool true)], args := [d1, d2] }
  | _ => none }
def curveChecksRow : OpenClaim := { program := "ytokjlmpahlneaaa", sum := "646e6bb61055d2e69f05b5a9dff5e30e9e2fd70636d452fc3a020fdd388e14ca", func := "bascule/basculelaw.CurveChecks", spec := "curveChecks", inPlace := ["math/bits.Add64", "math/bits.Sub64"], unfollowed := true, recurses := true, plainKeys := false, apart := false }
def CurveChecksSaid : Prop := curveChecksRow.holds Try.pinned (OpenSpec.ofChange curveChecksSpec)

/-- ITS FALSE NEIGHBOUR: 'it returns false'. Refute it at one input. -/
def curveChecksWrong : ChangeSpec := { name := "curveChecks", fn := fun _ => fun
  | [d1, d2] => { results := [.lit (.bool false)], args := [d1, d2] }
  | _ => none }
def CurveChecksWrongFalsely : Prop := curveChecksRow.holds Try.pinned (OpenSpec.ofChange curveChecksWrong)

/-- 'basculelaw.CurveAdds': WHATEVER THE INPUT: true; the input reads as it did. -/
def curveAddsSpec : ChangeSpec := { name := "curveAdds", fn := fun _ => fun
  | [d1, d2, d3] => { results := [.lit (.bool true)], args := [d1, d2, d3] }
  | _ => none }
def curveAddsRow : OpenClaim := { program := "ytokjlmpahlneaaa", sum := "646e6bb61055d2e69f05b5a9dff5e30e9e2fd70636d452fc3a020fdd388e14ca", func := "bascule/basculelaw.CurveAdds", spec := "curveAdds", inPlace := ["math/bits.Add64", "math/bits.Sub64"], unfollowed := true, recurses := true, plainKeys := false, apart := false }
def CurveAddsSaid : Prop := curveAddsRow.holds Try.pinned (OpenSpec.ofChange curveAddsSpec)

/-- ITS FALSE NEIGHBOUR: 'it returns false'. Refute it at one input. -/
def curveAddsWrong : ChangeSpec := { name := "curveAdds", fn := fun _ => fun
  | [d1, d2, d3] => { results := [.lit (.bool false)], args := [d1, d2, d3] }
  | _ => none }
def CurveAddsWrongFalsely : Prop := curveAddsRow.holds Try.pinned (OpenSpec.ofChange curveAddsWrong)

/-- 'basculelaw.CurveMults': WHATEVER THE INPUT: true; the input reads as it did. -/
def curveMultsSpec : ChangeSpec := { name := "curveMults", fn := fun _ => fun
  | [d1, d2, d3] => { results := [.lit (.bool true)], args := [d1, d2, d3] }
  | _ => none }
def curveMultsRow : OpenClaim := { program := "ytokjlmpahlneaaa", sum := "646e6bb61055d2e69f05b5a9dff5e30e9e2fd70636d452fc3a020fdd388e14ca", func := "bascule/basculelaw.CurveMults", spec := "curveMults", inPlace := ["math/bits.Add64", "math/bits.Sub64"], unfollowed := true, recurses := true, plainKeys := false, apart := false }
def CurveMultsSaid : Prop := curveMultsRow.holds Try.pinned (OpenSpec.ofChange curveMultsSpec)

/-- ITS FALSE NEIGHBOUR: 'it returns false'. Refute it at one input. -/
def curveMultsWrong : ChangeSpec := { name := "curveMults", fn := fun _ => fun
  | [d1, d2, d3] => { results := [.lit (.bool false)], args := [d1, d2, d3] }
  | _ => none }
def CurveMultsWrongFalsely : Prop := curveMultsRow.holds Try.pinned (OpenSpec.ofChange curveMultsWrong)

/-- 'basculelaw.CurveLifts': WHATEVER THE INPUT: true; the input reads as it did. -/
def curveLiftsSpec : ChangeSpec := { name := "curveLifts", fn := fun _ => fun
  | [d1, d2, d3] => { results := [.lit (.bool true)], args := [d1, d2, d3] }
  | _ => none }
def curveLiftsRow : OpenClaim := { program := "ytokjlmpahlneaaa", sum := "646e6bb61055d2e69f05b5a9dff5e30e9e2fd70636d452fc3a020fdd388e14ca", func := "bascule/basculelaw.CurveLifts", spec := "curveLifts", inPlace := ["math/bits.Add64", "math/bits.Sub64"], unfollowed := true, recurses := true, plainKeys := false, apart := false }
def CurveLiftsSaid : Prop := curveLiftsRow.holds Try.pinned (OpenSpec.ofChange curveLiftsSpec)

/-- ITS FALSE NEIGHBOUR: 'it returns false'. Refute it at one input. -/
def curveLiftsWrong : ChangeSpec := { name := "curveLifts", fn := fun _ => fun
  | [d1, d2, d3] => { results := [.lit (.bool false)], args := [d1, d2, d3] }
  | _ => none }
def CurveLiftsWrongFalsely : Prop := curveLiftsRow.holds Try.pinned (OpenSpec.ofChange curveLiftsWrong)

/-- 'basculelaw.WideSums': WHATEVER THE INPUT: true; the input reads as it did. -/
def wideSumsSpec : ChangeSpec := { name := "wideSums", fn := fun _ => fun
  | [d1, d2] => { results := [.lit (.bool true)], args := [d1, d2] }
  | _ => none }
def wideSumsRow : OpenClaim := { program := "ytokjlmpahlneaaa", sum := "646e6bb61055d2e69f05b5a9dff5e30e9e2fd70636d452fc3a020fdd388e14ca", func := "bascule/basculelaw.WideSums", spec := "wideSums", inPlace := ["math/bits.Add64", "math/bits.Sub64"], plainKeys := false, apart := false }
def WideSumsSaid : Prop := wideSumsRow.holds Try.pinned (OpenSpec.ofChange wideSumsSpec)

/-- ITS FALSE NEIGHBOUR: 'it returns false'. Refute it at one input. -/
def wideSumsWrong : ChangeSpec := { name := "wideSums", fn := fun _ => fun
  | [d1, d2] => { results := [.lit (.bool false)], args := [d1, d2] }
  | _ => none }
def WideSumsWrongFalsely : Prop := wideSumsRow.holds Try.pinned (OpenSpec.ofChange wideSumsWrong)

/-- 'basculelaw.WideProducts': WHATEVER THE INPUT: true; the input reads as it did. -/
def wideProductsSpec : ChangeSpec := { name := "wideProducts", fn := fun _ => fun
  | [d1, d2] => { results := [.lit (.bool true)], args := [d1, d2] }
  | _ => none }
def wideProductsRow : OpenClaim := { program := "ytokjlmpahlneaaa", sum := "646e6bb61055d2e69f05b5a9dff5e30e9e2fd70636d452fc3a020fdd388e14ca", func := "bascule/basculelaw.WideProducts", spec := "wideProducts", inPlace := ["math/bits.Add64"], plainKeys := false, apart := false }
def WideProductsSaid : Prop := wideProductsRow.holds Try.pinned (OpenSpec.ofChange wideProductsSpec)

/-- ITS FALSE NEIGHBOUR: 'it returns false'. Refute it at one input. -/
def wideProductsWrong : ChangeSpec := { name := "wideProducts", fn := fun _ => fun
  | [d1, d2] => { results := [.lit (.bool false)], args := [d1, d2] }
  | _ => none }
def WideProductsWrongFalsely : Prop := wideProductsRow.holds Try.pinned (OpenSpec.ofChange wideProductsWrong)

/-- 'basculelaw.WideQuotients': WHATEVER THE INPUT: true; the input reads as it did. -/
def wideQuotientsSpec : ChangeSpec := { name := "wideQuotients", fn := fun _ => fun
  | [d1, d2] => { results := [.lit (.bool true)], args := [d1, d2] }
  | _ => none }
def wideQuotientsRow : OpenClaim := { program := "ytokjlmpahlneaaa", sum := "646e6bb61055d2e69f05b5a9dff5e30e9e2fd70636d452fc3a020fdd388e14ca", func := "bascule/basculelaw.WideQuotients", spec := "wideQuotients", inPlace := ["math/bits.Add64", "math/bits.Sub64"], plainKeys := false, apart := false }
def WideQuotientsSaid : Prop := wideQuotientsRow.holds Try.pinned (OpenSpec.ofChange wideQuotientsSpec)

/-- ITS FALSE NEIGHBOUR: 'it returns false'. Refute it at one input. -/
def wideQuotientsWrong : ChangeSpec := { name := "wideQuotients", fn := fun _ => fun
  | [d1, d2] => { results := [.lit (.bool false)], args := [d1, d2] }
  | _ => none }
def WideQuotientsWrongFalsely : Prop := wideQuotientsRow.holds Try.pinned (OpenSpec.ofChange wideQuotientsWrong)

/-- 'basculelaw.CoinMints': WHATEVER THE INPUT: true; the input reads as it did. -/
def coinMintsSpec : ChangeSpec := { name := "coinMints", fn := fun _ => fun
  | [d1, d2, d3] => { results := [.lit (.bool true)], args := [d1, d2, d3] }
  | _ => none }
def coinMintsRow : OpenClaim := { program := "ytokjlmpahlneaaa", sum := "646e6bb61055d2e69f05b5a9dff5e30e9e2fd70636d452fc3a020fdd388e14ca", func := "bascule/basculelaw.CoinMints", spec := "coinMints", inPlace := ["internal/bytealg.Compare", "math/bits.Add64"], plainKeys := false, apart := false }
def CoinMintsSaid : Prop := coinMintsRow.holds Try.pinned (OpenSpec.ofChange coinMintsSpec)

/-- ITS FALSE NEIGHBOUR: 'it returns false'. Refute it at one input. -/
def coinMintsWrong : ChangeSpec := { name := "coinMints", fn := fun _ => fun
  | [d1, d2, d3] => { results := [.lit (.bool false)], args := [d1, d2, d3] }
  | _ => none }
def CoinMintsWrongFalsely : Prop := coinMintsRow.holds Try.pinned (OpenSpec.ofChange coinMintsWrong)

/-- 'basculelaw.FieldSums': WHATEVER THE INPUT: true; the input reads as it did. -/
def fieldSumsSpec : ChangeSpec := { name := "fieldSums", fn := fun _ => fun
  | [d1, d2, d3] => { results := [.lit (.bool true)], args := [d1, d2, d3] }
  | _ => none }
def fieldSumsRow : OpenClaim := { program := "ytokjlmpahlneaaa", sum := "646e6bb61055d2e69f05b5a9dff5e30e9e2fd70636d452fc3a020fdd388e14ca", func := "bascule/basculelaw.FieldSums", spec := "fieldSums", inPlace := ["math/bits.Add64", "math/bits.Sub64"], unfollowed := true, recurses := true, plainKeys := false, apart := false }
def FieldSumsSaid : Prop := fieldSumsRow.holds Try.pinned (OpenSpec.ofChange fieldSumsSpec)

/-- ITS FALSE NEIGHBOUR: 'it returns false'. Refute it at one input. -/
def fieldSumsWrong : ChangeSpec := { name := "fieldSums", fn := fun _ => fun
  | [d1, d2, d3] => { results := [.lit (.bool false)], args := [d1, d2, d3] }
  | _ => none }
def FieldSumsWrongFalsely : Prop := fieldSumsRow.holds Try.pinned (OpenSpec.ofChange fieldSumsWrong)

/-- 'basculelaw.FieldProducts': WHATEVER THE INPUT: true; the input reads as it did. -/
def fieldProductsSpec : ChangeSpec := { name := "fieldProducts", fn := fun _ => fun
  | [d1, d2, d3] => { results := [.lit (.bool true)], args := [d1, d2, d3] }
  | _ => none }
def fieldProductsRow : OpenClaim := { program := "ytokjlmpahlneaaa", sum := "646e6bb61055d2e69f05b5a9dff5e30e9e2fd70636d452fc3a020fdd388e14ca", func := "bascule/basculelaw.FieldProducts", spec := "fieldProducts", inPlace := ["math/bits.Add64", "math/bits.Sub64"], unfollowed := true, recurses := true, plainKeys := false, apart := false }
def FieldProductsSaid : Prop := fieldProductsRow.holds Try.pinned (OpenSpec.ofChange fieldProductsSpec)

/-- ITS FALSE NEIGHBOUR: 'it returns false'. Refute it at one input. -/
def fieldProductsWrong : ChangeSpec := { name := "fieldProducts", fn := fun _ => fun
  | [d1, d2, d3] => { results := [.lit (.bool false)], args := [d1, d2, d3] }
  | _ => none }
def FieldProductsWrongFalsely : Prop := fieldProductsRow.holds Try.pinned (OpenSpec.ofChange fieldProductsWrong)

/-- 'basculelaw.FieldPowers': WHATEVER THE INPUT: true; the input reads as it did. -/
def fieldPowersSpec : ChangeSpec := { name := "fieldPowers", fn := fun _ => fun
  | [d1, d2, d3] => { results := [.lit (.bool true)], args := [d1, d2, d3] }
  | _ => none }
def fieldPowersRow : OpenClaim := { program := "ytokjlmpahlneaaa", sum := "646e6bb61055d2e69f05b5a9dff5e30e9e2fd70636d452fc3a020fdd388e14ca", func := "bascule/basculelaw.FieldPowers", spec := "fieldPowers", inPlace := ["math/bits.Add64", "math/bits.Sub64"], unfollowed := true, recurses := true, plainKeys := false, apart := false }
def FieldPowersSaid : Prop := fieldPowersRow.holds Try.pinned (OpenSpec.ofChange fieldPowersSpec)

/-- ITS FALSE NEIGHBOUR: 'it returns false'. Refute it at one input. -/
def fieldPowersWrong : ChangeSpec := { name := "fieldPowers", fn := fun _ => fun
  | [d1, d2, d3] => { results := [.lit (.bool false)], args := [d1, d2, d3] }
  | _ => none }
def FieldPowersWrongFalsely : Prop := fieldPowersRow.holds Try.pinned (OpenSpec.ofChange fieldPowersWrong)

/-- 'basculelaw.FieldInverses': WHATEVER THE INPUT: true; the input reads as it did. -/
def fieldInversesSpec : ChangeSpec := { name := "fieldInverses", fn := fun _ => fun
  | [d1, d2] => { results := [.lit (.bool true)], args := [d1, d2] }
  | _ => none }
def fieldInversesRow : OpenClaim := { program := "ytokjlmpahlneaaa", sum := "646e6bb61055d2e69f05b5a9dff5e30e9e2fd70636d452fc3a020fdd388e14ca", func := "bascule/basculelaw.FieldInverses", spec := "fieldInverses", inPlace := ["math/bits.Add64", "math/bits.Sub64"], unfollowed := true, recurses := true, plainKeys := false, apart := false }
def FieldInversesSaid : Prop := fieldInversesRow.holds Try.pinned (OpenSpec.ofChange fieldInversesSpec)

/-- ITS FALSE NEIGHBOUR: 'it returns false'. Refute it at one input. -/
def fieldInversesWrong : ChangeSpec := { name := "fieldInverses", fn := fun _ => fun
  | [d1, d2] => { results := [.lit (.bool false)], args := [d1, d2] }
  | _ => none }
def FieldInversesWrongFalsely : Prop := fieldInversesRow.holds Try.pinned (OpenSpec.ofChange fieldInversesWrong)

/- THE SECOND FORM. 'bulk': how many values and letters a reading holds, each counted each time it is reached (what is shared counts as often as it is met; a slice's spare places count too). A statement '..UptoSaid' is the law's where the arguments, and the package variables that the reading takes, are together of bulk at most 1048576: NARROWER than '..Said'. Prove '..Said' where nothing that the law and all that it calls make is longer than what came in: it says more and counts as full. Else prove '..UptoSaid'. A law counts once. -/
mutual
def uptoBulk {H : Type} : DataW H → Nat
  | .lit (.string bytes) => bytes.length + 1
  | .lit _ => 1
  | .nil => 1
  | .ptr d => uptoBulk d + 1
  | .slice elems spare => uptoBulkAll elems + uptoBulkAll spare + 1
  | .agg parts => uptoBulkAll parts + 1
  | .iface _ d => uptoBulk d + 1
  | .map entries => uptoBulkEntries entries + 1
  | .held _ => 1
def uptoBulkAll {H : Type} : List (DataW H) → Nat
  | [] => 0
  | d :: r => uptoBulk d + uptoBulkAll r
def uptoBulkEntries {H : Type} : List (Lit × DataW H) → Nat
  | [] => 0
  | x :: r => uptoBulkEntry x + uptoBulkEntries r
def uptoBulkEntry {H : Type} : Lit × DataW H → Nat
  | (.string bytes, d) => bytes.length + uptoBulk d + 1
  | (_, d) => uptoBulk d + 1
 end
def uptoSmall : (H : Type) → List (DataW H) → Bool := fun _ ds => decide (uptoBulkAll ds ≤ 1048576)
def OpenSpec.upto (s : _root_.Go.ChangeSpec) : _root_.Go.OpenSpec := { _root_.Go.OpenSpec.ofChange s with cond := some uptoSmall }

/-- 'basculelaw.PostChecks', WHERE WHAT IT READS IS OF BULK AT MOST 1048576: true; the input reads as it did. -/
def postChecksUptoRow : OpenClaim := { program := "ytokjlmpahlneaaa", sum := "646e6bb61055d2e69f05b5a9dff5e30e9e2fd70636d452fc3a020fdd388e14ca", func := "bascule/basculelaw.PostChecks", spec := "postChecks", inPlace := ["internal/bytealg.Compare", "math/bits.Add64"], unfollowed := true, recurses := true, plainKeys := false, apart := false, narrowed := true }
def PostChecksUptoSaid : Prop := postChecksUptoRow.holds Try.pinned (OpenSpec.upto postChecksSpec)

/-- 'basculelaw.PostBegins', WHERE WHAT IT READS IS OF BULK AT MOST 1048576: true; the input reads as it did. -/
def postBeginsUptoRow : OpenClaim := { program := "ytokjlmpahlneaaa", sum := "646e6bb61055d2e69f05b5a9dff5e30e9e2fd70636d452fc3a020fdd388e14ca", func := "bascule/basculelaw.PostBegins", spec := "postBegins", inPlace := ["internal/bytealg.Compare", "math/bits.Add64"], unfollowed := true, recurses := true, plainKeys := false, apart := false, narrowed := true }
def PostBeginsUptoSaid : Prop := postBeginsUptoRow.holds Try.pinned (OpenSpec.upto postBeginsSpec)

/-- 'basculelaw.GuardNames', WHERE WHAT IT READS IS OF BULK AT MOST 1048576: true; the input reads as it did. -/
def guardNamesUptoRow : OpenClaim := { program := "ytokjlmpahlneaaa", sum := "646e6bb61055d2e69f05b5a9dff5e30e9e2fd70636d452fc3a020fdd388e14ca", func := "bascule/basculelaw.GuardNames", spec := "guardNames", unfollowed := true, recurses := true, plainKeys := false, apart := false, narrowed := true }
def GuardNamesUptoSaid : Prop := guardNamesUptoRow.holds Try.pinned (OpenSpec.upto guardNamesSpec)

/-- 'basculelaw.GuardWaits', WHERE WHAT IT READS IS OF BULK AT MOST 1048576: true; the input reads as it did. -/
def guardWaitsUptoRow : OpenClaim := { program := "ytokjlmpahlneaaa", sum := "646e6bb61055d2e69f05b5a9dff5e30e9e2fd70636d452fc3a020fdd388e14ca", func := "bascule/basculelaw.GuardWaits", spec := "guardWaits", unfollowed := true, recurses := true, plainKeys := false, apart := false, narrowed := true }
def GuardWaitsUptoSaid : Prop := guardWaitsUptoRow.holds Try.pinned (OpenSpec.upto guardWaitsSpec)

/-- 'basculelaw.CurveChecks', WHERE WHAT IT READS IS OF BULK AT MOST 1048576: true; the input reads as it did. -/
def curveChecksUptoRow : OpenClaim := { program := "ytokjlmpahlneaaa", sum := "646e6bb61055d2e69f05b5a9dff5e30e9e2fd70636d452fc3a020fdd388e14ca", func := "bascule/basculelaw.CurveChecks", spec := "curveChecks", inPlace := ["math/bits.Add64", "math/bits.Sub64"], unfollowed := true, recurses := true, plainKeys := false, apart := false, narrowed := true }
def CurveChecksUptoSaid : Prop := curveChecksUptoRow.holds Try.pinned (OpenSpec.upto curveChecksSpec)

/-- 'basculelaw.CurveAdds', WHERE WHAT IT READS IS OF BULK AT MOST 1048576: true; the input reads as it did. -/
def curveAddsUptoRow : OpenClaim := { program := "ytokjlmpahlneaaa", sum := "646e6bb61055d2e69f05b5a9dff5e30e9e2fd70636d452fc3a020fdd388e14ca", func := "bascule/basculelaw.CurveAdds", spec := "curveAdds", inPlace := ["math/bits.Add64", "math/bits.Sub64"], unfollowed := true, recurses := true, plainKeys := false, apart := false, narrowed := true }
def CurveAddsUptoSaid : Prop := curveAddsUptoRow.holds Try.pinned (OpenSpec.upto curveAddsSpec)

/-- 'basculelaw.CurveMults', WHERE WHAT IT READS IS OF BULK AT MOST 1048576: true; the input reads as it did. -/
def curveMultsUptoRow : OpenClaim := { program := "ytokjlmpahlneaaa", sum := "646e6bb61055d2e69f05b5a9dff5e30e9e2fd70636d452fc3a020fdd388e14ca", func := "bascule/basculelaw.CurveMults", spec := "curveMults", inPlace := ["math/bits.Add64", "math/bits.Sub64"], unfollowed := true, recurses := true, plainKeys := false, apart := false, narrowed := true }
def CurveMultsUptoSaid : Prop := curveMultsUptoRow.holds Try.pinned (OpenSpec.upto curveMultsSpec)

/-- 'basculelaw.CurveLifts', WHERE WHAT IT READS IS OF BULK AT MOST 1048576: true; the input reads as it did. -/
def curveLiftsUptoRow : OpenClaim := { program := "ytokjlmpahlneaaa", sum := "646e6bb61055d2e69f05b5a9dff5e30e9e2fd70636d452fc3a020fdd388e14ca", func := "bascule/basculelaw.CurveLifts", spec := "curveLifts", inPlace := ["math/bits.Add64", "math/bits.Sub64"], unfollowed := true, recurses := true, plainKeys := false, apart := false, narrowed := true }
def CurveLiftsUptoSaid : Prop := curveLiftsUptoRow.holds Try.pinned (OpenSpec.upto curveLiftsSpec)

/-- 'basculelaw.WideSums', WHERE WHAT IT READS IS OF BULK AT MOST 1048576: true; the input reads as it did. -/
def wideSumsUptoRow : OpenClaim := { program := "ytokjlmpahlneaaa", sum := "646e6bb61055d2e69f05b5a9dff5e30e9e2fd70636d452fc3a020fdd388e14ca", func := "bascule/basculelaw.WideSums", spec := "wideSums", inPlace := ["math/bits.Add64", "math/bits.Sub64"], plainKeys := false, apart := false, narrowed := true }
def WideSumsUptoSaid : Prop := wideSumsUptoRow.holds Try.pinned (OpenSpec.upto wideSumsSpec)

/-- 'basculelaw.WideProducts', WHERE WHAT IT READS IS OF BULK AT MOST 1048576: true; the input reads as it did. -/
def wideProductsUptoRow : OpenClaim := { program := "ytokjlmpahlneaaa", sum := "646e6bb61055d2e69f05b5a9dff5e30e9e2fd70636d452fc3a020fdd388e14ca", func := "bascule/basculelaw.WideProducts", spec := "wideProducts", inPlace := ["math/bits.Add64"], plainKeys := false, apart := false, narrowed := true }
def WideProductsUptoSaid : Prop := wideProductsUptoRow.holds Try.pinned (OpenSpec.upto wideProductsSpec)

/-- 'basculelaw.WideQuotients', WHERE WHAT IT READS IS OF BULK AT MOST 1048576: true; the input reads as it did. -/
def wideQuotientsUptoRow : OpenClaim := { program := "ytokjlmpahlneaaa", sum := "646e6bb61055d2e69f05b5a9dff5e30e9e2fd70636d452fc3a020fdd388e14ca", func := "bascule/basculelaw.WideQuotients", spec := "wideQuotients", inPlace := ["math/bits.Add64", "math/bits.Sub64"], plainKeys := false, apart := false, narrowed := true }
def WideQuotientsUptoSaid : Prop := wideQuotientsUptoRow.holds Try.pinned (OpenSpec.upto wideQuotientsSpec)

/-- 'basculelaw.CoinMints', WHERE WHAT IT READS IS OF BULK AT MOST 1048576: true; the input reads as it did. -/
def coinMintsUptoRow : OpenClaim := { program := "ytokjlmpahlneaaa", sum := "646e6bb61055d2e69f05b5a9dff5e30e9e2fd70636d452fc3a020fdd388e14ca", func := "bascule/basculelaw.CoinMints", spec := "coinMints", inPlace := ["internal/bytealg.Compare", "math/bits.Add64"], plainKeys := false, apart := false, narrowed := true }
def CoinMintsUptoSaid : Prop := coinMintsUptoRow.holds Try.pinned (OpenSpec.upto coinMintsSpec)

/-- 'basculelaw.FieldSums', WHERE WHAT IT READS IS OF BULK AT MOST 1048576: true; the input reads as it did. -/
def fieldSumsUptoRow : OpenClaim := { program := "ytokjlmpahlneaaa", sum := "646e6bb61055d2e69f05b5a9dff5e30e9e2fd70636d452fc3a020fdd388e14ca", func := "bascule/basculelaw.FieldSums", spec := "fieldSums", inPlace := ["math/bits.Add64", "math/bits.Sub64"], unfollowed := true, recurses := true, plainKeys := false, apart := false, narrowed := true }
def FieldSumsUptoSaid : Prop := fieldSumsUptoRow.holds Try.pinned (OpenSpec.upto fieldSumsSpec)

/-- 'basculelaw.FieldProducts', WHERE WHAT IT READS IS OF BULK AT MOST 1048576: true; the input reads as it did. -/
def fieldProductsUptoRow : OpenClaim := { program := "ytokjlmpahlneaaa", sum := "646e6bb61055d2e69f05b5a9dff5e30e9e2fd70636d452fc3a020fdd388e14ca", func := "bascule/basculelaw.FieldProducts", spec := "fieldProducts", inPlace := ["math/bits.Add64", "math/bits.Sub64"], unfollowed := true, recurses := true, plainKeys := false, apart := false, narrowed := true }
def FieldProductsUptoSaid : Prop := fieldProductsUptoRow.holds Try.pinned (OpenSpec.upto fieldProductsSpec)

/-- 'basculelaw.FieldPowers', WHERE WHAT IT READS IS OF BULK AT MOST 1048576: true; the input reads as it did. -/
def fieldPowersUptoRow : OpenClaim := { program := "ytokjlmpahlneaaa", sum := "646e6bb61055d2e69f05b5a9dff5e30e9e2fd70636d452fc3a020fdd388e14ca", func := "bascule/basculelaw.FieldPowers", spec := "fieldPowers", inPlace := ["math/bits.Add64", "math/bits.Sub64"], unfollowed := true, recurses := true, plainKeys := false, apart := false, narrowed := true }
def FieldPowersUptoSaid : Prop := fieldPowersUptoRow.holds Try.pinned (OpenSpec.upto fieldPowersSpec)

/-- 'basculelaw.FieldInverses', WHERE WHAT IT READS IS OF BULK AT MOST 1048576: true; the input reads as it did. -/
def fieldInversesUptoRow : OpenClaim := { program := "ytokjlmpahlneaaa", sum := "646e6bb61055d2e69f05b5a9dff5e30e9e2fd70636d452fc3a020fdd388e14ca", func := "bascule/basculelaw.FieldInverses", spec := "fieldInverses", inPlace := ["math/bits.Add64", "math/bits.Sub64"], unfollowed := true, recurses := true, plainKeys := false, apart := false, narrowed := true }
def FieldInversesUptoSaid : Prop := fieldInversesUptoRow.holds Try.pinned (OpenSpec.upto fieldInversesSpec)

end Rows
end Go.Proofs.Ytokjlmpahlneaaa
