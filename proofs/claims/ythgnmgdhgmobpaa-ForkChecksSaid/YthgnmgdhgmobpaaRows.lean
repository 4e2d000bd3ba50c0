/-
  No cell of these rows narrows 'for every input' (looked for: loops, veiled, ifaces, maps, wideKeys, modest, calm, conditions, laid).
  DERIVED. THE GIVEN ROWS OF THIS SEAT. 19 by the template 'for every input the law returns true; each argument reads behind the call as it read before'; 0 by the template 'total and deterministic' (their statements: YthgnmgdhgmobpaaTotals.lean).
  GIVEN WITH THE SEED: the statements are not yours to turn. If you find one false, say at which input.
  Laid BY PROGRAM, IN A SANDBOX (cutbox-rows.mjs): the forced cells as the released guide's own fill.sh prints them over the translation 61efe7c73e4f9014… (all of the seat's roots in one cut). By AI agents, Wed Nov 11 2026. No macro, syntax, notation, axiom, sorry.
-/
import Derived.Test.YthgnmgdhgmobpaaChecked
import GoSem.Claim
import GoSem.ClaimJoined
import GoSem.ClaimMapViews
import Derived.JoinedTies
import Derived.KernelRfl
namespace Go.Proofs.Ythgnmgdhgmobpaa
/- THE CELL 'sum', in the pinned program and in every row, IS THE sha256 OF THE DUMP (.gsa) THAT YthgnmgdhgmobpaaProg.lean LOADS. Nothing in Lean hashes anything: it is a label: what it is worth is what the hold of that sum in a sandbox is worth. -/
noncomputable def Try.pinned : Pinned := { name := "ythgnmgdhgmobpaa", sum := "61efe7c73e4f90148dd59691b4aa7ffc6a0aa080f3b3422d7abe03dfdafd2497", checked := Try.checked }
namespace Rows
def none {H : Type} : Left H := { results := [], args := [] }

/-- 'basculelaw.Names': WHATEVER THE INPUT: true; the input reads as it did. -/
def namesSpec : ChangeSpec := { name := "names", fn := fun _ => fun
  | [] => { results := [.lit (.bool true)], args := [] }
  | _ => none }
def namesRow : OpenClaim := { program := "ythgnmgdhgmobpaa", sum := "61efe7c73e4f90148dd59691b4aa7ffc6a0aa080f3b3422d7abe03dfdafd2497", func := "bascule/basculelaw.Names", spec := "names", plainKeys := false, apart := false }
def NamesSaid : Prop := namesRow.holds Try.pinned (OpenSpec.ofChange namesSpec)

/-- ITS FALSE NEIGHBOUR: 'it returns false'. Refute it at one input. -/
def namesWrong : ChangeSpec := { name := "names", fn := fun _ => fun
  | [] => { results := [.lit (.bool false)], args := [] }
  | _ => none }
def NamesWrongFalsely : Prop := namesRow.holds Try.pinned (OpenSpec.ofChange namesWrong)

/-- 'basculelaw.QuorumNeeds': WHATEVER THE INPUT: true; the input reads as it did. -/
def quorumNeedsSpec : ChangeSpec := { name := "quorumNeeds", fn := fun _ => fun
  | [d] => { results := [.lit (.bool true)], args := [d] }
  | _ => none }
def quorumNeedsRow : OpenClaim := { program := "ythgnmgdhgmobpaa", sum := "61efe7c73e4f90148dd59691b4aa7ffc6a0aa080f3b3422d7abe03dfdafd2497", func := "bascule/basculelaw.QuorumNeeds", spec := "quorumNeeds", plainKeys := false, apart := false }
def QuorumNeedsSaid : Prop := quorumNeedsRow.holds Try.pinned (OpenSpec.ofChange quorumNeedsSpec)

/-- ITS FALSE NEIGHBOUR: 'it returns false'. Refute it at one input. -/
def quorumNeedsWrong : ChangeSpec := { name := "quorumNeeds", fn := fun _ => fun
  | [d] => { results := [.lit (.bool false)], args := [d] }
  | _ => none }
def QuorumNeedsWrongFalsely : Prop := quorumNeedsRow.holds Try.pinned (OpenSpec.ofChange quorumNeedsWrong)

/-- 'basculelaw.SeenHas': WHATEVER THE INPUT: true; the input reads as it did. -/
def seenHasSpec : ChangeSpec := { name := "seenHas", fn := fun _ => fun
  | [d1, d2] => { results := [.lit (.bool true)], args := [d1, d2] }
  | _ => none }
def seenHasRow : OpenClaim := { program := "ythgnmgdhgmobpaa", sum := "61efe7c73e4f90148dd59691b4aa7ffc6a0aa080f3b3422d7abe03dfdafd2497", func := "bascule/basculelaw.SeenHas", spec := "seenHas", plainKeys := false, apart := false }
def SeenHasSaid : Prop := seenHasRow.holds Try.pinned (OpenSpec.ofChange seenHasSpec)

/-- ITS FALSE NEIGHBOUR: 'it returns false'. Refute it at one input. -/
def seenHasWrong : ChangeSpec := { name := "seenHas", fn := fun _ => fun
  | [d1, d2] => { results := [.lit (.bool false)], args := [d1, d2] }
  | _ => none }
def SeenHasWrongFalsely : Prop := seenHasRow.holds Try.pinned (OpenSpec.ofChange seenHasWrong)

/-- 'basculelaw.LogFalls': WHATEVER THE INPUT: true; the input reads as it did. -/
def logFallsSpec : ChangeSpec := { name := "logFalls", fn := fun _ => fun
  | [d1, d2] => { results := [.lit (.bool true)], args := [d1, d2] }
  | _ => none }
def logFallsRow : OpenClaim := { program := "ythgnmgdhgmobpaa", sum := "61efe7c73e4f90148dd59691b4aa7ffc6a0aa080f3b3422d7abe03dfdafd2497", func := "bascule/basculelaw.LogFalls", spec := "logFalls", plainKeys := false, apart := false }
def LogFallsSaid : Prop := logFallsRow.holds Try.pinned (OpenSpec.ofChange logFallsSpec)

/-- ITS FALSE NEIGHBOUR: 'it returns false'. Refute it at one input. -/
def logFallsWrong : ChangeSpec := { name := "logFalls", fn := fun _ => fun
  | [d1, d2] => { results := [.lit (.bool false)], args := [d1, d2] }
  | _ => none }
def LogFallsWrongFalsely : Prop := logFallsRow.holds Try.pinned (OpenSpec.ofChange logFallsWrong)

/-- 'basculelaw.BodyChecks': WHATEVER THE INPUT: true; the input reads as it did. -/
def bodyChecksSpec : ChangeSpec := { name := "bodyChecks", fn := fun _ => fun
  | [d] => { results := [.lit (.bool true)], args := [d] }
  | _ => none }
def bodyChecksRow : OpenClaim := { program := "ythgnmgdhgmobpaa", sum := "61efe7c73e4f90148dd59691b4aa7ffc6a0aa080f3b3422d7abe03dfdafd2497", func := "bascule/basculelaw.BodyChecks", spec := "bodyChecks", unfollowed := true, recurses := true, plainKeys := false, apart := false }
def BodyChecksSaid : Prop := bodyChecksRow.holds Try.pinned (OpenSpec.ofChange bodyChecksSpec)

/-- ITS FALSE NEIGHBOUR: 'it returns false'. Refute it at one input. -/
def bodyChecksWrong : ChangeSpec := { name := "bodyChecks", fn := fun _ => fun
  | [d] => { results := [.lit (.bool false)], args := [d] }
  | _ => none }
def BodyChecksWrongFalsely : Prop := bodyChecksRow.holds Try.pinned (OpenSpec.ofChange bodyChecksWrong)

/-- 'basculelaw.WideOrders': WHATEVER THE INPUT: true; the input reads as it did. -/
def wideOrdersSpec : ChangeSpec := { name := "wideOrders", fn := fun _ => fun
  | [d1, d2] => { results := [.lit (.bool true)], args := [d1, d2] }
  | _ => none }
def wideOrdersRow : OpenClaim := { program := "ythgnmgdhgmobpaa", sum := "61efe7c73e4f90148dd59691b4aa7ffc6a0aa080f3b3422d7abe03dfdafd2497", func := "bascule/basculelaw.WideOrders", spec := "wideOrders", plainKeys := false, apart := false }
def WideOrdersSaid : Prop := wideOrdersRow.holds Try.pinned (OpenSpec.ofChange wideOrdersSpec)

/-- ITS FALSE NEIGHBOUR: 'it returns false'. Refute it at one input. -/
def wideOrdersWrong : ChangeSpec := { name := "wideOrders", fn := fun _ => fun
  | [d1, d2] => { results := [.lit (.bool false)], args := [d1, d2] }
  | _ => none }
def WideOrdersWrongFalsely : Prop := wideOrdersRow.holds Try.pinned (OpenSpec.ofChange wideOrdersWrong)

/-- 'basculelaw.WideBytes': WHATEVER THE INPUT: true; the input reads as it did. -/
def wideBytesSpec : ChangeSpec := { name := "wideBytes", fn := fun _ => fun
  | [d1, d2] => { results := [.lit (.bool true)], args := [d1, d2] }
  | _ => none }
def wideBytesRow : OpenClaim := { program := "ythgnmgdhgmobpaa", sum := "61efe7c73e4f90148dd59691b4aa7ffc6a0aa080f3b3422d7abe03dfdafd2497", func := "bascule/basculelaw.WideBytes", spec := "wideBytes", plainKeys := false, apart := false }
def WideBytesSaid : Prop := wideBytesRow.holds Try.pinned (OpenSpec.ofChange wideBytesSpec)

/-- ITS FALSE NEIGHBOUR: 'it returns false'. Refute it at one input. -/
def wideBytesWrong : ChangeSpec := { name := "wideBytes", fn := fun _ => fun
  | [d1, d2] => { results := [.lit (.bool false)], args := [d1, d2] }
  | _ => none }
def WideBytesWrongFalsely : Prop := wideBytesRow.holds Try.pinned (OpenSpec.ofChange wideBytesWrong)

/-- 'basculelaw.PostNames': WHATEVER THE INPUT: true; the input reads as it did. -/
def postNamesSpec : ChangeSpec := { name := "postNames", fn := fun _ => fun
  | [d] => { results := [.lit (.bool true)], args := [d] }
  | _ => none }
def postNamesRow : OpenClaim := { program := "ythgnmgdhgmobpaa", sum := "61efe7c73e4f90148dd59691b4aa7ffc6a0aa080f3b3422d7abe03dfdafd2497", func := "bascule/basculelaw.PostNames", spec := "postNames", plainKeys := false, apart := false }
def PostNamesSaid : Prop := postNamesRow.holds Try.pinned (OpenSpec.ofChange postNamesSpec)

/-- ITS FALSE NEIGHBOUR: 'it returns false'. Refute it at one input. -/
def postNamesWrong : ChangeSpec := { name := "postNames", fn := fun _ => fun
  | [d] => { results := [.lit (.bool false)], args := [d] }
  | _ => none }
def PostNamesWrongFalsely : Prop := postNamesRow.holds Try.pinned (OpenSpec.ofChange postNamesWrong)

/-- 'basculelaw.SeenMarks': WHATEVER THE INPUT: true; the input reads as it did. -/
def seenMarksSpec : ChangeSpec := { name := "seenMarks", fn := fun _ => fun
  | [d1, d2] => { results := [.lit (.bool true)], args := [d1, d2] }
  | _ => none }
def seenMarksRow : OpenClaim := { program := "ythgnmgdhgmobpaa", sum := "61efe7c73e4f90148dd59691b4aa7ffc6a0aa080f3b3422d7abe03dfdafd2497", func := "bascule/basculelaw.SeenMarks", spec := "seenMarks", plainKeys := false, apart := false }
def SeenMarksSaid : Prop := seenMarksRow.holds Try.pinned (OpenSpec.ofChange seenMarksSpec)

/-- ITS FALSE NEIGHBOUR: 'it returns false'. Refute it at one input. -/
def seenMarksWrong : ChangeSpec := { name := "seenMarks", fn := fun _ => fun
  | [d1, d2] => { results := [.lit (.bool false)], args := [d1, d2] }
  | _ => none }
def SeenMarksWrongFalsely : Prop := seenMarksRow.holds Try.pinned (OpenSpec.ofChange seenMarksWrong)

/-- 'basculelaw.LogAppends': WHATEVER THE INPUT: true; the input reads as it did. -/
def logAppendsSpec : ChangeSpec := { name := "logAppends", fn := fun _ => fun
  | [d1, d2] => { results := [.lit (.bool true)], args := [d1, d2] }
  | _ => none }
def logAppendsRow : OpenClaim := { program := "ythgnmgdhgmobpaa", sum := "61efe7c73e4f90148dd59691b4aa7ffc6a0aa080f3b3422d7abe03dfdafd2497", func := "bascule/basculelaw.LogAppends", spec := "logAppends", plainKeys := false, apart := false }
def LogAppendsSaid : Prop := logAppendsRow.holds Try.pinned (OpenSpec.ofChange logAppendsSpec)

/-- ITS FALSE NEIGHBOUR: 'it returns false'. Refute it at one input. -/
def logAppendsWrong : ChangeSpec := { name := "logAppends", fn := fun _ => fun
  | [d1, d2] => { results := [.lit (.bool false)], args := [d1, d2] }
  | _ => none }
def LogAppendsWrongFalsely : Prop := logAppendsRow.holds Try.pinned (OpenSpec.ofChange logAppendsWrong)

/-- 'basculelaw.GateChecks': WHATEVER THE INPUT: true; the input reads as it did. -/
def gateChecksSpec : ChangeSpec := { name := "gateChecks", fn := fun _ => fun
  | [d] => { results := [.lit (.bool true)], args := [d] }
  | _ => none }
def gateChecksRow : OpenClaim := { program := "ythgnmgdhgmobpaa", sum := "61efe7c73e4f90148dd59691b4aa7ffc6a0aa080f3b3422d7abe03dfdafd2497", func := "bascule/basculelaw.GateChecks", spec := "gateChecks", plainKeys := false, apart := false }
def GateChecksSaid : Prop := gateChecksRow.holds Try.pinned (OpenSpec.ofChange gateChecksSpec)

/-- ITS FALSE NEIGHBOUR: 'it returns false'. Refute it at one input. -/
def gateChecksWrong : ChangeSpec := { name := "gateChecks", fn := fun _ => fun
  | [d] => { results := [.lit (.bool false)], args := [d] }
  | _ => none }
def GateChecksWrongFalsely : Prop := gateChecksRow.holds Try.pinned (OpenSpec.ofChange gateChecksWrong)

/-- 'basculelaw.LogOpens': WHATEVER THE INPUT: true; the input reads as it did. -/
def logOpensSpec : ChangeSpec := { name := "logOpens", fn := fun _ => fun
  | [d] => { results := [.lit (.bool true)], args := [d] }
  | _ => none }
def logOpensRow : OpenClaim := { program := "ythgnmgdhgmobpaa", sum := "61efe7c73e4f90148dd59691b4aa7ffc6a0aa080f3b3422d7abe03dfdafd2497", func := "bascule/basculelaw.LogOpens", spec := "logOpens", plainKeys := false, apart := false }
def LogOpensSaid : Prop := logOpensRow.holds Try.pinned (OpenSpec.ofChange logOpensSpec)

/-- ITS FALSE NEIGHBOUR: 'it returns false'. Refute it at one input. -/
def logOpensWrong : ChangeSpec := { name := "logOpens", fn := fun _ => fun
  | [d] => { results := [.lit (.bool false)], args := [d] }
  | _ => none }
def LogOpensWrongFalsely : Prop := logOpensRow.holds Try.pinned (OpenSpec.ofChange logOpensWrong)

/-- 'basculelaw.SetsBegins': WHATEVER THE INPUT: true; the input reads as it did. -/
def setsBeginsSpec : ChangeSpec := { name := "setsBegins", fn := fun _ => fun
  | [d] => { results := [.lit (.bool true)], args := [d] }
  | _ => none }
def setsBeginsRow : OpenClaim := { program := "ythgnmgdhgmobpaa", sum := "61efe7c73e4f90148dd59691b4aa7ffc6a0aa080f3b3422d7abe03dfdafd2497", func := "bascule/basculelaw.SetsBegins", spec := "setsBegins", plainKeys := false, apart := false }
def SetsBeginsSaid : Prop := setsBeginsRow.holds Try.pinned (OpenSpec.ofChange setsBeginsSpec)

/-- ITS FALSE NEIGHBOUR: 'it returns false'. Refute it at one input. -/
def setsBeginsWrong : ChangeSpec := { name := "setsBegins", fn := fun _ => fun
  | [d] => { results := [.lit (.bool false)], args := [d] }
  | _ => none }
def SetsBeginsWrongFalsely : Prop := setsBeginsRow.holds Try.pinned (OpenSpec.ofChange setsBeginsWrong)

/-- 'basculelaw.WideSums': WHATEVER THE INPUT: true; the input reads as it did. -/
def wideSumsSpec : ChangeSpec := { name := "wideSums", fn := fun _ => fun
  | [d1, d2] => { results := [.lit (.bool true)], args := [d1, d2] }
  | _ => none }
def wideSumsRow : OpenClaim := { program := "ythgnmgdhgmobpaa", sum := "61efe7c73e4f90148dd59691b4aa7ffc6a0aa080f3b3422d7abe03dfdafd2497", func := "bascule/basculelaw.WideSums", spec := "wideSums", inPlace := ["math/bits.Add64", "math/bits.Sub64"], plainKeys := false, apart := false }
def WideSumsSaid : Prop := wideSumsRow.holds Try.pinned (OpenSpec.ofChange wideSumsSpec)

/-- ITS FALSE NEIGHBOUR: 'it returns false'. Refute it at one input. -/
def wideSumsWrong : ChangeSpec := { name := "wideSums", fn := fun _ => fun
  | [d1, d2] => { results := [.lit (.bool false)], args := [d1, d2] }
  | _ => none }
def WideSumsWrongFalsely : Prop := wideSumsRow.holds Try.pinned (OpenSpec.ofChange wideSumsWrong)

/-- 'basculelaw.SetsChecks': WHATEVER THE INPUT: true; the input reads as it did. -/
def setsChecksSpec : ChangeSpec := { name := "setsChecks", fn := fun _ => fun
  | [d] => { results := [.lit (.bool true)], args := [d] }
  | _ => none }
def setsChecksRow : OpenClaim := { program := "ythgnmgdhgmobpaa", sum := "61efe7c73e4f90148dd59691b4aa7ffc6a0aa080f3b3422d7abe03dfdafd2497", func := "bascule/basculelaw.SetsChecks", spec := "setsChecks", plainKeys := false, apart := false }
def SetsChecksSaid : Prop := setsChecksRow.holds Try.pinned (OpenSpec.ofChange setsChecksSpec)

/-- ITS FALSE NEIGHBOUR: 'it returns false'. Refute it at one input. -/
def setsChecksWrong : ChangeSpec := { name := "setsChecks", fn := fun _ => fun
  | [d] => { results := [.lit (.bool false)], args := [d] }
  | _ => none }
def SetsChecksWrongFalsely : Prop := setsChecksRow.holds Try.pinned (OpenSpec.ofChange setsChecksWrong)

/-- 'basculelaw.LogMends': WHATEVER THE INPUT: true; the input reads as it did. -/
def logMendsSpec : ChangeSpec := { name := "logMends", fn := fun _ => fun
  | [d] => { results := [.lit (.bool true)], args := [d] }
  | _ => none }
def logMendsRow : OpenClaim := { program := "ythgnmgdhgmobpaa", sum := "61efe7c73e4f90148dd59691b4aa7ffc6a0aa080f3b3422d7abe03dfdafd2497", func := "bascule/basculelaw.LogMends", spec := "logMends", plainKeys := false, apart := false }
def LogMendsSaid : Prop := logMendsRow.holds Try.pinned (OpenSpec.ofChange logMendsSpec)

/-- ITS FALSE NEIGHBOUR: 'it returns false'. Refute it at one input. -/
def logMendsWrong : ChangeSpec := { name := "logMends", fn := fun _ => fun
  | [d] => { results := [.lit (.bool false)], args := [d] }
  | _ => none }
def LogMendsWrongFalsely : Prop := logMendsRow.holds Try.pinned (OpenSpec.ofChange logMendsWrong)

/-- 'basculelaw.ForkChecks': WHATEVER THE INPUT: true; the input reads as it did. -/
def forkChecksSpec : ChangeSpec := { name := "forkChecks", fn := fun _ => fun
  | [d] => { results := [.lit (.bool true)], args := [d] }
  | _ => none }
def forkChecksRow : OpenClaim := { program := "ythgnmgdhgmobpaa", sum := "61efe7c73e4f90148dd59691b4aa7ffc6a0aa080f3b3422d7abe03dfdafd2497", func := "bascule/basculelaw.ForkChecks", spec := "forkChecks", recurses := true, plainKeys := false, apart := false }
def ForkChecksSaid : Prop := forkChecksRow.holds Try.pinned (OpenSpec.ofChange forkChecksSpec)

/-- ITS FALSE NEIGHBOUR: 'it returns false'. Refute it at one input. -/
def forkChecksWrong : ChangeSpec := { name := "forkChecks", fn := fun _ => fun
  | [d] => { results := [.lit (.bool false)], args := [d] }
  | _ => none }
def ForkChecksWrongFalsely : Prop := forkChecksRow.holds Try.pinned (OpenSpec.ofChange forkChecksWrong)

/-- 'basculelaw.WideProducts': WHATEVER THE INPUT: true; the input reads as it did. -/
def wideProductsSpec : ChangeSpec := { name := "wideProducts", fn := fun _ => fun
  | [d1, d2] => { results := [.lit (.bool true)], args := [d1, d2] }
  | _ => none }
def wideProductsRow : OpenClaim := { program := "ythgnmgdhgmobpaa", sum := "61efe7c73e4f90148dd59691b4aa7ffc6a0aa080f3b3422d7abe03dfdafd2497", func := "bascule/basculelaw.WideProducts", spec := "wideProducts", inPlace := ["math/bits.Add64"], plainKeys := false, apart := false }
def WideProductsSaid : Prop := wideProductsRow.holds Try.pinned (OpenSpec.ofChange wideProductsSpec)

/-- ITS FALSE NEIGHBOUR: 'it returns false'. Refute it at one input. -/
def wideProductsWrong : ChangeSpec := { name := "wideProducts", fn := fun _ => fun
  | [d1, d2] => { results := [.lit (.bool false)], args := [d1, d2] }
  | _ => none }
def WideProductsWrongFalsely : Prop := wideProductsRow.holds Try.pinned (OpenSpec.ofChange wideProductsWrong)

/-- 'basculelaw.CoinChecks': WHATEVER THE INPUT: true; the input reads as it did. -/
def coinChecksSpec : ChangeSpec := { name := "coinChecks", fn := fun _ => fun
  | [d] => { results := [.lit (.bool true)], args := [d] }
  | _ => none }
def coinChecksRow : OpenClaim := { program := "ythgnmgdhgmobpaa", sum := "61efe7c73e4f90148dd59691b4aa7ffc6a0aa080f3b3422d7abe03dfdafd2497", func := "bascule/basculelaw.CoinChecks", spec := "coinChecks", inPlace := ["internal/bytealg.Compare", "math/bits.Add64"], plainKeys := false, apart := false }
def CoinChecksSaid : Prop := coinChecksRow.holds Try.pinned (OpenSpec.ofChange coinChecksSpec)

/-- ITS FALSE NEIGHBOUR: 'it returns false'. Refute it at one input. -/
def coinChecksWrong : ChangeSpec := { name := "coinChecks", fn := fun _ => fun
  | [d] => { results := [.lit (.bool false)], args := [d] }
  | _ => none }
def CoinChecksWrongFalsely : Prop := coinChecksRow.holds Try.pinned (OpenSpec.ofChange coinChecksWrong)

/- THE SECOND FORM. 'bulk': how many values and letters a reading holds, each counted each time it is reached (what is shared counts as often as it is met; a slice's spare places count too). A statement '..UptoSaid' is the law's where the arguments, and the package variables that the reading takes, are together of bulk at most 1048576: NARROWER than '..Said'. Prove '..Said' where nothing that the law and all that it calls make is longer than what came in: it says more and counts as full. Else prove '..UptoSaid'. A law counts once. -/
mutual
def uptoBulk {H : Type} : DataW H → Nat
  | .lit (.string bytes) => bytes.length + 1
  | .lit _ => 1
  | .nil => 1
  | .ptr d => uptoBulk d + 1
  | .slice elems spare => uptoBulkAll elems + uptoBulkAll spare + 1
  | .agg parts => uptoBulkAll parts + 1
  | .iface _ d => uptoBulk d + 1
  | .map entries => uptoBulkEntries entries + 1
  | .held _ => 1
def uptoBulkAll {H : Type} : List (DataW H) → Nat
  | [] => 0
  | d :: r => uptoBulk d + uptoBulkAll r
def uptoBulkEntries {H : Type} : List (Lit × DataW H) → Nat
  | [] => 0
  | x :: r => uptoBulkEntry x + uptoBulkEntries r
def uptoBulkEntry {H : Type} : Lit × DataW H → Nat
  | (.string bytes, d) => bytes.length + uptoBulk d + 1
  | (_, d) => uptoBulk d + 1
 end
def uptoSmall : (H : Type) → List (DataW H) → Bool := fun _ ds => decide (uptoBulkAll ds ≤ 1048576)
def OpenSpec.upto (s : _root_.Go.ChangeSpec) : _root_.Go.OpenSpec := { _root_.Go.OpenSpec.ofChange s with cond := some uptoSmall }

/-- 'basculelaw.Names', WHERE WHAT IT READS IS OF BULK AT MOST 1048576: true; the input reads as it did. -/
def namesUptoRow : OpenClaim := { program := "ythgnmgdhgmobpaa", sum := "61efe7c73e4f90148dd59691b4aa7ffc6a0aa080f3b3422d7abe03dfdafd2497", func := "bascule/basculelaw.Names", spec := "names", plainKeys := false, apart := false, narrowed := true }
def NamesUptoSaid : Prop := namesUptoRow.holds Try.pinned (OpenSpec.upto namesSpec)

/-- 'basculelaw.QuorumNeeds', WHERE WHAT IT READS IS OF BULK AT MOST 1048576: true; the input reads as it did. -/
def quorumNeedsUptoRow : OpenClaim := { program := "ythgnmgdhgmobpaa", sum := "61efe7c73e4f90148dd59691b4aa7ffc6a0aa080f3b3422d7abe03dfdafd2497", func := "bascule/basculelaw.QuorumNeeds", spec := "quorumNeeds", plainKeys := false, apart := false, narrowed := true }
def QuorumNeedsUptoSaid : Prop := quorumNeedsUptoRow.holds Try.pinned (OpenSpec.upto quorumNeedsSpec)

/-- 'basculelaw.SeenHas', WHERE WHAT IT READS IS OF BULK AT MOST 1048576: true; the input reads as it did. -/
def seenHasUptoRow : OpenClaim := { program := "ythgnmgdhgmobpaa", sum := "61efe7c73e4f90148dd59691b4aa7ffc6a0aa080f3b3422d7abe03dfdafd2497", func := "bascule/basculelaw.SeenHas", spec := "seenHas", plainKeys := false, apart := false, narrowed := true }
def SeenHasUptoSaid : Prop := seenHasUptoRow.holds Try.pinned (OpenSpec.upto seenHasSpec)

/-- 'basculelaw.LogFalls', WHERE WHAT IT READS IS OF BULK AT MOST 1048576: true; the input reads as it did. -/
def logFallsUptoRow : OpenClaim := { program := "ythgnmgdhgmobpaa", sum := "61efe7c73e4f90148dd59691b4aa7ffc6a0aa080f3b3422d7abe03dfdafd2497", func := "bascule/basculelaw.LogFalls", spec := "logFalls", plainKeys := false, apart := false, narrowed := true }
def LogFallsUptoSaid : Prop := logFallsUptoRow.holds Try.pinned (OpenSpec.upto logFallsSpec)

/-- 'basculelaw.BodyChecks', WHERE WHAT IT READS IS OF BULK AT MOST 1048576: true; the input reads as it did. -/
def bodyChecksUptoRow : OpenClaim := { program := "ythgnmgdhgmobpaa", sum := "61efe7c73e4f90148dd59691b4aa7ffc6a0aa080f3b3422d7abe03dfdafd2497", func := "bascule/basculelaw.BodyChecks", spec := "bodyChecks", unfollowed := true, recurses := true, plainKeys := false, apart := false, narrowed := true }
def BodyChecksUptoSaid : Prop := bodyChecksUptoRow.holds Try.pinned (OpenSpec.upto bodyChecksSpec)

/-- 'basculelaw.WideOrders', WHERE WHAT IT READS IS OF BULK AT MOST 1048576: true; the input reads as it did. -/
def wideOrdersUptoRow : OpenClaim := { program := "ythgnmgdhgmobpaa", sum := "61efe7c73e4f90148dd59691b4aa7ffc6a0aa080f3b3422d7abe03dfdafd2497", func := "bascule/basculelaw.WideOrders", spec := "wideOrders", plainKeys := false, apart := false, narrowed := true }
def WideOrdersUptoSaid : Prop := wideOrdersUptoRow.holds Try.pinned (OpenSpec.upto wideOrdersSpec)

/-- 'basculelaw.WideBytes', WHERE WHAT IT READS IS OF BULK AT MOST 1048576: true; the input reads as it did. -/
def wideBytesUptoRow : OpenClaim := { program := "ythgnmgdhgmobpaa", sum := "61efe7c73e4f90148dd59691b4aa7ffc6a0aa080f3b3422d7abe03dfdafd2497", func := "bascule/basculelaw.WideBytes", spec := "wideBytes", plainKeys := false, apart := false, narrowed := true }
def WideBytesUptoSaid : Prop := wideBytesUptoRow.holds Try.pinned (OpenSpec.upto wideBytesSpec)

/-- 'basculelaw.PostNames', WHERE WHAT IT READS IS OF BULK AT MOST 1048576: true; the input reads as it did. -/
def postNamesUptoRow : OpenClaim := { program := "ythgnmgdhgmobpaa", sum := "61efe7c73e4f90148dd59691b4aa7ffc6a0aa080f3b3422d7abe03dfdafd2497", func := "bascule/basculelaw.PostNames", spec := "postNames", plainKeys := false, apart := false, narrowed := true }
def PostNamesUptoSaid : Prop := postNamesUptoRow.holds Try.pinned (OpenSpec.upto postNamesSpec)

/-- 'basculelaw.SeenMarks', WHERE WHAT IT READS IS OF BULK AT MOST 1048576: true; the input reads as it did. -/
def seenMarksUptoRow : OpenClaim := { program := "ythgnmgdhgmobpaa", sum := "61efe7c73e4f90148dd59691b4aa7ffc6a0aa080f3b3422d7abe03dfdafd2497", func := "bascule/basculelaw.SeenMarks", spec := "seenMarks", plainKeys := false, apart := false, narrowed := true }
def SeenMarksUptoSaid : Prop := seenMarksUptoRow.holds Try.pinned (OpenSpec.upto seenMarksSpec)

/-- 'basculelaw.LogAppends', WHERE WHAT IT READS IS OF BULK AT MOST 1048576: true; the input reads as it did. -/
def logAppendsUptoRow : OpenClaim := { program := "ythgnmgdhgmobpaa", sum := "61efe7c73e4f90148dd59691b4aa7ffc6a0aa080f3b3422d7abe03dfdafd2497", func := "bascule/basculelaw.LogAppends", spec := "logAppends", plainKeys := false, apart := false, narrowed := true }
def LogAppendsUptoSaid : Prop := logAppendsUptoRow.holds Try.pinned (OpenSpec.upto logAppendsSpec)

/-- 'basculelaw.GateChecks', WHERE WHAT IT READS IS OF BULK AT MOST 1048576: true; the input reads as it did. -/
def gateChecksUptoRow : OpenClaim := { program := "ythgnmgdhgmobpaa", sum := "61efe7c73e4f90148dd59691b4aa7ffc6a0aa080f3b3422d7abe03dfdafd2497", func := "bascule/basculelaw.GateChecks", spec := "gateChecks", plainKeys := false, apart := false, narrowed := true }
def GateChecksUptoSaid : Prop := gateChecksUptoRow.holds Try.pinned (OpenSpec.upto gateChecksSpec)

/-- 'basculelaw.LogOpens', WHERE WHAT IT READS IS OF BULK AT MOST 1048576: true; the input reads as it did. -/
def logOpensUptoRow : OpenClaim := { program := "ythgnmgdhgmobpaa", sum := "61efe7c73e4f90148dd59691b4aa7ffc6a0aa080f3b3422d7abe03dfdafd2497", func := "bascule/basculelaw.LogOpens", spec := "logOpens", plainKeys := false, apart := false, narrowed := true }
def LogOpensUptoSaid : Prop := logOpensUptoRow.holds Try.pinned (OpenSpec.upto logOpensSpec)

/-- 'basculelaw.SetsBegins', WHERE WHAT IT READS IS OF BULK AT MOST 1048576: true; the input reads as it did. -/
def setsBeginsUptoRow : OpenClaim := { program := "ythgnmgdhgmobpaa", sum := "61efe7c73e4f90148dd59691b4aa7ffc6a0aa080f3b3422d7abe03dfdafd2497", func := "bascule/basculelaw.SetsBegins", spec := "setsBegins", plainKeys := false, apart := false, narrowed := true }
def SetsBeginsUptoSaid : Prop := setsBeginsUptoRow.holds Try.pinned (OpenSpec.upto setsBeginsSpec)

/-- 'basculelaw.WideSums', WHERE WHAT IT READS IS OF BULK AT MOST 1048576: true; the input reads as it did. -/
def wideSumsUptoRow : OpenClaim := { program := "ythgnmgdhgmobpaa", sum := "61efe7c73e4f90148dd59691b4aa7ffc6a0aa080f3b3422d7abe03dfdafd2497", func := "bascule/basculelaw.WideSums", spec := "wideSums", inPlace := ["math/bits.Add64", "math/bits.Sub64"], plainKeys := false, apart := false, narrowed := true }
def WideSumsUptoSaid : Prop := wideSumsUptoRow.holds Try.pinned (OpenSpec.upto wideSumsSpec)

/-- 'basculelaw.SetsChecks', WHERE WHAT IT READS IS OF BULK AT MOST 1048576: true; the input reads as it did. -/
def setsChecksUptoRow : OpenClaim := { program := "ythgnmgdhgmobpaa", sum := "61efe7c73e4f90148dd59691b4aa7ffc6a0aa080f3b3422d7abe03dfdafd2497", func := "bascule/basculelaw.SetsChecks", spec := "setsChecks", plainKeys := false, apart := false, narrowed := true }
def SetsChecksUptoSaid : Prop := setsChecksUptoRow.holds Try.pinned (OpenSpec.upto setsChecksSpec)

/-- 'basculelaw.LogMends', WHERE WHAT IT READS IS OF BULK AT MOST 1048576: true; the input reads as it did. -/
def logMendsUptoRow : OpenClaim := { program := "ythgnmgdhgmobpaa", sum := "61efe7c73e4f90148dd59691b4aa7ffc6a0aa080f3b3422d7abe03dfdafd2497", func := "bascule/basculelaw.LogMends", spec := "logMends", plainKeys := false, apart := false, narrowed := true }
def LogMendsUptoSaid : Prop := logMendsUptoRow.holds Try.pinned (OpenSpec.upto logMendsSpec)

/-- 'basculelaw.ForkChecks', WHERE WHAT IT READS IS OF BULK AT MOST 1048576: true; the input reads as it did. -/
def forkChecksUptoRow : OpenClaim := { program := "ythgnmgdhgmobpaa", sum := "61efe7c73e4f90148dd59691b4aa7ffc6a0aa080f3b3422d7abe03dfdafd2497", func := "bascule/basculelaw.ForkChecks", spec := "forkChecks", recurses := true, plainKeys := false, apart := false, narrowed := true }
def ForkChecksUptoSaid : Prop := forkChecksUptoRow.holds Try.pinned (OpenSpec.upto forkChecksSpec)

/-- 'basculelaw.WideProducts', WHERE WHAT IT READS IS OF BULK AT MOST 1048576: true; the input reads as it did. -/
def wideProductsUptoRow : OpenClaim := { program := "ythgnmgdhgmobpaa", sum := "61efe7c73e4f90148dd59691b4aa7ffc6a0aa080f3b3422d7abe03dfdafd2497", func := "bascule/basculelaw.WideProducts", spec := "wideProducts", inPlace := ["math/bits.Add64"], plainKeys := false, apart := false, narrowed := true }
def WideProductsUptoSaid : Prop := wideProductsUptoRow.holds Try.pinned (OpenSpec.upto wideProductsSpec)

/-- 'basculelaw.CoinChecks', WHERE WHAT IT READS IS OF BULK AT MOST 1048576: true; the input reads as it did. -/
def coinChecksUptoRow : OpenClaim := { program := "ythgnmgdhgmobpaa", sum := "61efe7c73e4f90148dd59691b4aa7ffc6a0aa080f3b3422d7abe03dfdafd2497", func := "bascule/basculelaw.CoinChecks", spec := "coinChecks", inPlace := ["internal/bytealg.Compare", "math/bits.Add64"], plainKeys := false, apart := false, narrowed := true }
def CoinChecksUptoSaid : Prop := coinChecksUptoRow.holds Try.pinned (OpenSpec.upto coinChecksSpec)

end Rows
end Go.Proofs.Ythgnmgdhgmobpaa
