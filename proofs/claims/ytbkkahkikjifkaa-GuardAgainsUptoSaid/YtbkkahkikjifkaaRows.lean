/-
  No cell of these rows narrows 'for every input' (looked for: loops, veiled, ifaces, maps, wideKeys, modest, calm, conditions, laid).
  DERIVED. THE GIVEN ROWS OF THIS SEAT. 5 by the template 'for every input the law returns true; each argument reads behind the call as it read before'; 0 by the template 'total and deterministic' (their statements: YtbkkahkikjifkaaTotals.lean).
  GIVEN WITH THE SEED: the statements are not yours to turn. If you find one false, say at which input.
  Laid BY PROGRAM, IN A SANDBOX (cutbox-rows.mjs): the forced cells as the released guide's own fill.sh prints them over the translation e67fc54937c20132… (all of the seat's roots in one cut). By AI agents, Wed Nov 11 2026. No macro, syntax, notation, axiom, sorry.
-/
import Derived.Test.YtbkkahkikjifkaaChecked
import GoSem.Claim
import GoSem.ClaimJoined
import GoSem.ClaimMapViews
import Derived.JoinedTies
import Derived.KernelRfl
namespace Go.Proofs.Ytbkkahkikjifkaa
/- THE CELL 'sum', in the pinned program and in every row, IS THE sha256 OF THE DUMP (.gsa) THAT YtbkkahkikjifkaaProg.lean LOADS. Nothing in Lean hashes anything: it is a label: what it is worth is what the hold of that sum in a sandbox is worth. -/
noncomputable def Try.pinned : Pinned := { name := "ytbkkahkikjifkaa", sum := "e67fc54937c20132ec16bf6c46190b959beef1c0692f038a291bd17b96038cda", checked := Try.checked }
namespace Rows
def none {H : Type} : Left H := { results := [], args := [] }

/-- 'basculelaw.GuardWaits': WHATEVER THE INPUT: true; the input reads as it did. -/
def guardWaitsSpec : ChangeSpec := { name := "guardWaits", fn := fun _ => fun
  | [d1, d2] => { results := [.lit (.bool true)], args := [d1, d2] }
  | _ => none }
def guardWaitsRow : OpenClaim := { program := "ytbkkahkikjifkaa", sum := "e67fc54937c20132ec16bf6c46190b959beef1c0692f038a291bd17b96038cda", func := "bascule/basculelaw.GuardWaits", spec := "guardWaits", unfollowed := true, recurses := true, apart := false }
def GuardWaitsSaid : Prop := guardWaitsRow.holds Try.pinned (OpenSpec.ofChange guardWaitsSpec)

/-- ITS FALSE NEIGHBOUR: 'it returns false'. Refute it at one input. -/
def guardWaitsWrong : ChangeSpec := { name := "guardWaits", fn := fun _ => fun
  | [d1, d2] => { results := [.lit (.bool false)], args := [d1, d2] }
  | _ => none }
def GuardWaitsWrongFalsely : Prop := guardWaitsRow.holds Try.pinned (OpenSpec.ofChange guardWaitsWrong)

/-- 'basculelaw.SignChecks': WHATEVER THE INPUT: true; the input reads as it did. -/
def signChecksSpec : ChangeSpec := { name := "signChecks", fn := fun _ => fun
  | [d1, d2, d3, d4] => { results := [.lit (.bool true)], args := [d1, d2, d3, d4] }
  | _ => none }
def signChecksRow : OpenClaim := { program := "ytbkkahkikjifkaa", sum := "e67fc54937c20132ec16bf6c46190b959beef1c0692f038a291bd17b96038cda", func := "bascule/basculelaw.SignChecks", spec := "signChecks", inPlace := ["math/bits.Add64", "math/bits.Sub64"], unfollowed := true, recurses := true, apart := false }
def SignChecksSaid : Prop := signChecksRow.holds Try.pinned (OpenSpec.ofChange signChecksSpec)

/-- ITS FALSE NEIGHBOUR: 'it returns false'. Refute it at one input. -/
def signChecksWrong : ChangeSpec := { name := "signChecks", fn := fun _ => fun
  | [d1, d2, d3, d4] => { results := [.lit (.bool false)], args := [d1, d2, d3, d4] }
  | _ => none }
def SignChecksWrongFalsely : Prop := signChecksRow.holds Try.pinned (OpenSpec.ofChange signChecksWrong)

/-- 'basculelaw.SignRecovers': WHATEVER THE INPUT: true; the input reads as it did. -/
def signRecoversSpec : ChangeSpec := { name := "signRecovers", fn := fun _ => fun
  | [d1, d2, d3] => { results := [.lit (.bool true)], args := [d1, d2, d3] }
  | _ => none }
def signRecoversRow : OpenClaim := { program := "ytbkkahkikjifkaa", sum := "e67fc54937c20132ec16bf6c46190b959beef1c0692f038a291bd17b96038cda", func := "bascule/basculelaw.SignRecovers", spec := "signRecovers", inPlace := ["math/bits.Add64", "math/bits.Sub64"], unfollowed := true, recurses := true, apart := false }
def SignRecoversSaid : Prop := signRecoversRow.holds Try.pinned (OpenSpec.ofChange signRecoversSpec)

/-- ITS FALSE NEIGHBOUR: 'it returns false'. Refute it at one input. -/
def signRecoversWrong : ChangeSpec := { name := "signRecovers", fn := fun _ => fun
  | [d1, d2, d3] => { results := [.lit (.bool false)], args := [d1, d2, d3] }
  | _ => none }
def SignRecoversWrongFalsely : Prop := signRecoversRow.holds Try.pinned (OpenSpec.ofChange signRecoversWrong)

/-- 'basculelaw.GuardSees': WHATEVER THE INPUT: true; the input reads as it did. -/
def guardSeesSpec : ChangeSpec := { name := "guardSees", fn := fun _ => fun
  | [d1, d2] => { results := [.lit (.bool true)], args := [d1, d2] }
  | _ => none }
def guardSeesRow : OpenClaim := { program := "ytbkkahkikjifkaa", sum := "e67fc54937c20132ec16bf6c46190b959beef1c0692f038a291bd17b96038cda", func := "bascule/basculelaw.GuardSees", spec := "guardSees", unfollowed := true, recurses := true, apart := false }
def GuardSeesSaid : Prop := guardSeesRow.holds Try.pinned (OpenSpec.ofChange guardSeesSpec)

/-- ITS FALSE NEIGHBOUR: 'it returns false'. Refute it at one input. -/
def guardSeesWrong : ChangeSpec := { name := "guardSees", fn := fun _ => fun
  | [d1, d2] => { results := [.lit (.bool false)], args := [d1, d2] }
  | _ => none }
def GuardSeesWrongFalsely : Prop := guardSeesRow.holds Try.pinned (OpenSpec.ofChange guardSeesWrong)

/-- 'basculelaw.GuardAgains': WHATEVER THE INPUT: true; the input reads as it did. -/
def guardAgainsSpec : ChangeSpec := { name := "guardAgains", fn := fun _ => fun
  | [d1, d2, d3] => { results := [.lit (.bool true)], args := [d1, d2, d3] }
  | _ => none }
def guardAgainsRow : OpenClaim := { program := "ytbkkahkikjifkaa", sum := "e67fc54937c20132ec16bf6c46190b959beef1c0692f038a291bd17b96038cda", func := "bascule/basculelaw.GuardAgains", spec := "guardAgains", unfollowed := true, recurses := true, apart := false }
def GuardAgainsSaid : Prop := guardAgainsRow.holds Try.pinned (OpenSpec.ofChange guardAgainsSpec)

/-- ITS FALSE NEIGHBOUR: 'it returns false'. Refute it at one input. -/
def guardAgainsWrong : ChangeSpec := { name := "guardAgains", fn := fun _ => fun
  | [d1, d2, d3] => { results := [.lit (.bool false)], args := [d1, d2, d3] }
  | _ => none }
def GuardAgainsWrongFalsely : Prop := guardAgainsRow.holds Try.pinned (OpenSpec.ofChange guardAgainsWrong)

/- THE SECOND FORM. 'bulk': how many values and letters a reading holds, each counted each time it is reached (what is shared counts as often as it is met; a slice's spare places count too). A statement '..UptoSaid' is the law's where the arguments, and the package variables that the reading takes, are together of bulk at most 1048576: NARROWER than '..Said'. Prove '..Said' where nothing that the law and all that it calls make is longer than what came in: it says more and counts as full. Else prove '..UptoSaid'. A law counts once. -/
mutual
def uptoBulk {H : Type} : DataW H → Nat
  | .lit (.string bytes) => bytes.length + 1
  | .lit _ => 1
  | .nil => 1
  | .ptr d => uptoBulk d + 1
  | .slice elems spare => uptoBulkAll elems + uptoBulkAll spare + 1
  | .agg parts => uptoBulkAll parts + 1
  | .iface _ d => uptoBulk d + 1
  | .map entries => uptoBulkEntries entries + 1
  | .held _ => 1
def uptoBulkAll {H : Type} : List (DataW H) → Nat
  | [] => 0
  | d :: r => uptoBulk d + uptoBulkAll r
def uptoBulkEntries {H : Type} : List (Lit × DataW H) → Nat
  | [] => 0
  | x :: r => uptoBulkEntry x + uptoBulkEntries r
def uptoBulkEntry {H : Type} : Lit × DataW H → Nat
  | (.string bytes, d) => bytes.length + uptoBulk d + 1
  | (_, d) => uptoBulk d + 1
 end
def uptoSmall : (H : Type) → List (DataW H) → Bool := fun _ ds => decide (uptoBulkAll ds ≤ 1048576)
def OpenSpec.upto (s : _root_.Go.ChangeSpec) : _root_.Go.OpenSpec := { _root_.Go.OpenSpec.ofChange s with cond := some uptoSmall }

/-- 'basculelaw.GuardWaits', WHERE WHAT IT READS IS OF BULK AT MOST 1048576: true; the input reads as it did. -/
def guardWaitsUptoRow : OpenClaim := { program := "ytbkkahkikjifkaa", sum := "e67fc54937c20132ec16bf6c46190b959beef1c0692f038a291bd17b96038cda", func := "bascule/basculelaw.GuardWaits", spec := "guardWaits", unfollowed := true, recurses := true, apart := false, narrowed := true }
def GuardWaitsUptoSaid : Prop := guardWaitsUptoRow.holds Try.pinned (OpenSpec.upto guardWaitsSpec)

/-- 'basculelaw.SignChecks', WHERE WHAT IT READS IS OF BULK AT MOST 1048576: true; the input reads as it did. -/
def signChecksUptoRow : OpenClaim := { program := "ytbkkahkikjifkaa", sum := "e67fc54937c20132ec16bf6c46190b959beef1c0692f038a291bd17b96038cda", func := "bascule/basculelaw.SignChecks", spec := "signChecks", inPlace := ["math/bits.Add64", "math/bits.Sub64"], unfollowed := true, recurses := true, apart := false, narrowed := true }
def SignChecksUptoSaid : Prop := signChecksUptoRow.holds Try.pinned (OpenSpec.upto signChecksSpec)

/-- 'basculelaw.SignRecovers', WHERE WHAT IT READS IS OF BULK AT MOST 1048576: true; the input reads as it did. -/
def signRecoversUptoRow : OpenClaim := { program := "ytbkkahkikjifkaa", sum := "e67fc54937c20132ec16bf6c46190b959beef1c0692f038a291bd17b96038cda", func := "bascule/basculelaw.SignRecovers", spec := "signRecovers", inPlace := ["math/bits.Add64", "math/bits.Sub64"], unfollowed := true, recurses := true, apart := false, narrowed := true }
def SignRecoversUptoSaid : Prop := signRecoversUptoRow.holds Try.pinned (OpenSpec.upto signRecoversSpec)

/-- 'basculelaw.GuardSees', WHERE WHAT IT READS IS OF BULK AT MOST 1048576: true; the input reads as it did. -/
def guardSeesUptoRow : OpenClaim := { program := "ytbkkahkikjifkaa", sum := "e67fc54937c20132ec16bf6c46190b959beef1c0692f038a291bd17b96038cda", func := "bascule/basculelaw.GuardSees", spec := "guardSees", unfollowed := true, recurses := true, apart := false, narrowed := true }
def GuardSeesUptoSaid : Prop := guardSeesUptoRow.holds Try.pinned (OpenSpec.upto guardSeesSpec)

/-- 'basculelaw.GuardAgains', WHERE WHAT IT READS IS OF BULK AT MOST 1048576: true; the input reads as it did. -/
def guardAgainsUptoRow : OpenClaim := { program := "ytbkkahkikjifkaa", sum := "e67fc54937c20132ec16bf6c46190b959beef1c0692f038a291bd17b96038cda", func := "bascule/basculelaw.GuardAgains", spec := "guardAgains", unfollowed := true, recurses := true, apart := false, narrowed := true }
def GuardAgainsUptoSaid : Prop := guardAgainsUptoRow.holds Try.pinned (OpenSpec.upto guardAgainsSpec)

end Rows
end Go.Proofs.Ytbkkahkikjifkaa
