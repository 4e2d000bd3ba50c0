/- The law of basculelaw.WideShows: whatever the arguments, the call returns true, and each argument reads as it did. -/
import Derived.Test.YtpapikaeaodfgaaLawWideShows
import Derived.Test.YtpapikaeaodfgaaRows
import Derived.WalkKit
import Derived.ProofKit
namespace Go.Proofs.Ytpapikaeaodfgaa.wideShows
open Go Go.ChangeShapes Go.WideShapes Go.ChangeAt Go.RowKit
set_option linter.unusedVariables false

theorem own : ownKnob Try.prog.godebug = none := by kernel_rfl

set_option maxRecDepth 100000 in
theorem lifted (os : Os) (started : os.Started) (H : Type) (enc : TypeId × Value → H) :
    ReturnsInHanded {} Try.checked os 10 .any (Rows.wideShowsSpec.pre6 enc Try.prog Try.f10 Rows.wideShowsRow.domain false) (Rows.wideShowsSpec.post enc Try.prog Try.f10 false true false false) := by
  refine returnsInHanded_of_change_sized (C := Try.checked) own started (by kernel_rfl) Try.func10
    (ChangeSpec.witness6 (enc := enc) (C := Try.checked) false ⟨#[], #[.agg #[.int .u64 0, .int .u64 0, .int .u64 0, .int .u64 0]], []⟩ 16 (by kernel_rfl) (by kernel_rfl) (by kernel_rfl) (by kernel_rfl)) ?_
  intro W base args ds gs before hval hW _ hsz _
  exact Go.Bx.law_of_con (n := 1) (tb := 4) Go.Bx.small_reach Go.Bx.basculelaw_WideShows.con (Go.Bx.argTysB_sound (by kernel_rfl)) (by kernel_rfl) (by kernel_rfl) Try.underlying4 (by kernel_rfl) rfl
    (fun ds h => by
      match ds, h with
      | [_], _ => rfl) Go.Bx.law_WideShows (Go.Bx.glob_nil rfl) hval hW (Go.Bx.light_of hsz)

theorem over : Rows.wideShowsRow.holds Try.pinned (OpenSpec.ofChange Rows.wideShowsSpec) :=
  OpenClaim.holds_of_wide 10 Try.f10 rfl rfl rfl rfl rfl rfl rfl ⟨rfl, rfl, rfl, rfl, rfl⟩ rfl rfl rfl rfl rfl (by kernel_rfl) Try.func10 (by kernel_rfl)
    (of_decide_eq_true (by kernel_rfl)) (by unfold Func.isWrapper; first | (rw [if_pos (by decide +kernel)]; kernel_rfl) | (rw [if_neg (by decide +kernel)]; exact ⟨rfl, rfl⟩))
    (fun os started H enc _ => lifted os started H enc)
end Go.Proofs.Ytpapikaeaodfgaa.wideShows

namespace Go.Proofs.Ytpapikaeaodfgaa
/-- The statement. -/
theorem wideShows_holds : Rows.WideShowsSaid := wideShows.over
#print axioms wideShows_holds
end Go.Proofs.Ytpapikaeaodfgaa
