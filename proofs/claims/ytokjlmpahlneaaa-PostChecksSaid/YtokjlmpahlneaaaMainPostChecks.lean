/- The law of basculelaw.PostChecks: whatever the arguments, the call returns true, and each argument reads as it did. -/
import Derived.Test.YtokjlmpahlneaaaLawPostChecks
import Derived.Test.YtokjlmpahlneaaaRows
import Derived.WalkKit
import Derived.ProofKit
namespace Go.Proofs.Ytokjlmpahlneaaa.postChecks
open Go Go.ChangeShapes Go.WideShapes Go.ChangeAt Go.RowKit
set_option linter.unusedVariables false

theorem own : ownKnob Try.prog.godebug = none := by kernel_rfl

set_option maxRecDepth 100000 in
theorem lifted (os : Os) (started : os.Started) (H : Type) (enc : TypeId × Value → H) :
    ReturnsInHanded {} Try.checked os 3 .any (Rows.postChecksSpec.pre6 enc Try.prog Try.f3 Rows.postChecksRow.domain false) (Rows.postChecksSpec.post enc Try.prog Try.f3 false true false false) := by
  refine returnsInHanded_of_change_sized (C := Try.checked) own started (by kernel_rfl) Try.func3
    (ChangeSpec.witness6 (enc := enc) (C := Try.checked) false ⟨#[], #[.agg #[.int .i64 0, .int .i64 0, .slice none 0 0, .slice none 0 0, .int .u64 0, .int .u64 0, .int .u64 0, .int .u64 0, .int .u64 0, .int .u64 0, .int .u64 0, .int .u64 0, .int .u64 0, .int .u64 0, .int .u64 0, .int .u64 0, .int .i64 0, .slice none 0 0]], []⟩ 16 (by kernel_rfl) (by kernel_rfl) (by kernel_rfl) (by kernel_rfl)) ?_
  intro W base args ds gs before hval hW _ hsz _
  exact Go.Bx.law_of_con (n := 1) (tb := 4) Go.Bx.small_reach Go.Bx.basculelaw_PostChecks.con (Go.Bx.argTysB_sound (by kernel_rfl)) (by kernel_rfl) (by kernel_rfl) Try.underlying4 (by kernel_rfl) rfl
    (fun ds h => by
      match ds, h with
      | [_], _ => rfl) Go.Bx.law_PostChecks (Go.Bx.glob_nil rfl) hval hW (Go.Bx.light_of hsz)

theorem over : Rows.postChecksRow.holds Try.pinned (OpenSpec.ofChange Rows.postChecksSpec) :=
  OpenClaim.holds_of_wide 3 Try.f3 rfl rfl rfl rfl rfl rfl rfl ⟨rfl, rfl, rfl, rfl, rfl⟩ rfl rfl rfl rfl rfl (by kernel_rfl) Try.func3 (by kernel_rfl)
    (of_decide_eq_true (by kernel_rfl)) (by unfold Func.isWrapper; first | (rw [if_pos (by decide +kernel)]; kernel_rfl) | (rw [if_neg (by decide +kernel)]; exact ⟨rfl, rfl⟩))
    (fun os started H enc _ => lifted os started H enc)
end Go.Proofs.Ytokjlmpahlneaaa.postChecks

namespace Go.Proofs.Ytokjlmpahlneaaa
/-- The statement. -/
theorem postChecks_holds : Rows.PostChecksSaid := postChecks.over
#print axioms postChecks_holds
end Go.Proofs.Ytokjlmpahlneaaa
