/- The law of basculelaw.ForkSettles: whatever the arguments, the call returns true, and each argument reads as it did. -/
import Derived.Test.YtebnjboimekljaaLawForkSettles
import Derived.Test.YtebnjboimekljaaRows
import Derived.WalkKit
import Derived.ProofKit
namespace Go.Proofs.Ytebnjboimekljaa.forkSettles
open Go Go.ChangeShapes Go.WideShapes Go.ChangeAt Go.RowKit
set_option linter.unusedVariables false

theorem own : ownKnob Try.prog.godebug = none := by kernel_rfl

set_option maxRecDepth 100000 in
theorem lifted (os : Os) (started : os.Started) (H : Type) (enc : TypeId × Value → H) :
    ReturnsInHanded {} Try.checked os 22 .any (Rows.forkSettlesSpec.pre6 enc Try.prog Try.f22 Rows.forkSettlesRow.domain false) (Rows.forkSettlesSpec.post enc Try.prog Try.f22 false true false false) := by
  refine returnsInHanded_of_change_sized (C := Try.checked) own started (by kernel_rfl) Try.func22
    (ChangeSpec.witness6 (enc := enc) (C := Try.checked) false ⟨#[], #[.agg #[.slice none 0 0, .int .i64 0, .int .i64 0], .int .i64 0], []⟩ 16 (by kernel_rfl) (by kernel_rfl) (by kernel_rfl) (by kernel_rfl)) ?_
  intro W base args ds gs before hval hW _ hsz _
  exact Go.Bx.law_of_con (n := 2) (tb := 4) Go.Bx.small_reach Go.Bx.basculelaw_ForkSettles.con (Go.Bx.argTysB_sound (by kernel_rfl)) (by kernel_rfl) (by kernel_rfl) Try.underlying4 (by kernel_rfl) rfl
    (fun ds h => by
      match ds, h with
      | [_, _], _ => rfl) Go.Bx.law_ForkSettles hval hW (Go.Bx.light_of hsz)

theorem over : Rows.forkSettlesRow.holds Try.pinned (OpenSpec.ofChange Rows.forkSettlesSpec) :=
  OpenClaim.holds_of_wide 22 Try.f22 rfl rfl rfl rfl rfl rfl rfl ⟨rfl, rfl, rfl, rfl, rfl⟩ rfl rfl rfl rfl rfl (by kernel_rfl) Try.func22 (by kernel_rfl)
    (of_decide_eq_true (by kernel_rfl)) (by unfold Func.isWrapper; first | (rw [if_pos (by decide +kernel)]; kernel_rfl) | (rw [if_neg (by decide +kernel)]; exact ⟨rfl, rfl⟩))
    (fun os started H enc _ => lifted os started H enc)
end Go.Proofs.Ytebnjboimekljaa.forkSettles

namespace Go.Proofs.Ytebnjboimekljaa
/-- The statement. -/
theorem forkSettles_holds : Rows.ForkSettlesSaid := forkSettles.over
#print axioms forkSettles_holds
end Go.Proofs.Ytebnjboimekljaa
