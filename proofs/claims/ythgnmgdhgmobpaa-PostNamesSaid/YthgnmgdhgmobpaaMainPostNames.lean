/- The law of basculelaw.PostNames: whatever the arguments, the call returns true, and each argument reads as it did. -/
import Derived.Test.YthgnmgdhgmobpaaLawPN
import Derived.Test.YthgnmgdhgmobpaaRows
import Derived.WalkKit
import Derived.ProofKit
namespace Go.Proofs.Ythgnmgdhgmobpaa.postNames
open Go Go.ChangeShapes Go.WideShapes Go.ChangeAt Go.RowKit
set_option linter.unusedVariables false

theorem own : ownKnob Try.prog.godebug = none := by kernel_rfl

set_option maxRecDepth 100000 in
theorem lifted (os : Os) (started : os.Started) (H : Type) (enc : TypeId × Value → H) :
    ReturnsInHanded {} Try.checked os 10 .any (Rows.postNamesSpec.pre6 enc Try.prog Try.f10 Rows.postNamesRow.domain false) (Rows.postNamesSpec.post enc Try.prog Try.f10 false true false false) := by
  refine returnsInHanded_of_change_sized (C := Try.checked) own started (by kernel_rfl) Try.func10
    (ChangeSpec.witness6 (enc := enc) (C := Try.checked) false ⟨#[], #[.int .i64 0], []⟩ 16 (by kernel_rfl) (by kernel_rfl) (by kernel_rfl) (by kernel_rfl)) ?_
  intro W base args ds gs before hval hW _ hsz _
  exact Go.Bx.law_of_con (n := 1) (tb := 4) Go.Bx.small_reach Go.Bx.basculelaw_PostNames.con (Go.Bx.argTysB_sound (by kernel_rfl)) (by kernel_rfl) (by kernel_rfl) Try.underlying4 (by kernel_rfl) rfl
    (fun ds h => by
      match ds, h with
      | [_], _ => rfl) Go.Bx.law_PostNames hval hW (Go.Bx.light_of hsz)

theorem over : Rows.postNamesRow.holds Try.pinned (OpenSpec.ofChange Rows.postNamesSpec) :=
  OpenClaim.holds_of_wide 10 Try.f10 rfl rfl rfl rfl rfl rfl rfl ⟨rfl, rfl, rfl, rfl, rfl⟩ rfl rfl rfl rfl rfl (by kernel_rfl) Try.func10 (by kernel_rfl)
    (of_decide_eq_true (by kernel_rfl)) (by unfold Func.isWrapper; first | (rw [if_pos (by decide +kernel)]; kernel_rfl) | (rw [if_neg (by decide +kernel)]; exact ⟨rfl, rfl⟩))
    (fun os started H enc _ => lifted os started H enc)
end Go.Proofs.Ythgnmgdhgmobpaa.postNames

namespace Go.Proofs.Ythgnmgdhgmobpaa
/-- The statement. -/
theorem postNames_holds : Rows.PostNamesSaid := postNames.over
#print axioms postNames_holds
end Go.Proofs.Ythgnmgdhgmobpaa
