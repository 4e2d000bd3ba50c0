/- The law of basculelaw.Names: whatever the arguments, the call returns true, and each argument reads as it did. -/
import Derived.Test.YthgnmgdhgmobpaaLawN
import Derived.Test.YthgnmgdhgmobpaaRows
import Derived.WalkKit
import Derived.ProofKit
namespace Go.Proofs.Ythgnmgdhgmobpaa.names
open Go Go.ChangeShapes Go.WideShapes Go.ChangeAt Go.RowKit
set_option linter.unusedVariables false

theorem own : ownKnob Try.prog.godebug = none := by kernel_rfl

set_option maxRecDepth 100000 in
theorem lifted (os : Os) (started : os.Started) (H : Type) (enc : TypeId × Value → H) :
    ReturnsInHanded {} Try.checked os 3 .any (Rows.namesSpec.pre6 enc Try.prog Try.f3 Rows.namesRow.domain false) (Rows.namesSpec.post enc Try.prog Try.f3 false true false false) := by
  refine returnsInHanded_of_change_sized (C := Try.checked) own started (by kernel_rfl) Try.func3
    (ChangeSpec.witness6 (enc := enc) (C := Try.checked) false ⟨#[], #[], []⟩ 16 (by kernel_rfl) (by kernel_rfl) (by kernel_rfl) (by kernel_rfl)) ?_
  intro W base args ds gs before hval hW _ hsz _
  exact Go.Bx.law_of_con (n := 0) (tb := 4) Go.Bx.small_reach Go.Bx.basculelaw_Names.con (Go.Bx.argTysB_sound (by kernel_rfl)) (by kernel_rfl) (by kernel_rfl) Try.underlying4 (by kernel_rfl) rfl
    (fun ds h => by
      match ds, h with
      | [], _ => rfl) Go.Bx.law_Names hval hW (Go.Bx.light_of hsz)

theorem over : Rows.namesRow.holds Try.pinned (OpenSpec.ofChange Rows.namesSpec) :=
  OpenClaim.holds_of_wide 3 Try.f3 rfl rfl rfl rfl rfl rfl rfl ⟨rfl, rfl, rfl, rfl, rfl⟩ rfl rfl rfl rfl rfl (by kernel_rfl) Try.func3 (by kernel_rfl)
    (of_decide_eq_true (by kernel_rfl)) (by unfold Func.isWrapper; first | (rw [if_pos (by decide +kernel)]; kernel_rfl) | (rw [if_neg (by decide +kernel)]; exact ⟨rfl, rfl⟩))
    (fun os started H enc _ => lifted os started H enc)
end Go.Proofs.Ythgnmgdhgmobpaa.names

namespace Go.Proofs.Ythgnmgdhgmobpaa
/-- The statement. -/
theorem names_holds : Rows.NamesSaid := names.over
#print axioms names_holds
end Go.Proofs.Ythgnmgdhgmobpaa
