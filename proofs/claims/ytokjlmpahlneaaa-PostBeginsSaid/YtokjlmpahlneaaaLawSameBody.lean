/- A part of a framework that reads Go code as functions of plain data; or a law about such functions. -/
import Derived.Test.YtokjlmpahlneaaaLawAt
import Derived.Test.YtokjlmpahlneaaaFnPostBegins0
namespace Go.Bx
open Go
set_option linter.unusedSimpArgs false
set_option linter.unusedVariables false

abbrev BodyD : Type := Int × Int × Int × List Int × Int × Int × List Int × Unit

theorem sameBody_refl (b : BodyD) : basculeref_SameBody.run b b = some true := by
  unfold basculeref_SameBody.run basculeref_SameBody.top
  simp only [BEq.rfl, beqD_refl (.arr 32 (.int .u8)) _ rfl, beqD_refl .str _ rfl, cond_true]

theorem sameBytes_refl (l : List Int) : basculelaw_sameBytes.run l l = some true := by
  unfold basculelaw_sameBytes.run basculelaw_sameBytes.top
  rw [beqD_refl .str _ rfl]

end Go.Bx
