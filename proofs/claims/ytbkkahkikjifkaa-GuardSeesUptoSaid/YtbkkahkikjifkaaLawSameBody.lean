/- A part of a framework that reads Go code as functions of plain data; or a law about such functions. -/
import Derived.Test.YtbkkahkikjifkaaLawBodyD
import Derived.Test.YtbkkahkikjifkaaLawSameBytes
import Derived.Test.YtbkkahkikjifkaaFnGuardSees0
namespace Go.Bx
open Go
set_option linter.unusedSimpArgs false
set_option linter.unusedVariables false
theorem sameBody_refl (b : BodyD) : basculeref_SameBody.run b b = some true := by
 unfold basculeref_SameBody.run basculeref_SameBody.top
 simp only [BEq.rfl, beqD_refl (.arr 32 (.int .u8)) _ rfl, beqD_refl .str _ rfl, cond_true]
end Go.Bx
