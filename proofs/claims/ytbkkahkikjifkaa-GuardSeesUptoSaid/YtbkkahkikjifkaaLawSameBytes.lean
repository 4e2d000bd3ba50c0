/- A part of a framework that reads Go code as functions of plain data; or a law about such functions. -/
import Derived.Test.YtbkkahkikjifkaaLawAt
import Derived.Test.YtbkkahkikjifkaaLawBeq
import Derived.Test.YtbkkahkikjifkaaFnGuardSees0
namespace Go.Bx
open Go
set_option linter.unusedSimpArgs false
set_option linter.unusedVariables false
set_option maxRecDepth 100000
theorem sameBytes_refl (l : List Int) : basculelaw_sameBytes.run l l = some true := by
 unfold basculelaw_sameBytes.run basculelaw_sameBytes.top
 rw [beqD_refl .str _ rfl]
end Go.Bx
