/- A part of a framework that reads Go code as functions of plain data; or a law about such functions. -/
import Derived.Test.YthgnmgdhgmobpaaLawBase
import Derived.Test.YthgnmgdhgmobpaaFnLogMends0
namespace Go.Bx
open Go
set_option linter.unusedSimpArgs false
set_option linter.unusedVariables false

abbrev LogTy : Ty := .pair (.sl (.int .u8)) (.pair (.sl (.int .u8)) .unit)

theorem ble_of {a b : Nat} (h : a ≤ b) : Nat.ble a b = true := Nat.ble_eq_true_of_le h

theorem sameLog_refl (x : List Int × List Int × Unit) : basculelaw_sameLog.run x x = some true := by
  unfold basculelaw_sameLog.run basculelaw_sameLog.top basculelaw_sameBytes.run basculelaw_sameBytes.top
  simp [beqD]

end Go.Bx
