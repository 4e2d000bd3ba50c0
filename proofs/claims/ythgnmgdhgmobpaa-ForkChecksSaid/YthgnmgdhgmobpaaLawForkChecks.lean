/- A part of a framework that reads Go code as functions of plain data; or a law about such functions. -/
import Derived.Test.YthgnmgdhgmobpaaLawForkCheck
import Derived.Test.YthgnmgdhgmobpaaFnForkChecks0
namespace Go.Bx
open Go
set_option linter.unusedSimpArgs false
set_option linter.unusedVariables false

abbrev CallTy : Ty := .pair (.int .i64) (.pair (.arr 32 (.int .u8)) (.pair (.arr 32 (.int .u8)) (.pair (.int .i64) (.pair (.arr 4 (.int .u64)) (.pair (.arr 4 (.int .u64)) (.pair (.arr 32 (.int .u8)) (.pair (.int .i64) (.pair (.int .i64) (.pair (.sl (.int .u8)) .unit)))))))))
abbrev TreeTy : Ty := .pair (.sl (.pair (.int .i64) (.pair (.int .i64) (.pair (.sl CallTy) .unit)))) (.pair (.int .i64) (.pair (.int .i64) .unit))

theorem law_ForkChecks (x : (Ty.pair TreeTy .unit).den) (h : Fit reachK (.pair TreeTy .unit) x) : basculelaw_ForkChecks.run x.1 = some true := by
  obtain ⟨e, e1, e2, _⟩ := tree_both x.1
  unfold basculelaw_ForkChecks.run basculelaw_ForkChecks.top
  rw [e1, e2]
  simp

end Go.Bx
