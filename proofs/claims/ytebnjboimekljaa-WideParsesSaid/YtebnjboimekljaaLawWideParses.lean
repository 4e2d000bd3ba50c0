/- A part of a framework that reads Go code as functions of plain data; or a law about such functions. -/
import Derived.Test.YtebnjboimekljaaLawParse
import Derived.Test.YtebnjboimekljaaFnWideParses0
namespace Go.Bx
open Go
set_option linter.unusedSimpArgs false
set_option linter.unusedVariables false

theorem law_WideParses (x : (Ty.pair .str .unit).den) (h : Fit reachK (.pair .str .unit) x) : basculelaw_WideParses.run x.1 = some true := by
  obtain ⟨w1, e1, n1, d1, v1⟩ := wide_parse x.1
  obtain ⟨w2, e2, n2, d2, v2⟩ := number_of x.1
  have := words_eq n1 n2 d1 d2 (by rw [v1, v2])
  subst this
  unfold basculelaw_WideParses.run basculelaw_WideParses.top
  rw [e1, e2]
  simp only [Option.bind_some, Option.some.injEq]
  rw [beqD_refl (.arr 4 (.int .u64)) w1 rfl]
  simp

end Go.Bx
