/- A part of a framework that reads Go code as functions of plain data; or a law about such functions. -/
import Derived.Test.YtpapikaeaodfgaaLawGate
import Derived.Test.YtpapikaeaodfgaaFnGateChecks0
namespace Go.Bx
open Go
set_option linter.unusedSimpArgs false
set_option linter.unusedVariables false
theorem law_GateChecks (x : (Ty.pair GateTy .unit).den) (h : Fit reachK (.pair GateTy .unit) x) : basculelaw_GateChecks.run x.1 = some true := by
  unfold basculelaw_GateChecks.run basculelaw_GateChecks.top
  rw [gate_check, gate_fault]
  simp
end Go.Bx
