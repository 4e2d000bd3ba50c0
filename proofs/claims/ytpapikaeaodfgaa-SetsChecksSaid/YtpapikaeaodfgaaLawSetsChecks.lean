/- A part of a framework that reads Go code as functions of plain data; or a law about such functions. -/
import Derived.Test.YtpapikaeaodfgaaLawSets
import Derived.Test.YtpapikaeaodfgaaFnSetsChecks0
namespace Go.Bx
open Go
theorem law_SetsChecks (x : (Ty.pair SetsTy .unit).den) (h : Fit reachK (.pair SetsTy .unit) x) : basculelaw_SetsChecks.run x.1 = some true := by
  obtain ⟨e, e1, e2, _⟩ := sets_both x.1
  unfold basculelaw_SetsChecks.run basculelaw_SetsChecks.top
  rw [e1, e2]
  simp
end Go.Bx
