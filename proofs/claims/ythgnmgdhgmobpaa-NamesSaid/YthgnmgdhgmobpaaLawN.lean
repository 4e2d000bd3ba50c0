/- A part of a framework that reads Go code as functions of plain data; or a law about such functions. -/
import Derived.Test.YthgnmgdhgmobpaaFnNames0
namespace Go.Bx
theorem law_Names (x : Ty.unit.den) (_ : Fit reachK .unit x) : basculelaw_Names.run = some true := by rfl
end Go.Bx
