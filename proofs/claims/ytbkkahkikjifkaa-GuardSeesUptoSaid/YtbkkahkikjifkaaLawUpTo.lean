/- A part of a framework that reads Go code as functions of plain data; or a law about such functions. -/
import Derived.Test.YtbkkahkikjifkaaLawAt
import Derived.Test.YtbkkahkikjifkaaFnGuardSees0
namespace Go.Bx
open Go
set_option linter.unusedSimpArgs false
set_option linter.unusedVariables false
theorem upTo_run (n m : Int) : basculeref_upTo.run n m = some (decide (0 <= n) && decide (n <= m)) := by
 unfold basculeref_upTo.run basculeref_upTo.top
 rw [cond_and]
theorem grd (x b : Bool) : (if (x == true) = true then some b else some false) = some (x && b) := by cases x <;> rfl
theorem and_self' (x b : Bool) : cond x (x && b) false = (x && b) := by cases x <;> rfl
end Go.Bx
