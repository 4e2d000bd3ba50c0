/- A part of a framework that reads Go code as functions of plain data; or a law about such functions. -/
import Derived.Test.YtbkkahkikjifkaaLawWord
import Derived.Test.YtbkkahkikjifkaaLawFrom0
import Derived.Test.YtbkkahkikjifkaaFnGuardSees1
namespace Go.Bx
open Go
set_option linter.unusedSimpArgs false
set_option linter.unusedVariables false
set_option maxRecDepth 100000
theorem pad_full (l : List Int) (h : l.length = 32) : pad l = l := by simp [pad, h]
theorem wideOf_wid (y : List Int) (hy : y.length = 32) (hb : ∀ b ∈ y, 0 <= b /\ b < 256) : basculeref_wideOf.run y = some (wid y) := by
 unfold basculeref_wideOf.run basculeref_wideOf.top
 rw [word_run y (by omega), pad_full y hy, Option.bind_some, (from_wid y hy hb).2, Option.bind_some]
end Go.Bx
