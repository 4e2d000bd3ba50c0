/- A part of a framework that reads Go code as functions of plain data; or a law about such functions. -/
import Derived.Test.YtbkkahkikjifkaaLawAt
import Derived.Test.YtbkkahkikjifkaaLawBeq
namespace Go.Bx
open Go
set_option linter.unusedSimpArgs false
set_option linter.unusedVariables false
set_option maxRecDepth 100000
abbrev BodyD : Type := Int × Int × Int × List Int × Int × Int × List Int × Unit
end Go.Bx
