/- A part of a framework that reads Go code as functions of plain data; or a law about such functions. -/
import Derived.Test.YtbkkahkikjifkaaDoorLawBase
namespace Go.Bx
open Go
set_option linter.unusedVariables false
end Go.Bx
