/- A part of a framework that reads Go code as functions of plain data; or a law about such functions. -/
import Derived.Test.YtbkkahkikjifkaaLawBase
namespace Go.Bx
open Go
set_option linter.unusedSimpArgs false
set_option linter.unusedVariables false
def val (B : Int) : List Int -> Int
 | [] => 0
 | d :: l => d + B * val B l
end Go.Bx
