/- A part of a framework that reads Go code as functions of plain data; or a law about such functions. -/
import Derived.Test.YtbkkahkikjifkaaLawNum
import Derived.Test.YtbkkahkikjifkaaFnGuardWaits0
namespace Go.Bx
open Go
set_option linter.unusedSimpArgs false
set_option linter.unusedVariables false
theorem of_eq (a b c d : Int) : basculeref_of.run [a, b, c, d] = some [Int.tmod a 4294967296, IntKind.u64.wrap (Int.tdiv a 4294967296), Int.tmod b 4294967296, IntKind.u64.wrap (Int.tdiv b 4294967296), Int.tmod c 4294967296, IntKind.u64.wrap (Int.tdiv c 4294967296), Int.tmod d 4294967296, IntKind.u64.wrap (Int.tdiv d 4294967296)] := by kernel_rfl
end Go.Bx
