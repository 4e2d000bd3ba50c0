/- A part of a framework that reads Go code as functions of plain data; or a law about such functions. -/
import Derived.Test.YtbkkahkikjifkaaDoorLawBeq
namespace Go.Bx
open Go
set_option linter.unusedSimpArgs false
set_option linter.unusedVariables false
theorem getD_at {α : Type} (P R : List α) (a d : α) : (P ++ a :: R).getD P.length d = a:=by simp [List.getD]
end Go.Bx
