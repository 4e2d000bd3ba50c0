/- A part of a framework that reads Go code as functions of plain data; or a law about such functions. -/
import Derived.Test.YtbkkahkikjifkaaDoorLawMk
import Derived.Test.YtbkkahkikjifkaaDoorLawFrom0
namespace Go.Bx
open Go
set_option linter.unusedSimpArgs false
set_option linter.unusedVariables false
theorem wid_ok {y : List Int} (hy : y.length = 32) (ho : ∀ b ∈ y, 0 <= b /\ b < 256) : wide_From.run y = some (mk (val B64 (wid y))) /\ basculeref_FromBytes.run y = some (mk (val B64 (wid y))) /\ (0 <= val B64 (wid y) /\ val B64 (wid y) < M256) := by
 obtain ⟨h1, h2⟩ := from_wid y hy ho
 have w : W4 (wid y) := wid_digs y hy ho
 rw [<- mk_of w]
 exact ⟨h1, h2, w.bound⟩
end Go.Bx
