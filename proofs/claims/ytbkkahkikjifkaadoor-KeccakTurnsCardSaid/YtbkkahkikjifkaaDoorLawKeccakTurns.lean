/- A part of a framework that reads Go code as functions of plain data; or a law about such functions. -/
import Derived.Test.YtbkkahkikjifkaaDoorLawKeccak
import Derived.Test.YtbkkahkikjifkaaDoorFnKeccakTurns0
namespace Go.Bx
open Go
set_option linter.unusedSimpArgs false
set_option linter.unusedVariables false

theorem law_KeccakTurns (x : (Ty.pair (.arr 25 (.int .u64)) .unit).den) (h : Fit reachK (.pair (.arr 25 (.int .u64)) .unit) x) : basculelaw_KeccakTurns.run x.1 = some true := by
  obtain ⟨r, _, h2, h3⟩ := turn_both (l := x.1) h.1.1
  unfold basculelaw_KeccakTurns.run basculelaw_KeccakTurns.top
  rw [h2, h3, Option.bind_some, Option.bind_some, beqD_refl _ _ rfl]

end Go.Bx
