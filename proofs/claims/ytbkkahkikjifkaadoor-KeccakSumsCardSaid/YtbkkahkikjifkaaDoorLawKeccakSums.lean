/- A part of a framework that reads Go code as functions of plain data; or a law about such functions. -/
import Derived.Test.YtbkkahkikjifkaaDoorLawSum
import Derived.Test.YtbkkahkikjifkaaDoorFnKeccakSums0
namespace Go.Bx
open Go
set_option linter.unusedSimpArgs false
set_option linter.unusedVariables false
set_option maxRecDepth 100000

theorem law_KeccakSums (x : (Ty.pair (.sl (.int .u8)) .unit).den) (h : Fit reachK (.pair (.sl (.int .u8)) .unit) x) : basculelaw_KeccakSums.run x.1 = some true := by
  obtain ⟨b, ⟨⟩⟩ := x
  obtain ⟨⟨hr, hm, hob⟩, _⟩ := h
  obtain ⟨e1, e2⟩ := sum_both (b := b) (oct_fit hob) (reach8 hr)
  show basculelaw_KeccakSums.run b = some true
  unfold basculelaw_KeccakSums.run basculelaw_KeccakSums.top
  rw [e1, e2]
  simp only [Option.bind_some]
  rw [beqD_refl (.arr 32 (.int .u8)) _ rfl]

end Go.Bx
