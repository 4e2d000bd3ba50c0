/- A part of a framework that reads Go code as functions of plain data; or a law about such functions. -/
import Derived.Test.YtbkkahkikjifkaaDoorLawRefNum
namespace Go.Bx
open Go
set_option linter.unusedSimpArgs false
set_option linter.unusedVariables false
theorem digs_of_fit {K : Ty -> Nat -> Prop} {n : Nat} {l : List Int} (h : Fit K (.arr n (.int .u64)) l) : l.length = n /\ digs B64 l := by
 obtain ⟨h1, h2⟩ := h
 refine ⟨h1, fun d hd => ?_⟩
 have := h2 d hd
 simp only [Fit, inR_u64] at this
 simp only [B64]
 omega
abbrev U256 : Ty := .arr 4 (.int .u64)
end Go.Bx
