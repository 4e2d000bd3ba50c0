/- A part of a framework that reads Go code as functions of plain data; or a law about such functions. -/
import Derived.Test.YtebnjboimekljaaLawInverse
import Derived.Test.YtebnjboimekljaaLawU256
import Derived.Test.YtebnjboimekljaaFnFieldInverses1
namespace Go.Bx
open Go
set_option linter.unusedSimpArgs false
set_option linter.unusedVariables false

theorem law_FieldInverses (x : (Ty.pair U256 (.pair U256 .unit)).den) (h : Fit reachK (.pair U256 (.pair U256 .unit)) x) : basculelaw_FieldInverses.run x.1 x.2.1 = some true := by
  obtain ⟨h1, h2, _⟩ := h
  obtain ⟨r, e, k1, k2⟩ := inverse_both (digs_of_fit h1) (digs_of_fit h2)
  unfold basculelaw_FieldInverses.run basculelaw_FieldInverses.top
  rw [k1, k2]
  simp only [Option.bind_some]
  rw [beqD_refl U256 r rfl]
  simp

end Go.Bx
