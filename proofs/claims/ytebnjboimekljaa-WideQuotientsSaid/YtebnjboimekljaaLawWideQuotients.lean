/- A part of a framework that reads Go code as functions of plain data; or a law about such functions. -/
import Derived.Test.YtebnjboimekljaaLawQuotient
import Derived.Test.YtebnjboimekljaaLawU256
import Derived.Test.YtebnjboimekljaaFnWideQuotients0
namespace Go.Bx
open Go
set_option linter.unusedSimpArgs false
set_option linter.unusedVariables false

theorem law_WideQuotients (x : (Ty.pair U256 (.pair U256 .unit)).den) (h : Fit reachK (.pair U256 (.pair U256 .unit)) x) : basculelaw_WideQuotients.run x.1 x.2.1 = some true := by
  obtain ⟨h1, h2, _⟩ := h
  obtain ⟨l1, d1⟩ := digs_of_fit h1
  obtain ⟨l2, d2⟩ := digs_of_fit h2
  obtain ⟨q, r, e1, e2, _⟩ := quotient_both l1 d1 l2 d2
  unfold basculelaw_WideQuotients.run basculelaw_WideQuotients.top
  rw [e1, e2]
  simp only [Option.bind_some]
  rw [beqD_refl U256 q rfl, beqD_refl U256 r rfl]
  simp

end Go.Bx
