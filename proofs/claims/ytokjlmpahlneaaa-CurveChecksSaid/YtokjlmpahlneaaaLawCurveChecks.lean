/- A part of a framework that reads Go code as functions of plain data; or a law about such functions. -/
import Derived.Test.YtokjlmpahlneaaaLawCurveNum
import Derived.Test.YtokjlmpahlneaaaFnCurveChecks1
namespace Go.Bx
open Go Go.Bx.Rg
set_option linter.unusedSimpArgs false
set_option linter.unusedVariables false

theorem checks_curve (c : CvD) (p : PtD) (hc : Fit reachK CvTy c) (hp : Fit reachK PtTy p) : basculelaw_CurveChecks.run c p = some true := by
  obtain ⟨P, A, B, N, x, y, f, rfl, b1, b2, b3, b4, b5, b6⟩ := cv_num c hc
  obtain ⟨px, py, pf, rfl, q1, q2⟩ := pt_num p hp
  obtain ⟨e1, e2⟩ := curve_both f b1 b2 b3 b4 b5 b6
  unfold basculelaw_CurveChecks.run basculelaw_CurveChecks.top curve_On.run curve_On.top basculeref_OnFault.run basculeref_OnFault.top
  rw [e1, e2]
  simp only [Option.bind_some]
  rcases curveE_or P A B N x y f with h0 | h0
  · obtain ⟨g1, g2, g3, g4⟩ := curveE_ok h0
    have hM : 1 < P ∧ P < M256 := ⟨by omega, b1.2⟩
    obtain ⟨o1, o2⟩ := on_both hM ⟨b2.1, g3⟩ ⟨b3.1, g4⟩ (mk N) (mk x, mk y, f, ()) pf q1 q2
    rw [h0, o1, o2]
    cases onB P A B px py pf <;> rfl
  · rw [h0]; rfl

theorem law_CurveChecks (x : (Ty.pair CvTy (.pair PtTy .unit)).den) (h : Fit reachK (.pair CvTy (.pair PtTy .unit)) x) : basculelaw_CurveChecks.run x.1 x.2.1 = some true := by
  obtain ⟨h1, h2, _⟩ := h
  exact checks_curve _ _ h1 h2

end Go.Bx
