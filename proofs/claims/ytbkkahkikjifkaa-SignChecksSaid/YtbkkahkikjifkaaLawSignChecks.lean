/- A part of a framework that reads Go code as functions of plain data; or a law about such functions. -/
import Derived.Test.YtbkkahkikjifkaaLawSignCheck
import Derived.Test.YtbkkahkikjifkaaFnSignChecks1
namespace Go.Bx
open Go Go.Bx.Rg
set_option linter.unusedSimpArgs false
set_option linter.unusedVariables false
theorem signChecks_all (c : CvD) (q : PtD) (h : List Int) (s : List Int × List Int × Int × Unit) (hc : Fit reachK CvTy c) (hq : Fit reachK PtTy q) (hh : h.length = 32) (ho : ∀ b ∈ h, 0 <= b /\ b < 256) (hs : Fit reachK SgTy s) : basculelaw_SignChecks.run c q h s = some true := by
 obtain ⟨P, A, B, N, x, y, f, rfl, b1, b2, b3, b4, b5, b6⟩ := cv_num c hc
 obtain ⟨qx, qy, qf, rfl, q1, q2⟩ := pt_num q hq
 obtain ⟨R, S, o, rfl, hR, hS⟩ := sg_num s hs
 obtain ⟨e, e1, e2⟩ := check_both (f := f) (qf := qf) (o := o) b1 b2 b3 b4 b5 b6 q1 q2 hR hS hh ho
 unfold basculelaw_SignChecks.run basculelaw_SignChecks.top
 rw [e1, e2]
 simp
theorem law_SignChecks (x : (Ty.pair CvTy (.pair PtTy (.pair (.arr 32 (.int .u8)) (.pair SgTy .unit)))).den) (h : Fit reachK (.pair CvTy (.pair PtTy (.pair (.arr 32 (.int .u8)) (.pair SgTy .unit)))) x) : basculelaw_SignChecks.run x.1 x.2.1 x.2.2.1 x.2.2.2.1 = some true := by
 obtain ⟨h1, h2, ⟨h3, h4⟩, h5, _⟩ := h
 exact signChecks_all _ _ _ _ h1 h2 h3 (oct_of_fit h4) h5
end Go.Bx
