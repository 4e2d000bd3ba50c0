/- A part of a framework that reads Go code as functions of plain data; or a law about such functions. -/
import Derived.Test.YtbkkahkikjifkaaLawSignRecover
import Derived.Test.YtbkkahkikjifkaaLawCurveNum
import Derived.Test.YtbkkahkikjifkaaFnSignRecovers1
namespace Go.Bx
open Go Go.Bx.Rg
set_option linter.unusedSimpArgs false
set_option linter.unusedVariables false
theorem signRecovers_all (c : CvD) (h : List Int) (s : List Int × List Int × Int × Unit) (hc : Fit reachK CvTy c) (hh : h.length = 32) (ho : ∀ b ∈ h, 0 <= b /\ b < 256) (hs : Fit reachK SgTy s) : basculelaw_SignRecovers.run c h s = some true := by
 obtain ⟨P, A, B, N, x, y, f, rfl, b1, b2, b3, b4, b5, b6⟩ := cv_num c hc
 obtain ⟨R, S, o, rfl, hR, hS⟩ := sg_num s hs
 obtain ⟨p, e, e1, e2, _⟩ := recover_both (f := f) (o := o) b1 b2 b3 b4 b5 b6 hR hS hh ho
 unfold basculelaw_SignRecovers.run basculelaw_SignRecovers.top
 rw [e1, e2]
 simp only [Option.bind_some]
 rw [beqD_refl PtTy p rfl]
 simp
theorem law_SignRecovers (x : (Ty.pair CvTy (.pair (.arr 32 (.int .u8)) (.pair SgTy .unit))).den) (h : Fit reachK (.pair CvTy (.pair (.arr 32 (.int .u8)) (.pair SgTy .unit))) x) : basculelaw_SignRecovers.run x.1 x.2.1 x.2.2.1 = some true := by
 obtain ⟨h1, ⟨h3, h4⟩, h5, _⟩ := h
 exact signRecovers_all _ _ _ h1 h3 (oct_of_fit h4) h5
end Go.Bx
