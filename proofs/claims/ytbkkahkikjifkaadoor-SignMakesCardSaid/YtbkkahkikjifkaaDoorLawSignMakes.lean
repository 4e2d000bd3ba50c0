/- A part of a framework that reads Go code as functions of plain data; or a law about such functions. -/
import Derived.Test.YtbkkahkikjifkaaDoorLawMake
import Derived.Test.YtbkkahkikjifkaaDoorLawCurveNum
import Derived.Test.YtbkkahkikjifkaaDoorFnSignMakes1
namespace Go.Bx
open Go Go.Bx.Rg
set_option linter.unusedSimpArgs false
set_option linter.unusedVariables false
set_option maxRecDepth 100000
theorem signMakes_all (c : CvD) (d h : List Int) (hc : Fit reachK CvTy c) (hd : W4 d) (hh : h.length = 32) (ho : Oct h) : basculelaw_SignMakes.run c d h = some true := by
 obtain ⟨P, A, B, N, x, y, f, rfl, b1, b2, b3, b4, b5, b6⟩ := cv_num c hc
 rw [mk_of hd]
 obtain ⟨s, e, e1, e2⟩ := make_both (f := f) b1 b2 b3 b4 b5 b6 hd.bound hh ho
 unfold basculelaw_SignMakes.run basculelaw_SignMakes.top
 rw [e1, e2]
 simp only [Option.bind_some]
 rw [beqD_refl (.pair U256 (.pair U256 (.pair (.int .i64) .unit))) s rfl]
 simp
theorem law_SignMakes (x : (Ty.pair CvTy (.pair U256 (.pair (.arr 32 (.int .u8)) .unit))).den) (h : Fit reachK (.pair CvTy (.pair U256 (.pair (.arr 32 (.int .u8)) .unit))) x) : basculelaw_SignMakes.run x.1 x.2.1 x.2.2.1 = some true := by
 obtain ⟨h1, h2, ⟨h3, h4⟩, _⟩ := h
 exact signMakes_all _ _ _ h1 (digs_of_fit h2) h3 (oct_fit h4)
end Go.Bx
