/- A part of a framework that reads Go code as functions of plain data; or a law about such functions. -/
import Derived.Test.YtbkkahkikjifkaaDoorLawPoint
import Derived.Test.YtbkkahkikjifkaaDoorLawKeyOf
import Derived.Test.YtbkkahkikjifkaaDoorLawCurveNum
import Derived.Test.YtbkkahkikjifkaaDoorFnSignPoints1
namespace Go.Bx
open Go Go.Bx.Rg
set_option linter.unusedSimpArgs false
set_option linter.unusedVariables false
theorem signPoints_all (c : CvD) (d : List Int) (q : PtD) (hc : Fit reachK CvTy c) (hd : W4 d) (hq : Fit reachK PtTy q) : basculelaw_SignPoints.run c d q = some true := by
  obtain ⟨P, A, B, N, x, y, f, rfl, b1, b2, b3, b4, b5, b6⟩ := cv_num c hc
  obtain ⟨qx, qy, qf, rfl, q1, q2⟩ := pt_num q hq
  rw [mk_of hd]
  obtain ⟨s, e, e1, e2, _⟩ := point_both (f := f) b1 b2 b3 b4 b5 b6 hd.bound
  obtain ⟨k1, k2⟩ := key_both (x := mk qx) (y := mk qy) qf (mk_w qx).1 (mk_w qy).1
  unfold basculelaw_SignPoints.run basculelaw_SignPoints.top
  rw [e1, k1, e2, k2]
  simp only [Option.bind_some]
  rw [beqD_refl PtTy s rfl, beqD_refl (.arr 20 (.int .u8)) _ rfl]
  simp
theorem law_SignPoints (x : (Ty.pair CvTy (.pair U256 (.pair PtTy .unit))).den) (h : Fit reachK (.pair CvTy (.pair U256 (.pair PtTy .unit))) x) : basculelaw_SignPoints.run x.1 x.2.1 x.2.2.1 = some true := by
  obtain ⟨h1, h2, h3, _⟩ := h
  exact signPoints_all _ _ _ h1 (digs_of_fit h2) h3
end Go.Bx
