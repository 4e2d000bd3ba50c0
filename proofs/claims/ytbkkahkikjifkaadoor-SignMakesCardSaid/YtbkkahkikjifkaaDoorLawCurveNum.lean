/- A part of a framework that reads Go code as functions of plain data; or a law about such functions. -/
import Derived.Test.YtbkkahkikjifkaaDoorLawCurve
import Derived.Test.YtbkkahkikjifkaaDoorLawU256
namespace Go.Bx
open Go Go.Bx.Rg
set_option linter.unusedSimpArgs false
set_option linter.unusedVariables false
abbrev PtTy : Ty := .pair U256 (.pair U256 (.pair .bool .unit))
abbrev CvTy : Ty := .pair U256 (.pair U256 (.pair U256 (.pair U256 (.pair PtTy .unit))))
theorem pt_num (p : PtD) (h : Fit reachK PtTy p) : ∃ x y f, p = (mk x, mk y, f, ()) /\ (0 <= x /\ x < M256) /\ (0 <= y /\ y < M256) := by
 obtain ⟨a, b, f, u⟩ := p
 obtain ⟨h1, h2, _⟩ := h
 have w1 : W4 a := digs_of_fit h1
 have w2 : W4 b := digs_of_fit h2
 exact ⟨_, _, f, by rw [<- mk_of w1, <- mk_of w2], w1.bound, w2.bound⟩
theorem cv_num (c : CvD) (h : Fit reachK CvTy c) : ∃ P A B N x y f, c = (mk P, mk A, mk B, mk N, (mk x, mk y, f, ()), ()) /\ (0 <= P /\ P < M256) /\ (0 <= A /\ A < M256) /\ (0 <= B /\ B < M256) /\ (0 <= N /\ N < M256) /\ (0 <= x /\ x < M256) /\ (0 <= y /\ y < M256) := by
 obtain ⟨p, a, b, n, q, u⟩ := c
 obtain ⟨h1, h2, h3, h4, h5, _⟩ := h
 have w1 : W4 p := digs_of_fit h1
 have w2 : W4 a := digs_of_fit h2
 have w3 : W4 b := digs_of_fit h3
 have w4 : W4 n := digs_of_fit h4
 obtain ⟨x, y, f, rfl, b1, b2⟩ := pt_num q h5
 exact ⟨_, _, _, _, x, y, f, by rw [<- mk_of w1, <- mk_of w2, <- mk_of w3, <- mk_of w4], w1.bound, w2.bound, w3.bound, w4.bound, b1, b2⟩
end Go.Bx
