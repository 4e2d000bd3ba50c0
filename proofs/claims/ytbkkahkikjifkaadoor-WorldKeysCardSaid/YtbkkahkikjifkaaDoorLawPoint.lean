/- A part of a framework that reads Go code as functions of plain data; or a law about such functions. -/
import Derived.Test.YtbkkahkikjifkaaDoorLawMult
import Derived.Test.YtbkkahkikjifkaaDoorLawSecret
import Derived.Test.YtbkkahkikjifkaaDoorFnWorldKeys1
namespace Go.Bx
open Go Go.Bx.Rg
set_option linter.unusedSimpArgs false
set_option linter.unusedVariables false
theorem point_both {P A B N x y D : Int} {f : Bool} (b1 : 0 <= P /\ P < M256) (b2 : 0 <= A /\ A < M256) (b3 : 0 <= B /\ B < M256) (b4 : 0 <= N /\ N < M256) (b5 : 0 <= x /\ x < M256) (b6 : 0 <= y /\ y < M256) (hD : 0 <= D /\ D < M256) :
  ∃ (s : PtD) (e : Int), sign_Point.run (mk P, mk A, mk B, mk N, (mk x, mk y, f, ()), ()) (mk D) = some (s, e, ()) /\ basculeref_PointOf.run (mk P, mk A, mk B, mk N, (mk x, mk y, f, ()), ()) (mk D) = some (s, e, ()) /\ PtW s := by
 obtain ⟨e1, e2⟩ := curve_both f b1 b2 b3 b4 b5 b6
 obtain ⟨s1, s2⟩ := secret_both (mk P) (mk A) (mk B) (mk x, mk y, f, ()) hD b4
 unfold sign_Point.run sign_Point.top basculeref_PointOf.run basculeref_PointOf.top
 rw [e1, e2]
 simp only [Option.bind_some]
 rcases curveE_or P A B N x y f with h0 | h0
 ·rw [h0, s1, s2]
  simp only [Option.bind_some, bne_self_eq_false, Bool.false_eq_true, if_false]
  cases secB D N with
  | false => exact ⟨zPt, 6, rfl, rfl, zPt_w⟩
  | true =>
   simp only [Bool.not_true, Bool.false_eq_true, if_false]
   obtain ⟨o1, _, _⟩ := curveE_on h0
   obtain ⟨s, t, e, ok, m1, m2, m3, m4⟩ := mult_full b1 b2 b3 b4 b5 b6 h0 (mk_w D) b5 b6 o1
   obtain ⟨g1, g2, g3, g4⟩ := curveE_ok h0
   obtain ⟨_, o2⟩ := on_both ⟨by omega, b1.2⟩ ⟨b2.1, g3⟩ ⟨b3.1, g4⟩ (mk N) (mk x, mk y, f, ()) f b5 b6
   unfold basculeref_PointOften.run basculeref_PointOften.top basculeref_OnFault.run basculeref_OnFault.top
   rw [e2]
   simp only [Option.bind_some]
   rw [h0, o2, o1, m1, m2]
   cases ok with
   | true =>
    obtain ⟨rfl, rfl, m5, _⟩ := m3 rfl
    exact ⟨_, _, rfl, rfl, ptOk_w m5⟩
   | false =>
    obtain ⟨rfl, rfl⟩ := m4 rfl
    exact ⟨_, _, rfl, rfl, zPt_w⟩
 ·rw [h0]; exact ⟨zPt, 16, rfl, rfl, zPt_w⟩
end Go.Bx
