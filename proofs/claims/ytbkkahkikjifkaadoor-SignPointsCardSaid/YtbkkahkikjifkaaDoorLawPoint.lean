/- A part of a framework that reads Go code as functions of plain data; or a law about such functions. -/
import Derived.Test.YtbkkahkikjifkaaDoorLawMult
import Derived.Test.YtbkkahkikjifkaaDoorLawSecret
import Derived.Test.YtbkkahkikjifkaaDoorFnSignPoints1
namespace Go.Bx
open Go Go.Bx.Rg
set_option linter.unusedSimpArgs false
set_option linter.unusedVariables false
theorem curveE_on {P A B N x y : Int} {f : Bool} (h : curveE P A B N x y f = 0) : onB P A B x y f = true ∧ f = false ∧ 1 < N := by
  unfold curveE at h
  split at h
  · rename_i hg
    split at h
    · exact absurd h (by decide)
    · rename_i h2
      simp only [Bool.or_eq_true, Bool.not_eq_true', not_or, Bool.not_eq_true, Bool.not_eq_false] at h2
      unfold goodC at hg
      simp only [Bool.and_eq_true, decide_eq_true_eq] at hg
      exact ⟨h2.2, h2.1.2, hg.2⟩
  · exact absurd h (by decide)
def PtW (s : PtD) : Prop := W4 s.1 ∧ W4 s.2.1
theorem ptOk_w {P : Int} {s : PtD} (h : PtOk P s) : PtW s := by
  obtain ⟨x, y, f, rfl, _, _⟩ := h
  exact ⟨mk_w _, mk_w _⟩
theorem zPt_w : PtW zPt := ⟨W4.zero, W4.zero⟩
theorem point_both {P A B N x y D : Int} {f : Bool} (b1 : 0 ≤ P ∧ P < M256) (b2 : 0 ≤ A ∧ A < M256) (b3 : 0 ≤ B ∧ B < M256) (b4 : 0 ≤ N ∧ N < M256) (b5 : 0 ≤ x ∧ x < M256) (b6 : 0 ≤ y ∧ y < M256) (hD : 0 ≤ D ∧ D < M256) :
    ∃ (s : PtD) (e : Int), sign_Point.run (mk P, mk A, mk B, mk N, (mk x, mk y, f, ()), ()) (mk D) = some (s, e, ()) ∧ basculeref_PointOf.run (mk P, mk A, mk B, mk N, (mk x, mk y, f, ()), ()) (mk D) = some (s, e, ()) ∧ PtW s := by
  obtain ⟨e1, e2⟩ := curve_both f b1 b2 b3 b4 b5 b6
  obtain ⟨s1, s2⟩ := secret_both (mk P) (mk A) (mk B) (mk x, mk y, f, ()) hD b4
  unfold sign_Point.run sign_Point.top basculeref_PointOf.run basculeref_PointOf.top
  rw [e1, e2]
  simp only [Option.bind_some]
  rcases curveE_or P A B N x y f with h0 | h0
  · rw [h0, s1, s2]
    simp only [Option.bind_some, bne_self_eq_false, Bool.false_eq_true, if_false]
    cases secB D N with
    | false => exact ⟨zPt, 6, rfl, rfl, zPt_w⟩
    | true =>
      simp only [Bool.not_true, Bool.false_eq_true, if_false]
      obtain ⟨o1, _, _⟩ := curveE_on h0
      obtain ⟨s, t, e, ok, m1, m2, m3, m4, m5⟩ := mult_full b1 b2 b3 b4 b5 b6 h0 (mk_w D) b5 b6 o1
      rw [m1, m5]
      refine ⟨s, e, rfl, rfl, ?_⟩
      cases ok with
      | true => exact ptOk_w (m3 rfl).2.2.1
      | false => rw [(m4 rfl).2]; exact zPt_w
  · rw [h0]; exact ⟨zPt, 16, rfl, rfl, zPt_w⟩
end Go.Bx
