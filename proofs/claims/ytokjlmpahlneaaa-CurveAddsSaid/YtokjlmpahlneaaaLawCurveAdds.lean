/- A part of a framework that reads Go code as functions of plain data; or a law about such functions. -/
import Derived.Test.YtokjlmpahlneaaaLawCurveAdd
import Derived.Test.YtokjlmpahlneaaaLawCurveNum
import Derived.Test.YtokjlmpahlneaaaLawAt
import Derived.Test.YtokjlmpahlneaaaFnCurveAdds1
namespace Go.Bx
open Go Go.Bx.Rg
set_option linter.unusedSimpArgs false
set_option linter.unusedVariables false

theorem adds_curve (c : CvD) (p q : PtD) (hc : Fit reachK CvTy c) (hp : Fit reachK PtTy p) (hq : Fit reachK PtTy q) : basculelaw_CurveAdds.run c p q = some true := by
  obtain ⟨P, A, B, N, x, y, f, rfl, b1, b2, b3, b4, b5, b6⟩ := cv_num c hc
  obtain ⟨px, py, pf, rfl, p1, p2⟩ := pt_num p hp
  obtain ⟨qx, qy, qf, rfl, q1, q2⟩ := pt_num q hq
  obtain ⟨e1, e2⟩ := curve_both f b1 b2 b3 b4 b5 b6
  have key : ∃ s e, curve_Add.run (mk P, mk A, mk B, mk N, (mk x, mk y, f, ()), ()) (mk px, mk py, pf, ()) (mk qx, mk qy, qf, ()) = some (s, e, ()) ∧ basculeref_PointsAdded.run (mk P, mk A, mk B, mk N, (mk x, mk y, f, ()), ()) (mk px, mk py, pf, ()) (mk qx, mk qy, qf, ()) = some (s, e, ()) := by
    unfold curve_Add.run curve_Add.top basculeref_PointsAdded.run basculeref_PointsAdded.top curve_fault.run curve_fault.top
    rw [e1, e2]
    simp only [Option.bind_some]
    rcases curveE_or P A B N x y f with h0 | h0
    · obtain ⟨g1, g2, g3, g4⟩ := curveE_ok h0
      have hM : 1 < P ∧ P < M256 := ⟨by omega, b1.2⟩
      obtain ⟨o1, o2⟩ := on_both hM ⟨b2.1, g3⟩ ⟨b3.1, g4⟩ (mk N) (mk x, mk y, f, ()) pf p1 p2
      obtain ⟨o3, o4⟩ := on_both hM ⟨b2.1, g3⟩ ⟨b3.1, g4⟩ (mk N) (mk x, mk y, f, ()) qf q1 q2
      obtain ⟨k, hk⟩ : ∃ k, fuel = k + 3 := ⟨fuel - 3, by rw [fuel_big]⟩
      rw [h0, hk, o2, o4]
      simp only [curve_fault.l0, curve_fault.l0s, curve_fault.j0]
      have s1 : (decide ((0 : Int) < (([(mk px, mk py, pf, ()), (mk qx, mk qy, qf, ())] : List PtD).length : Int))) = true := rfl
      have s2 : (decide ((1 : Int) < (([(mk px, mk py, pf, ()), (mk qx, mk qy, qf, ())] : List PtD).length : Int))) = true := rfl
      have s3 : (decide ((2 : Int) < (([(mk px, mk py, pf, ()), (mk qx, mk qy, qf, ())] : List PtD).length : Int))) = false := rfl
      have r1 : (0 : Int) ≤ 0 ∧ (0 : Int) < (([(mk px, mk py, pf, ()), (mk qx, mk qy, qf, ())] : List PtD).length : Int) := by simp
      have r2 : (0 : Int) ≤ 1 ∧ (1 : Int) < (([(mk px, mk py, pf, ()), (mk qx, mk qy, qf, ())] : List PtD).length : Int) := by simp
      have w1 : IntKind.i64.wrap (0 + 1) = 1 := rfl
      have w2 : IntKind.i64.wrap (1 + 1) = 2 := rfl
      have d1 : ([(mk px, mk py, pf, ()), (mk qx, mk qy, qf, ())] : List PtD).getD (Int.toNat 0) ([0, 0, 0, 0], [0, 0, 0, 0], false, ()) = (mk px, mk py, pf, ()) := rfl
      have d2 : ([(mk px, mk py, pf, ()), (mk qx, mk qy, qf, ())] : List PtD).getD (Int.toNat 1) ([0, 0, 0, 0], [0, 0, 0, 0], false, ()) = (mk qx, mk qy, qf, ()) := rfl
      rw [w1, w2, s1, s2, s3, d1, d2, if_pos r1, if_pos r2, o1, o3]
      simp only [show ((0 : Int) != 0) = false from rfl, BEq.rfl, if_true, if_false, Bool.false_eq_true, Option.bind_some, cond_or, Bool.false_or]
      cases hp' : onB P A B px py pf with
      | false => exact ⟨_, _, rfl, rfl⟩
      | true =>
        simp only [Bool.not_true, Bool.false_eq_true, if_false, BEq.rfl, if_true, Option.bind_some, Bool.false_or]
        cases hq' : onB P A B qx qy qf with
        | false => exact ⟨_, _, rfl, rfl⟩
        | true =>
          simp only [Bool.not_true, Bool.false_eq_true, if_false, Option.bind_some, show ((0 : Int) != 0) = false from rfl]
          obtain ⟨s, ok, t1, t2, _⟩ := add_both hM ⟨b2.1, g3⟩ (B := B) (mk N) (mk x, mk y, f, ()) (pt_on hM hp' p1 p2) (pt_on hM hq' q1 q2)
          rw [t1, t2]
          cases ok <;> exact ⟨_, _, rfl, rfl⟩
    · rw [h0]; exact ⟨_, _, rfl, rfl⟩
  obtain ⟨s, e, k1, k2⟩ := key
  unfold basculelaw_CurveAdds.run basculelaw_CurveAdds.top
  rw [k1, k2]
  simp only [Option.bind_some]
  rw [beqD_refl _ _ rfl]
  simp [cond_and]

theorem law_CurveAdds (x : (Ty.pair CvTy (.pair PtTy (.pair PtTy .unit))).den) (h : Fit reachK (.pair CvTy (.pair PtTy (.pair PtTy .unit))) x) : basculelaw_CurveAdds.run x.1 x.2.1 x.2.2.1 = some true := by
  obtain ⟨h1, h2, h3, _⟩ := h
  exact adds_curve _ _ _ h1 h2 h3

end Go.Bx
