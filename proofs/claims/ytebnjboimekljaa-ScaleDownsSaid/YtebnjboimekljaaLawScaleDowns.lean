/- A part of a framework that reads Go code as functions of plain data; or a law about such functions. -/
import Derived.Test.YtebnjboimekljaaLawScaleUps0
import Derived.Test.YtebnjboimekljaaLawQuotient
import Derived.Test.YtebnjboimekljaaLawU256
import Derived.Test.YtebnjboimekljaaFnScaleDowns1
namespace Go.Bx
open Go
set_option linter.unusedSimpArgs false
set_option linter.unusedVariables false

theorem inside77 {n : Int} (h : 0 ≤ n ∧ n ≤ 77) : cond (decide (n < 0)) true (decide (n > 77)) = false := by rw [cond_or]; simp; omega
theorem outside77 {n : Int} (h : ¬ (0 ≤ n ∧ n ≤ 77)) : cond (decide (n < 0)) true (decide (n > 77)) = true := by rw [cond_or]; simp; omega

theorem down_both {l : List Int} (l1 : l.length = 4) (d1 : digs B64 l) (n : Int) : ∃ r, scale_Down.run l n = some r ∧ basculeref_Lowered.run l n = some r := by
  obtain ⟨f, f1, f2, f3, f4⟩ := factor_run n
  by_cases h : 0 ≤ n ∧ n ≤ 77
  · obtain ⟨m, rfl⟩ : ∃ m : Nat, n = (m : Int) := ⟨n.toNat, by omega⟩
    obtain ⟨q, r, e1, e2, _⟩ := quotient_both l1 d1 f2 f3
    obtain ⟨w, w1, w2, w3, w4⟩ := ref_tens ((fewer m : Nat) : Int)
    refine ⟨(q, r, (if f = [0, 0, 0, 0] then 7 else 0), ()), ?_, ?_⟩
    · unfold scale_Down.run scale_Down.top
      rw [f1, Option.bind_some, if_pos h, if_neg (show ¬ (((0 : Int) != 0) = true) by decide), e1, Option.bind_some]
    · unfold basculeref_Lowered.run basculeref_Lowered.top
      rw [inside77 h, if_neg (by simp), (max8 (n := m) (by omega)).2, w1, Option.bind_some]
      have hfm : 0 ≤ ((fewer m : Nat) : Int) ∧ ((fewer m : Nat) : Int) ≤ 77 := by unfold fewer; omega
      rw [if_pos hfm, Int.toNat_natCast] at w4
      have hf := f4 h
      rw [Int.toNat_natCast] at hf
      rw [words_eq w2 f2 w3 f3 (by rw [w4, hf]), e2, Option.bind_some]
  · refine ⟨([0, 0, 0, 0], [0, 0, 0, 0], 6, ()), ?_, ?_⟩
    · unfold scale_Down.run scale_Down.top
      rw [f1, Option.bind_some, if_neg h]
      rfl
    · unfold basculeref_Lowered.run basculeref_Lowered.top
      rw [outside77 h]; rfl

theorem law_ScaleDowns (x : (Ty.pair U256 (.pair (.int .i64) .unit)).den) (h : Fit reachK (.pair U256 (.pair (.int .i64) .unit)) x) : basculelaw_ScaleDowns.run x.1 x.2.1 = some true := by
  obtain ⟨h1, _⟩ := h
  obtain ⟨l1, d1⟩ := digs_of_fit h1
  obtain ⟨r, e1, e2⟩ := down_both l1 d1 x.2.1
  unfold basculelaw_ScaleDowns.run basculelaw_ScaleDowns.top
  rw [e1, e2]
  simp only [Option.bind_some]
  rw [beqD_refl U256 r.1 rfl, beqD_refl U256 r.2.1 rfl]
  simp

end Go.Bx
