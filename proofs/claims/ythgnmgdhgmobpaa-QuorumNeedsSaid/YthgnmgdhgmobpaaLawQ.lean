/- A part of a framework that reads Go code as functions of plain data; or a law about such functions. -/
import Derived.Test.YthgnmgdhgmobpaaFnQuorumNeeds0
import Derived.Test.YthgnmgdhgmobpaaBxU
namespace Go.Bx
open Go
set_option linter.unusedSimpArgs false
set_option linter.unusedVariables false

theorem needed_loop {α : Type} (k : Nat) (X : Int → Option α) : ∀ (m n : Nat) (x i : Int), 0 ≤ i → i ≤ 2 * x / 3 + 1 → 0 ≤ x → x ≤ 19 → (2 * x / 3 + 1 - i).toNat = m → m < n → basculeref_Needed.l0 k X n x i = X (2 * x / 3 + 1)
  | m, 0, x, i, _, _, _, _, _, h => absurd h (Nat.not_lt_zero _)
  | 0, n + 1, x, i, h0, h1, h2, h3, h4, h5 => by
    have : i = 2 * x / 3 + 1 := by omega
    subst this
    simp only [basculeref_Needed.l0, basculeref_Needed.l0s]
    rw [wrap_i64 (by omega) (by omega), wrap_i64 (by omega) (by omega), if_neg (by simp; omega)]
  | m + 1, n + 1, x, i, h0, h1, h2, h3, h4, h5 => by
    simp only [basculeref_Needed.l0, basculeref_Needed.l0s]
    rw [wrap_i64 (x := 3 * i) (by omega) (by omega), wrap_i64 (x := 2 * x) (by omega) (by omega), wrap_i64 (x := i + 1) (by omega) (by omega), if_pos (by simp; omega)]
    exact needed_loop k X m n x (i + 1) (by omega) (by omega) h2 h3 (by omega) (by omega)

theorem law_Q (x : Int) : basculelaw_QuorumNeeds.run x = some true := by
  simp only [basculelaw_QuorumNeeds.run, basculelaw_QuorumNeeds.top, quorum_Need.run, quorum_Need.top, basculeref_Needed.run, basculeref_Needed.top]
  by_cases h : x < 0 ∨ x > 19
  · have e : cond (decide (x < 0)) true (decide (x > 19)) = true := by simpa [cond_or] using h
    simp [e]
  · have e : cond (decide (x < 0)) true (decide (x > 19)) = false := by simp [cond_or]; omega
    have h2 : 2 * x / 3 + 1 = IntKind.i64.wrap (IntKind.i64.wrap ((IntKind.i64.wrap (2 * x)).tdiv 3) + 1) := by
      rw [wrap_i64 (x := 2 * x) (by omega) (by omega), Int.tdiv_eq_ediv_of_nonneg (by omega), wrap_i64 (x := 2 * x / 3) (by omega) (by omega), wrap_i64 (by omega) (by omega)]
    simp only [e, Bool.false_eq_true, if_false]
    rw [needed_loop fuel _ (2 * x / 3 + 1 - 0).toNat fuel x 0 (by omega) (by omega) (by omega) (by omega) rfl (by unfold fuel; omega)]
    simp only [basculeref_Needed.j0, Option.bind_some, ← h2]
    simp

theorem law_QuorumNeeds (x : (Ty.pair (.int .i64) .unit).den) (_ : Fit reachK (.pair (.int .i64) .unit) x) : basculelaw_QuorumNeeds.run x.1 = some true := law_Q x.1

end Go.Bx
