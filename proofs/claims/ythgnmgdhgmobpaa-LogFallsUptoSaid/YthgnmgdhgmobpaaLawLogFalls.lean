/- A part of a framework that reads Go code as functions of plain data; or a law about such functions. -/
import Derived.Test.YthgnmgdhgmobpaaLawLogSame
import Derived.Test.YthgnmgdhgmobpaaFnLogFalls0
namespace Go.Bx
open Go
set_option linter.unusedSimpArgs false
set_option linter.unusedVariables false

theorem cutL_le {α : Type} (l : List α) (a b : Int) : (cutL l a b).length ≤ l.length := by
  unfold cutL
  rw [List.length_take, List.length_drop]
  omega

theorem law_LogFalls (x : (Ty.pair LogTy (.pair (.int .i64) .unit)).den) (h : Fit uptoK (.pair LogTy (.pair (.int .i64) .unit)) x) : basculelaw_LogFalls.run x.1 x.2.1 = some true := by
  obtain ⟨⟨⟨h1, _⟩, ⟨h2, _⟩, _⟩, _⟩ := h
  have key : ∀ (l : List Int × List Int × Unit) (n : Int), l.1.length ≤ 1048576 → l.2.1.length ≤ 1048576 → (log_Crash.run l n = basculeref_LogFallen.run l n ∧ ∃ r, log_Crash.run l n = some r) ∧ log_Sync.run l = some (l.1 ++ l.2.1, [], ()) ∧ basculeref_LogSynced.run l = some (l.1 ++ l.2.1, [], ()) := by
    intro l n g1 g2
    refine ⟨?_, ?_, ?_⟩
    · unfold log_Crash.run log_Crash.top basculeref_LogFallen.run basculeref_LogFallen.top
      by_cases c : (n < 0 ∨ n > (l.2.1.length : Int))
      · rw [if_pos (by rw [cond_or]; simp; omega), if_pos (by rw [cond_or]; simp; omega)]
        exact ⟨rfl, _, rfl⟩
      · have hc := cutL_le l.2.1 0 n
        have hb : cond (decide (n < 0)) true (decide (n > (l.2.1.length : Int))) = false := by rw [cond_or]; simp; omega
        rw [hb]
        simp only [Bool.false_eq_true, if_false]
        rw [if_pos (fitB_small (by omega) (by decide)), if_pos (by omega), if_pos (fitB_small (by omega) (by decide)), if_pos (by omega), if_pos (ble_of (by omega))]
        exact ⟨rfl, _, rfl⟩
    · unfold log_Sync.run log_Sync.top
      rw [if_pos (fitB_small (by omega) (by decide)), if_pos (fitB_small (by omega) (by decide))]
    · unfold basculeref_LogSynced.run basculeref_LogSynced.top
      rw [if_pos (ble_of (by omega))]
  obtain ⟨⟨k1, r, k2⟩, k3, k4⟩ := key x.1 x.2.1 h1 h2
  unfold basculelaw_LogFalls.run basculelaw_LogFalls.top
  rw [← k1, k2, k3, k4]
  simp only [Option.bind_some, sameLog_refl]
  simp [sameLog_refl]

end Go.Bx
