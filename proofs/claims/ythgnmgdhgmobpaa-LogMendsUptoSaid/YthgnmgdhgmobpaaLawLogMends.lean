/- A part of a framework that reads Go code as functions of plain data; or a law about such functions. -/
import Derived.Test.YthgnmgdhgmobpaaLawLogOpens
import Derived.Test.YthgnmgdhgmobpaaFnLogMends0
namespace Go.Bx
open Go
set_option linter.unusedSimpArgs false
set_option linter.unusedVariables false

theorem cutL_len {α : Type} (l : List α) (a b : Int) : (cutL l a b).length ≤ l.length := by
  unfold cutL
  rw [List.length_take, List.length_drop]
  omega

theorem mend_same (l : List Int × List Int × Unit) (h1 : l.1.length ≤ 1048576) (h2 : l.2.1.length ≤ 1048576) (b1 : ∀ b ∈ l.1, 0 ≤ b ∧ b ≤ 255) (b2 : ∀ b ∈ l.2.1, 0 ≤ b ∧ b ≤ 255) :
    log_Mend.run l = basculeref_LogMended.run l ∧ ∃ r, log_Mend.run l = some r := by
  unfold log_Mend.run log_Mend.top basculeref_LogMended.run basculeref_LogMended.top
  rw [records_run l h1 h2 b1 b2, open_run l h1 h2 b1 b2]
  simp only [Option.bind_some]
  by_cases c : l.2.1.length > 0
  · rw [if_pos (by simpa using c), if_pos (by simpa using c)]
    exact ⟨rfl, _, rfl⟩
  · have e0 : decide ((l.2.1.length : Int) > 0) = false := by rw [decide_eq_false_iff_not]; omega
    have hle := (recs_le (l.1 ++ l.2.1).length (l.1 ++ l.2.1)).1
    have hll : (l.1 ++ l.2.1).length = l.1.length + l.2.1.length := List.length_append
    generalize (recs (l.1 ++ l.2.1).length (l.1 ++ l.2.1)).2 = q at hle ⊢
    have hb : (0 : Int) ≤ 0 ∧ (0 : Int) ≤ (q : Int) ∧ (q : Int) ≤ (l.1.length : Int) := by omega
    have hc := cutL_len l.1 0 (q : Int)
    have hf : fitB (0 + (cutL l.1 0 (q : Int)).length) 1 = true := fitB_small (by omega) (by decide)
    rw [e0]
    simp only [Bool.false_eq_true, if_false]
    rw [if_pos hb, if_pos hf, if_pos hb]
    exact ⟨rfl, _, rfl⟩

theorem law_LogMends (x : (Ty.pair LogTy .unit).den) (h : Fit uptoK (.pair LogTy .unit) x) : basculelaw_LogMends.run x.1 = some true := by
  obtain ⟨⟨f1, f2, _⟩, _⟩ := h
  obtain ⟨k1, r, k2⟩ := mend_same x.1 f1.1 f2.1 (bytes_of_fit f1) (bytes_of_fit f2)
  unfold basculelaw_LogMends.run basculelaw_LogMends.top
  rw [← k1, k2]
  simp only [Option.bind_some, sameLog_refl]
  simp

end Go.Bx
