/- A part of a framework that reads Go code as functions of plain data; or a law about such functions. -/
import Derived.Test.YtbkkahkikjifkaaLawLogTail
import Derived.Test.YtbkkahkikjifkaaLawLogText
import Derived.Test.YtbkkahkikjifkaaFnGuardSees1
namespace Go.Bx
open Go
set_option linter.unusedSimpArgs false
set_option linter.unusedVariables false
theorem append_run (x0 : List Int × List Int × Unit) (x1 : List Int) (h1 : x1.length < 1000000000000000) : log_Append.run x0 x1 = some (
  if x0.1.length > 9000 \/ x0.2.1.length > 9000 then (([], [], ()), 12, ())
  else if x1.length > 200 then (([], [], ()), 1, ())
  else if x0.1.length + x0.2.1.length + x1.length + 3 > 9000 then (([], [], ()), 9, ())
  else ((x0.1, x0.2.1 ++ recText x1, ()), 0, ())) := by
 unfold log_Append.run log_Append.top
 by_cases c1 : x0.1.length > 9000 \/ x0.2.1.length > 9000
 ·rw [if_pos c1, if_pos (by rw [cond_or]; simp; omega)]
 ·rw [if_neg c1, if_neg (by rw [cond_or]; simp; omega)]
  by_cases c2 : x1.length > 200
  ·rw [if_pos c2, if_pos (by simp; omega)]
  ·rw [if_neg c2, if_neg (by simp; omega)]
   rw [wrap_i64 (x := (x0.1.length : Int) + (x0.2.1.length : Int)) (by omega) (by omega), wrap_i64 (x := (x0.1.length : Int) + (x0.2.1.length : Int) + (x1.length : Int)) (by omega) (by omega), wrap_i64 (by omega) (by omega)]
   by_cases c3 : x0.1.length + x0.2.1.length + x1.length + 3 > 9000
   ·rw [if_pos c3, if_pos (by simp; omega)]
   ·rw [if_neg c3, if_neg (by simp; omega)]
    rw [tail_run _ (by omega)]
    simp only [Option.bind_some]
    rw [if_pos (fitB_small (by omega) (by decide)), if_pos (fitB_small (by simp; omega) (by decide)), if_pos (fitB_small (by omega) (by decide)), if_pos (fitB_small (by omega) (by decide)), if_pos (fitB_small (by simp; omega) (by decide))]
    rfl
theorem recText_len (l : List Int) : (recText l).length = l.length + 3 := by simp [recText]
theorem appended_run (x0 : List Int × List Int × Unit) (x1 : List Int) (h1 : x1.length < 1000000000000000) (hb : ∀ b ∈ x1, 0 <= b /\ b <= 255) : basculeref_LogAppended.run x0 x1 = log_Append.run x0 x1 := by
 rw [append_run x0 x1 h1]
 unfold basculeref_LogAppended.run basculeref_LogAppended.top
 by_cases c1 : x0.1.length > 9000 \/ x0.2.1.length > 9000
 ·rw [if_pos c1, if_pos (by rw [cond_or]; simp; omega)]
 ·rw [if_neg c1, if_neg (by rw [cond_or]; simp; omega)]
  by_cases c2 : x1.length > 200
  ·rw [if_pos c2, if_pos (by simp; omega)]
  ·rw [if_neg c2, if_neg (by simp; omega), text_run x1 (by omega) hb]
   simp only [Option.bind_some]
   have hl := recText_len x1
   rw [if_pos (ble_of (by omega)), List.length_append, wrap_i64 (by omega) (by omega)]
   by_cases c3 : x0.1.length + x0.2.1.length + x1.length + 3 > 9000
   ·rw [if_pos c3, if_pos (by simp; omega)]
   ·rw [if_neg c3, if_neg (by simp; omega)]
end Go.Bx
