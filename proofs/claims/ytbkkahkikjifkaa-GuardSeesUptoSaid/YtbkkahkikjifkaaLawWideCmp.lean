/- A part of a framework that reads Go code as functions of plain data; or a law about such functions. -/
import Derived.Test.YtbkkahkikjifkaaLawRefNum
import Derived.Test.YtbkkahkikjifkaaFnGuardSees1
namespace Go.Bx
open Go
set_option linter.unusedSimpArgs false
set_option linter.unusedVariables false
theorem cmp_eq (a b c d a' b' c' d' : Int) : wide_Cmp.run [a, b, c, d] [a', b', c', d'] =
  if decide (d < d') = true then some (-1) else if decide (d > d') = true then some 1 else
  if decide (c < c') = true then some (-1) else if decide (c > c') = true then some 1 else
  if decide (b < b') = true then some (-1) else if decide (b > b') = true then some 1 else
  if decide (a < a') = true then some (-1) else if decide (a > a') = true then some 1 else some 0 := by kernel_rfl
theorem wide_cmp {l m : List Int} (hl : l.length = 4) (hm : m.length = 4) (dl : digs B64 l) (dm : digs B64 m) :
  wide_Cmp.run l m = some (if val B64 l < val B64 m then -1 else if val B64 l > val B64 m then 1 else 0) := by
 obtain ⟨a, b, c, d, rfl⟩ := four_of_len hl
 obtain ⟨a', b', c', d', rfl⟩ := four_of_len hm
 have h1 := dl a (by simp)
 have h2 := dl b (by simp)
 have h3 := dl c (by simp)
 have h4 := dl d (by simp)
 have g1 := dm a' (by simp)
 have g2 := dm b' (by simp)
 have g3 := dm c' (by simp)
 have g4 := dm d' (by simp)
 rw [cmp_eq]
 simp only [decide_eq_true_eq]
 by_cases c1 : val B64 [a, b, c, d] < val B64 [a', b', c', d']
 ·rw [if_pos c1]
  simp only [val, B64] at c1 h1 h2 h3 h4 g1 g2 g3 g4
  repeat' split
  all_goals first | rfl | (exfalso; omega)
 ·rw [if_neg c1]
  by_cases c2 : val B64 [a, b, c, d] > val B64 [a', b', c', d']
  ·rw [if_pos c2]
   simp only [val, B64] at c1 c2 h1 h2 h3 h4 g1 g2 g3 g4
   repeat' split
   all_goals first | rfl | (exfalso; omega)
  ·rw [if_neg c2]
   simp only [val, B64] at c1 c2 h1 h2 h3 h4 g1 g2 g3 g4
   repeat' split
   all_goals first | rfl | (exfalso; omega)
end Go.Bx
