/- A part of a framework that reads Go code as functions of plain data; or a law about such functions. -/
import Derived.Test.YtbkkahkikjifkaaLawByte
import Derived.Test.YtbkkahkikjifkaaFnGuardSees1
namespace Go.Bx
open Go
set_option linter.unusedSimpArgs false
set_option linter.unusedVariables false
set_option maxRecDepth 100000
theorem word_loop {α : Type} (Xt : List Int -> List Int -> Option α) (K : Nat) (l z : List Int) (hl : l.length <= 32) : ∀ (R P : List Int) (n : Nat), R.length < n -> l = P ++ R ->
  basculeref_word.l0 K Xt n l (P.length : Int) z (P ++ List.replicate (32 - P.length) 0) = Xt z (pad l)
 | R, P, 0, h, _ => by omega
 | [], P, n + 1, h, hc => by
  simp only [basculeref_word.l0, basculeref_word.l0s]
  have : l.length = P.length := by rw [hc]; simp
  rw [cond_and, if_neg (by rw [Bool.and_eq_true, decide_eq_true_eq]; omega)]
  rw [hc, List.append_nil]; rfl
 | y :: R, P, n + 1, h, hc => by
  have hlen : l.length = P.length + (R.length + 1) := by rw [hc]; simp
  simp only [basculeref_word.l0, basculeref_word.l0s]
  have hg : l.getD P.length 0 = y := by rw [hc]; exact getD_at _ _ _ _
  have hz : List.replicate (32 - P.length) (0 : Int) = 0 :: List.replicate (32 - (P.length + 1)) 0 := by
   rw [<- List.replicate_succ]; congr 1; omega
  rw [cond_and, if_pos (by rw [Bool.and_eq_true, decide_eq_true_eq, decide_eq_true_eq]; omega), if_pos (by omega), if_pos (by omega), i64_succ (by omega), toNat_nat, hg, hz, set_at]
  have ih := word_loop Xt K l z hl R (P ++ [y]) n (by simpa using h) (by simp [hc])
  simp only [List.length_append, List.length_singleton, List.append_assoc, List.singleton_append] at ih
  exact ih
theorem word_run (l : List Int) (hl : l.length <= 32) : basculeref_word.run l = some (pad l) := by
 unfold basculeref_word.run basculeref_word.top
 refine (word_loop (fun c2 c3 => basculeref_word.j0 (fun c2 => some c2) c2 c3) fuel l (List.replicate 32 0) hl l [] fuel (by rw [fuel_big]; omega) rfl).trans ?_
 rfl
end Go.Bx
