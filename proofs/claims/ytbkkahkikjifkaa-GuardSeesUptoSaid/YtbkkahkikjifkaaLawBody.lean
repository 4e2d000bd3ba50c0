/- A part of a framework that reads Go code as functions of plain data; or a law about such functions. -/
import Derived.Test.YtbkkahkikjifkaaLawBodyD
import Derived.Test.YtbkkahkikjifkaaFnGuardSees1
namespace Go.Bx
open Go
set_option linter.unusedSimpArgs false
set_option linter.unusedVariables false
set_option maxRecDepth 100000
def inTo (a m : Int) : Bool := cond (decide (0 <= a)) (decide (a <= m)) false
theorem inTo_iff {a m : Int} : inTo a m = true ↔ 0 <= a /\ a <= m := by simp [inTo, cond_and]
def bodyOk (b : BodyD) : Bool := inTo b.1 1099511627776 && inTo b.2.1 4294967295 && inTo b.2.2.1 65535 && inTo b.2.2.2.2.1 1099511627776 && inTo b.2.2.2.2.2.1 255
def bodyE (b : BodyD) : Int := if bodyOk b = true then (if b.2.2.2.2.2.2.1.length > 300 then 1 else 0) else 6
theorem bodyFault_loop {α : Type} (k n : Nat) (R : Int -> Option α) (X : BodyD -> Option α) (a b c d e A B C D E : Int) (s : BodyD) :
  basculeref_BodyFault.l0 k R X (n + 6) [[a, A], [b, B], [c, C], [d, D], [e, E]] 5 0 s =
   if (not (inTo a A)) = true then R 6 else if (not (inTo b B)) = true then R 6 else if (not (inTo c C)) = true then R 6 else if (not (inTo d D)) = true then R 6 else if (not (inTo e E)) = true then R 6 else X s := by
 kernel_rfl
theorem len_gt {α : Type} (l : List α) (n : Nat) (m : Int) (h : m = n) : decide ((l.length : Int) > m) = decide (l.length > n) := by
 rw [decide_eq_decide]; omega
theorem body_check (b : BodyD) : paper_Check.run b = some (bodyE b) := by
 have hc : ∀ a m : Int, paper_Check_1.run a m = some (inTo a m) := fun a m => rfl
 unfold paper_Check.run paper_Check.top bodyE bodyOk
 simp only [hc, Option.bind_some, len_gt _ 300 300 rfl]
 generalize inTo b.1 1099511627776 = b1
 generalize inTo b.2.1 4294967295 = b2
 generalize inTo b.2.2.1 65535 = b3
 generalize inTo b.2.2.2.2.1 1099511627776 = b4
 generalize inTo b.2.2.2.2.2.1 255 = b5
 by_cases h6 : b.2.2.2.2.2.2.1.length > 300
 ·rw [decide_eq_true h6]; simp only [h6, if_true]
  cases b1 <;> cases b2 <;> cases b3 <;> cases b4 <;> cases b5 <;> rfl
 ·rw [decide_eq_false h6]; simp only [h6, if_false]
  cases b1 <;> cases b2 <;> cases b3 <;> cases b4 <;> cases b5 <;> rfl
theorem body_fault (b : BodyD) : basculeref_BodyFault.run b = some (bodyE b) := by
 obtain ⟨n, hn⟩ : ∃ n, fuel = n + 6 := ⟨2 ^ 64 - 6, rfl⟩
 unfold basculeref_BodyFault.run basculeref_BodyFault.top bodyE bodyOk
 rw [hn, bodyFault_loop]
 unfold basculeref_BodyFault.j0
 simp only [len_gt _ 300 300 rfl]
 generalize inTo b.1 1099511627776 = b1
 generalize inTo b.2.1 4294967295 = b2
 generalize inTo b.2.2.1 65535 = b3
 generalize inTo b.2.2.2.2.1 1099511627776 = b4
 generalize inTo b.2.2.2.2.2.1 255 = b5
 by_cases h6 : b.2.2.2.2.2.2.1.length > 300
 ·rw [decide_eq_true h6]; simp only [h6, if_true]
  cases b1 <;> cases b2 <;> cases b3 <;> cases b4 <;> cases b5 <;> rfl
 ·rw [decide_eq_false h6]; simp only [h6, if_false]
  cases b1 <;> cases b2 <;> cases b3 <;> cases b4 <;> cases b5 <;> rfl
theorem bodyE_ok {b : BodyD} (h : bodyE b = 0) : (0 <= b.1 /\ b.1 <= 1099511627776) /\ (0 <= b.2.1 /\ b.2.1 <= 4294967295) /\ (0 <= b.2.2.1 /\ b.2.2.1 <= 65535) /\ (0 <= b.2.2.2.2.1 /\ b.2.2.2.2.1 <= 1099511627776) /\ (0 <= b.2.2.2.2.2.1 /\ b.2.2.2.2.2.1 <= 255) /\ b.2.2.2.2.2.2.1.length <= 300 := by
 unfold bodyE at h
 by_cases hk : bodyOk b = true
 ·rw [if_pos hk] at h
  unfold bodyOk at hk
  simp only [Bool.and_eq_true, inTo_iff] at hk
  refine ⟨hk.1.1.1.1, hk.1.1.1.2, hk.1.1.2, hk.1.2, hk.2, ?_⟩
  by_cases h6 : b.2.2.2.2.2.2.1.length > 300
  ·rw [if_pos h6] at h; exact absurd h (by decide)
  ·omega
 ·rw [if_neg hk] at h; exact absurd h (by decide)
end Go.Bx
