/- A part of a framework that reads Go code as functions of plain data; or a law about such functions. -/
import Derived.Test.YtokjlmpahlneaaaLawWideSums0
import Derived.Test.YtokjlmpahlneaaaLawShorn
import Derived.Test.YtokjlmpahlneaaaFnPostBegins0
namespace Go.Bx
open Go
set_option linter.unusedSimpArgs false
set_option linter.unusedVariables false

/-! coins: who holds how many -/

abbrev Hold : Type := List Int × List Int × Unit
abbrev CoinD : Type := List Int × List Hold × Unit

/-- holdings as they are handed in -/
def HoldOk (h : Hold) : Prop := h.1.length = 32 ∧ h.2.1.length = 4 ∧ digs B64 h.2.1 ∧ ∀ b ∈ h.1, 0 ≤ b ∧ b ≤ 255
def CoinOk (c : CoinD) : Prop := c.1.length = 4 ∧ digs B64 c.1 ∧ ∀ h ∈ c.2.1, HoldOk h

theorem cmpL_ltB : ∀ (x y : List Int), x.length = y.length → (decide (cmpL x y ≥ 0) = !(ltB x y))
  | [], [], _ => by simp [cmpL, ltB]
  | [], _ :: _, h => by simp at h
  | _ :: _, [], h => by simp at h
  | a :: x, b :: y, h => by
    have ih := cmpL_ltB x y (by simpa using h)
    simp only [cmpL, ltB]
    rcases Int.lt_trichotomy a b with hab | hab | hab
    · simp [hab]
    · subst hab
      simp only [Int.lt_irrefl, if_false, decide_false, beq_self_eq_true, Bool.true_and, Bool.false_or]
      exact ih
    · have h1 : ¬ a < b := by omega
      have h2 : (a == b) = false := by simp; omega
      simp [h1, hab, h2]

theorem cut32 {l : List Int} (h : l.length = 32) : cutL l 0 32 = l := by
  unfold cutL
  have e : ((32 : Int).toNat - (0 : Int).toNat) = 32 := rfl
  rw [e]
  simp only [Int.toNat_zero, List.drop_zero]
  exact List.take_of_length_le (by omega)

end Go.Bx
