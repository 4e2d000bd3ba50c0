/- A part of a framework that reads Go code as functions of plain data; or a law about such functions. -/
import Derived.Test.YtbkkahkikjifkaaDoorLawBase
namespace Go.Bx
open Go
set_option linter.unusedVariables false
theorem beqL_iff {α : Type} {f : α -> α -> Bool} : ∀ (l m : List α), (∀ a ∈ l, ∀ b, f a b = true ↔ a = b) -> (beqL f l m = true ↔ l = m)
 | [], [], _ => by simp [beqL]
 | [], _ :: _, _ => by simp [beqL]
 | _ :: _, [], _ => by simp [beqL]
 | a :: l, b :: m, h => by
  simp only [beqL, Bool.and_eq_true, List.cons.injEq]
  rw [h a (by simp) b, beqL_iff l m fun c hc => h c (List.mem_cons_of_mem _ hc)]
theorem beqD_iff : ∀ (t : Ty) (x y : t.den), t.cmp = true -> (beqD t x y = true ↔ x = y)
 | .int _, x, y, _ => by simp [beqD]
 | .bool, x, y, _ => by simp [beqD]
 | .str, x, y, _ => by simp [beqD]
 | .arr n t, x, y, h => by simp only [beqD]; exact beqL_iff x y fun a _ b => beqD_iff t a b (by simpa [Ty.cmp] using h)
 | .unit, x, y, _ => by cases x; cases y; simp [beqD]
 | .pair a b, x, y, h => by
  simp only [Ty.cmp, Bool.and_eq_true] at h
  simp only [beqD, Bool.and_eq_true]
  rw [beqD_iff a _ _ h.1, beqD_iff b _ _ h.2]
  exact ⟨fun ⟨p, q⟩ => Prod.ext p q, fun h => by rw [h]; exact ⟨rfl, rfl⟩⟩
 | .sl _, _, _, h => by simp [Ty.cmp] at h
 | .opq, _, _, h => by simp [Ty.cmp] at h
theorem beqD_dec (t : Ty) (x y : t.den) (h : t.cmp = true) [Decidable (x = y)] : beqD t x y = decide (x = y) := by
 rw [Bool.eq_iff_iff, decide_eq_true_eq]; exact beqD_iff t x y h
theorem getD_front {α : Type} (P : List α) (h : α) (R : List α) (d : α) : (P ++ h :: R).getD P.length d = h := by
 simp [List.getD]
end Go.Bx
