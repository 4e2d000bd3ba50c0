/- A part of a framework that reads Go code as functions of plain data; or a law about such functions. -/
import Derived.Test.YtbkkahkikjifkaaLawGateFits
import Derived.Test.YtbkkahkikjifkaaLawSameBody
import Derived.Test.YtbkkahkikjifkaaFnGuardSees0
namespace Go.Bx
open Go
set_option linter.unusedSimpArgs false
set_option linter.unusedVariables false
abbrev LogD : Type := List Int × List Int × Unit
abbrev GuardD : Type := List Int × GateD × GateD × LogD × List BodyD × List BodyD × Unit
theorem sameBodies_loop {α : Type} (Rt : Bool -> Option α) (Xt : Option α) (k : Nat) (l : List BodyD) (hl : l.length <= 4000000000000) : ∀ (R P : List BodyD) (n : Nat), R.length < n -> l = P ++ R ->
  basculelaw_sameBodies.l0 k Rt Xt n l l (l.length : Int) (P.length : Int) = Xt
 | R, P, 0, h, _ => by omega
 | [], P, n + 1, h, hc => by
  simp only [basculelaw_sameBodies.l0, basculelaw_sameBodies.l0s]
  have : l.length = P.length := by rw [hc]; simp
  rw [if_neg (by rw [decide_eq_true_eq]; omega)]
 | a :: R, P, n + 1, h, hc => by
  have hlen : l.length = P.length + (R.length + 1) := by rw [hc]; simp
  simp only [basculelaw_sameBodies.l0, basculelaw_sameBodies.l0s]
  rw [if_pos (by rw [decide_eq_true_eq]; omega), if_pos (by omega), if_pos (by omega), i64_succ (by omega), sameBody_refl, Option.bind_some, if_neg (by simp)]
  have ih := sameBodies_loop Rt Xt k l hl R (P ++ [a]) n (by simpa using h) (by simp [hc])
  rw [List.length_append] at ih
  exact ih
theorem sameBodies_refl (l : List BodyD) (hl : l.length <= 4000000000000) : basculelaw_sameBodies.run l l = some true := by
 unfold basculelaw_sameBodies.run basculelaw_sameBodies.top
 rw [if_neg (by simp)]
 exact sameBodies_loop (fun x4 => some x4) (basculelaw_sameBodies.j0 fun x4 => some x4) fuel l hl l [] fuel (by rw [fuel_big]; omega) rfl
theorem sameLog_refl (l : LogD) : basculelaw_sameLog.run l l = some true := by
 unfold basculelaw_sameLog.run basculelaw_sameLog.top
 rw [sameBytes_refl, sameBytes_refl]; rfl
theorem sameGuard_refl (g : GuardD) (h1 : g.2.1.2.2.2.1.length <= 4000000000) (h2 : g.2.1.2.2.2.2.1.length <= 4000000000) (h3 : g.2.2.1.2.2.2.1.length <= 4000000000) (h4 : g.2.2.1.2.2.2.2.1.length <= 4000000000)
  (h5 : g.2.2.2.2.1.length <= 4000000000000) (h6 : g.2.2.2.2.2.1.length <= 4000000000000) : basculelaw_sameGuard.run g g = some true := by
 unfold basculelaw_sameGuard.run basculelaw_sameGuard.top
 rw [beqD_refl (.arr 4 (.int .u64)) _ rfl, sameGate_refl _ h1 h2, sameGate_refl _ h3 h4, sameLog_refl, sameBodies_refl _ h5, sameBodies_refl _ h6]
 rfl
end Go.Bx
