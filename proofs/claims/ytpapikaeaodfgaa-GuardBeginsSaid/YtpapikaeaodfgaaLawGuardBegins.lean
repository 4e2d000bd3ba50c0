/- A part of a framework that reads Go code as functions of plain data; or a law about such functions. -/
import Derived.Test.YtpapikaeaodfgaaLawGuardSame
import Derived.Test.YtpapikaeaodfgaaFnGuardBegins0
import Derived.Test.YtpapikaeaodfgaaFnGuardBegins1
namespace Go.Bx
open Go
set_option linter.unusedSimpArgs false
set_option linter.unusedVariables false

theorem bodies_nil0 {α : Type} (k n : Nat) (Xt : List BodyD → Option α) : guard_bodies.l0 k Xt (n + 1) [] 0 0 [] = Xt [] := by
  simp only [guard_bodies.l0, guard_bodies.l0s]
  rfl

theorem bodies_nil : guard_bodies.run [] = some [] := by
  unfold guard_bodies.run guard_bodies.top
  exact bodies_nil0 fuel 18446744073709551615 (fun c16 => guard_bodies.j0 (fun c16 => some c16) c16)

theorem fresh1q_run (l : List QD) (h : l.length ≤ 1000) : guard_fresh_1.run l = some l := by
  unfold guard_fresh_1.run guard_fresh_1.top
  rw [if_pos (fitB_small (by omega) (by omega))]

theorem guardBegin_run (s : List Int) (g : GateD) (h1 : g.2.2.2.1.length ≤ 1000) (h2 : g.2.2.2.2.1.length ≤ 1000) : guard_fresh.run (s, g, g, ([], [], ()), [], [], ()) = some (s, g, g, ([], [], ()), [], [], ()) := by
  unfold guard_fresh.run guard_fresh.top
  simp only [fresh1q_run _ h1, fresh1q_run _ h2, bodies_nil, Option.bind_some, List.length_nil]
  rw [if_pos (fitB_small (by omega) (by omega)), if_pos (fitB_small (by omega) (by omega))]

theorem begins_all (s : List Int) (g : GateD) : basculelaw_GuardBegins.run s g = some true := by
  unfold basculelaw_GuardBegins.run basculelaw_GuardBegins.top guard_Begin.run guard_Begin.top basculeref_GuardBegun.run basculeref_GuardBegun.top
  rw [gate_check, gate_fault, Option.bind_some, Option.bind_some]
  by_cases he : gateE g = 0
  · obtain ⟨k1, k2, _⟩ := gateE_ok he
    simp only [he, show ((0 : Int) != 0) = false from rfl, Bool.false_eq_true, if_false, guardBegin_run s g (by omega) (by omega), Option.bind_some]
    rw [sameGuard_refl _ (by show g.2.2.2.1.length ≤ _; omega) (by show g.2.2.2.2.1.length ≤ _; omega) (by show g.2.2.2.1.length ≤ _; omega) (by show g.2.2.2.2.1.length ≤ _; omega) (by simp) (by simp)]
    rfl
  · simp only [show (gateE g != 0) = true by simpa using he, if_true, Option.bind_some]
    rw [sameGuard_refl _ (by simp) (by simp) (by simp) (by simp) (by simp) (by simp)]
    simp

abbrev U256Ty : Ty := .arr 4 (.int .u64)

theorem law_GuardBegins (x : (Ty.pair U256Ty (.pair GateTy .unit)).den) (h : Fit reachK (.pair U256Ty (.pair GateTy .unit)) x) : basculelaw_GuardBegins.run x.1 x.2.1 = some true := begins_all _ _

end Go.Bx
