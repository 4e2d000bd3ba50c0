/- Go functions of this seat in their own words of Lean, each tied to its code by a contract. -/
import Derived.Test.YthgnmgdhgmobpaaGBase
namespace Go.Bx.basculelaw_Names
open Go Go.Proofs Go.Bx
set_option maxRecDepth 100000
set_option linter.unusedVariables false
def C : Ctx := ⟨[(4, .bool)], fnL [], [(2, [0])]⟩
def St0 : St := stL 1 [] []
def St1 (x0 : Bool) : St := stL 1 [(0, .data .bool x0)] []
def top {α : Type} (Rt : Bool → Option α) : Option α :=
  Rt true
theorem top_eq {α : Type} (k : Nat) (Q : Ex → St → Option α) :
    den C k (cB Try.f3) Q St0 = top (fun (x0 : Bool) => Q .ret (St1 x0)) := by
  kernel_rfl
def run : Option (Bool) := top (α := Bool) (fun (x0 : Bool) => some x0)
def F : Fn := ⟨.unit, .bool, false, fun x => run⟩
set_option maxRecDepth 100000 in
theorem con : Con Try.prog 3 F := by
  refine con_of_den (C := C) (ctx_ok (by kernel_rfl) trivial) (by kernel_rfl) Try.func3 (c := cB Try.f3) (by kernel_rfl) (by kernel_rfl) F fuel (fun x => by simp [F, spread, Try.ntmps3]) ?_
  intro x r h
  rw [← h]
  have h1 : start F Try.f3.ntmps x = St0 := by kernel_rfl
  rw [h1]
  refine (top_eq fuel (fin C Try.f3.results.toList F.rs F.multi)).trans ?_
  kernel_rfl
theorem named : Named Try.prog 3 := named_of Try.func3 (by kernel_rfl) (by kernel_rfl)
end Go.Bx.basculelaw_Names
