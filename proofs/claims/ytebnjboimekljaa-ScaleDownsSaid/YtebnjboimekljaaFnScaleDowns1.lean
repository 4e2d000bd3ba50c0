/- Go functions of this seat in their own words of Lean, each tied to its code by a contract. -/
import Derived.Test.YtebnjboimekljaaGBase
import Derived.Test.YtebnjboimekljaaFnScaleDowns0
namespace Go.Bx.basculelaw_ScaleDowns
open Go Go.Proofs Go.Bx
set_option maxRecDepth 100000
set_option linter.unusedVariables false
def Js : List Nat := []
def C : Ctx := ⟨[(3, (.int .i64)), (4, .bool), (24, (.arr 4 (.int .u64)))], [], fnL [(33, Go.Bx.scale_Down.F), (34, Go.Bx.basculeref_Lowered.F)], noSh, [], noInv, [(2, [4])], [], [], 0, 0⟩
def St0 (x0 : List Int) (x1 : Int) : St := stL 38 [(0, .data (.arr 4 (.int .u64)) x0), (1, .data (.int .i64) x1)] []
def St1 (x4 : Bool) : St := stL 38 [(4, .data .bool x4)] []
def top {α : Type} (Rt : Bool → Option α) (x0 : List Int) (x1 : Int) : Option α :=
  (Go.Bx.scale_Down.run x0 x1).bind fun y1 =>
  (Go.Bx.basculeref_Lowered.run x0 x1).bind fun y2 =>
  Rt (cond (cond (beqD (.arr 4 (.int .u64)) y1.1 y2.1) (beqD (.arr 4 (.int .u64)) y1.2.1 y2.2.1) false) (y1.2.2.1 == y2.2.2.1) false)
theorem top_eq {α : Type} (k : Nat) (Q : Ex → St → Option α) (x0 : List Int) (x1 : Int) :
    (den C k) (cB Try.f8) Q (St0 x0 x1) = top (fun (x4 : Bool) => Q .ret (St1 x4)) x0 x1 := by
  have h : ∀ (D L : DT α), denJ D L Js C (cB Try.f8) Q (St0 x0 x1) =
        (Go.Bx.scale_Down.run x0 x1).bind fun y1 =>
        (Go.Bx.basculeref_Lowered.run x0 x1).bind fun y2 =>
        Q .ret (St1 (cond (cond (beqD (.arr 4 (.int .u64)) y1.1 y2.1) (beqD (.arr 4 (.int .u64)) y1.2.1 y2.2.1) false) (y1.2.2.1 == y2.2.2.1) false)) := by
    intro D L; kernel_rfl
  refine (show (den C k) (cB Try.f8) Q (St0 x0 x1) = denJ (den C k) (lp C k) Js C (cB Try.f8) Q (St0 x0 x1) from (denJ_den _ _ _ _ _ _).symm).trans ((h (den C k) (lp C k)).trans ?_)
  first | rfl | kernel_rfl
def run (x0 : List Int) (x1 : Int) : Option (Bool) := top (α := Bool) (fun (x4 : Bool) => some x4) x0 x1
def F : Fn := ⟨(.pair (.arr 4 (.int .u64)) (.pair (.int .i64) .unit)), .bool, false, fun x => run x.1 x.2.1⟩
set_option maxRecDepth 100000 in
theorem con : Con Try.prog 8 F := by
  refine con_of_den (C := C) (ctx_ok (by kernel_rfl) (by kernel_rfl) ⟨.inl ⟨Go.Bx.scale_Down.con, Go.Bx.scale_Down.named⟩, ⟨.inl ⟨Go.Bx.basculeref_Lowered.con, Go.Bx.basculeref_Lowered.named⟩, trivial⟩⟩) (by kernel_rfl) Try.func8 (c := cB Try.f8) (by kernel_rfl) (by kernel_rfl) F fuel (fun x => by simp [F, spread, Try.ntmps8]) ?_
  intro x r h
  rw [← h]
  have h1 : start F Try.f8.ntmps x = (St0 x.1 x.2.1) := by kernel_rfl
  rw [h1]
  refine (top_eq fuel (fin C Try.f8.results.toList F.rs F.multi) x.1 x.2.1).trans ?_
  kernel_rfl
theorem named : Named Try.prog 8 := named_of Try.func8 (by kernel_rfl) (by kernel_rfl)
end Go.Bx.basculelaw_ScaleDowns
