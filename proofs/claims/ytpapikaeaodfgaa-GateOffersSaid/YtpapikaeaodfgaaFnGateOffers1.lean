/- Go functions of this seat in their own words of Lean, each tied to its code by a contract. -/
import Derived.Test.YtpapikaeaodfgaaGBase
import Derived.Test.YtpapikaeaodfgaaFnGateOffers0
namespace Go.Bx.basculelaw_GateOffers
open Go Go.Proofs Go.Bx
set_option maxRecDepth 100000
set_option linter.unusedVariables false
def Js : List Nat := []
def C : Ctx := ⟨[(3, (.int .i64)), (4, .bool), (42, (.pair (.arr 3 (.int .i64)) (.pair (.arr 3 (.int .i64)) (.pair (.int .i64) (.pair (.sl (.pair (.int .i64) (.pair (.int .i64) (.pair (.int .i64) (.pair (.int .i64) .unit))))) (.pair (.sl (.pair (.int .i64) (.pair (.int .i64) (.pair (.int .i64) (.pair (.int .i64) .unit))))) .unit))))))], [], [], fnL [(30, Go.Bx.gate_Offer.F), (31, Go.Bx.basculeref_Offered.F), (32, Go.Bx.basculelaw_sameGate.F)], noSh, [], noInv, [(2, [8])], [], [], 0, 0⟩
def St0 (x0 : List Int × List Int × Int × List (Int × Int × Int × Int × Unit) × List (Int × Int × Int × Int × Unit) × Unit) (x1 : Int) (x2 : Int) (x3 : Int) : St := stL 46 [(0, .data (.pair (.arr 3 (.int .i64)) (.pair (.arr 3 (.int .i64)) (.pair (.int .i64) (.pair (.sl (.pair (.int .i64) (.pair (.int .i64) (.pair (.int .i64) (.pair (.int .i64) .unit))))) (.pair (.sl (.pair (.int .i64) (.pair (.int .i64) (.pair (.int .i64) (.pair (.int .i64) .unit))))) .unit))))) x0), (1, .data (.int .i64) x1), (2, .data (.int .i64) x2), (3, .data (.int .i64) x3)] []
def St1 (x8 : Bool) : St := stL 46 [(8, .data .bool x8)] []
def top {α : Type} (Rt : Bool → Option α) (x0 : List Int × List Int × Int × List (Int × Int × Int × Int × Unit) × List (Int × Int × Int × Int × Unit) × Unit) (x1 : Int) (x2 : Int) (x3 : Int) : Option α :=
  (Go.Bx.gate_Offer.run x0 x1 x2 x3).bind fun y1 =>
  (Go.Bx.basculeref_Offered.run x0 x1 x2 x3).bind fun y2 =>
  (Go.Bx.basculelaw_sameGate.run y1.1 y2.1).bind fun y3 =>
  Rt (cond (cond y3 (beqD .bool y1.2.1 y2.2.1) false) (y1.2.2.1 == y2.2.2.1) false)
theorem top_eq {α : Type} (k : Nat) (Q : Ex → St → Option α) (x0 : List Int × List Int × Int × List (Int × Int × Int × Int × Unit) × List (Int × Int × Int × Int × Unit) × Unit) (x1 : Int) (x2 : Int) (x3 : Int) :
    (den C k) (cB Try.f8) Q (St0 x0 x1 x2 x3) = top (fun (x8 : Bool) => Q .ret (St1 x8)) x0 x1 x2 x3 := by
  have h : ∀ (D L : DT α), denJ D L Js C (cB Try.f8) Q (St0 x0 x1 x2 x3) =
        (Go.Bx.gate_Offer.run x0 x1 x2 x3).bind fun y1 =>
        (Go.Bx.basculeref_Offered.run x0 x1 x2 x3).bind fun y2 =>
        (Go.Bx.basculelaw_sameGate.run y1.1 y2.1).bind fun y3 =>
        Q .ret (St1 (cond (cond y3 (beqD .bool y1.2.1 y2.2.1) false) (y1.2.2.1 == y2.2.2.1) false)) := by
    intro D L; kernel_rfl
  refine (show (den C k) (cB Try.f8) Q (St0 x0 x1 x2 x3) = denJ (den C k) (lp C k) Js C (cB Try.f8) Q (St0 x0 x1 x2 x3) from (denJ_den _ _ _ _ _ _).symm).trans ((h (den C k) (lp C k)).trans ?_)
  first | rfl | kernel_rfl
def run (x0 : List Int × List Int × Int × List (Int × Int × Int × Int × Unit) × List (Int × Int × Int × Int × Unit) × Unit) (x1 : Int) (x2 : Int) (x3 : Int) : Option (Bool) := top (α := Bool) (fun (x8 : Bool) => some x8) x0 x1 x2 x3
def F : Fn := ⟨(.pair (.pair (.arr 3 (.int .i64)) (.pair (.arr 3 (.int .i64)) (.pair (.int .i64) (.pair (.sl (.pair (.int .i64) (.pair (.int .i64) (.pair (.int .i64) (.pair (.int .i64) .unit))))) (.pair (.sl (.pair (.int .i64) (.pair (.int .i64) (.pair (.int .i64) (.pair (.int .i64) .unit))))) .unit))))) (.pair (.int .i64) (.pair (.int .i64) (.pair (.int .i64) .unit)))), .bool, false, fun x => run x.1 x.2.1 x.2.2.1 x.2.2.2.1⟩
set_option maxRecDepth 100000 in
theorem con : Con Try.prog 8 F := by
  refine con_of_den (C := C) (ctx_ok (by kernel_rfl) (by kernel_rfl) (by kernel_rfl) ⟨.inl ⟨Go.Bx.gate_Offer.con, Go.Bx.gate_Offer.named⟩, ⟨.inl ⟨Go.Bx.basculeref_Offered.con, Go.Bx.basculeref_Offered.named⟩, ⟨.inl ⟨Go.Bx.basculelaw_sameGate.con, Go.Bx.basculelaw_sameGate.named⟩, trivial⟩⟩⟩) (by kernel_rfl) Try.func8 (c := cB Try.f8) (by kernel_rfl) (by kernel_rfl) F fuel (fun x => by simp [F, spread, Try.ntmps8]) ?_
  intro x r h
  rw [← h]
  have h1 : start F Try.f8.ntmps x = (St0 x.1 x.2.1 x.2.2.1 x.2.2.2.1) := by kernel_rfl
  rw [h1]
  refine (top_eq fuel (fin C Try.f8.results.toList F.rs F.multi) x.1 x.2.1 x.2.2.1 x.2.2.2.1).trans ?_
  kernel_rfl
theorem named : Named Try.prog 8 := named_of Try.func8 (by kernel_rfl) (by kernel_rfl)
end Go.Bx.basculelaw_GateOffers
