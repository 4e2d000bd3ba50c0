/- Go functions of this seat in their own words of Lean, each tied to its code by a contract. -/
import Derived.Test.YthgnmgdhgmobpaaGBase
namespace Go.Bx.quorum_Need
open Go Go.Proofs Go.Bx
set_option maxRecDepth 100000
set_option linter.unusedVariables false
def C : Ctx := ⟨[(3, (.int .i64)), (23, (.int .i64))], fnL [], [(2, [2, 3])]⟩
def St0 (x0 : Int) : St := stL 14 [(0, .data (.int .i64) x0)] []
def St1 (x2 : Int) (x3 : Int) : St := stL 14 [(2, .data (.int .i64) x2), (3, .data (.int .i64) x3)] []
def top {α : Type} (Rt : Int → Int → Option α) (x0 : Int) : Option α :=
  if (cond (decide (x0 < 0)) true (decide (x0 > 19))) = true then
    Rt 0 6
  else
    Rt (IntKind.i64.wrap ((IntKind.i64.wrap (Int.tdiv (IntKind.i64.wrap (2 * x0)) 3)) + 1)) 0
theorem top_eq {α : Type} (k : Nat) (Q : Ex → St → Option α) (x0 : Int) :
    den C k (cB Try.f22) Q (St0 x0) = top (fun (x2 : Int) (x3 : Int) => Q .ret (St1 x2 x3)) x0 := by
  kernel_rfl
def run (x0 : Int) : Option (Int × Int × Unit) := top (α := Int × Int × Unit) (fun (x2 : Int) (x3 : Int) => some (x2, x3, ())) x0
def F : Fn := ⟨(.pair (.int .i64) .unit), (.pair (.int .i64) (.pair (.int .i64) .unit)), true, fun x => run x.1⟩
set_option maxRecDepth 100000 in
theorem con : Con Try.prog 22 F := by
  refine con_of_den (C := C) (ctx_ok (by kernel_rfl) trivial) (by kernel_rfl) Try.func22 (c := cB Try.f22) (by kernel_rfl) (by kernel_rfl) F fuel (fun x => by simp [F, spread, Try.ntmps22]) ?_
  intro x r h
  rw [← h]
  have h1 : start F Try.f22.ntmps x = (St0 x.1) := by kernel_rfl
  rw [h1]
  refine (top_eq fuel (fin C Try.f22.results.toList F.rs F.multi) x.1).trans ?_
  kernel_rfl
theorem named : Named Try.prog 22 := named_of Try.func22 (by kernel_rfl) (by kernel_rfl)
end Go.Bx.quorum_Need
namespace Go.Bx.basculeref_Needed
open Go Go.Proofs Go.Bx
set_option maxRecDepth 100000
set_option linter.unusedVariables false
def C : Ctx := ⟨[(3, (.int .i64)), (23, (.int .i64))], fnL [], [(2, [2, 3]), (1, [4]), (4, [0, 4]), (12, [0, 4]), (18, [4])]⟩
def St0 (x0 : Int) : St := stL 19 [(0, .data (.int .i64) x0)] []
def St1 (x2 : Int) (x3 : Int) : St := stL 19 [(2, .data (.int .i64) x2), (3, .data (.int .i64) x3)] []
def St2 (x0 : Int) (x4 : Int) : St := stL 19 [(0, .data (.int .i64) x0), (4, .data (.int .i64) x4)] []
noncomputable def cd0 : Code := cL (cL (cL (cR (cR (cR (cB Try.f23))))))
def St3 (x4 : Int) : St := stL 19 [(4, .data (.int .i64) x4)] []
def l0s {α : Type} (Nx : Int → Int → Option α) (Xt0 : Int → Option α) (x0 : Int) (x4 : Int) : Option α :=
  if (decide ((IntKind.i64.wrap (3 * x4)) ≤ (IntKind.i64.wrap (2 * x0)))) = true then
    Nx x0 (IntKind.i64.wrap (x4 + 1))
  else
    Xt0 x4
theorem l0s_eq {α : Type} (k : Nat) (next : St → Option α) (Q : Ex → St → Option α) (x0 : Int) (x4 : Int) :
    rnd C k cd0 12 Q next (St2 x0 x4) = l0s (fun (x0 : Int) (x4 : Int) => next (St2 x0 x4)) (fun (x4 : Int) => Q (.exit 0) (St3 x4)) x0 x4 := by
  kernel_rfl
def l0 {α : Type} (k : Nat) (Xt0 : Int → Option α) : Nat → Int → Int → Option α
  | 0, _, _ => none
  | n + 1, x0, x4 => l0s (l0 k Xt0 n) Xt0 x0 x4
theorem l0_eq {α : Type} (k : Nat) (Q : Ex → St → Option α) : ∀ (n : Nat) (x0 : Int) (x4 : Int), iter (rnd C k cd0 12 Q) n (St2 x0 x4) = l0 k (fun (x4 : Int) => Q (.exit 0) (St3 x4)) n x0 x4
  | 0, _, _ => rfl
  | n + 1, x0, x4 => (iter_succ _ _ _).trans ((l0s_eq k (iter (rnd C k cd0 12 Q) n) Q x0 x4).trans (congrArg (fun N => l0s N (fun (x4 : Int) => Q (.exit 0) (St3 x4)) x0 x4) (funext fun x0 => funext fun x4 => l0_eq k Q n x0 x4)))
theorem l0_congr {α : Type} (k : Nat) (Xt0 : Int → Option α) (Xt0q : Int → Option α) (hXt0 : ∀ (x4 : Int), Xt0 x4 = Xt0q x4) (n : Nat) (x0 : Int) (x4 : Int) : l0 k Xt0 n x0 x4 = l0 k Xt0q n x0 x4 := by
  obtain rfl : Xt0 = Xt0q := by funext x4; exact hXt0 x4
  rfl
noncomputable def cd1 : Code := cR (cR (cR (cR (cB Try.f23))))
def St4 (x4 : Int) : St := stL 19 [(4, .data (.int .i64) x4)] []
def j0 {α : Type} (Rt : Int → Int → Option α) (x4 : Int) : Option α :=
  Rt x4 0
theorem j0_eq {α : Type} (k : Nat) (Q : Ex → St → Option α) (x4 : Int) :
    den C k cd1 Q (St4 x4) = j0 (fun (x2 : Int) (x3 : Int) => Q .ret (St1 x2 x3)) x4 := by
  kernel_rfl
theorem a0 {α : Type} (k : Nat) (Q : Ex → St → Option α) (x0 : Int) (x4 : Int) :
    iter (rnd C k cd0 12 (blkQ C 0 (sq C k cd1 Q))) k (St2 x0 x4) = l0 k (fun (x4 : Int) => j0 (fun (x2 : Int) (x3 : Int) => Q .ret (St1 x2 x3)) x4) k x0 x4 :=
  (l0_eq k (blkQ C 0 (sq C k cd1 Q)) k x0 x4).trans (l0_congr k _ _ (fun x4 => ((show (blkQ C 0 (sq C k cd1 Q)) (.exit 0) (St3 x4) = den C k cd1 Q (St4 x4) by kernel_rfl).trans (by simp only [j0_eq]))) k x0 x4)
def top {α : Type} (k : Nat) (Rt : Int → Int → Option α) (x0 : Int) : Option α :=
  if (cond (decide (x0 < 0)) true (decide (x0 > 19))) = true then
    Rt 0 6
  else
    l0 k (fun (x4 : Int) => j0 Rt x4) k x0 0
theorem top_eq {α : Type} (k : Nat) (Q : Ex → St → Option α) (x0 : Int) :
    den C k (cB Try.f23) Q (St0 x0) = top k (fun (x2 : Int) (x3 : Int) => Q .ret (St1 x2 x3)) x0 := by
  have h : den C k (cB Try.f23) Q (St0 x0) =
        if (cond (decide (x0 < 0)) true (decide (x0 > 19))) = true then
          Q .ret (St1 0 6)
        else
          iter (rnd C k cd0 12 (blkQ C 0 (sq C k cd1 Q))) k (St2 x0 0) := by kernel_rfl
  rw [h]
  simp only [a0]
  first | rfl | kernel_rfl
def run (x0 : Int) : Option (Int × Int × Unit) := top (α := Int × Int × Unit) fuel (fun (x2 : Int) (x3 : Int) => some (x2, x3, ())) x0
def F : Fn := ⟨(.pair (.int .i64) .unit), (.pair (.int .i64) (.pair (.int .i64) .unit)), true, fun x => run x.1⟩
set_option maxRecDepth 100000 in
theorem con : Con Try.prog 23 F := by
  refine con_of_den (C := C) (ctx_ok (by kernel_rfl) trivial) (by kernel_rfl) Try.func23 (c := cB Try.f23) (by kernel_rfl) (by kernel_rfl) F fuel (fun x => by simp [F, spread, Try.ntmps23]) ?_
  intro x r h
  rw [← h]
  have h1 : start F Try.f23.ntmps x = (St0 x.1) := by kernel_rfl
  rw [h1]
  refine (top_eq fuel (fin C Try.f23.results.toList F.rs F.multi) x.1).trans ?_
  kernel_rfl
theorem named : Named Try.prog 23 := named_of Try.func23 (by kernel_rfl) (by kernel_rfl)
end Go.Bx.basculeref_Needed
namespace Go.Bx.basculelaw_QuorumNeeds
open Go Go.Proofs Go.Bx
set_option maxRecDepth 100000
set_option linter.unusedVariables false
def C : Ctx := ⟨[(3, (.int .i64)), (4, .bool)], fnL [(22, Go.Bx.quorum_Need.F), (23, Go.Bx.basculeref_Needed.F)], [(2, [2])]⟩
def St0 (x0 : Int) : St := stL 25 [(0, .data (.int .i64) x0)] []
def St1 (x2 : Bool) : St := stL 25 [(2, .data .bool x2)] []
def top {α : Type} (Rt : Bool → Option α) (x0 : Int) : Option α :=
  (Go.Bx.quorum_Need.run x0).bind fun y1 =>
  (Go.Bx.basculeref_Needed.run x0).bind fun y2 =>
  Rt (cond (y1.1 == y2.1) (y1.2.1 == y2.2.1) false)
theorem top_eq {α : Type} (k : Nat) (Q : Ex → St → Option α) (x0 : Int) :
    den C k (cB Try.f4) Q (St0 x0) = top (fun (x2 : Bool) => Q .ret (St1 x2)) x0 := by
  kernel_rfl
def run (x0 : Int) : Option (Bool) := top (α := Bool) (fun (x2 : Bool) => some x2) x0
def F : Fn := ⟨(.pair (.int .i64) .unit), .bool, false, fun x => run x.1⟩
set_option maxRecDepth 100000 in
theorem con : Con Try.prog 4 F := by
  refine con_of_den (C := C) (ctx_ok (by kernel_rfl) ⟨⟨Go.Bx.quorum_Need.con, Go.Bx.quorum_Need.named⟩, ⟨⟨Go.Bx.basculeref_Needed.con, Go.Bx.basculeref_Needed.named⟩, trivial⟩⟩) (by kernel_rfl) Try.func4 (c := cB Try.f4) (by kernel_rfl) (by kernel_rfl) F fuel (fun x => by simp [F, spread, Try.ntmps4]) ?_
  intro x r h
  rw [← h]
  have h1 : start F Try.f4.ntmps x = (St0 x.1) := by kernel_rfl
  rw [h1]
  refine (top_eq fuel (fin C Try.f4.results.toList F.rs F.multi) x.1).trans ?_
  kernel_rfl
theorem named : Named Try.prog 4 := named_of Try.func4 (by kernel_rfl) (by kernel_rfl)
end Go.Bx.basculelaw_QuorumNeeds
