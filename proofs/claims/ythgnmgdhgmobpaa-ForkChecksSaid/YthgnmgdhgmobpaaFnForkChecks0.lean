/- Go functions of this seat in their own words of Lean, each tied to its code by a contract. -/
import Derived.Test.YthgnmgdhgmobpaaGBase
namespace Go.Bx.fork_above
open Go Go.Proofs Go.Bx
set_option maxRecDepth 100000
set_option linter.unusedVariables false
def Js : List Nat := [4]
def C : Ctx := ⟨[(3, (.int .i64)), (4, .bool), (80, (.sl (.pair (.int .i64) (.pair (.int .i64) (.pair (.sl (.pair (.int .i64) (.pair (.arr 32 (.int .u8)) (.pair (.arr 32 (.int .u8)) (.pair (.int .i64) (.pair (.arr 4 (.int .u64)) (.pair (.arr 4 (.int .u64)) (.pair (.arr 32 (.int .u8)) (.pair (.int .i64) (.pair (.int .i64) (.pair (.sl (.int .u8)) .unit))))))))))) .unit))))), (82, (.pair (.sl (.pair (.int .i64) (.pair (.int .i64) (.pair (.sl (.pair (.int .i64) (.pair (.arr 32 (.int .u8)) (.pair (.arr 32 (.int .u8)) (.pair (.int .i64) (.pair (.arr 4 (.int .u64)) (.pair (.arr 4 (.int .u64)) (.pair (.arr 32 (.int .u8)) (.pair (.int .i64) (.pair (.int .i64) (.pair (.sl (.int .u8)) .unit))))))))))) .unit)))) (.pair (.int .i64) (.pair (.int .i64) .unit)))), (124, (.pair (.int .i64) (.pair (.int .i64) (.pair (.sl (.pair (.int .i64) (.pair (.arr 32 (.int .u8)) (.pair (.arr 32 (.int .u8)) (.pair (.int .i64) (.pair (.arr 4 (.int .u64)) (.pair (.arr 4 (.int .u64)) (.pair (.arr 32 (.int .u8)) (.pair (.int .i64) (.pair (.int .i64) (.pair (.sl (.int .u8)) .unit))))))))))) .unit))))], [], fnL [], noSh, [], noInv, [(2, [6]), (1, [1, 2]), (4, [1, 2, 3]), (3, [1, 2, 3]), (9, [1, 2])], [], [], 0, 0⟩
def St0 (x0 : List (Int × Int × List (Int × List Int × List Int × Int × List Int × List Int × List Int × Int × Int × List Int × Unit) × Unit) × Int × Int × Unit) (x1 : Int) (x2 : Int) : St := stL 19 [(0, .data (.pair (.sl (.pair (.int .i64) (.pair (.int .i64) (.pair (.sl (.pair (.int .i64) (.pair (.arr 32 (.int .u8)) (.pair (.arr 32 (.int .u8)) (.pair (.int .i64) (.pair (.arr 4 (.int .u64)) (.pair (.arr 4 (.int .u64)) (.pair (.arr 32 (.int .u8)) (.pair (.int .i64) (.pair (.int .i64) (.pair (.sl (.int .u8)) .unit))))))))))) .unit)))) (.pair (.int .i64) (.pair (.int .i64) .unit))) x0), (1, .data (.int .i64) x1), (2, .data (.int .i64) x2)] []
def St1 (x1 : Int) (x2 : Int) (c3 : List (Int × Int × List (Int × List Int × List Int × Int × List Int × List Int × List Int × Int × Int × List Int × Unit) × Unit) × Int × Int × Unit) : St := stL 19 [(1, .data (.int .i64) x1), (2, .data (.int .i64) x2), (3, .ref 3 0 [])] [(3, .cell (.pair (.sl (.pair (.int .i64) (.pair (.int .i64) (.pair (.sl (.pair (.int .i64) (.pair (.arr 32 (.int .u8)) (.pair (.arr 32 (.int .u8)) (.pair (.int .i64) (.pair (.arr 4 (.int .u64)) (.pair (.arr 4 (.int .u64)) (.pair (.arr 32 (.int .u8)) (.pair (.int .i64) (.pair (.int .i64) (.pair (.sl (.int .u8)) .unit))))))))))) .unit)))) (.pair (.int .i64) (.pair (.int .i64) .unit))) (.data (.pair (.sl (.pair (.int .i64) (.pair (.int .i64) (.pair (.sl (.pair (.int .i64) (.pair (.arr 32 (.int .u8)) (.pair (.arr 32 (.int .u8)) (.pair (.int .i64) (.pair (.arr 4 (.int .u64)) (.pair (.arr 4 (.int .u64)) (.pair (.arr 32 (.int .u8)) (.pair (.int .i64) (.pair (.int .i64) (.pair (.sl (.int .u8)) .unit))))))))))) .unit)))) (.pair (.int .i64) (.pair (.int .i64) .unit))) c3) false)]
noncomputable def cd0 : Code := cL (cL (cL (cR (cB Try.f104))))
def St2 (x1 : Int) (x2 : Int) : St := stL 19 [(1, .data (.int .i64) x1), (2, .data (.int .i64) x2)] []
def l0s {α : Type} (Nx : Int → Int → (List (Int × Int × List (Int × List Int × List Int × Int × List Int × List Int × List Int × Int × Int × List Int × Unit) × Unit) × Int × Int × Unit) → Option α) (Xt0 : Int → Int → Option α) (x1 : Int) (x2 : Int) (c3 : List (Int × Int × List (Int × List Int × List Int × Int × List Int × List Int × List Int × Int × Int × List Int × Unit) × Unit) × Int × Int × Unit) : Option α :=
  if (decide (x1 > x2)) = true then
    if 0 ≤ x1 ∧ x1 < (c3.1.length : Int) then
      Nx (List.getD c3.1 (Int.toNat x1) (0, 0, [], ())).1 x2 c3
    else none
  else
    Xt0 x1 x2
theorem l0s_eq {α : Type} (k : Nat) (next : St → Option α) (Q : Ex → St → Option α) (x1 : Int) (x2 : Int) (c3 : List (Int × Int × List (Int × List Int × List Int × Int × List Int × List Int × List Int × Int × Int × List Int × Unit) × Unit) × Int × Int × Unit) :
    rnd C k cd0 3 Q next (St1 x1 x2 c3) = l0s (fun (x1 : Int) (x2 : Int) (c3 : List (Int × Int × List (Int × List Int × List Int × Int × List Int × List Int × List Int × Int × Int × List Int × Unit) × Unit) × Int × Int × Unit) => next (St1 x1 x2 c3)) (fun (x1 : Int) (x2 : Int) => Q (.exit 0) (St2 x1 x2)) x1 x2 c3 := by
  have h : ∀ (D L : DT α), denJ D L Js C cd0 (lq C 3 next Q) (St1 x1 x2 c3) =
        if (decide (x1 > x2)) = true then
          if 0 ≤ x1 ∧ x1 < (c3.1.length : Int) then
            next (St1 (List.getD c3.1 (Int.toNat x1) (0, 0, [], ())).1 x2 c3)
          else none
        else
          Q (.exit 0) (St2 x1 x2) := by
    intro D L; kernel_rfl
  refine (show rnd C k cd0 3 Q next (St1 x1 x2 c3) = denJ (den C k) (lp C k) Js C cd0 (lq C 3 next Q) (St1 x1 x2 c3) from (denJ_den _ _ _ _ _ _).symm).trans ((h (den C k) (lp C k)).trans ?_)
  first | rfl | kernel_rfl
def l0 {α : Type} (k : Nat) (Xt0 : Int → Int → Option α) : Nat → Int → Int → (List (Int × Int × List (Int × List Int × List Int × Int × List Int × List Int × List Int × Int × Int × List Int × Unit) × Unit) × Int × Int × Unit) → Option α
  | 0, _, _, _ => none
  | n + 1, x1, x2, c3 => l0s (l0 k Xt0 n) Xt0 x1 x2 c3
theorem l0_eq {α : Type} (k : Nat) (Q : Ex → St → Option α) : ∀ (n : Nat) (x1 : Int) (x2 : Int) (c3 : List (Int × Int × List (Int × List Int × List Int × Int × List Int × List Int × List Int × Int × Int × List Int × Unit) × Unit) × Int × Int × Unit), iter (rnd C k cd0 3 Q) n (St1 x1 x2 c3) = l0 k (fun (x1 : Int) (x2 : Int) => Q (.exit 0) (St2 x1 x2)) n x1 x2 c3
  | 0, _, _, _ => rfl
  | n + 1, x1, x2, c3 => (iter_succ _ _ _).trans ((l0s_eq k (iter (rnd C k cd0 3 Q) n) Q x1 x2 c3).trans (congrArg (fun N => l0s N (fun (x1 : Int) (x2 : Int) => Q (.exit 0) (St2 x1 x2)) x1 x2 c3) (funext fun x1 => funext fun x2 => funext fun c3 => l0_eq k Q n x1 x2 c3)))
theorem l0_congr {α : Type} (k : Nat) (Xt0 : Int → Int → Option α) (Xt0q : Int → Int → Option α) (hXt0 : ∀ (x1 : Int) (x2 : Int), Xt0 x1 x2 = Xt0q x1 x2) (n : Nat) (x1 : Int) (x2 : Int) (c3 : List (Int × Int × List (Int × List Int × List Int × Int × List Int × List Int × List Int × Int × Int × List Int × Unit) × Unit) × Int × Int × Unit) : l0 k Xt0 n x1 x2 c3 = l0 k Xt0q n x1 x2 c3 := by
  obtain rfl : Xt0 = Xt0q := by funext x1; funext x2; exact hXt0 x1 x2
  rfl
noncomputable def cd1 : Code := cR (cR (cB Try.f104))
def St3 (x1 : Int) (x2 : Int) : St := stL 19 [(1, .data (.int .i64) x1), (2, .data (.int .i64) x2)] []
def St4 (x6 : Bool) : St := stL 19 [(6, .data .bool x6)] []
def j0 {α : Type} (Rt : Bool → Option α) (x1 : Int) (x2 : Int) : Option α :=
  Rt (x1 == x2)
theorem j0_eq {α : Type} (k : Nat) (Q : Ex → St → Option α) (x1 : Int) (x2 : Int) :
    (den C k) cd1 Q (St3 x1 x2) = j0 (fun (x6 : Bool) => Q .ret (St4 x6)) x1 x2 := by
  have h : ∀ (D L : DT α), denJ D L Js C cd1 Q (St3 x1 x2) =
        Q .ret (St4 (x1 == x2)) := by
    intro D L; kernel_rfl
  refine (show (den C k) cd1 Q (St3 x1 x2) = denJ (den C k) (lp C k) Js C cd1 Q (St3 x1 x2) from (denJ_den _ _ _ _ _ _).symm).trans ((h (den C k) (lp C k)).trans ?_)
  first | rfl | kernel_rfl
theorem a0 {α : Type} (k : Nat) (Q : Ex → St → Option α) (x1 : Int) (x2 : Int) (c3 : List (Int × Int × List (Int × List Int × List Int × Int × List Int × List Int × List Int × Int × Int × List Int × Unit) × Unit) × Int × Int × Unit) :
    (lp C k) cd0 (blkQ C 0 (sq (den C k) (lp C k) Js C cd1 Q)) (St1 x1 x2 c3) = l0 k (fun (x1 : Int) (x2 : Int) => j0 (fun (x6 : Bool) => Q .ret (St4 x6)) x1 x2) k x1 x2 c3 :=
  (show (lp C k) cd0 (blkQ C 0 (sq (den C k) (lp C k) Js C cd1 Q)) (St1 x1 x2 c3) = iter (rnd C k cd0 3 (blkQ C 0 (sq (den C k) (lp C k) Js C cd1 Q))) k (St1 x1 x2 c3) by kernel_rfl).trans ((l0_eq k (blkQ C 0 (sq (den C k) (lp C k) Js C cd1 Q)) k x1 x2 c3).trans (l0_congr k _ _ (fun x1 x2 => ((show (blkQ C 0 (sq (den C k) (lp C k) Js C cd1 Q)) (.exit 0) (St2 x1 x2) = (den C k) cd1 Q (St3 x1 x2) by kernel_rfl).trans (by simp only [j0_eq]))) k x1 x2 c3))
def top {α : Type} (k : Nat) (Rt : Bool → Option α) (x0 : List (Int × Int × List (Int × List Int × List Int × Int × List Int × List Int × List Int × Int × Int × List Int × Unit) × Unit) × Int × Int × Unit) (x1 : Int) (x2 : Int) : Option α :=
  l0 k (fun (x1 : Int) (x2 : Int) => j0 Rt x1 x2) k x1 x2 x0
theorem top_eq {α : Type} (k : Nat) (Q : Ex → St → Option α) (x0 : List (Int × Int × List (Int × List Int × List Int × Int × List Int × List Int × List Int × Int × Int × List Int × Unit) × Unit) × Int × Int × Unit) (x1 : Int) (x2 : Int) :
    (den C k) (cB Try.f104) Q (St0 x0 x1 x2) = top k (fun (x6 : Bool) => Q .ret (St4 x6)) x0 x1 x2 := by
  have h : ∀ (D L : DT α), denJ D L Js C (cB Try.f104) Q (St0 x0 x1 x2) =
        L cd0 (blkQ C 0 (sq D L Js C cd1 Q)) (St1 x1 x2 x0) := by
    intro D L; kernel_rfl
  refine (show (den C k) (cB Try.f104) Q (St0 x0 x1 x2) = denJ (den C k) (lp C k) Js C (cB Try.f104) Q (St0 x0 x1 x2) from (denJ_den _ _ _ _ _ _).symm).trans ((h (den C k) (lp C k)).trans ?_)
  simp only [a0]
  first | rfl | kernel_rfl
def run (x0 : List (Int × Int × List (Int × List Int × List Int × Int × List Int × List Int × List Int × Int × Int × List Int × Unit) × Unit) × Int × Int × Unit) (x1 : Int) (x2 : Int) : Option (Bool) := top (α := Bool) fuel (fun (x6 : Bool) => some x6) x0 x1 x2
def F : Fn := ⟨(.pair (.pair (.sl (.pair (.int .i64) (.pair (.int .i64) (.pair (.sl (.pair (.int .i64) (.pair (.arr 32 (.int .u8)) (.pair (.arr 32 (.int .u8)) (.pair (.int .i64) (.pair (.arr 4 (.int .u64)) (.pair (.arr 4 (.int .u64)) (.pair (.arr 32 (.int .u8)) (.pair (.int .i64) (.pair (.int .i64) (.pair (.sl (.int .u8)) .unit))))))))))) .unit)))) (.pair (.int .i64) (.pair (.int .i64) .unit))) (.pair (.int .i64) (.pair (.int .i64) .unit))), .bool, false, fun x => run x.1 x.2.1 x.2.2.1⟩
set_option maxRecDepth 100000 in
theorem con : Con Try.prog 104 F := by
  refine con_of_den (C := C) (ctx_ok (by kernel_rfl) (by kernel_rfl) trivial) (by kernel_rfl) Try.func104 (c := cB Try.f104) (by kernel_rfl) (by kernel_rfl) F fuel (fun x => by simp [F, spread, Try.ntmps104]) ?_
  intro x r h
  rw [← h]
  have h1 : start F Try.f104.ntmps x = (St0 x.1 x.2.1 x.2.2.1) := by kernel_rfl
  rw [h1]
  refine (top_eq fuel (fin C Try.f104.results.toList F.rs F.multi) x.1 x.2.1 x.2.2.1).trans ?_
  kernel_rfl
theorem named : Named Try.prog 104 := named_of Try.func104 (by kernel_rfl) (by kernel_rfl)
end Go.Bx.fork_above
namespace Go.Bx.fork_best
open Go Go.Proofs Go.Bx
set_option maxRecDepth 100000
set_option linter.unusedVariables false
def Js : List Nat := [8, 9]
def C : Ctx := ⟨[(3, (.int .i64)), (80, (.sl (.pair (.int .i64) (.pair (.int .i64) (.pair (.sl (.pair (.int .i64) (.pair (.arr 32 (.int .u8)) (.pair (.arr 32 (.int .u8)) (.pair (.int .i64) (.pair (.arr 4 (.int .u64)) (.pair (.arr 4 (.int .u64)) (.pair (.arr 32 (.int .u8)) (.pair (.int .i64) (.pair (.int .i64) (.pair (.sl (.int .u8)) .unit))))))))))) .unit))))), (82, (.pair (.sl (.pair (.int .i64) (.pair (.int .i64) (.pair (.sl (.pair (.int .i64) (.pair (.arr 32 (.int .u8)) (.pair (.arr 32 (.int .u8)) (.pair (.int .i64) (.pair (.arr 4 (.int .u64)) (.pair (.arr 4 (.int .u64)) (.pair (.arr 32 (.int .u8)) (.pair (.int .i64) (.pair (.int .i64) (.pair (.sl (.int .u8)) .unit))))))))))) .unit)))) (.pair (.int .i64) (.pair (.int .i64) .unit)))), (124, (.pair (.int .i64) (.pair (.int .i64) (.pair (.sl (.pair (.int .i64) (.pair (.arr 32 (.int .u8)) (.pair (.arr 32 (.int .u8)) (.pair (.int .i64) (.pair (.arr 4 (.int .u64)) (.pair (.arr 4 (.int .u64)) (.pair (.arr 32 (.int .u8)) (.pair (.int .i64) (.pair (.int .i64) (.pair (.sl (.int .u8)) .unit))))))))))) .unit))))], [], fnL [(104, Go.Bx.fork_above.F)], noSh, [], noInv, [(2, [2]), (1, [3]), (4, [1, 3, 9, 10, 11]), (9, [1, 3, 9, 10, 11]), (21, [1, 3, 9, 10, 11]), (24, [3])], [], [], 0, 0⟩
def St0 (x0 : List (Int × Int × List (Int × List Int × List Int × Int × List Int × List Int × List Int × Int × Int × List Int × Unit) × Unit) × Int × Int × Unit) : St := stL 35 [(0, .data (.pair (.sl (.pair (.int .i64) (.pair (.int .i64) (.pair (.sl (.pair (.int .i64) (.pair (.arr 32 (.int .u8)) (.pair (.arr 32 (.int .u8)) (.pair (.int .i64) (.pair (.arr 4 (.int .u64)) (.pair (.arr 4 (.int .u64)) (.pair (.arr 32 (.int .u8)) (.pair (.int .i64) (.pair (.int .i64) (.pair (.sl (.int .u8)) .unit))))))))))) .unit)))) (.pair (.int .i64) (.pair (.int .i64) .unit))) x0)] []
def St1 (x3 : Int) (x9 : List (Int × Int × List (Int × List Int × List Int × Int × List Int × List Int × List Int × Int × Int × List Int × Unit) × Unit)) (x10 : Int) (x11 : Int) (c1 : List (Int × Int × List (Int × List Int × List Int × Int × List Int × List Int × List Int × Int × Int × List Int × Unit) × Unit) × Int × Int × Unit) : St := stL 35 [(1, .ref 1 0 []), (3, .data (.int .i64) x3), (9, .data (.sl (.pair (.int .i64) (.pair (.int .i64) (.pair (.sl (.pair (.int .i64) (.pair (.arr 32 (.int .u8)) (.pair (.arr 32 (.int .u8)) (.pair (.int .i64) (.pair (.arr 4 (.int .u64)) (.pair (.arr 4 (.int .u64)) (.pair (.arr 32 (.int .u8)) (.pair (.int .i64) (.pair (.int .i64) (.pair (.sl (.int .u8)) .unit))))))))))) .unit)))) x9), (10, .data (.int .i64) x10), (11, .data (.int .i64) x11)] [(1, .cell (.pair (.sl (.pair (.int .i64) (.pair (.int .i64) (.pair (.sl (.pair (.int .i64) (.pair (.arr 32 (.int .u8)) (.pair (.arr 32 (.int .u8)) (.pair (.int .i64) (.pair (.arr 4 (.int .u64)) (.pair (.arr 4 (.int .u64)) (.pair (.arr 32 (.int .u8)) (.pair (.int .i64) (.pair (.int .i64) (.pair (.sl (.int .u8)) .unit))))))))))) .unit)))) (.pair (.int .i64) (.pair (.int .i64) .unit))) (.data (.pair (.sl (.pair (.int .i64) (.pair (.int .i64) (.pair (.sl (.pair (.int .i64) (.pair (.arr 32 (.int .u8)) (.pair (.arr 32 (.int .u8)) (.pair (.int .i64) (.pair (.arr 4 (.int .u64)) (.pair (.arr 4 (.int .u64)) (.pair (.arr 32 (.int .u8)) (.pair (.int .i64) (.pair (.int .i64) (.pair (.sl (.int .u8)) .unit))))))))))) .unit)))) (.pair (.int .i64) (.pair (.int .i64) .unit))) c1) false)]
noncomputable def cd0 : Code := cL (cL (cR (cL (cR (cR (cB Try.f94))))))
def St2 (x3 : Int) (x9 : List (Int × Int × List (Int × List Int × List Int × Int × List Int × List Int × List Int × Int × Int × List Int × Unit) × Unit)) (x10 : Int) (x11 : Int) (c1 : List (Int × Int × List (Int × List Int × List Int × Int × List Int × List Int × List Int × Int × Int × List Int × Unit) × Unit) × Int × Int × Unit) : St := stL 35 [(1, .ref 1 0 []), (3, .data (.int .i64) x3), (9, .data (.sl (.pair (.int .i64) (.pair (.int .i64) (.pair (.sl (.pair (.int .i64) (.pair (.arr 32 (.int .u8)) (.pair (.arr 32 (.int .u8)) (.pair (.int .i64) (.pair (.arr 4 (.int .u64)) (.pair (.arr 4 (.int .u64)) (.pair (.arr 32 (.int .u8)) (.pair (.int .i64) (.pair (.int .i64) (.pair (.sl (.int .u8)) .unit))))))))))) .unit)))) x9), (10, .data (.int .i64) x10), (11, .data (.int .i64) x11)] [(1, .cell (.pair (.sl (.pair (.int .i64) (.pair (.int .i64) (.pair (.sl (.pair (.int .i64) (.pair (.arr 32 (.int .u8)) (.pair (.arr 32 (.int .u8)) (.pair (.int .i64) (.pair (.arr 4 (.int .u64)) (.pair (.arr 4 (.int .u64)) (.pair (.arr 32 (.int .u8)) (.pair (.int .i64) (.pair (.int .i64) (.pair (.sl (.int .u8)) .unit))))))))))) .unit)))) (.pair (.int .i64) (.pair (.int .i64) .unit))) (.data (.pair (.sl (.pair (.int .i64) (.pair (.int .i64) (.pair (.sl (.pair (.int .i64) (.pair (.arr 32 (.int .u8)) (.pair (.arr 32 (.int .u8)) (.pair (.int .i64) (.pair (.arr 4 (.int .u64)) (.pair (.arr 4 (.int .u64)) (.pair (.arr 32 (.int .u8)) (.pair (.int .i64) (.pair (.int .i64) (.pair (.sl (.int .u8)) .unit))))))))))) .unit)))) (.pair (.int .i64) (.pair (.int .i64) .unit))) c1) false)]
noncomputable def cd1 : Code := cR (cR (cR (cL (cL (cR (cL (cR (cR (cB Try.f94)))))))))
def j0 {α : Type} (Nx : Int → (List (Int × Int × List (Int × List Int × List Int × Int × List Int × List Int × List Int × Int × Int × List Int × Unit) × Unit)) → Int → Int → (List (Int × Int × List (Int × List Int × List Int × Int × List Int × List Int × List Int × Int × Int × List Int × Unit) × Unit) × Int × Int × Unit) → Option α) (x3 : Int) (x9 : List (Int × Int × List (Int × List Int × List Int × Int × List Int × List Int × List Int × Int × Int × List Int × Unit) × Unit)) (x10 : Int) (x11 : Int) (c1 : List (Int × Int × List (Int × List Int × List Int × Int × List Int × List Int × List Int × Int × Int × List Int × Unit) × Unit) × Int × Int × Unit) : Option α :=
  Nx x3 x9 x10 (IntKind.i64.wrap (x11 + 1)) c1
theorem j0_eq {α : Type} (k : Nat) (next : St → Option α) (Q : Ex → St → Option α) (x3 : Int) (x9 : List (Int × Int × List (Int × List Int × List Int × Int × List Int × List Int × List Int × Int × Int × List Int × Unit) × Unit)) (x10 : Int) (x11 : Int) (c1 : List (Int × Int × List (Int × List Int × List Int × Int × List Int × List Int × List Int × Int × Int × List Int × Unit) × Unit) × Int × Int × Unit) :
    (den C k) cd1 (lq C 9 next Q) (St2 x3 x9 x10 x11 c1) = j0 (fun (x3 : Int) (x9 : List (Int × Int × List (Int × List Int × List Int × Int × List Int × List Int × List Int × Int × Int × List Int × Unit) × Unit)) (x10 : Int) (x11 : Int) (c1 : List (Int × Int × List (Int × List Int × List Int × Int × List Int × List Int × List Int × Int × Int × List Int × Unit) × Unit) × Int × Int × Unit) => next (St1 x3 x9 x10 x11 c1)) x3 x9 x10 x11 c1 := by
  have h : ∀ (D L : DT α), denJ D L Js C cd1 (lq C 9 next Q) (St2 x3 x9 x10 x11 c1) =
        next (St1 x3 x9 x10 (IntKind.i64.wrap (x11 + 1)) c1) := by
    intro D L; kernel_rfl
  refine (show (den C k) cd1 (lq C 9 next Q) (St2 x3 x9 x10 x11 c1) = denJ (den C k) (lp C k) Js C cd1 (lq C 9 next Q) (St2 x3 x9 x10 x11 c1) from (denJ_den _ _ _ _ _ _).symm).trans ((h (den C k) (lp C k)).trans ?_)
  first | rfl | kernel_rfl
def St3 (x3 : Int) : St := stL 35 [(3, .data (.int .i64) x3)] []
def l0s {α : Type} (Nx : Int → (List (Int × Int × List (Int × List Int × List Int × Int × List Int × List Int × List Int × Int × Int × List Int × Unit) × Unit)) → Int → Int → (List (Int × Int × List (Int × List Int × List Int × Int × List Int × List Int × List Int × Int × Int × List Int × Unit) × Unit) × Int × Int × Unit) → Option α) (Xt0 : Int → Option α) (x3 : Int) (x9 : List (Int × Int × List (Int × List Int × List Int × Int × List Int × List Int × List Int × Int × Int × List Int × Unit) × Unit)) (x10 : Int) (x11 : Int) (c1 : List (Int × Int × List (Int × List Int × List Int × Int × List Int × List Int × List Int × Int × Int × List Int × Unit) × Unit) × Int × Int × Unit) : Option α :=
  if (decide (x11 < x10)) = true then
    if 0 ≤ x11 ∧ x11 < (x9.length : Int) then
      (Go.Bx.fork_above.run c1 x11 c1.2.2.1).bind fun y1 =>
      cond (decide (0 ≤ x3 ∧ x3 < (c1.1.length : Int)) || !(y1 == true)) (
        if (cond y1 (decide ((List.getD x9 (Int.toNat x11) (0, 0, [], ())).2.1 > (List.getD c1.1 (Int.toNat x3) (0, 0, [], ())).2.1)) false) = true then
          j0 Nx x11 x9 x10 x11 c1
        else
          j0 Nx x3 x9 x10 x11 c1) none
    else none
  else
    Xt0 x3
theorem l0s_eq {α : Type} (k : Nat) (next : St → Option α) (Q : Ex → St → Option α) (x3 : Int) (x9 : List (Int × Int × List (Int × List Int × List Int × Int × List Int × List Int × List Int × Int × Int × List Int × Unit) × Unit)) (x10 : Int) (x11 : Int) (c1 : List (Int × Int × List (Int × List Int × List Int × Int × List Int × List Int × List Int × Int × Int × List Int × Unit) × Unit) × Int × Int × Unit) :
    rnd C k cd0 9 Q next (St1 x3 x9 x10 x11 c1) = l0s (fun (x3 : Int) (x9 : List (Int × Int × List (Int × List Int × List Int × Int × List Int × List Int × List Int × Int × Int × List Int × Unit) × Unit)) (x10 : Int) (x11 : Int) (c1 : List (Int × Int × List (Int × List Int × List Int × Int × List Int × List Int × List Int × Int × Int × List Int × Unit) × Unit) × Int × Int × Unit) => next (St1 x3 x9 x10 x11 c1)) (fun (x3 : Int) => Q (.exit 0) (St3 x3)) x3 x9 x10 x11 c1 := by
  have h : ∀ (D L : DT α), denJ D L Js C cd0 (lq C 9 next Q) (St1 x3 x9 x10 x11 c1) =
        if (decide (x11 < x10)) = true then
          if 0 ≤ x11 ∧ x11 < (x9.length : Int) then
            (Go.Bx.fork_above.run c1 x11 c1.2.2.1).bind fun y1 =>
            cond (decide (0 ≤ x3 ∧ x3 < (c1.1.length : Int)) || !(y1 == true)) (
              if (cond y1 (decide ((List.getD x9 (Int.toNat x11) (0, 0, [], ())).2.1 > (List.getD c1.1 (Int.toNat x3) (0, 0, [], ())).2.1)) false) = true then
                D cd1 (lq C 9 next Q) (St2 x11 x9 x10 x11 c1)
              else
                D cd1 (lq C 9 next Q) (St2 x3 x9 x10 x11 c1)) none
          else none
        else
          Q (.exit 0) (St3 x3) := by
    intro D L; kernel_rfl
  refine (show rnd C k cd0 9 Q next (St1 x3 x9 x10 x11 c1) = denJ (den C k) (lp C k) Js C cd0 (lq C 9 next Q) (St1 x3 x9 x10 x11 c1) from (denJ_den _ _ _ _ _ _).symm).trans ((h (den C k) (lp C k)).trans ?_)
  simp only [j0_eq]
  first | rfl | kernel_rfl
def l0 {α : Type} (k : Nat) (Xt0 : Int → Option α) : Nat → Int → (List (Int × Int × List (Int × List Int × List Int × Int × List Int × List Int × List Int × Int × Int × List Int × Unit) × Unit)) → Int → Int → (List (Int × Int × List (Int × List Int × List Int × Int × List Int × List Int × List Int × Int × Int × List Int × Unit) × Unit) × Int × Int × Unit) → Option α
  | 0, _, _, _, _, _ => none
  | n + 1, x3, x9, x10, x11, c1 => l0s (l0 k Xt0 n) Xt0 x3 x9 x10 x11 c1
theorem l0_eq {α : Type} (k : Nat) (Q : Ex → St → Option α) : ∀ (n : Nat) (x3 : Int) (x9 : List (Int × Int × List (Int × List Int × List Int × Int × List Int × List Int × List Int × Int × Int × List Int × Unit) × Unit)) (x10 : Int) (x11 : Int) (c1 : List (Int × Int × List (Int × List Int × List Int × Int × List Int × List Int × List Int × Int × Int × List Int × Unit) × Unit) × Int × Int × Unit), iter (rnd C k cd0 9 Q) n (St1 x3 x9 x10 x11 c1) = l0 k (fun (x3 : Int) => Q (.exit 0) (St3 x3)) n x3 x9 x10 x11 c1
  | 0, _, _, _, _, _ => rfl
  | n + 1, x3, x9, x10, x11, c1 => (iter_succ _ _ _).trans ((l0s_eq k (iter (rnd C k cd0 9 Q) n) Q x3 x9 x10 x11 c1).trans (congrArg (fun N => l0s N (fun (x3 : Int) => Q (.exit 0) (St3 x3)) x3 x9 x10 x11 c1) (funext fun x3 => funext fun x9 => funext fun x10 => funext fun x11 => funext fun c1 => l0_eq k Q n x3 x9 x10 x11 c1)))
theorem l0_congr {α : Type} (k : Nat) (Xt0 : Int → Option α) (Xt0q : Int → Option α) (hXt0 : ∀ (x3 : Int), Xt0 x3 = Xt0q x3) (n : Nat) (x3 : Int) (x9 : List (Int × Int × List (Int × List Int × List Int × Int × List Int × List Int × List Int × Int × Int × List Int × Unit) × Unit)) (x10 : Int) (x11 : Int) (c1 : List (Int × Int × List (Int × List Int × List Int × Int × List Int × List Int × List Int × Int × Int × List Int × Unit) × Unit) × Int × Int × Unit) : l0 k Xt0 n x3 x9 x10 x11 c1 = l0 k Xt0q n x3 x9 x10 x11 c1 := by
  obtain rfl : Xt0 = Xt0q := by funext x3; exact hXt0 x3
  rfl
noncomputable def cd2 : Code := cR (cR (cR (cB Try.f94)))
def St4 (x3 : Int) : St := stL 35 [(3, .data (.int .i64) x3)] []
def St5 (x2 : Int) : St := stL 35 [(2, .data (.int .i64) x2)] []
def j1 {α : Type} (Rt : Int → Option α) (x3 : Int) : Option α :=
  Rt x3
theorem j1_eq {α : Type} (k : Nat) (Q : Ex → St → Option α) (x3 : Int) :
    (den C k) cd2 Q (St4 x3) = j1 (fun (x2 : Int) => Q .ret (St5 x2)) x3 := by
  have h : ∀ (D L : DT α), denJ D L Js C cd2 Q (St4 x3) =
        Q .ret (St5 x3) := by
    intro D L; kernel_rfl
  refine (show (den C k) cd2 Q (St4 x3) = denJ (den C k) (lp C k) Js C cd2 Q (St4 x3) from (denJ_den _ _ _ _ _ _).symm).trans ((h (den C k) (lp C k)).trans ?_)
  first | rfl | kernel_rfl
theorem a0 {α : Type} (k : Nat) (Q : Ex → St → Option α) (x3 : Int) (x9 : List (Int × Int × List (Int × List Int × List Int × Int × List Int × List Int × List Int × Int × Int × List Int × Unit) × Unit)) (x10 : Int) (x11 : Int) (c1 : List (Int × Int × List (Int × List Int × List Int × Int × List Int × List Int × List Int × Int × Int × List Int × Unit) × Unit) × Int × Int × Unit) :
    (lp C k) cd0 (blkQ C 0 (sq (den C k) (lp C k) Js C cd2 Q)) (St1 x3 x9 x10 x11 c1) = l0 k (fun (x3 : Int) => j1 (fun (x2 : Int) => Q .ret (St5 x2)) x3) k x3 x9 x10 x11 c1 :=
  (show (lp C k) cd0 (blkQ C 0 (sq (den C k) (lp C k) Js C cd2 Q)) (St1 x3 x9 x10 x11 c1) = iter (rnd C k cd0 9 (blkQ C 0 (sq (den C k) (lp C k) Js C cd2 Q))) k (St1 x3 x9 x10 x11 c1) by kernel_rfl).trans ((l0_eq k (blkQ C 0 (sq (den C k) (lp C k) Js C cd2 Q)) k x3 x9 x10 x11 c1).trans (l0_congr k _ _ (fun x3 => ((show (blkQ C 0 (sq (den C k) (lp C k) Js C cd2 Q)) (.exit 0) (St3 x3) = (den C k) cd2 Q (St4 x3) by kernel_rfl).trans (by simp only [j1_eq]))) k x3 x9 x10 x11 c1))
def top {α : Type} (k : Nat) (Rt : Int → Option α) (x0 : List (Int × Int × List (Int × List Int × List Int × Int × List Int × List Int × List Int × Int × Int × List Int × Unit) × Unit) × Int × Int × Unit) : Option α :=
  l0 k (fun (x3 : Int) => j1 Rt x3) k x0.2.2.1 x0.1 (x0.1.length : Int) 0 x0
theorem top_eq {α : Type} (k : Nat) (Q : Ex → St → Option α) (x0 : List (Int × Int × List (Int × List Int × List Int × Int × List Int × List Int × List Int × Int × Int × List Int × Unit) × Unit) × Int × Int × Unit) :
    (den C k) (cB Try.f94) Q (St0 x0) = top k (fun (x2 : Int) => Q .ret (St5 x2)) x0 := by
  have h : ∀ (D L : DT α), denJ D L Js C (cB Try.f94) Q (St0 x0) =
        L cd0 (blkQ C 0 (sq D L Js C cd2 Q)) (St1 x0.2.2.1 x0.1 (x0.1.length : Int) 0 x0) := by
    intro D L; kernel_rfl
  refine (show (den C k) (cB Try.f94) Q (St0 x0) = denJ (den C k) (lp C k) Js C (cB Try.f94) Q (St0 x0) from (denJ_den _ _ _ _ _ _).symm).trans ((h (den C k) (lp C k)).trans ?_)
  simp only [a0]
  first | rfl | kernel_rfl
def run (x0 : List (Int × Int × List (Int × List Int × List Int × Int × List Int × List Int × List Int × Int × Int × List Int × Unit) × Unit) × Int × Int × Unit) : Option (Int) := top (α := Int) fuel (fun (x2 : Int) => some x2) x0
def F : Fn := ⟨(.pair (.pair (.sl (.pair (.int .i64) (.pair (.int .i64) (.pair (.sl (.pair (.int .i64) (.pair (.arr 32 (.int .u8)) (.pair (.arr 32 (.int .u8)) (.pair (.int .i64) (.pair (.arr 4 (.int .u64)) (.pair (.arr 4 (.int .u64)) (.pair (.arr 32 (.int .u8)) (.pair (.int .i64) (.pair (.int .i64) (.pair (.sl (.int .u8)) .unit))))))))))) .unit)))) (.pair (.int .i64) (.pair (.int .i64) .unit))) .unit), (.int .i64), false, fun x => run x.1⟩
set_option maxRecDepth 100000 in
theorem con : Con Try.prog 94 F := by
  refine con_of_den (C := C) (ctx_ok (by kernel_rfl) (by kernel_rfl) ⟨.inl ⟨Go.Bx.fork_above.con, Go.Bx.fork_above.named⟩, trivial⟩) (by kernel_rfl) Try.func94 (c := cB Try.f94) (by kernel_rfl) (by kernel_rfl) F fuel (fun x => by simp [F, spread, Try.ntmps94]) ?_
  intro x r h
  rw [← h]
  have h1 : start F Try.f94.ntmps x = (St0 x.1) := by kernel_rfl
  rw [h1]
  refine (top_eq fuel (fin C Try.f94.results.toList F.rs F.multi) x.1).trans ?_
  kernel_rfl
theorem named : Named Try.prog 94 := named_of Try.func94 (by kernel_rfl) (by kernel_rfl)
end Go.Bx.fork_best
namespace Go.Bx.fork_Check
open Go Go.Proofs Go.Bx
set_option maxRecDepth 100000
set_option linter.unusedVariables false
def Js : List Nat := [14]
def C : Ctx := ⟨[(3, (.int .i64)), (23, (.int .i64)), (80, (.sl (.pair (.int .i64) (.pair (.int .i64) (.pair (.sl (.pair (.int .i64) (.pair (.arr 32 (.int .u8)) (.pair (.arr 32 (.int .u8)) (.pair (.int .i64) (.pair (.arr 4 (.int .u64)) (.pair (.arr 4 (.int .u64)) (.pair (.arr 32 (.int .u8)) (.pair (.int .i64) (.pair (.int .i64) (.pair (.sl (.int .u8)) .unit))))))))))) .unit))))), (82, (.pair (.sl (.pair (.int .i64) (.pair (.int .i64) (.pair (.sl (.pair (.int .i64) (.pair (.arr 32 (.int .u8)) (.pair (.arr 32 (.int .u8)) (.pair (.int .i64) (.pair (.arr 4 (.int .u64)) (.pair (.arr 4 (.int .u64)) (.pair (.arr 32 (.int .u8)) (.pair (.int .i64) (.pair (.int .i64) (.pair (.sl (.int .u8)) .unit))))))))))) .unit)))) (.pair (.int .i64) (.pair (.int .i64) .unit)))), (122, (.sl (.pair (.int .i64) (.pair (.arr 32 (.int .u8)) (.pair (.arr 32 (.int .u8)) (.pair (.int .i64) (.pair (.arr 4 (.int .u64)) (.pair (.arr 4 (.int .u64)) (.pair (.arr 32 (.int .u8)) (.pair (.int .i64) (.pair (.int .i64) (.pair (.sl (.int .u8)) .unit)))))))))))), (124, (.pair (.int .i64) (.pair (.int .i64) (.pair (.sl (.pair (.int .i64) (.pair (.arr 32 (.int .u8)) (.pair (.arr 32 (.int .u8)) (.pair (.int .i64) (.pair (.arr 4 (.int .u64)) (.pair (.arr 4 (.int .u64)) (.pair (.arr 32 (.int .u8)) (.pair (.int .i64) (.pair (.int .i64) (.pair (.sl (.int .u8)) .unit))))))))))) .unit))))], [], fnL [(94, Go.Bx.fork_best.F)], noSh, [], noInv, [(2, [2]), (1, [1]), (4, [1, 16, 17, 18]), (7, [1, 16, 17, 18]), (12, [1, 16, 17, 18]), (39, [1])], [], [], 0, 0⟩
def St0 (x0 : List (Int × Int × List (Int × List Int × List Int × Int × List Int × List Int × List Int × Int × Int × List Int × Unit) × Unit) × Int × Int × Unit) : St := stL 93 [(0, .data (.pair (.sl (.pair (.int .i64) (.pair (.int .i64) (.pair (.sl (.pair (.int .i64) (.pair (.arr 32 (.int .u8)) (.pair (.arr 32 (.int .u8)) (.pair (.int .i64) (.pair (.arr 4 (.int .u64)) (.pair (.arr 4 (.int .u64)) (.pair (.arr 32 (.int .u8)) (.pair (.int .i64) (.pair (.int .i64) (.pair (.sl (.int .u8)) .unit))))))))))) .unit)))) (.pair (.int .i64) (.pair (.int .i64) .unit))) x0)] []
def St1 (x2 : Int) : St := stL 93 [(2, .data (.int .i64) x2)] []
def St2 (x16 : List (Int × Int × List (Int × List Int × List Int × Int × List Int × List Int × List Int × Int × Int × List Int × Unit) × Unit)) (x17 : Int) (x18 : Int) (c1 : List (Int × Int × List (Int × List Int × List Int × Int × List Int × List Int × List Int × Int × Int × List Int × Unit) × Unit) × Int × Int × Unit) : St := stL 93 [(1, .ref 1 0 []), (16, .data (.sl (.pair (.int .i64) (.pair (.int .i64) (.pair (.sl (.pair (.int .i64) (.pair (.arr 32 (.int .u8)) (.pair (.arr 32 (.int .u8)) (.pair (.int .i64) (.pair (.arr 4 (.int .u64)) (.pair (.arr 4 (.int .u64)) (.pair (.arr 32 (.int .u8)) (.pair (.int .i64) (.pair (.int .i64) (.pair (.sl (.int .u8)) .unit))))))))))) .unit)))) x16), (17, .data (.int .i64) x17), (18, .data (.int .i64) x18)] [(1, .cell (.pair (.sl (.pair (.int .i64) (.pair (.int .i64) (.pair (.sl (.pair (.int .i64) (.pair (.arr 32 (.int .u8)) (.pair (.arr 32 (.int .u8)) (.pair (.int .i64) (.pair (.arr 4 (.int .u64)) (.pair (.arr 4 (.int .u64)) (.pair (.arr 32 (.int .u8)) (.pair (.int .i64) (.pair (.int .i64) (.pair (.sl (.int .u8)) .unit))))))))))) .unit)))) (.pair (.int .i64) (.pair (.int .i64) .unit))) (.data (.pair (.sl (.pair (.int .i64) (.pair (.int .i64) (.pair (.sl (.pair (.int .i64) (.pair (.arr 32 (.int .u8)) (.pair (.arr 32 (.int .u8)) (.pair (.int .i64) (.pair (.arr 4 (.int .u64)) (.pair (.arr 4 (.int .u64)) (.pair (.arr 32 (.int .u8)) (.pair (.int .i64) (.pair (.int .i64) (.pair (.sl (.int .u8)) .unit))))))))))) .unit)))) (.pair (.int .i64) (.pair (.int .i64) .unit))) c1) false)]
noncomputable def cd0 : Code := cL (cL (cR (cL (cR (cR (cB Try.f65))))))
def St3 (c1 : List (Int × Int × List (Int × List Int × List Int × Int × List Int × List Int × List Int × Int × Int × List Int × Unit) × Unit) × Int × Int × Unit) : St := stL 93 [(1, .ref 1 0 [])] [(1, .cell (.pair (.sl (.pair (.int .i64) (.pair (.int .i64) (.pair (.sl (.pair (.int .i64) (.pair (.arr 32 (.int .u8)) (.pair (.arr 32 (.int .u8)) (.pair (.int .i64) (.pair (.arr 4 (.int .u64)) (.pair (.arr 4 (.int .u64)) (.pair (.arr 32 (.int .u8)) (.pair (.int .i64) (.pair (.int .i64) (.pair (.sl (.int .u8)) .unit))))))))))) .unit)))) (.pair (.int .i64) (.pair (.int .i64) .unit))) (.data (.pair (.sl (.pair (.int .i64) (.pair (.int .i64) (.pair (.sl (.pair (.int .i64) (.pair (.arr 32 (.int .u8)) (.pair (.arr 32 (.int .u8)) (.pair (.int .i64) (.pair (.arr 4 (.int .u64)) (.pair (.arr 4 (.int .u64)) (.pair (.arr 32 (.int .u8)) (.pair (.int .i64) (.pair (.int .i64) (.pair (.sl (.int .u8)) .unit))))))))))) .unit)))) (.pair (.int .i64) (.pair (.int .i64) .unit))) c1) false)]
def l0s {α : Type} (Nx : (List (Int × Int × List (Int × List Int × List Int × Int × List Int × List Int × List Int × Int × Int × List Int × Unit) × Unit)) → Int → Int → (List (Int × Int × List (Int × List Int × List Int × Int × List Int × List Int × List Int × Int × Int × List Int × Unit) × Unit) × Int × Int × Unit) → Option α) (Rt : Int → Option α) (Xt0 : (List (Int × Int × List (Int × List Int × List Int × Int × List Int × List Int × List Int × Int × Int × List Int × Unit) × Unit) × Int × Int × Unit) → Option α) (x16 : List (Int × Int × List (Int × List Int × List Int × Int × List Int × List Int × List Int × Int × Int × List Int × Unit) × Unit)) (x17 : Int) (x18 : Int) (c1 : List (Int × Int × List (Int × List Int × List Int × Int × List Int × List Int × List Int × Int × Int × List Int × Unit) × Unit) × Int × Int × Unit) : Option α :=
  if (decide (x18 < x17)) = true then
    if 0 ≤ x18 ∧ x18 < (x16.length : Int) then
      if (decide (((List.getD x16 (Int.toNat x18) (0, 0, [], ())).2.2.1.length : Int) > 6)) = true then
        Rt 1
      else
        if (cond (x18 == 0) (cond (cond ((List.getD x16 (Int.toNat x18) (0, 0, [], ())).1 != (-1)) true ((List.getD x16 (Int.toNat x18) (0, 0, [], ())).2.1 != 0)) true (decide (((List.getD x16 (Int.toNat x18) (0, 0, [], ())).2.2.1.length : Int) > 0))) false) = true then
          Rt 12
        else
          cond (decide (0 ≤ (List.getD x16 (Int.toNat x18) (0, 0, [], ())).1 ∧ (List.getD x16 (Int.toNat x18) (0, 0, [], ())).1 < (c1.1.length : Int)) || !((cond (decide ((List.getD x16 (Int.toNat x18) (0, 0, [], ())).1 < 0)) true (decide ((List.getD x16 (Int.toNat x18) (0, 0, [], ())).1 ≥ x18))) == false)) (
            if (cond (decide (x18 > 0)) (cond (cond (decide ((List.getD x16 (Int.toNat x18) (0, 0, [], ())).1 < 0)) true (decide ((List.getD x16 (Int.toNat x18) (0, 0, [], ())).1 ≥ x18))) true ((List.getD x16 (Int.toNat x18) (0, 0, [], ())).2.1 != (IntKind.i64.wrap ((List.getD c1.1 (Int.toNat (List.getD x16 (Int.toNat x18) (0, 0, [], ())).1) (0, 0, [], ())).2.1 + 1)))) false) = true then
              Rt 12
            else
              Nx x16 x17 (IntKind.i64.wrap (x18 + 1)) c1) none
    else none
  else
    Xt0 c1
theorem l0s_eq {α : Type} (k : Nat) (next : St → Option α) (Q : Ex → St → Option α) (x16 : List (Int × Int × List (Int × List Int × List Int × Int × List Int × List Int × List Int × Int × Int × List Int × Unit) × Unit)) (x17 : Int) (x18 : Int) (c1 : List (Int × Int × List (Int × List Int × List Int × Int × List Int × List Int × List Int × Int × Int × List Int × Unit) × Unit) × Int × Int × Unit) :
    rnd C k cd0 12 Q next (St2 x16 x17 x18 c1) = l0s (fun (x16 : List (Int × Int × List (Int × List Int × List Int × Int × List Int × List Int × List Int × Int × Int × List Int × Unit) × Unit)) (x17 : Int) (x18 : Int) (c1 : List (Int × Int × List (Int × List Int × List Int × Int × List Int × List Int × List Int × Int × Int × List Int × Unit) × Unit) × Int × Int × Unit) => next (St2 x16 x17 x18 c1)) (fun (x2 : Int) => Q .ret (St1 x2)) (fun (c1 : List (Int × Int × List (Int × List Int × List Int × Int × List Int × List Int × List Int × Int × Int × List Int × Unit) × Unit) × Int × Int × Unit) => Q (.exit 0) (St3 c1)) x16 x17 x18 c1 := by
  have h : ∀ (D L : DT α), denJ D L Js C cd0 (lq C 12 next Q) (St2 x16 x17 x18 c1) =
        if (decide (x18 < x17)) = true then
          if 0 ≤ x18 ∧ x18 < (x16.length : Int) then
            if (decide (((List.getD x16 (Int.toNat x18) (0, 0, [], ())).2.2.1.length : Int) > 6)) = true then
              Q .ret (St1 1)
            else
              if (cond (x18 == 0) (cond (cond ((List.getD x16 (Int.toNat x18) (0, 0, [], ())).1 != (-1)) true ((List.getD x16 (Int.toNat x18) (0, 0, [], ())).2.1 != 0)) true (decide (((List.getD x16 (Int.toNat x18) (0, 0, [], ())).2.2.1.length : Int) > 0))) false) = true then
                Q .ret (St1 12)
              else
                cond (decide (0 ≤ (List.getD x16 (Int.toNat x18) (0, 0, [], ())).1 ∧ (List.getD x16 (Int.toNat x18) (0, 0, [], ())).1 < (c1.1.length : Int)) || !((cond (decide ((List.getD x16 (Int.toNat x18) (0, 0, [], ())).1 < 0)) true (decide ((List.getD x16 (Int.toNat x18) (0, 0, [], ())).1 ≥ x18))) == false)) (
                  if (cond (decide (x18 > 0)) (cond (cond (decide ((List.getD x16 (Int.toNat x18) (0, 0, [], ())).1 < 0)) true (decide ((List.getD x16 (Int.toNat x18) (0, 0, [], ())).1 ≥ x18))) true ((List.getD x16 (Int.toNat x18) (0, 0, [], ())).2.1 != (IntKind.i64.wrap ((List.getD c1.1 (Int.toNat (List.getD x16 (Int.toNat x18) (0, 0, [], ())).1) (0, 0, [], ())).2.1 + 1)))) false) = true then
                    Q .ret (St1 12)
                  else
                    next (St2 x16 x17 (IntKind.i64.wrap (x18 + 1)) c1)) none
          else none
        else
          Q (.exit 0) (St3 c1) := by
    intro D L; kernel_rfl
  refine (show rnd C k cd0 12 Q next (St2 x16 x17 x18 c1) = denJ (den C k) (lp C k) Js C cd0 (lq C 12 next Q) (St2 x16 x17 x18 c1) from (denJ_den _ _ _ _ _ _).symm).trans ((h (den C k) (lp C k)).trans ?_)
  first | rfl | kernel_rfl
def l0 {α : Type} (k : Nat) (Rt : Int → Option α) (Xt0 : (List (Int × Int × List (Int × List Int × List Int × Int × List Int × List Int × List Int × Int × Int × List Int × Unit) × Unit) × Int × Int × Unit) → Option α) : Nat → (List (Int × Int × List (Int × List Int × List Int × Int × List Int × List Int × List Int × Int × Int × List Int × Unit) × Unit)) → Int → Int → (List (Int × Int × List (Int × List Int × List Int × Int × List Int × List Int × List Int × Int × Int × List Int × Unit) × Unit) × Int × Int × Unit) → Option α
  | 0, _, _, _, _ => none
  | n + 1, x16, x17, x18, c1 => l0s (l0 k Rt Xt0 n) Rt Xt0 x16 x17 x18 c1
theorem l0_eq {α : Type} (k : Nat) (Q : Ex → St → Option α) : ∀ (n : Nat) (x16 : List (Int × Int × List (Int × List Int × List Int × Int × List Int × List Int × List Int × Int × Int × List Int × Unit) × Unit)) (x17 : Int) (x18 : Int) (c1 : List (Int × Int × List (Int × List Int × List Int × Int × List Int × List Int × List Int × Int × Int × List Int × Unit) × Unit) × Int × Int × Unit), iter (rnd C k cd0 12 Q) n (St2 x16 x17 x18 c1) = l0 k (fun (x2 : Int) => Q .ret (St1 x2)) (fun (c1 : List (Int × Int × List (Int × List Int × List Int × Int × List Int × List Int × List Int × Int × Int × List Int × Unit) × Unit) × Int × Int × Unit) => Q (.exit 0) (St3 c1)) n x16 x17 x18 c1
  | 0, _, _, _, _ => rfl
  | n + 1, x16, x17, x18, c1 => (iter_succ _ _ _).trans ((l0s_eq k (iter (rnd C k cd0 12 Q) n) Q x16 x17 x18 c1).trans (congrArg (fun N => l0s N (fun (x2 : Int) => Q .ret (St1 x2)) (fun (c1 : List (Int × Int × List (Int × List Int × List Int × Int × List Int × List Int × List Int × Int × Int × List Int × Unit) × Unit) × Int × Int × Unit) => Q (.exit 0) (St3 c1)) x16 x17 x18 c1) (funext fun x16 => funext fun x17 => funext fun x18 => funext fun c1 => l0_eq k Q n x16 x17 x18 c1)))
theorem l0_congr {α : Type} (k : Nat) (Rt : Int → Option α) (Xt0 : (List (Int × Int × List (Int × List Int × List Int × Int × List Int × List Int × List Int × Int × Int × List Int × Unit) × Unit) × Int × Int × Unit) → Option α) (Rtq : Int → Option α) (Xt0q : (List (Int × Int × List (Int × List Int × List Int × Int × List Int × List Int × List Int × Int × Int × List Int × Unit) × Unit) × Int × Int × Unit) → Option α) (hRt : ∀ (x2 : Int), Rt x2 = Rtq x2) (hXt0 : ∀ (c1 : List (Int × Int × List (Int × List Int × List Int × Int × List Int × List Int × List Int × Int × Int × List Int × Unit) × Unit) × Int × Int × Unit), Xt0 c1 = Xt0q c1) (n : Nat) (x16 : List (Int × Int × List (Int × List Int × List Int × Int × List Int × List Int × List Int × Int × Int × List Int × Unit) × Unit)) (x17 : Int) (x18 : Int) (c1 : List (Int × Int × List (Int × List Int × List Int × Int × List Int × List Int × List Int × Int × Int × List Int × Unit) × Unit) × Int × Int × Unit) : l0 k Rt Xt0 n x16 x17 x18 c1 = l0 k Rtq Xt0q n x16 x17 x18 c1 := by
  obtain rfl : Rt = Rtq := by funext x2; exact hRt x2
  obtain rfl : Xt0 = Xt0q := by funext c1; exact hXt0 c1
  rfl
noncomputable def cd1 : Code := cR (cR (cR (cB Try.f65)))
def St4 (c1 : List (Int × Int × List (Int × List Int × List Int × Int × List Int × List Int × List Int × Int × Int × List Int × Unit) × Unit) × Int × Int × Unit) : St := stL 93 [(1, .ref 1 0 [])] [(1, .cell (.pair (.sl (.pair (.int .i64) (.pair (.int .i64) (.pair (.sl (.pair (.int .i64) (.pair (.arr 32 (.int .u8)) (.pair (.arr 32 (.int .u8)) (.pair (.int .i64) (.pair (.arr 4 (.int .u64)) (.pair (.arr 4 (.int .u64)) (.pair (.arr 32 (.int .u8)) (.pair (.int .i64) (.pair (.int .i64) (.pair (.sl (.int .u8)) .unit))))))))))) .unit)))) (.pair (.int .i64) (.pair (.int .i64) .unit))) (.data (.pair (.sl (.pair (.int .i64) (.pair (.int .i64) (.pair (.sl (.pair (.int .i64) (.pair (.arr 32 (.int .u8)) (.pair (.arr 32 (.int .u8)) (.pair (.int .i64) (.pair (.arr 4 (.int .u64)) (.pair (.arr 4 (.int .u64)) (.pair (.arr 32 (.int .u8)) (.pair (.int .i64) (.pair (.int .i64) (.pair (.sl (.int .u8)) .unit))))))))))) .unit)))) (.pair (.int .i64) (.pair (.int .i64) .unit))) c1) false)]
def j0 {α : Type} (Rt : Int → Option α) (c1 : List (Int × Int × List (Int × List Int × List Int × Int × List Int × List Int × List Int × Int × Int × List Int × Unit) × Unit) × Int × Int × Unit) : Option α :=
  (if ((cond (decide (c1.2.2.1 < 0)) true (decide (c1.2.2.1 ≥ (c1.1.length : Int)))) == false) = true then Go.Bx.fork_best.run c1 else some 0).bind fun y1 =>
  if (cond (cond (decide (c1.2.2.1 < 0)) true (decide (c1.2.2.1 ≥ (c1.1.length : Int)))) true (c1.2.1 != y1)) = true then
    Rt 12
  else
    Rt 0
theorem j0_eq {α : Type} (k : Nat) (Q : Ex → St → Option α) (c1 : List (Int × Int × List (Int × List Int × List Int × Int × List Int × List Int × List Int × Int × Int × List Int × Unit) × Unit) × Int × Int × Unit) :
    (den C k) cd1 Q (St4 c1) = j0 (fun (x2 : Int) => Q .ret (St1 x2)) c1 := by
  have h : ∀ (D L : DT α), denJ D L Js C cd1 Q (St4 c1) =
        (if ((cond (decide (c1.2.2.1 < 0)) true (decide (c1.2.2.1 ≥ (c1.1.length : Int)))) == false) = true then Go.Bx.fork_best.run c1 else some 0).bind fun y1 =>
        if (cond (cond (decide (c1.2.2.1 < 0)) true (decide (c1.2.2.1 ≥ (c1.1.length : Int)))) true (c1.2.1 != y1)) = true then
          Q .ret (St1 12)
        else
          Q .ret (St1 0) := by
    intro D L; kernel_rfl
  refine (show (den C k) cd1 Q (St4 c1) = denJ (den C k) (lp C k) Js C cd1 Q (St4 c1) from (denJ_den _ _ _ _ _ _).symm).trans ((h (den C k) (lp C k)).trans ?_)
  first | rfl | kernel_rfl
theorem a0 {α : Type} (k : Nat) (Q : Ex → St → Option α) (x16 : List (Int × Int × List (Int × List Int × List Int × Int × List Int × List Int × List Int × Int × Int × List Int × Unit) × Unit)) (x17 : Int) (x18 : Int) (c1 : List (Int × Int × List (Int × List Int × List Int × Int × List Int × List Int × List Int × Int × Int × List Int × Unit) × Unit) × Int × Int × Unit) :
    (lp C k) cd0 (blkQ C 0 (sq (den C k) (lp C k) Js C cd1 Q)) (St2 x16 x17 x18 c1) = l0 k (fun (x2 : Int) => (fun (x2 : Int) => Q .ret (St1 x2)) x2) (fun (c1 : List (Int × Int × List (Int × List Int × List Int × Int × List Int × List Int × List Int × Int × Int × List Int × Unit) × Unit) × Int × Int × Unit) => j0 (fun (x2 : Int) => Q .ret (St1 x2)) c1) k x16 x17 x18 c1 :=
  (show (lp C k) cd0 (blkQ C 0 (sq (den C k) (lp C k) Js C cd1 Q)) (St2 x16 x17 x18 c1) = iter (rnd C k cd0 12 (blkQ C 0 (sq (den C k) (lp C k) Js C cd1 Q))) k (St2 x16 x17 x18 c1) by kernel_rfl).trans ((l0_eq k (blkQ C 0 (sq (den C k) (lp C k) Js C cd1 Q)) k x16 x17 x18 c1).trans (l0_congr k _ _ _ _ (fun x2 => (show (blkQ C 0 (sq (den C k) (lp C k) Js C cd1 Q)) .ret (St1 x2) = Q .ret (St1 x2) by kernel_rfl)) (fun c1 => ((show (blkQ C 0 (sq (den C k) (lp C k) Js C cd1 Q)) (.exit 0) (St3 c1) = (den C k) cd1 Q (St4 c1) by kernel_rfl).trans (by simp only [j0_eq]))) k x16 x17 x18 c1))
def top {α : Type} (k : Nat) (Rt : Int → Option α) (x0 : List (Int × Int × List (Int × List Int × List Int × Int × List Int × List Int × List Int × Int × Int × List Int × Unit) × Unit) × Int × Int × Unit) : Option α :=
  if (cond (decide ((x0.1.length : Int) < 1)) true (decide ((x0.1.length : Int) > 40))) = true then
    Rt 1
  else
    l0 k (fun (x2 : Int) => Rt x2) (fun (c1 : List (Int × Int × List (Int × List Int × List Int × Int × List Int × List Int × List Int × Int × Int × List Int × Unit) × Unit) × Int × Int × Unit) => j0 Rt c1) k x0.1 (x0.1.length : Int) 0 x0
theorem top_eq {α : Type} (k : Nat) (Q : Ex → St → Option α) (x0 : List (Int × Int × List (Int × List Int × List Int × Int × List Int × List Int × List Int × Int × Int × List Int × Unit) × Unit) × Int × Int × Unit) :
    (den C k) (cB Try.f65) Q (St0 x0) = top k (fun (x2 : Int) => Q .ret (St1 x2)) x0 := by
  have h : ∀ (D L : DT α), denJ D L Js C (cB Try.f65) Q (St0 x0) =
        if (cond (decide ((x0.1.length : Int) < 1)) true (decide ((x0.1.length : Int) > 40))) = true then
          Q .ret (St1 1)
        else
          L cd0 (blkQ C 0 (sq D L Js C cd1 Q)) (St2 x0.1 (x0.1.length : Int) 0 x0) := by
    intro D L; kernel_rfl
  refine (show (den C k) (cB Try.f65) Q (St0 x0) = denJ (den C k) (lp C k) Js C (cB Try.f65) Q (St0 x0) from (denJ_den _ _ _ _ _ _).symm).trans ((h (den C k) (lp C k)).trans ?_)
  simp only [a0]
  first | rfl | kernel_rfl
def run (x0 : List (Int × Int × List (Int × List Int × List Int × Int × List Int × List Int × List Int × Int × Int × List Int × Unit) × Unit) × Int × Int × Unit) : Option (Int) := top (α := Int) fuel (fun (x2 : Int) => some x2) x0
def F : Fn := ⟨(.pair (.pair (.sl (.pair (.int .i64) (.pair (.int .i64) (.pair (.sl (.pair (.int .i64) (.pair (.arr 32 (.int .u8)) (.pair (.arr 32 (.int .u8)) (.pair (.int .i64) (.pair (.arr 4 (.int .u64)) (.pair (.arr 4 (.int .u64)) (.pair (.arr 32 (.int .u8)) (.pair (.int .i64) (.pair (.int .i64) (.pair (.sl (.int .u8)) .unit))))))))))) .unit)))) (.pair (.int .i64) (.pair (.int .i64) .unit))) .unit), (.int .i64), false, fun x => run x.1⟩
set_option maxRecDepth 100000 in
theorem con : Con Try.prog 65 F := by
  refine con_of_den (C := C) (ctx_ok (by kernel_rfl) (by kernel_rfl) ⟨.inl ⟨Go.Bx.fork_best.con, Go.Bx.fork_best.named⟩, trivial⟩) (by kernel_rfl) Try.func65 (c := cB Try.f65) (by kernel_rfl) (by kernel_rfl) F fuel (fun x => by simp [F, spread, Try.ntmps65]) ?_
  intro x r h
  rw [← h]
  have h1 : start F Try.f65.ntmps x = (St0 x.1) := by kernel_rfl
  rw [h1]
  refine (top_eq fuel (fin C Try.f65.results.toList F.rs F.multi) x.1).trans ?_
  kernel_rfl
theorem named : Named Try.prog 65 := named_of Try.func65 (by kernel_rfl) (by kernel_rfl)
end Go.Bx.fork_Check
namespace Go.Bx.fork_line
open Go Go.Proofs Go.Bx
set_option linter.unusedVariables false
def l0s {α : Type} (Nx : (List Int) → Int → (List (Int × Int × List (Int × List Int × List Int × Int × List Int × List Int × List Int × Int × Int × List Int × Unit) × Unit) × Int × Int × Unit) → Option α) (Xt0 : (List Int) → Option α) (x5 : List Int) (x6 : Int) (c2 : List (Int × Int × List (Int × List Int × List Int × Int × List Int × List Int × List Int × Int × Int × List Int × Unit) × Unit) × Int × Int × Unit) : Option α :=
  if (decide (x6 ≥ 0)) = true then
    if fitB (1 + x5.length) 8 = true then
      if 0 ≤ x6 ∧ x6 < (c2.1.length : Int) then
        Nx ([x6] ++ x5) (List.getD c2.1 (Int.toNat x6) (0, 0, [], ())).1 c2
      else none
    else none
  else
    Xt0 x5
def l0 {α : Type} (k : Nat) (Xt0 : (List Int) → Option α) : Nat → (List Int) → Int → (List (Int × Int × List (Int × List Int × List Int × Int × List Int × List Int × List Int × Int × Int × List Int × Unit) × Unit) × Int × Int × Unit) → Option α
  | 0, _, _, _ => none
  | n + 1, x5, x6, c2 => l0s (l0 k Xt0 n) Xt0 x5 x6 c2
def j0 {α : Type} (Rt : (List Int) → Option α) (x5 : List Int) : Option α :=
  Rt x5
def top {α : Type} (k : Nat) (Rt : (List Int) → Option α) (x0 : List (Int × Int × List (Int × List Int × List Int × Int × List Int × List Int × List Int × Int × Int × List Int × Unit) × Unit) × Int × Int × Unit) (x1 : Int) : Option α :=
  l0 k (fun (x5 : List Int) => j0 Rt x5) k [] x1 x0
def run (x0 : List (Int × Int × List (Int × List Int × List Int × Int × List Int × List Int × List Int × Int × Int × List Int × Unit) × Unit) × Int × Int × Unit) (x1 : Int) : Option (List Int) := top (α := List Int) fuel (fun (x4 : List Int) => some x4) x0 x1
end Go.Bx.fork_line
namespace Go.Bx.basculeref_lineTo_s0
open Go Go.Proofs Go.Bx
set_option maxRecDepth 100000
set_option linter.unusedVariables false
def Js : List Nat := []
def SpR (R : (List (Int × Int × List (Int × List Int × List Int × Int × List Int × List Int × List Int × Int × Int × List Int × Unit) × Unit) × Int × Int × Unit) → Int → Option (List Int × Unit)) : Spec := ⟨[hD (.pair (.sl (.pair (.int .i64) (.pair (.int .i64) (.pair (.sl (.pair (.int .i64) (.pair (.arr 32 (.int .u8)) (.pair (.arr 32 (.int .u8)) (.pair (.int .i64) (.pair (.arr 4 (.int .u64)) (.pair (.arr 4 (.int .u64)) (.pair (.arr 32 (.int .u8)) (.pair (.int .i64) (.pair (.int .i64) (.pair (.sl (.int .u8)) .unit))))))))))) .unit)))) (.pair (.int .i64) (.pair (.int .i64) .unit))), hD (.int .i64)], [], (.pair (.pair (.sl (.pair (.int .i64) (.pair (.int .i64) (.pair (.sl (.pair (.int .i64) (.pair (.arr 32 (.int .u8)) (.pair (.arr 32 (.int .u8)) (.pair (.int .i64) (.pair (.arr 4 (.int .u64)) (.pair (.arr 4 (.int .u64)) (.pair (.arr 32 (.int .u8)) (.pair (.int .i64) (.pair (.int .i64) (.pair (.sl (.int .u8)) .unit))))))))))) .unit)))) (.pair (.int .i64) (.pair (.int .i64) .unit))) (.pair (.int .i64) .unit)), .app 19 0, [(19, hB (.int .i64) 0 true)], (.pair (.sl (.int .i64)) .unit), fun x => R x.1 x.2.1⟩
def C (R : (List (Int × Int × List (Int × List Int × List Int × Int × List Int × List Int × List Int × Int × Int × List Int × Unit) × Unit) × Int × Int × Unit) → Int → Option (List Int × Unit)) : Ctx := ⟨[(3, (.int .i64)), (80, (.sl (.pair (.int .i64) (.pair (.int .i64) (.pair (.sl (.pair (.int .i64) (.pair (.arr 32 (.int .u8)) (.pair (.arr 32 (.int .u8)) (.pair (.int .i64) (.pair (.arr 4 (.int .u64)) (.pair (.arr 4 (.int .u64)) (.pair (.arr 32 (.int .u8)) (.pair (.int .i64) (.pair (.int .i64) (.pair (.sl (.int .u8)) .unit))))))))))) .unit))))), (82, (.pair (.sl (.pair (.int .i64) (.pair (.int .i64) (.pair (.sl (.pair (.int .i64) (.pair (.arr 32 (.int .u8)) (.pair (.arr 32 (.int .u8)) (.pair (.int .i64) (.pair (.arr 4 (.int .u64)) (.pair (.arr 4 (.int .u64)) (.pair (.arr 32 (.int .u8)) (.pair (.int .i64) (.pair (.int .i64) (.pair (.sl (.int .u8)) .unit))))))))))) .unit)))) (.pair (.int .i64) (.pair (.int .i64) .unit)))), (92, (.sl (.int .i64))), (124, (.pair (.int .i64) (.pair (.int .i64) (.pair (.sl (.pair (.int .i64) (.pair (.arr 32 (.int .u8)) (.pair (.arr 32 (.int .u8)) (.pair (.int .i64) (.pair (.arr 4 (.int .u64)) (.pair (.arr 4 (.int .u64)) (.pair (.arr 32 (.int .u8)) (.pair (.int .i64) (.pair (.int .i64) (.pair (.sl (.int .u8)) .unit))))))))))) .unit))))], [], fnL [], shL [(107, [SpR R])], [(14, 19)], noInv, [(2, [4])], [(2, [.melt true 4 [] 19 true])], [], 0, 0⟩
def St0 (x0 : List (Int × Int × List (Int × List Int × List Int × Int × List Int × List Int × List Int × Int × Int × List Int × Unit) × Unit) × Int × Int × Unit) (x1 : Int) : St := stL 18 [(0, .data (.pair (.sl (.pair (.int .i64) (.pair (.int .i64) (.pair (.sl (.pair (.int .i64) (.pair (.arr 32 (.int .u8)) (.pair (.arr 32 (.int .u8)) (.pair (.int .i64) (.pair (.arr 4 (.int .u64)) (.pair (.arr 4 (.int .u64)) (.pair (.arr 32 (.int .u8)) (.pair (.int .i64) (.pair (.int .i64) (.pair (.sl (.int .u8)) .unit))))))))))) .unit)))) (.pair (.int .i64) (.pair (.int .i64) .unit))) x0), (1, .data (.int .i64) x1)] []
def St1 (c19 : List Int) : St := stL 18 [(4, .app 19 0)] [(19, .buf (.int .i64) c19 0 true)]
def top (R : (List (Int × Int × List (Int × List Int × List Int × Int × List Int × List Int × List Int × Int × Int × List Int × Unit) × Unit) × Int × Int × Unit) → Int → Option (List Int × Unit)) {α : Type} (Rt : (List Int) → Option α) (x0 : List (Int × Int × List (Int × List Int × List Int × Int × List Int × List Int × List Int × Int × Int × List Int × Unit) × Unit) × Int × Int × Unit) (x1 : Int) : Option α :=
  if (decide (x1 < 0)) = true then
    Rt []
  else
    if 0 ≤ x1 ∧ x1 < (x0.1.length : Int) then
      (R x0 (List.getD x0.1 (Int.toNat x1) (0, 0, [], ())).1).bind fun y1 =>
      if fitB (y1.1.length + 1) 8 = true then
        Rt (y1.1 ++ [x1])
      else none
    else none
theorem top_eq (R : (List (Int × Int × List (Int × List Int × List Int × Int × List Int × List Int × List Int × Int × Int × List Int × Unit) × Unit) × Int × Int × Unit) → Int → Option (List Int × Unit)) {α : Type} (k : Nat) (Q : Ex → St → Option α) (x0 : List (Int × Int × List (Int × List Int × List Int × Int × List Int × List Int × List Int × Int × Int × List Int × Unit) × Unit) × Int × Int × Unit) (x1 : Int) :
    (den (C R) k) (cB Try.f107) (endQ (C R) Q) (St0 x0 x1) = top R (fun (c19 : List Int) => Q .ret (St1 c19)) x0 x1 := by
  have h : ∀ (D L : DT α), denJ D L Js (C R) (cB Try.f107) (endQ (C R) Q) (St0 x0 x1) =
        if (decide (x1 < 0)) = true then
          Q .ret (St1 [])
        else
          if 0 ≤ x1 ∧ x1 < (x0.1.length : Int) then
            (R x0 (List.getD x0.1 (Int.toNat x1) (0, 0, [], ())).1).bind fun y1 =>
            if fitB (y1.1.length + 1) 8 = true then
              Q .ret (St1 (y1.1 ++ [x1]))
            else none
          else none := by
    intro D L; kernel_rfl
  refine (show (den (C R) k) (cB Try.f107) (endQ (C R) Q) (St0 x0 x1) = denJ (den (C R) k) (lp (C R) k) Js (C R) (cB Try.f107) (endQ (C R) Q) (St0 x0 x1) from (denJ_den _ _ _ _ _ _).symm).trans ((h (den (C R) k) (lp (C R) k)).trans ?_)
  first | rfl | kernel_rfl
def runN : Nat → (List (Int × Int × List (Int × List Int × List Int × Int × List Int × List Int × List Int × Int × Int × List Int × Unit) × Unit) × Int × Int × Unit) → Int → Option (List Int × Unit)
  | 0 => fun _ _ => none
  | n + 1 => fun x0 x1 => top (runN n) (α := List Int × Unit) (fun (c19 : List Int) => some (c19, ())) x0 x1
def run (x0 : List (Int × Int × List (Int × List Int × List Int × Int × List Int × List Int × List Int × Int × Int × List Int × Unit) × Unit) × Int × Int × Unit) (x1 : Int) : Option (List Int × Unit) := runN fuel x0 x1
def Sp : Spec := SpR (runN fuel)
theorem named : Named Try.prog 107 := named_of Try.func107 (by kernel_rfl) (by kernel_rfl)
set_option maxRecDepth 100000 in
theorem sokN : ∀ n, SOk Try.prog 107 (SpR (runN n)).h
  | 0 => sok_zero fun _ => rfl
  | n + 1 => by
    refine sok_of_den (C := C (runN n)) (ctx_ok_sh (by kernel_rfl) (by kernel_rfl) trivial ⟨⟨⟨sokN n, trivial⟩, named⟩, trivial⟩) (by kernel_rfl) Try.func107 (c := cB Try.f107) (by kernel_rfl) (by kernel_rfl) (SpR (runN (n + 1))) fuel (by kernel_rfl) (by kernel_rfl) ?_
    intro x r h
    rw [← h]
    have h1 : (SpR (runN (n + 1))).start x Try.f107.ntmps = (St0 x.1 x.2.1) := by kernel_rfl
    rw [h1]
    refine (top_eq (runN n) fuel (finS (C (runN n)) Try.f107.results.toList (SpR (runN (n + 1))).read) x.1 x.2.1).trans ?_
    kernel_rfl
theorem sok : SOk Try.prog 107 Sp.h := sokN fuel
end Go.Bx.basculeref_lineTo_s0
namespace Go.Bx.basculeref_lineTo
open Go Go.Proofs Go.Bx
set_option maxRecDepth 100000
set_option linter.unusedVariables false
def Js : List Nat := []
def C : Ctx := ⟨[(3, (.int .i64)), (80, (.sl (.pair (.int .i64) (.pair (.int .i64) (.pair (.sl (.pair (.int .i64) (.pair (.arr 32 (.int .u8)) (.pair (.arr 32 (.int .u8)) (.pair (.int .i64) (.pair (.arr 4 (.int .u64)) (.pair (.arr 4 (.int .u64)) (.pair (.arr 32 (.int .u8)) (.pair (.int .i64) (.pair (.int .i64) (.pair (.sl (.int .u8)) .unit))))))))))) .unit))))), (82, (.pair (.sl (.pair (.int .i64) (.pair (.int .i64) (.pair (.sl (.pair (.int .i64) (.pair (.arr 32 (.int .u8)) (.pair (.arr 32 (.int .u8)) (.pair (.int .i64) (.pair (.arr 4 (.int .u64)) (.pair (.arr 4 (.int .u64)) (.pair (.arr 32 (.int .u8)) (.pair (.int .i64) (.pair (.int .i64) (.pair (.sl (.int .u8)) .unit))))))))))) .unit)))) (.pair (.int .i64) (.pair (.int .i64) .unit)))), (92, (.sl (.int .i64))), (124, (.pair (.int .i64) (.pair (.int .i64) (.pair (.sl (.pair (.int .i64) (.pair (.arr 32 (.int .u8)) (.pair (.arr 32 (.int .u8)) (.pair (.int .i64) (.pair (.arr 4 (.int .u64)) (.pair (.arr 4 (.int .u64)) (.pair (.arr 32 (.int .u8)) (.pair (.int .i64) (.pair (.int .i64) (.pair (.sl (.int .u8)) .unit))))))))))) .unit))))], [], fnL [], shL [(107, [Go.Bx.basculeref_lineTo_s0.Sp])], [(14, 19)], noInv, [(2, [4])], [(2, [.dat true 4 []])], [], 0, 0⟩
def St0 (x0 : List (Int × Int × List (Int × List Int × List Int × Int × List Int × List Int × List Int × Int × Int × List Int × Unit) × Unit) × Int × Int × Unit) (x1 : Int) : St := stL 18 [(0, .data (.pair (.sl (.pair (.int .i64) (.pair (.int .i64) (.pair (.sl (.pair (.int .i64) (.pair (.arr 32 (.int .u8)) (.pair (.arr 32 (.int .u8)) (.pair (.int .i64) (.pair (.arr 4 (.int .u64)) (.pair (.arr 4 (.int .u64)) (.pair (.arr 32 (.int .u8)) (.pair (.int .i64) (.pair (.int .i64) (.pair (.sl (.int .u8)) .unit))))))))))) .unit)))) (.pair (.int .i64) (.pair (.int .i64) .unit))) x0), (1, .data (.int .i64) x1)] []
def St1 (x4 : List Int) : St := stL 18 [(4, .data (.sl (.int .i64)) x4)] []
def top {α : Type} (Rt : (List Int) → Option α) (x0 : List (Int × Int × List (Int × List Int × List Int × Int × List Int × List Int × List Int × Int × Int × List Int × Unit) × Unit) × Int × Int × Unit) (x1 : Int) : Option α :=
  if (decide (x1 < 0)) = true then
    Rt []
  else
    if 0 ≤ x1 ∧ x1 < (x0.1.length : Int) then
      (Go.Bx.basculeref_lineTo_s0.run x0 (List.getD x0.1 (Int.toNat x1) (0, 0, [], ())).1).bind fun y1 =>
      if fitB (y1.1.length + 1) 8 = true then
        Rt (y1.1 ++ [x1])
      else none
    else none
theorem top_eq {α : Type} (k : Nat) (Q : Ex → St → Option α) (x0 : List (Int × Int × List (Int × List Int × List Int × Int × List Int × List Int × List Int × Int × Int × List Int × Unit) × Unit) × Int × Int × Unit) (x1 : Int) :
    (den C k) (cB Try.f107) Q (St0 x0 x1) = top (fun (x4 : List Int) => Q .ret (St1 x4)) x0 x1 := by
  have h : ∀ (D L : DT α), denJ D L Js C (cB Try.f107) Q (St0 x0 x1) =
        if (decide (x1 < 0)) = true then
          Q .ret (St1 [])
        else
          if 0 ≤ x1 ∧ x1 < (x0.1.length : Int) then
            (Go.Bx.basculeref_lineTo_s0.run x0 (List.getD x0.1 (Int.toNat x1) (0, 0, [], ())).1).bind fun y1 =>
            if fitB (y1.1.length + 1) 8 = true then
              Q .ret (St1 (y1.1 ++ [x1]))
            else none
          else none := by
    intro D L; kernel_rfl
  refine (show (den C k) (cB Try.f107) Q (St0 x0 x1) = denJ (den C k) (lp C k) Js C (cB Try.f107) Q (St0 x0 x1) from (denJ_den _ _ _ _ _ _).symm).trans ((h (den C k) (lp C k)).trans ?_)
  first | rfl | kernel_rfl
def run (x0 : List (Int × Int × List (Int × List Int × List Int × Int × List Int × List Int × List Int × Int × Int × List Int × Unit) × Unit) × Int × Int × Unit) (x1 : Int) : Option (List Int) := top (α := List Int) (fun (x4 : List Int) => some x4) x0 x1
def F : Fn := ⟨(.pair (.pair (.sl (.pair (.int .i64) (.pair (.int .i64) (.pair (.sl (.pair (.int .i64) (.pair (.arr 32 (.int .u8)) (.pair (.arr 32 (.int .u8)) (.pair (.int .i64) (.pair (.arr 4 (.int .u64)) (.pair (.arr 4 (.int .u64)) (.pair (.arr 32 (.int .u8)) (.pair (.int .i64) (.pair (.int .i64) (.pair (.sl (.int .u8)) .unit))))))))))) .unit)))) (.pair (.int .i64) (.pair (.int .i64) .unit))) (.pair (.int .i64) .unit)), (.sl (.int .i64)), false, fun x => run x.1 x.2.1⟩
set_option maxRecDepth 100000 in
theorem con : Con Try.prog 107 F := by
  refine con_of_den (C := C) (ctx_ok_sh (by kernel_rfl) (by kernel_rfl) trivial ⟨⟨⟨Go.Bx.basculeref_lineTo_s0.sok, trivial⟩, Go.Bx.basculeref_lineTo_s0.named⟩, trivial⟩) (by kernel_rfl) Try.func107 (c := cB Try.f107) (by kernel_rfl) (by kernel_rfl) F fuel (fun x => by simp [F, spread, Try.ntmps107]) ?_
  intro x r h
  rw [← h]
  have h1 : start F Try.f107.ntmps x = (St0 x.1 x.2.1) := by kernel_rfl
  rw [h1]
  refine (top_eq fuel (fin C Try.f107.results.toList F.rs F.multi) x.1 x.2.1).trans ?_
  kernel_rfl
theorem named : Named Try.prog 107 := named_of Try.func107 (by kernel_rfl) (by kernel_rfl)
end Go.Bx.basculeref_lineTo
namespace Go.Bx.basculeref_standsOn
open Go Go.Proofs Go.Bx
set_option maxRecDepth 100000
set_option linter.unusedVariables false
def Js : List Nat := [8]
def C : Ctx := ⟨[(3, (.int .i64)), (4, .bool), (82, (.pair (.sl (.pair (.int .i64) (.pair (.int .i64) (.pair (.sl (.pair (.int .i64) (.pair (.arr 32 (.int .u8)) (.pair (.arr 32 (.int .u8)) (.pair (.int .i64) (.pair (.arr 4 (.int .u64)) (.pair (.arr 4 (.int .u64)) (.pair (.arr 32 (.int .u8)) (.pair (.int .i64) (.pair (.int .i64) (.pair (.sl (.int .u8)) .unit))))))))))) .unit)))) (.pair (.int .i64) (.pair (.int .i64) .unit)))), (92, (.sl (.int .i64)))], [], fnL [(107, Go.Bx.basculeref_lineTo.F)], noSh, [], noInv, [(2, [6]), (1, []), (4, [2, 11, 12, 13]), (6, [2, 11, 12, 13]), (21, [])], [], [], 0, 0⟩
def St0 (x0 : List (Int × Int × List (Int × List Int × List Int × Int × List Int × List Int × List Int × Int × Int × List Int × Unit) × Unit) × Int × Int × Unit) (x1 : Int) (x2 : Int) : St := stL 21 [(0, .data (.pair (.sl (.pair (.int .i64) (.pair (.int .i64) (.pair (.sl (.pair (.int .i64) (.pair (.arr 32 (.int .u8)) (.pair (.arr 32 (.int .u8)) (.pair (.int .i64) (.pair (.arr 4 (.int .u64)) (.pair (.arr 4 (.int .u64)) (.pair (.arr 32 (.int .u8)) (.pair (.int .i64) (.pair (.int .i64) (.pair (.sl (.int .u8)) .unit))))))))))) .unit)))) (.pair (.int .i64) (.pair (.int .i64) .unit))) x0), (1, .data (.int .i64) x1), (2, .data (.int .i64) x2)] []
def St1 (x2 : Int) (x11 : List Int) (x12 : Int) (x13 : Int) : St := stL 21 [(2, .data (.int .i64) x2), (11, .data (.sl (.int .i64)) x11), (12, .data (.int .i64) x12), (13, .data (.int .i64) x13)] []
noncomputable def cd0 : Code := cL (cL (cR (cL (cR (cB Try.f105)))))
def St2 (x6 : Bool) : St := stL 21 [(6, .data .bool x6)] []
def St3 : St := stL 21 [] []
def l0s {α : Type} (Nx : Int → (List Int) → Int → Int → Option α) (Rt : Bool → Option α) (Xt0 : Option α) (x2 : Int) (x11 : List Int) (x12 : Int) (x13 : Int) : Option α :=
  if (decide (x13 < x12)) = true then
    if 0 ≤ x13 ∧ x13 < (x11.length : Int) then
      if ((List.getD x11 (Int.toNat x13) 0) == x2) = true then
        Rt true
      else
        Nx x2 x11 x12 (IntKind.i64.wrap (x13 + 1))
    else none
  else
    Xt0
theorem l0s_eq {α : Type} (k : Nat) (next : St → Option α) (Q : Ex → St → Option α) (x2 : Int) (x11 : List Int) (x12 : Int) (x13 : Int) :
    rnd C k cd0 6 Q next (St1 x2 x11 x12 x13) = l0s (fun (x2 : Int) (x11 : List Int) (x12 : Int) (x13 : Int) => next (St1 x2 x11 x12 x13)) (fun (x6 : Bool) => Q .ret (St2 x6)) (Q (.exit 0) St3) x2 x11 x12 x13 := by
  have h : ∀ (D L : DT α), denJ D L Js C cd0 (lq C 6 next Q) (St1 x2 x11 x12 x13) =
        if (decide (x13 < x12)) = true then
          if 0 ≤ x13 ∧ x13 < (x11.length : Int) then
            if ((List.getD x11 (Int.toNat x13) 0) == x2) = true then
              Q .ret (St2 true)
            else
              next (St1 x2 x11 x12 (IntKind.i64.wrap (x13 + 1)))
          else none
        else
          Q (.exit 0) St3 := by
    intro D L; kernel_rfl
  refine (show rnd C k cd0 6 Q next (St1 x2 x11 x12 x13) = denJ (den C k) (lp C k) Js C cd0 (lq C 6 next Q) (St1 x2 x11 x12 x13) from (denJ_den _ _ _ _ _ _).symm).trans ((h (den C k) (lp C k)).trans ?_)
  first | rfl | kernel_rfl
def l0 {α : Type} (k : Nat) (Rt : Bool → Option α) (Xt0 : Option α) : Nat → Int → (List Int) → Int → Int → Option α
  | 0, _, _, _, _ => none
  | n + 1, x2, x11, x12, x13 => l0s (l0 k Rt Xt0 n) Rt Xt0 x2 x11 x12 x13
theorem l0_eq {α : Type} (k : Nat) (Q : Ex → St → Option α) : ∀ (n : Nat) (x2 : Int) (x11 : List Int) (x12 : Int) (x13 : Int), iter (rnd C k cd0 6 Q) n (St1 x2 x11 x12 x13) = l0 k (fun (x6 : Bool) => Q .ret (St2 x6)) (Q (.exit 0) St3) n x2 x11 x12 x13
  | 0, _, _, _, _ => rfl
  | n + 1, x2, x11, x12, x13 => (iter_succ _ _ _).trans ((l0s_eq k (iter (rnd C k cd0 6 Q) n) Q x2 x11 x12 x13).trans (congrArg (fun N => l0s N (fun (x6 : Bool) => Q .ret (St2 x6)) (Q (.exit 0) St3) x2 x11 x12 x13) (funext fun x2 => funext fun x11 => funext fun x12 => funext fun x13 => l0_eq k Q n x2 x11 x12 x13)))
theorem l0_congr {α : Type} (k : Nat) (Rt : Bool → Option α) (Xt0 : Option α) (Rtq : Bool → Option α) (Xt0q : Option α) (hRt : ∀ (x6 : Bool), Rt x6 = Rtq x6) (hXt0 : Xt0 = Xt0q) (n : Nat) (x2 : Int) (x11 : List Int) (x12 : Int) (x13 : Int) : l0 k Rt Xt0 n x2 x11 x12 x13 = l0 k Rtq Xt0q n x2 x11 x12 x13 := by
  obtain rfl : Rt = Rtq := by funext x6; exact hRt x6
  obtain rfl : Xt0 = Xt0q := hXt0
  rfl
noncomputable def cd1 : Code := cR (cR (cB Try.f105))
def St4 : St := stL 21 [] []
def j0 {α : Type} (Rt : Bool → Option α) : Option α :=
  Rt false
theorem j0_eq {α : Type} (k : Nat) (Q : Ex → St → Option α) :
    (den C k) cd1 Q St4 = j0 (fun (x6 : Bool) => Q .ret (St2 x6)) := by
  have h : ∀ (D L : DT α), denJ D L Js C cd1 Q St4 =
        Q .ret (St2 false) := by
    intro D L; kernel_rfl
  refine (show (den C k) cd1 Q St4 = denJ (den C k) (lp C k) Js C cd1 Q St4 from (denJ_den _ _ _ _ _ _).symm).trans ((h (den C k) (lp C k)).trans ?_)
  first | rfl | kernel_rfl
theorem a0 {α : Type} (k : Nat) (Q : Ex → St → Option α) (x2 : Int) (x11 : List Int) (x12 : Int) (x13 : Int) :
    (lp C k) cd0 (blkQ C 0 (sq (den C k) (lp C k) Js C cd1 Q)) (St1 x2 x11 x12 x13) = l0 k (fun (x6 : Bool) => (fun (x6 : Bool) => Q .ret (St2 x6)) x6) (j0 (fun (x6 : Bool) => Q .ret (St2 x6))) k x2 x11 x12 x13 :=
  (show (lp C k) cd0 (blkQ C 0 (sq (den C k) (lp C k) Js C cd1 Q)) (St1 x2 x11 x12 x13) = iter (rnd C k cd0 6 (blkQ C 0 (sq (den C k) (lp C k) Js C cd1 Q))) k (St1 x2 x11 x12 x13) by kernel_rfl).trans ((l0_eq k (blkQ C 0 (sq (den C k) (lp C k) Js C cd1 Q)) k x2 x11 x12 x13).trans (l0_congr k _ _ _ _ (fun x6 => (show (blkQ C 0 (sq (den C k) (lp C k) Js C cd1 Q)) .ret (St2 x6) = Q .ret (St2 x6) by kernel_rfl)) ((show (blkQ C 0 (sq (den C k) (lp C k) Js C cd1 Q)) (.exit 0) St3 = (den C k) cd1 Q St4 by kernel_rfl).trans (by simp only [j0_eq])) k x2 x11 x12 x13))
def top {α : Type} (k : Nat) (Rt : Bool → Option α) (x0 : List (Int × Int × List (Int × List Int × List Int × Int × List Int × List Int × List Int × Int × Int × List Int × Unit) × Unit) × Int × Int × Unit) (x1 : Int) (x2 : Int) : Option α :=
  (Go.Bx.basculeref_lineTo.run x0 x1).bind fun y1 =>
  l0 k (fun (x6 : Bool) => Rt x6) (j0 Rt) k x2 y1 (y1.length : Int) 0
theorem top_eq {α : Type} (k : Nat) (Q : Ex → St → Option α) (x0 : List (Int × Int × List (Int × List Int × List Int × Int × List Int × List Int × List Int × Int × Int × List Int × Unit) × Unit) × Int × Int × Unit) (x1 : Int) (x2 : Int) :
    (den C k) (cB Try.f105) Q (St0 x0 x1 x2) = top k (fun (x6 : Bool) => Q .ret (St2 x6)) x0 x1 x2 := by
  have h : ∀ (D L : DT α), denJ D L Js C (cB Try.f105) Q (St0 x0 x1 x2) =
        (Go.Bx.basculeref_lineTo.run x0 x1).bind fun y1 =>
        L cd0 (blkQ C 0 (sq D L Js C cd1 Q)) (St1 x2 y1 (y1.length : Int) 0) := by
    intro D L; kernel_rfl
  refine (show (den C k) (cB Try.f105) Q (St0 x0 x1 x2) = denJ (den C k) (lp C k) Js C (cB Try.f105) Q (St0 x0 x1 x2) from (denJ_den _ _ _ _ _ _).symm).trans ((h (den C k) (lp C k)).trans ?_)
  simp only [a0]
  first | rfl | kernel_rfl
def run (x0 : List (Int × Int × List (Int × List Int × List Int × Int × List Int × List Int × List Int × Int × Int × List Int × Unit) × Unit) × Int × Int × Unit) (x1 : Int) (x2 : Int) : Option (Bool) := top (α := Bool) fuel (fun (x6 : Bool) => some x6) x0 x1 x2
def F : Fn := ⟨(.pair (.pair (.sl (.pair (.int .i64) (.pair (.int .i64) (.pair (.sl (.pair (.int .i64) (.pair (.arr 32 (.int .u8)) (.pair (.arr 32 (.int .u8)) (.pair (.int .i64) (.pair (.arr 4 (.int .u64)) (.pair (.arr 4 (.int .u64)) (.pair (.arr 32 (.int .u8)) (.pair (.int .i64) (.pair (.int .i64) (.pair (.sl (.int .u8)) .unit))))))))))) .unit)))) (.pair (.int .i64) (.pair (.int .i64) .unit))) (.pair (.int .i64) (.pair (.int .i64) .unit))), .bool, false, fun x => run x.1 x.2.1 x.2.2.1⟩
set_option maxRecDepth 100000 in
theorem con : Con Try.prog 105 F := by
  refine con_of_den (C := C) (ctx_ok (by kernel_rfl) (by kernel_rfl) ⟨.inl ⟨Go.Bx.basculeref_lineTo.con, Go.Bx.basculeref_lineTo.named⟩, trivial⟩) (by kernel_rfl) Try.func105 (c := cB Try.f105) (by kernel_rfl) (by kernel_rfl) F fuel (fun x => by simp [F, spread, Try.ntmps105]) ?_
  intro x r h
  rw [← h]
  have h1 : start F Try.f105.ntmps x = (St0 x.1 x.2.1 x.2.2.1) := by kernel_rfl
  rw [h1]
  refine (top_eq fuel (fin C Try.f105.results.toList F.rs F.multi) x.1 x.2.1 x.2.2.1).trans ?_
  kernel_rfl
theorem named : Named Try.prog 105 := named_of Try.func105 (by kernel_rfl) (by kernel_rfl)
end Go.Bx.basculeref_standsOn
namespace Go.Bx.basculeref_bestOf
open Go Go.Proofs Go.Bx
set_option maxRecDepth 100000
set_option linter.unusedVariables false
def Js : List Nat := [5, 8]
def C : Ctx := ⟨[(3, (.int .i64)), (80, (.sl (.pair (.int .i64) (.pair (.int .i64) (.pair (.sl (.pair (.int .i64) (.pair (.arr 32 (.int .u8)) (.pair (.arr 32 (.int .u8)) (.pair (.int .i64) (.pair (.arr 4 (.int .u64)) (.pair (.arr 4 (.int .u64)) (.pair (.arr 32 (.int .u8)) (.pair (.int .i64) (.pair (.int .i64) (.pair (.sl (.int .u8)) .unit))))))))))) .unit))))), (82, (.pair (.sl (.pair (.int .i64) (.pair (.int .i64) (.pair (.sl (.pair (.int .i64) (.pair (.arr 32 (.int .u8)) (.pair (.arr 32 (.int .u8)) (.pair (.int .i64) (.pair (.arr 4 (.int .u64)) (.pair (.arr 4 (.int .u64)) (.pair (.arr 32 (.int .u8)) (.pair (.int .i64) (.pair (.int .i64) (.pair (.sl (.int .u8)) .unit))))))))))) .unit)))) (.pair (.int .i64) (.pair (.int .i64) .unit)))), (124, (.pair (.int .i64) (.pair (.int .i64) (.pair (.sl (.pair (.int .i64) (.pair (.arr 32 (.int .u8)) (.pair (.arr 32 (.int .u8)) (.pair (.int .i64) (.pair (.arr 4 (.int .u64)) (.pair (.arr 4 (.int .u64)) (.pair (.arr 32 (.int .u8)) (.pair (.int .i64) (.pair (.int .i64) (.pair (.sl (.int .u8)) .unit))))))))))) .unit))))], [], fnL [(105, Go.Bx.basculeref_standsOn.F)], noSh, [], noInv, [(2, [2]), (1, [3]), (4, [1, 3, 4]), (9, [1, 3, 4]), (12, [1, 3, 4]), (21, [3])], [], [], 0, 0⟩
def St0 (x0 : List (Int × Int × List (Int × List Int × List Int × Int × List Int × List Int × List Int × Int × Int × List Int × Unit) × Unit) × Int × Int × Unit) : St := stL 39 [(0, .data (.pair (.sl (.pair (.int .i64) (.pair (.int .i64) (.pair (.sl (.pair (.int .i64) (.pair (.arr 32 (.int .u8)) (.pair (.arr 32 (.int .u8)) (.pair (.int .i64) (.pair (.arr 4 (.int .u64)) (.pair (.arr 4 (.int .u64)) (.pair (.arr 32 (.int .u8)) (.pair (.int .i64) (.pair (.int .i64) (.pair (.sl (.int .u8)) .unit))))))))))) .unit)))) (.pair (.int .i64) (.pair (.int .i64) .unit))) x0)] []
def St1 (x3 : Int) (x4 : Int) (c1 : List (Int × Int × List (Int × List Int × List Int × Int × List Int × List Int × List Int × Int × Int × List Int × Unit) × Unit) × Int × Int × Unit) : St := stL 39 [(1, .ref 1 0 []), (3, .data (.int .i64) x3), (4, .data (.int .i64) x4)] [(1, .cell (.pair (.sl (.pair (.int .i64) (.pair (.int .i64) (.pair (.sl (.pair (.int .i64) (.pair (.arr 32 (.int .u8)) (.pair (.arr 32 (.int .u8)) (.pair (.int .i64) (.pair (.arr 4 (.int .u64)) (.pair (.arr 4 (.int .u64)) (.pair (.arr 32 (.int .u8)) (.pair (.int .i64) (.pair (.int .i64) (.pair (.sl (.int .u8)) .unit))))))))))) .unit)))) (.pair (.int .i64) (.pair (.int .i64) .unit))) (.data (.pair (.sl (.pair (.int .i64) (.pair (.int .i64) (.pair (.sl (.pair (.int .i64) (.pair (.arr 32 (.int .u8)) (.pair (.arr 32 (.int .u8)) (.pair (.int .i64) (.pair (.arr 4 (.int .u64)) (.pair (.arr 4 (.int .u64)) (.pair (.arr 32 (.int .u8)) (.pair (.int .i64) (.pair (.int .i64) (.pair (.sl (.int .u8)) .unit))))))))))) .unit)))) (.pair (.int .i64) (.pair (.int .i64) .unit))) c1) false)]
noncomputable def cd0 : Code := cL (cL (cR (cL (cR (cR (cB Try.f95))))))
def St2 (x3 : Int) (x4 : Int) (c1 : List (Int × Int × List (Int × List Int × List Int × Int × List Int × List Int × List Int × Int × Int × List Int × Unit) × Unit) × Int × Int × Unit) : St := stL 39 [(1, .ref 1 0 []), (3, .data (.int .i64) x3), (4, .data (.int .i64) x4)] [(1, .cell (.pair (.sl (.pair (.int .i64) (.pair (.int .i64) (.pair (.sl (.pair (.int .i64) (.pair (.arr 32 (.int .u8)) (.pair (.arr 32 (.int .u8)) (.pair (.int .i64) (.pair (.arr 4 (.int .u64)) (.pair (.arr 4 (.int .u64)) (.pair (.arr 32 (.int .u8)) (.pair (.int .i64) (.pair (.int .i64) (.pair (.sl (.int .u8)) .unit))))))))))) .unit)))) (.pair (.int .i64) (.pair (.int .i64) .unit))) (.data (.pair (.sl (.pair (.int .i64) (.pair (.int .i64) (.pair (.sl (.pair (.int .i64) (.pair (.arr 32 (.int .u8)) (.pair (.arr 32 (.int .u8)) (.pair (.int .i64) (.pair (.arr 4 (.int .u64)) (.pair (.arr 4 (.int .u64)) (.pair (.arr 32 (.int .u8)) (.pair (.int .i64) (.pair (.int .i64) (.pair (.sl (.int .u8)) .unit))))))))))) .unit)))) (.pair (.int .i64) (.pair (.int .i64) .unit))) c1) false)]
noncomputable def cd1 : Code := cR (cR (cL (cL (cR (cL (cR (cR (cB Try.f95))))))))
def j0 {α : Type} (Nx : Int → Int → (List (Int × Int × List (Int × List Int × List Int × Int × List Int × List Int × List Int × Int × Int × List Int × Unit) × Unit) × Int × Int × Unit) → Option α) (x3 : Int) (x4 : Int) (c1 : List (Int × Int × List (Int × List Int × List Int × Int × List Int × List Int × List Int × Int × Int × List Int × Unit) × Unit) × Int × Int × Unit) : Option α :=
  Nx x3 (IntKind.i64.wrap (x4 - 1)) c1
theorem j0_eq {α : Type} (k : Nat) (next : St → Option α) (Q : Ex → St → Option α) (x3 : Int) (x4 : Int) (c1 : List (Int × Int × List (Int × List Int × List Int × Int × List Int × List Int × List Int × Int × Int × List Int × Unit) × Unit) × Int × Int × Unit) :
    (den C k) cd1 (lq C 9 next Q) (St2 x3 x4 c1) = j0 (fun (x3 : Int) (x4 : Int) (c1 : List (Int × Int × List (Int × List Int × List Int × Int × List Int × List Int × List Int × Int × Int × List Int × Unit) × Unit) × Int × Int × Unit) => next (St1 x3 x4 c1)) x3 x4 c1 := by
  have h : ∀ (D L : DT α), denJ D L Js C cd1 (lq C 9 next Q) (St2 x3 x4 c1) =
        next (St1 x3 (IntKind.i64.wrap (x4 - 1)) c1) := by
    intro D L; kernel_rfl
  refine (show (den C k) cd1 (lq C 9 next Q) (St2 x3 x4 c1) = denJ (den C k) (lp C k) Js C cd1 (lq C 9 next Q) (St2 x3 x4 c1) from (denJ_den _ _ _ _ _ _).symm).trans ((h (den C k) (lp C k)).trans ?_)
  first | rfl | kernel_rfl
def St3 (x3 : Int) : St := stL 39 [(3, .data (.int .i64) x3)] []
def l0s {α : Type} (Nx : Int → Int → (List (Int × Int × List (Int × List Int × List Int × Int × List Int × List Int × List Int × Int × Int × List Int × Unit) × Unit) × Int × Int × Unit) → Option α) (Xt0 : Int → Option α) (x3 : Int) (x4 : Int) (c1 : List (Int × Int × List (Int × List Int × List Int × Int × List Int × List Int × List Int × Int × Int × List Int × Unit) × Unit) × Int × Int × Unit) : Option α :=
  if (decide (x4 ≥ 0)) = true then
    (Go.Bx.basculeref_standsOn.run c1 x4 c1.2.2.1).bind fun y1 =>
    cond (decide (0 ≤ x4 ∧ x4 < (c1.1.length : Int)) || !((decide (x3 < 0)) == false)) (
      cond (decide (0 ≤ x3 ∧ x3 < (c1.1.length : Int)) || !((decide (x3 < 0)) == false)) (
        if (cond y1 (cond (decide (x3 < 0)) true (decide ((List.getD c1.1 (Int.toNat x4) (0, 0, [], ())).2.1 ≥ (List.getD c1.1 (Int.toNat x3) (0, 0, [], ())).2.1))) false) = true then
          j0 Nx x4 x4 c1
        else
          j0 Nx x3 x4 c1) none) none
  else
    Xt0 x3
theorem l0s_eq {α : Type} (k : Nat) (next : St → Option α) (Q : Ex → St → Option α) (x3 : Int) (x4 : Int) (c1 : List (Int × Int × List (Int × List Int × List Int × Int × List Int × List Int × List Int × Int × Int × List Int × Unit) × Unit) × Int × Int × Unit) :
    rnd C k cd0 9 Q next (St1 x3 x4 c1) = l0s (fun (x3 : Int) (x4 : Int) (c1 : List (Int × Int × List (Int × List Int × List Int × Int × List Int × List Int × List Int × Int × Int × List Int × Unit) × Unit) × Int × Int × Unit) => next (St1 x3 x4 c1)) (fun (x3 : Int) => Q (.exit 0) (St3 x3)) x3 x4 c1 := by
  have h : ∀ (D L : DT α), denJ D L Js C cd0 (lq C 9 next Q) (St1 x3 x4 c1) =
        if (decide (x4 ≥ 0)) = true then
          (Go.Bx.basculeref_standsOn.run c1 x4 c1.2.2.1).bind fun y1 =>
          cond (decide (0 ≤ x4 ∧ x4 < (c1.1.length : Int)) || !((decide (x3 < 0)) == false)) (
            cond (decide (0 ≤ x3 ∧ x3 < (c1.1.length : Int)) || !((decide (x3 < 0)) == false)) (
              if (cond y1 (cond (decide (x3 < 0)) true (decide ((List.getD c1.1 (Int.toNat x4) (0, 0, [], ())).2.1 ≥ (List.getD c1.1 (Int.toNat x3) (0, 0, [], ())).2.1))) false) = true then
                D cd1 (lq C 9 next Q) (St2 x4 x4 c1)
              else
                D cd1 (lq C 9 next Q) (St2 x3 x4 c1)) none) none
        else
          Q (.exit 0) (St3 x3) := by
    intro D L; kernel_rfl
  refine (show rnd C k cd0 9 Q next (St1 x3 x4 c1) = denJ (den C k) (lp C k) Js C cd0 (lq C 9 next Q) (St1 x3 x4 c1) from (denJ_den _ _ _ _ _ _).symm).trans ((h (den C k) (lp C k)).trans ?_)
  simp only [j0_eq]
  first | rfl | kernel_rfl
def l0 {α : Type} (k : Nat) (Xt0 : Int → Option α) : Nat → Int → Int → (List (Int × Int × List (Int × List Int × List Int × Int × List Int × List Int × List Int × Int × Int × List Int × Unit) × Unit) × Int × Int × Unit) → Option α
  | 0, _, _, _ => none
  | n + 1, x3, x4, c1 => l0s (l0 k Xt0 n) Xt0 x3 x4 c1
theorem l0_eq {α : Type} (k : Nat) (Q : Ex → St → Option α) : ∀ (n : Nat) (x3 : Int) (x4 : Int) (c1 : List (Int × Int × List (Int × List Int × List Int × Int × List Int × List Int × List Int × Int × Int × List Int × Unit) × Unit) × Int × Int × Unit), iter (rnd C k cd0 9 Q) n (St1 x3 x4 c1) = l0 k (fun (x3 : Int) => Q (.exit 0) (St3 x3)) n x3 x4 c1
  | 0, _, _, _ => rfl
  | n + 1, x3, x4, c1 => (iter_succ _ _ _).trans ((l0s_eq k (iter (rnd C k cd0 9 Q) n) Q x3 x4 c1).trans (congrArg (fun N => l0s N (fun (x3 : Int) => Q (.exit 0) (St3 x3)) x3 x4 c1) (funext fun x3 => funext fun x4 => funext fun c1 => l0_eq k Q n x3 x4 c1)))
theorem l0_congr {α : Type} (k : Nat) (Xt0 : Int → Option α) (Xt0q : Int → Option α) (hXt0 : ∀ (x3 : Int), Xt0 x3 = Xt0q x3) (n : Nat) (x3 : Int) (x4 : Int) (c1 : List (Int × Int × List (Int × List Int × List Int × Int × List Int × List Int × List Int × Int × Int × List Int × Unit) × Unit) × Int × Int × Unit) : l0 k Xt0 n x3 x4 c1 = l0 k Xt0q n x3 x4 c1 := by
  obtain rfl : Xt0 = Xt0q := by funext x3; exact hXt0 x3
  rfl
noncomputable def cd2 : Code := cR (cR (cR (cB Try.f95)))
def St4 (x3 : Int) : St := stL 39 [(3, .data (.int .i64) x3)] []
def St5 (x2 : Int) : St := stL 39 [(2, .data (.int .i64) x2)] []
def j1 {α : Type} (Rt : Int → Option α) (x3 : Int) : Option α :=
  Rt x3
theorem j1_eq {α : Type} (k : Nat) (Q : Ex → St → Option α) (x3 : Int) :
    (den C k) cd2 Q (St4 x3) = j1 (fun (x2 : Int) => Q .ret (St5 x2)) x3 := by
  have h : ∀ (D L : DT α), denJ D L Js C cd2 Q (St4 x3) =
        Q .ret (St5 x3) := by
    intro D L; kernel_rfl
  refine (show (den C k) cd2 Q (St4 x3) = denJ (den C k) (lp C k) Js C cd2 Q (St4 x3) from (denJ_den _ _ _ _ _ _).symm).trans ((h (den C k) (lp C k)).trans ?_)
  first | rfl | kernel_rfl
theorem a0 {α : Type} (k : Nat) (Q : Ex → St → Option α) (x3 : Int) (x4 : Int) (c1 : List (Int × Int × List (Int × List Int × List Int × Int × List Int × List Int × List Int × Int × Int × List Int × Unit) × Unit) × Int × Int × Unit) :
    (lp C k) cd0 (blkQ C 0 (sq (den C k) (lp C k) Js C cd2 Q)) (St1 x3 x4 c1) = l0 k (fun (x3 : Int) => j1 (fun (x2 : Int) => Q .ret (St5 x2)) x3) k x3 x4 c1 :=
  (show (lp C k) cd0 (blkQ C 0 (sq (den C k) (lp C k) Js C cd2 Q)) (St1 x3 x4 c1) = iter (rnd C k cd0 9 (blkQ C 0 (sq (den C k) (lp C k) Js C cd2 Q))) k (St1 x3 x4 c1) by kernel_rfl).trans ((l0_eq k (blkQ C 0 (sq (den C k) (lp C k) Js C cd2 Q)) k x3 x4 c1).trans (l0_congr k _ _ (fun x3 => ((show (blkQ C 0 (sq (den C k) (lp C k) Js C cd2 Q)) (.exit 0) (St3 x3) = (den C k) cd2 Q (St4 x3) by kernel_rfl).trans (by simp only [j1_eq]))) k x3 x4 c1))
def top {α : Type} (k : Nat) (Rt : Int → Option α) (x0 : List (Int × Int × List (Int × List Int × List Int × Int × List Int × List Int × List Int × Int × Int × List Int × Unit) × Unit) × Int × Int × Unit) : Option α :=
  l0 k (fun (x3 : Int) => j1 Rt x3) k (-1) (IntKind.i64.wrap ((x0.1.length : Int) - 1)) x0
theorem top_eq {α : Type} (k : Nat) (Q : Ex → St → Option α) (x0 : List (Int × Int × List (Int × List Int × List Int × Int × List Int × List Int × List Int × Int × Int × List Int × Unit) × Unit) × Int × Int × Unit) :
    (den C k) (cB Try.f95) Q (St0 x0) = top k (fun (x2 : Int) => Q .ret (St5 x2)) x0 := by
  have h : ∀ (D L : DT α), denJ D L Js C (cB Try.f95) Q (St0 x0) =
        L cd0 (blkQ C 0 (sq D L Js C cd2 Q)) (St1 (-1) (IntKind.i64.wrap ((x0.1.length : Int) - 1)) x0) := by
    intro D L; kernel_rfl
  refine (show (den C k) (cB Try.f95) Q (St0 x0) = denJ (den C k) (lp C k) Js C (cB Try.f95) Q (St0 x0) from (denJ_den _ _ _ _ _ _).symm).trans ((h (den C k) (lp C k)).trans ?_)
  simp only [a0]
  first | rfl | kernel_rfl
def run (x0 : List (Int × Int × List (Int × List Int × List Int × Int × List Int × List Int × List Int × Int × Int × List Int × Unit) × Unit) × Int × Int × Unit) : Option (Int) := top (α := Int) fuel (fun (x2 : Int) => some x2) x0
def F : Fn := ⟨(.pair (.pair (.sl (.pair (.int .i64) (.pair (.int .i64) (.pair (.sl (.pair (.int .i64) (.pair (.arr 32 (.int .u8)) (.pair (.arr 32 (.int .u8)) (.pair (.int .i64) (.pair (.arr 4 (.int .u64)) (.pair (.arr 4 (.int .u64)) (.pair (.arr 32 (.int .u8)) (.pair (.int .i64) (.pair (.int .i64) (.pair (.sl (.int .u8)) .unit))))))))))) .unit)))) (.pair (.int .i64) (.pair (.int .i64) .unit))) .unit), (.int .i64), false, fun x => run x.1⟩
set_option maxRecDepth 100000 in
theorem con : Con Try.prog 95 F := by
  refine con_of_den (C := C) (ctx_ok (by kernel_rfl) (by kernel_rfl) ⟨.inl ⟨Go.Bx.basculeref_standsOn.con, Go.Bx.basculeref_standsOn.named⟩, trivial⟩) (by kernel_rfl) Try.func95 (c := cB Try.f95) (by kernel_rfl) (by kernel_rfl) F fuel (fun x => by simp [F, spread, Try.ntmps95]) ?_
  intro x r h
  rw [← h]
  have h1 : start F Try.f95.ntmps x = (St0 x.1) := by kernel_rfl
  rw [h1]
  refine (top_eq fuel (fin C Try.f95.results.toList F.rs F.multi) x.1).trans ?_
  kernel_rfl
theorem named : Named Try.prog 95 := named_of Try.func95 (by kernel_rfl) (by kernel_rfl)
end Go.Bx.basculeref_bestOf
namespace Go.Bx.basculeref_TreeFault
open Go Go.Proofs Go.Bx
set_option maxRecDepth 100000
set_option linter.unusedVariables false
def Js : List Nat := [12, 15]
def C : Ctx := ⟨[(3, (.int .i64)), (23, (.int .i64)), (80, (.sl (.pair (.int .i64) (.pair (.int .i64) (.pair (.sl (.pair (.int .i64) (.pair (.arr 32 (.int .u8)) (.pair (.arr 32 (.int .u8)) (.pair (.int .i64) (.pair (.arr 4 (.int .u64)) (.pair (.arr 4 (.int .u64)) (.pair (.arr 32 (.int .u8)) (.pair (.int .i64) (.pair (.int .i64) (.pair (.sl (.int .u8)) .unit))))))))))) .unit))))), (82, (.pair (.sl (.pair (.int .i64) (.pair (.int .i64) (.pair (.sl (.pair (.int .i64) (.pair (.arr 32 (.int .u8)) (.pair (.arr 32 (.int .u8)) (.pair (.int .i64) (.pair (.arr 4 (.int .u64)) (.pair (.arr 4 (.int .u64)) (.pair (.arr 32 (.int .u8)) (.pair (.int .i64) (.pair (.int .i64) (.pair (.sl (.int .u8)) .unit))))))))))) .unit)))) (.pair (.int .i64) (.pair (.int .i64) .unit)))), (122, (.sl (.pair (.int .i64) (.pair (.arr 32 (.int .u8)) (.pair (.arr 32 (.int .u8)) (.pair (.int .i64) (.pair (.arr 4 (.int .u64)) (.pair (.arr 4 (.int .u64)) (.pair (.arr 32 (.int .u8)) (.pair (.int .i64) (.pair (.int .i64) (.pair (.sl (.int .u8)) .unit)))))))))))), (124, (.pair (.int .i64) (.pair (.int .i64) (.pair (.sl (.pair (.int .i64) (.pair (.arr 32 (.int .u8)) (.pair (.arr 32 (.int .u8)) (.pair (.int .i64) (.pair (.arr 4 (.int .u64)) (.pair (.arr 4 (.int .u64)) (.pair (.arr 32 (.int .u8)) (.pair (.int .i64) (.pair (.int .i64) (.pair (.sl (.int .u8)) .unit))))))))))) .unit))))], [], fnL [(95, Go.Bx.basculeref_bestOf.F)], noSh, [], noInv, [(2, [2]), (1, [1]), (4, [1, 17, 18, 19]), (12, [1, 17, 18, 19]), (33, [1, 5, 17, 18, 19]), (42, [1])], [], [], 0, 0⟩
def St0 (x0 : List (Int × Int × List (Int × List Int × List Int × Int × List Int × List Int × List Int × Int × Int × List Int × Unit) × Unit) × Int × Int × Unit) : St := stL 87 [(0, .data (.pair (.sl (.pair (.int .i64) (.pair (.int .i64) (.pair (.sl (.pair (.int .i64) (.pair (.arr 32 (.int .u8)) (.pair (.arr 32 (.int .u8)) (.pair (.int .i64) (.pair (.arr 4 (.int .u64)) (.pair (.arr 4 (.int .u64)) (.pair (.arr 32 (.int .u8)) (.pair (.int .i64) (.pair (.int .i64) (.pair (.sl (.int .u8)) .unit))))))))))) .unit)))) (.pair (.int .i64) (.pair (.int .i64) .unit))) x0)] []
def St1 (x2 : Int) : St := stL 87 [(2, .data (.int .i64) x2)] []
def St2 (x17 : List (Int × Int × List (Int × List Int × List Int × Int × List Int × List Int × List Int × Int × Int × List Int × Unit) × Unit)) (x18 : Int) (x19 : Int) (c1 : List (Int × Int × List (Int × List Int × List Int × Int × List Int × List Int × List Int × Int × Int × List Int × Unit) × Unit) × Int × Int × Unit) : St := stL 87 [(1, .ref 1 0 []), (17, .data (.sl (.pair (.int .i64) (.pair (.int .i64) (.pair (.sl (.pair (.int .i64) (.pair (.arr 32 (.int .u8)) (.pair (.arr 32 (.int .u8)) (.pair (.int .i64) (.pair (.arr 4 (.int .u64)) (.pair (.arr 4 (.int .u64)) (.pair (.arr 32 (.int .u8)) (.pair (.int .i64) (.pair (.int .i64) (.pair (.sl (.int .u8)) .unit))))))))))) .unit)))) x17), (18, .data (.int .i64) x18), (19, .data (.int .i64) x19)] [(1, .cell (.pair (.sl (.pair (.int .i64) (.pair (.int .i64) (.pair (.sl (.pair (.int .i64) (.pair (.arr 32 (.int .u8)) (.pair (.arr 32 (.int .u8)) (.pair (.int .i64) (.pair (.arr 4 (.int .u64)) (.pair (.arr 4 (.int .u64)) (.pair (.arr 32 (.int .u8)) (.pair (.int .i64) (.pair (.int .i64) (.pair (.sl (.int .u8)) .unit))))))))))) .unit)))) (.pair (.int .i64) (.pair (.int .i64) .unit))) (.data (.pair (.sl (.pair (.int .i64) (.pair (.int .i64) (.pair (.sl (.pair (.int .i64) (.pair (.arr 32 (.int .u8)) (.pair (.arr 32 (.int .u8)) (.pair (.int .i64) (.pair (.arr 4 (.int .u64)) (.pair (.arr 4 (.int .u64)) (.pair (.arr 32 (.int .u8)) (.pair (.int .i64) (.pair (.int .i64) (.pair (.sl (.int .u8)) .unit))))))))))) .unit)))) (.pair (.int .i64) (.pair (.int .i64) .unit))) c1) false)]
noncomputable def cd0 : Code := cL (cL (cR (cL (cR (cR (cB Try.f66))))))
def St3 (x5 : Bool) (x17 : List (Int × Int × List (Int × List Int × List Int × Int × List Int × List Int × List Int × Int × Int × List Int × Unit) × Unit)) (x18 : Int) (x19 : Int) (c1 : List (Int × Int × List (Int × List Int × List Int × Int × List Int × List Int × List Int × Int × Int × List Int × Unit) × Unit) × Int × Int × Unit) : St := stL 87 [(1, .ref 1 0 []), (5, .data .bool x5), (17, .data (.sl (.pair (.int .i64) (.pair (.int .i64) (.pair (.sl (.pair (.int .i64) (.pair (.arr 32 (.int .u8)) (.pair (.arr 32 (.int .u8)) (.pair (.int .i64) (.pair (.arr 4 (.int .u64)) (.pair (.arr 4 (.int .u64)) (.pair (.arr 32 (.int .u8)) (.pair (.int .i64) (.pair (.int .i64) (.pair (.sl (.int .u8)) .unit))))))))))) .unit)))) x17), (18, .data (.int .i64) x18), (19, .data (.int .i64) x19)] [(1, .cell (.pair (.sl (.pair (.int .i64) (.pair (.int .i64) (.pair (.sl (.pair (.int .i64) (.pair (.arr 32 (.int .u8)) (.pair (.arr 32 (.int .u8)) (.pair (.int .i64) (.pair (.arr 4 (.int .u64)) (.pair (.arr 4 (.int .u64)) (.pair (.arr 32 (.int .u8)) (.pair (.int .i64) (.pair (.int .i64) (.pair (.sl (.int .u8)) .unit))))))))))) .unit)))) (.pair (.int .i64) (.pair (.int .i64) .unit))) (.data (.pair (.sl (.pair (.int .i64) (.pair (.int .i64) (.pair (.sl (.pair (.int .i64) (.pair (.arr 32 (.int .u8)) (.pair (.arr 32 (.int .u8)) (.pair (.int .i64) (.pair (.arr 4 (.int .u64)) (.pair (.arr 4 (.int .u64)) (.pair (.arr 32 (.int .u8)) (.pair (.int .i64) (.pair (.int .i64) (.pair (.sl (.int .u8)) .unit))))))))))) .unit)))) (.pair (.int .i64) (.pair (.int .i64) .unit))) c1) false)]
noncomputable def cd1 : Code := cR (cR (cR (cL (cL (cR (cL (cR (cR (cB Try.f66)))))))))
noncomputable def cd2 : Code := cR (cR (cR (cR (cL (cL (cR (cR (cL (cL (cR (cL (cR (cR (cB Try.f66))))))))))))))
def j0 {α : Type} (Nx : (List (Int × Int × List (Int × List Int × List Int × Int × List Int × List Int × List Int × Int × Int × List Int × Unit) × Unit)) → Int → Int → (List (Int × Int × List (Int × List Int × List Int × Int × List Int × List Int × List Int × Int × Int × List Int × Unit) × Unit) × Int × Int × Unit) → Option α) (Rt : Int → Option α) (x5 : Bool) (x17 : List (Int × Int × List (Int × List Int × List Int × Int × List Int × List Int × List Int × Int × Int × List Int × Unit) × Unit)) (x18 : Int) (x19 : Int) (c1 : List (Int × Int × List (Int × List Int × List Int × Int × List Int × List Int × List Int × Int × Int × List Int × Unit) × Unit) × Int × Int × Unit) : Option α :=
  if (not x5) = true then
    Rt 12
  else
    Nx x17 x18 (IntKind.i64.wrap (x19 + 1)) c1
theorem j0_eq {α : Type} (k : Nat) (next : St → Option α) (Q : Ex → St → Option α) (x5 : Bool) (x17 : List (Int × Int × List (Int × List Int × List Int × Int × List Int × List Int × List Int × Int × Int × List Int × Unit) × Unit)) (x18 : Int) (x19 : Int) (c1 : List (Int × Int × List (Int × List Int × List Int × Int × List Int × List Int × List Int × Int × Int × List Int × Unit) × Unit) × Int × Int × Unit) :
    (den C k) cd2 (blkQ C 1 (sq (den C k) (lp C k) Js C cd1 (lq C 12 next Q))) (St3 x5 x17 x18 x19 c1) = j0 (fun (x17 : List (Int × Int × List (Int × List Int × List Int × Int × List Int × List Int × List Int × Int × Int × List Int × Unit) × Unit)) (x18 : Int) (x19 : Int) (c1 : List (Int × Int × List (Int × List Int × List Int × Int × List Int × List Int × List Int × Int × Int × List Int × Unit) × Unit) × Int × Int × Unit) => next (St2 x17 x18 x19 c1)) (fun (x2 : Int) => Q .ret (St1 x2)) x5 x17 x18 x19 c1 := by
  have h : ∀ (D L : DT α), denJ D L Js C cd2 (blkQ C 1 (sq D L Js C cd1 (lq C 12 next Q))) (St3 x5 x17 x18 x19 c1) =
        if (not x5) = true then
          Q .ret (St1 12)
        else
          next (St2 x17 x18 (IntKind.i64.wrap (x19 + 1)) c1) := by
    intro D L; kernel_rfl
  refine (show (den C k) cd2 (blkQ C 1 (sq (den C k) (lp C k) Js C cd1 (lq C 12 next Q))) (St3 x5 x17 x18 x19 c1) = denJ (den C k) (lp C k) Js C cd2 (blkQ C 1 (sq (den C k) (lp C k) Js C cd1 (lq C 12 next Q))) (St3 x5 x17 x18 x19 c1) from (denJ_den _ _ _ _ _ _).symm).trans ((h (den C k) (lp C k)).trans ?_)
  first | rfl | kernel_rfl
def St4 (c1 : List (Int × Int × List (Int × List Int × List Int × Int × List Int × List Int × List Int × Int × Int × List Int × Unit) × Unit) × Int × Int × Unit) : St := stL 87 [(1, .ref 1 0 [])] [(1, .cell (.pair (.sl (.pair (.int .i64) (.pair (.int .i64) (.pair (.sl (.pair (.int .i64) (.pair (.arr 32 (.int .u8)) (.pair (.arr 32 (.int .u8)) (.pair (.int .i64) (.pair (.arr 4 (.int .u64)) (.pair (.arr 4 (.int .u64)) (.pair (.arr 32 (.int .u8)) (.pair (.int .i64) (.pair (.int .i64) (.pair (.sl (.int .u8)) .unit))))))))))) .unit)))) (.pair (.int .i64) (.pair (.int .i64) .unit))) (.data (.pair (.sl (.pair (.int .i64) (.pair (.int .i64) (.pair (.sl (.pair (.int .i64) (.pair (.arr 32 (.int .u8)) (.pair (.arr 32 (.int .u8)) (.pair (.int .i64) (.pair (.arr 4 (.int .u64)) (.pair (.arr 4 (.int .u64)) (.pair (.arr 32 (.int .u8)) (.pair (.int .i64) (.pair (.int .i64) (.pair (.sl (.int .u8)) .unit))))))))))) .unit)))) (.pair (.int .i64) (.pair (.int .i64) .unit))) c1) false)]
def l0s {α : Type} (Nx : (List (Int × Int × List (Int × List Int × List Int × Int × List Int × List Int × List Int × Int × Int × List Int × Unit) × Unit)) → Int → Int → (List (Int × Int × List (Int × List Int × List Int × Int × List Int × List Int × List Int × Int × Int × List Int × Unit) × Unit) × Int × Int × Unit) → Option α) (Rt : Int → Option α) (Xt0 : (List (Int × Int × List (Int × List Int × List Int × Int × List Int × List Int × List Int × Int × Int × List Int × Unit) × Unit) × Int × Int × Unit) → Option α) (x17 : List (Int × Int × List (Int × List Int × List Int × Int × List Int × List Int × List Int × Int × Int × List Int × Unit) × Unit)) (x18 : Int) (x19 : Int) (c1 : List (Int × Int × List (Int × List Int × List Int × Int × List Int × List Int × List Int × Int × Int × List Int × Unit) × Unit) × Int × Int × Unit) : Option α :=
  if (decide (x19 < x18)) = true then
    if 0 ≤ x19 ∧ x19 < (x17.length : Int) then
      if (decide (((List.getD x17 (Int.toNat x19) (0, 0, [], ())).2.2.1.length : Int) > 6)) = true then
        Rt 1
      else
        if (decide (x19 > 0)) = true then
          cond (decide (0 ≤ (List.getD x17 (Int.toNat x19) (0, 0, [], ())).1 ∧ (List.getD x17 (Int.toNat x19) (0, 0, [], ())).1 < (c1.1.length : Int)) || !((cond (decide ((List.getD x17 (Int.toNat x19) (0, 0, [], ())).1 ≥ 0)) (decide ((List.getD x17 (Int.toNat x19) (0, 0, [], ())).1 < x19)) false) == true)) (
            j0 Nx Rt (cond (cond (decide ((List.getD x17 (Int.toNat x19) (0, 0, [], ())).1 ≥ 0)) (decide ((List.getD x17 (Int.toNat x19) (0, 0, [], ())).1 < x19)) false) ((List.getD x17 (Int.toNat x19) (0, 0, [], ())).2.1 == (IntKind.i64.wrap ((List.getD c1.1 (Int.toNat (List.getD x17 (Int.toNat x19) (0, 0, [], ())).1) (0, 0, [], ())).2.1 + 1))) false) x17 x18 x19 c1) none
        else
          j0 Nx Rt (cond (cond ((List.getD x17 (Int.toNat x19) (0, 0, [], ())).1 == (-1)) ((List.getD x17 (Int.toNat x19) (0, 0, [], ())).2.1 == 0) false) (((List.getD x17 (Int.toNat x19) (0, 0, [], ())).2.2.1.length : Int) == 0) false) x17 x18 x19 c1
    else none
  else
    Xt0 c1
theorem l0s_eq {α : Type} (k : Nat) (next : St → Option α) (Q : Ex → St → Option α) (x17 : List (Int × Int × List (Int × List Int × List Int × Int × List Int × List Int × List Int × Int × Int × List Int × Unit) × Unit)) (x18 : Int) (x19 : Int) (c1 : List (Int × Int × List (Int × List Int × List Int × Int × List Int × List Int × List Int × Int × Int × List Int × Unit) × Unit) × Int × Int × Unit) :
    rnd C k cd0 12 Q next (St2 x17 x18 x19 c1) = l0s (fun (x17 : List (Int × Int × List (Int × List Int × List Int × Int × List Int × List Int × List Int × Int × Int × List Int × Unit) × Unit)) (x18 : Int) (x19 : Int) (c1 : List (Int × Int × List (Int × List Int × List Int × Int × List Int × List Int × List Int × Int × Int × List Int × Unit) × Unit) × Int × Int × Unit) => next (St2 x17 x18 x19 c1)) (fun (x2 : Int) => Q .ret (St1 x2)) (fun (c1 : List (Int × Int × List (Int × List Int × List Int × Int × List Int × List Int × List Int × Int × Int × List Int × Unit) × Unit) × Int × Int × Unit) => Q (.exit 0) (St4 c1)) x17 x18 x19 c1 := by
  have h : ∀ (D L : DT α), denJ D L Js C cd0 (lq C 12 next Q) (St2 x17 x18 x19 c1) =
        if (decide (x19 < x18)) = true then
          if 0 ≤ x19 ∧ x19 < (x17.length : Int) then
            if (decide (((List.getD x17 (Int.toNat x19) (0, 0, [], ())).2.2.1.length : Int) > 6)) = true then
              Q .ret (St1 1)
            else
              if (decide (x19 > 0)) = true then
                cond (decide (0 ≤ (List.getD x17 (Int.toNat x19) (0, 0, [], ())).1 ∧ (List.getD x17 (Int.toNat x19) (0, 0, [], ())).1 < (c1.1.length : Int)) || !((cond (decide ((List.getD x17 (Int.toNat x19) (0, 0, [], ())).1 ≥ 0)) (decide ((List.getD x17 (Int.toNat x19) (0, 0, [], ())).1 < x19)) false) == true)) (
                  D cd2 (blkQ C 1 (sq D L Js C cd1 (lq C 12 next Q))) (St3 (cond (cond (decide ((List.getD x17 (Int.toNat x19) (0, 0, [], ())).1 ≥ 0)) (decide ((List.getD x17 (Int.toNat x19) (0, 0, [], ())).1 < x19)) false) ((List.getD x17 (Int.toNat x19) (0, 0, [], ())).2.1 == (IntKind.i64.wrap ((List.getD c1.1 (Int.toNat (List.getD x17 (Int.toNat x19) (0, 0, [], ())).1) (0, 0, [], ())).2.1 + 1))) false) x17 x18 x19 c1)) none
              else
                D cd2 (blkQ C 1 (sq D L Js C cd1 (lq C 12 next Q))) (St3 (cond (cond ((List.getD x17 (Int.toNat x19) (0, 0, [], ())).1 == (-1)) ((List.getD x17 (Int.toNat x19) (0, 0, [], ())).2.1 == 0) false) (((List.getD x17 (Int.toNat x19) (0, 0, [], ())).2.2.1.length : Int) == 0) false) x17 x18 x19 c1)
          else none
        else
          Q (.exit 0) (St4 c1) := by
    intro D L; kernel_rfl
  refine (show rnd C k cd0 12 Q next (St2 x17 x18 x19 c1) = denJ (den C k) (lp C k) Js C cd0 (lq C 12 next Q) (St2 x17 x18 x19 c1) from (denJ_den _ _ _ _ _ _).symm).trans ((h (den C k) (lp C k)).trans ?_)
  simp only [j0_eq]
  first | rfl | kernel_rfl
def l0 {α : Type} (k : Nat) (Rt : Int → Option α) (Xt0 : (List (Int × Int × List (Int × List Int × List Int × Int × List Int × List Int × List Int × Int × Int × List Int × Unit) × Unit) × Int × Int × Unit) → Option α) : Nat → (List (Int × Int × List (Int × List Int × List Int × Int × List Int × List Int × List Int × Int × Int × List Int × Unit) × Unit)) → Int → Int → (List (Int × Int × List (Int × List Int × List Int × Int × List Int × List Int × List Int × Int × Int × List Int × Unit) × Unit) × Int × Int × Unit) → Option α
  | 0, _, _, _, _ => none
  | n + 1, x17, x18, x19, c1 => l0s (l0 k Rt Xt0 n) Rt Xt0 x17 x18 x19 c1
theorem l0_eq {α : Type} (k : Nat) (Q : Ex → St → Option α) : ∀ (n : Nat) (x17 : List (Int × Int × List (Int × List Int × List Int × Int × List Int × List Int × List Int × Int × Int × List Int × Unit) × Unit)) (x18 : Int) (x19 : Int) (c1 : List (Int × Int × List (Int × List Int × List Int × Int × List Int × List Int × List Int × Int × Int × List Int × Unit) × Unit) × Int × Int × Unit), iter (rnd C k cd0 12 Q) n (St2 x17 x18 x19 c1) = l0 k (fun (x2 : Int) => Q .ret (St1 x2)) (fun (c1 : List (Int × Int × List (Int × List Int × List Int × Int × List Int × List Int × List Int × Int × Int × List Int × Unit) × Unit) × Int × Int × Unit) => Q (.exit 0) (St4 c1)) n x17 x18 x19 c1
  | 0, _, _, _, _ => rfl
  | n + 1, x17, x18, x19, c1 => (iter_succ _ _ _).trans ((l0s_eq k (iter (rnd C k cd0 12 Q) n) Q x17 x18 x19 c1).trans (congrArg (fun N => l0s N (fun (x2 : Int) => Q .ret (St1 x2)) (fun (c1 : List (Int × Int × List (Int × List Int × List Int × Int × List Int × List Int × List Int × Int × Int × List Int × Unit) × Unit) × Int × Int × Unit) => Q (.exit 0) (St4 c1)) x17 x18 x19 c1) (funext fun x17 => funext fun x18 => funext fun x19 => funext fun c1 => l0_eq k Q n x17 x18 x19 c1)))
theorem l0_congr {α : Type} (k : Nat) (Rt : Int → Option α) (Xt0 : (List (Int × Int × List (Int × List Int × List Int × Int × List Int × List Int × List Int × Int × Int × List Int × Unit) × Unit) × Int × Int × Unit) → Option α) (Rtq : Int → Option α) (Xt0q : (List (Int × Int × List (Int × List Int × List Int × Int × List Int × List Int × List Int × Int × Int × List Int × Unit) × Unit) × Int × Int × Unit) → Option α) (hRt : ∀ (x2 : Int), Rt x2 = Rtq x2) (hXt0 : ∀ (c1 : List (Int × Int × List (Int × List Int × List Int × Int × List Int × List Int × List Int × Int × Int × List Int × Unit) × Unit) × Int × Int × Unit), Xt0 c1 = Xt0q c1) (n : Nat) (x17 : List (Int × Int × List (Int × List Int × List Int × Int × List Int × List Int × List Int × Int × Int × List Int × Unit) × Unit)) (x18 : Int) (x19 : Int) (c1 : List (Int × Int × List (Int × List Int × List Int × Int × List Int × List Int × List Int × Int × Int × List Int × Unit) × Unit) × Int × Int × Unit) : l0 k Rt Xt0 n x17 x18 x19 c1 = l0 k Rtq Xt0q n x17 x18 x19 c1 := by
  obtain rfl : Rt = Rtq := by funext x2; exact hRt x2
  obtain rfl : Xt0 = Xt0q := by funext c1; exact hXt0 c1
  rfl
noncomputable def cd3 : Code := cR (cR (cR (cB Try.f66)))
def St5 (c1 : List (Int × Int × List (Int × List Int × List Int × Int × List Int × List Int × List Int × Int × Int × List Int × Unit) × Unit) × Int × Int × Unit) : St := stL 87 [(1, .ref 1 0 [])] [(1, .cell (.pair (.sl (.pair (.int .i64) (.pair (.int .i64) (.pair (.sl (.pair (.int .i64) (.pair (.arr 32 (.int .u8)) (.pair (.arr 32 (.int .u8)) (.pair (.int .i64) (.pair (.arr 4 (.int .u64)) (.pair (.arr 4 (.int .u64)) (.pair (.arr 32 (.int .u8)) (.pair (.int .i64) (.pair (.int .i64) (.pair (.sl (.int .u8)) .unit))))))))))) .unit)))) (.pair (.int .i64) (.pair (.int .i64) .unit))) (.data (.pair (.sl (.pair (.int .i64) (.pair (.int .i64) (.pair (.sl (.pair (.int .i64) (.pair (.arr 32 (.int .u8)) (.pair (.arr 32 (.int .u8)) (.pair (.int .i64) (.pair (.arr 4 (.int .u64)) (.pair (.arr 4 (.int .u64)) (.pair (.arr 32 (.int .u8)) (.pair (.int .i64) (.pair (.int .i64) (.pair (.sl (.int .u8)) .unit))))))))))) .unit)))) (.pair (.int .i64) (.pair (.int .i64) .unit))) c1) false)]
def j1 {α : Type} (Rt : Int → Option α) (c1 : List (Int × Int × List (Int × List Int × List Int × Int × List Int × List Int × List Int × Int × Int × List Int × Unit) × Unit) × Int × Int × Unit) : Option α :=
  (if ((cond (decide (c1.2.2.1 < 0)) true (decide (c1.2.2.1 ≥ (c1.1.length : Int)))) == false) = true then Go.Bx.basculeref_bestOf.run c1 else some 0).bind fun y1 =>
  if (cond (cond (decide (c1.2.2.1 < 0)) true (decide (c1.2.2.1 ≥ (c1.1.length : Int)))) true (c1.2.1 != y1)) = true then
    Rt 12
  else
    Rt 0
theorem j1_eq {α : Type} (k : Nat) (Q : Ex → St → Option α) (c1 : List (Int × Int × List (Int × List Int × List Int × Int × List Int × List Int × List Int × Int × Int × List Int × Unit) × Unit) × Int × Int × Unit) :
    (den C k) cd3 Q (St5 c1) = j1 (fun (x2 : Int) => Q .ret (St1 x2)) c1 := by
  have h : ∀ (D L : DT α), denJ D L Js C cd3 Q (St5 c1) =
        (if ((cond (decide (c1.2.2.1 < 0)) true (decide (c1.2.2.1 ≥ (c1.1.length : Int)))) == false) = true then Go.Bx.basculeref_bestOf.run c1 else some 0).bind fun y1 =>
        if (cond (cond (decide (c1.2.2.1 < 0)) true (decide (c1.2.2.1 ≥ (c1.1.length : Int)))) true (c1.2.1 != y1)) = true then
          Q .ret (St1 12)
        else
          Q .ret (St1 0) := by
    intro D L; kernel_rfl
  refine (show (den C k) cd3 Q (St5 c1) = denJ (den C k) (lp C k) Js C cd3 Q (St5 c1) from (denJ_den _ _ _ _ _ _).symm).trans ((h (den C k) (lp C k)).trans ?_)
  first | rfl | kernel_rfl
theorem a0 {α : Type} (k : Nat) (Q : Ex → St → Option α) (x17 : List (Int × Int × List (Int × List Int × List Int × Int × List Int × List Int × List Int × Int × Int × List Int × Unit) × Unit)) (x18 : Int) (x19 : Int) (c1 : List (Int × Int × List (Int × List Int × List Int × Int × List Int × List Int × List Int × Int × Int × List Int × Unit) × Unit) × Int × Int × Unit) :
    (lp C k) cd0 (blkQ C 0 (sq (den C k) (lp C k) Js C cd3 Q)) (St2 x17 x18 x19 c1) = l0 k (fun (x2 : Int) => (fun (x2 : Int) => Q .ret (St1 x2)) x2) (fun (c1 : List (Int × Int × List (Int × List Int × List Int × Int × List Int × List Int × List Int × Int × Int × List Int × Unit) × Unit) × Int × Int × Unit) => j1 (fun (x2 : Int) => Q .ret (St1 x2)) c1) k x17 x18 x19 c1 :=
  (show (lp C k) cd0 (blkQ C 0 (sq (den C k) (lp C k) Js C cd3 Q)) (St2 x17 x18 x19 c1) = iter (rnd C k cd0 12 (blkQ C 0 (sq (den C k) (lp C k) Js C cd3 Q))) k (St2 x17 x18 x19 c1) by kernel_rfl).trans ((l0_eq k (blkQ C 0 (sq (den C k) (lp C k) Js C cd3 Q)) k x17 x18 x19 c1).trans (l0_congr k _ _ _ _ (fun x2 => (show (blkQ C 0 (sq (den C k) (lp C k) Js C cd3 Q)) .ret (St1 x2) = Q .ret (St1 x2) by kernel_rfl)) (fun c1 => ((show (blkQ C 0 (sq (den C k) (lp C k) Js C cd3 Q)) (.exit 0) (St4 c1) = (den C k) cd3 Q (St5 c1) by kernel_rfl).trans (by simp only [j1_eq]))) k x17 x18 x19 c1))
def top {α : Type} (k : Nat) (Rt : Int → Option α) (x0 : List (Int × Int × List (Int × List Int × List Int × Int × List Int × List Int × List Int × Int × Int × List Int × Unit) × Unit) × Int × Int × Unit) : Option α :=
  if (cond ((x0.1.length : Int) == 0) true (decide ((x0.1.length : Int) > 40))) = true then
    Rt 1
  else
    l0 k (fun (x2 : Int) => Rt x2) (fun (c1 : List (Int × Int × List (Int × List Int × List Int × Int × List Int × List Int × List Int × Int × Int × List Int × Unit) × Unit) × Int × Int × Unit) => j1 Rt c1) k x0.1 (x0.1.length : Int) 0 x0
theorem top_eq {α : Type} (k : Nat) (Q : Ex → St → Option α) (x0 : List (Int × Int × List (Int × List Int × List Int × Int × List Int × List Int × List Int × Int × Int × List Int × Unit) × Unit) × Int × Int × Unit) :
    (den C k) (cB Try.f66) Q (St0 x0) = top k (fun (x2 : Int) => Q .ret (St1 x2)) x0 := by
  have h : ∀ (D L : DT α), denJ D L Js C (cB Try.f66) Q (St0 x0) =
        if (cond ((x0.1.length : Int) == 0) true (decide ((x0.1.length : Int) > 40))) = true then
          Q .ret (St1 1)
        else
          L cd0 (blkQ C 0 (sq D L Js C cd3 Q)) (St2 x0.1 (x0.1.length : Int) 0 x0) := by
    intro D L; kernel_rfl
  refine (show (den C k) (cB Try.f66) Q (St0 x0) = denJ (den C k) (lp C k) Js C (cB Try.f66) Q (St0 x0) from (denJ_den _ _ _ _ _ _).symm).trans ((h (den C k) (lp C k)).trans ?_)
  simp only [a0]
  first | rfl | kernel_rfl
def run (x0 : List (Int × Int × List (Int × List Int × List Int × Int × List Int × List Int × List Int × Int × Int × List Int × Unit) × Unit) × Int × Int × Unit) : Option (Int) := top (α := Int) fuel (fun (x2 : Int) => some x2) x0
def F : Fn := ⟨(.pair (.pair (.sl (.pair (.int .i64) (.pair (.int .i64) (.pair (.sl (.pair (.int .i64) (.pair (.arr 32 (.int .u8)) (.pair (.arr 32 (.int .u8)) (.pair (.int .i64) (.pair (.arr 4 (.int .u64)) (.pair (.arr 4 (.int .u64)) (.pair (.arr 32 (.int .u8)) (.pair (.int .i64) (.pair (.int .i64) (.pair (.sl (.int .u8)) .unit))))))))))) .unit)))) (.pair (.int .i64) (.pair (.int .i64) .unit))) .unit), (.int .i64), false, fun x => run x.1⟩
set_option maxRecDepth 100000 in
theorem con : Con Try.prog 66 F := by
  refine con_of_den (C := C) (ctx_ok (by kernel_rfl) (by kernel_rfl) ⟨.inl ⟨Go.Bx.basculeref_bestOf.con, Go.Bx.basculeref_bestOf.named⟩, trivial⟩) (by kernel_rfl) Try.func66 (c := cB Try.f66) (by kernel_rfl) (by kernel_rfl) F fuel (fun x => by simp [F, spread, Try.ntmps66]) ?_
  intro x r h
  rw [← h]
  have h1 : start F Try.f66.ntmps x = (St0 x.1) := by kernel_rfl
  rw [h1]
  refine (top_eq fuel (fin C Try.f66.results.toList F.rs F.multi) x.1).trans ?_
  kernel_rfl
theorem named : Named Try.prog 66 := named_of Try.func66 (by kernel_rfl) (by kernel_rfl)
end Go.Bx.basculeref_TreeFault
namespace Go.Bx.basculelaw_ForkChecks
open Go Go.Proofs Go.Bx
set_option maxRecDepth 100000
set_option linter.unusedVariables false
def Js : List Nat := []
def C : Ctx := ⟨[(4, .bool), (82, (.pair (.sl (.pair (.int .i64) (.pair (.int .i64) (.pair (.sl (.pair (.int .i64) (.pair (.arr 32 (.int .u8)) (.pair (.arr 32 (.int .u8)) (.pair (.int .i64) (.pair (.arr 4 (.int .u64)) (.pair (.arr 4 (.int .u64)) (.pair (.arr 32 (.int .u8)) (.pair (.int .i64) (.pair (.int .i64) (.pair (.sl (.int .u8)) .unit))))))))))) .unit)))) (.pair (.int .i64) (.pair (.int .i64) .unit))))], [], fnL [(65, Go.Bx.fork_Check.F), (66, Go.Bx.basculeref_TreeFault.F)], noSh, [], noInv, [(2, [2])], [], [], 0, 0⟩
def St0 (x0 : List (Int × Int × List (Int × List Int × List Int × Int × List Int × List Int × List Int × Int × Int × List Int × Unit) × Unit) × Int × Int × Unit) : St := stL 12 [(0, .data (.pair (.sl (.pair (.int .i64) (.pair (.int .i64) (.pair (.sl (.pair (.int .i64) (.pair (.arr 32 (.int .u8)) (.pair (.arr 32 (.int .u8)) (.pair (.int .i64) (.pair (.arr 4 (.int .u64)) (.pair (.arr 4 (.int .u64)) (.pair (.arr 32 (.int .u8)) (.pair (.int .i64) (.pair (.int .i64) (.pair (.sl (.int .u8)) .unit))))))))))) .unit)))) (.pair (.int .i64) (.pair (.int .i64) .unit))) x0)] []
def St1 (x2 : Bool) : St := stL 12 [(2, .data .bool x2)] []
def top {α : Type} (Rt : Bool → Option α) (x0 : List (Int × Int × List (Int × List Int × List Int × Int × List Int × List Int × List Int × Int × Int × List Int × Unit) × Unit) × Int × Int × Unit) : Option α :=
  (Go.Bx.fork_Check.run x0).bind fun y1 =>
  (Go.Bx.basculeref_TreeFault.run x0).bind fun y2 =>
  Rt (y1 == y2)
theorem top_eq {α : Type} (k : Nat) (Q : Ex → St → Option α) (x0 : List (Int × Int × List (Int × List Int × List Int × Int × List Int × List Int × List Int × Int × Int × List Int × Unit) × Unit) × Int × Int × Unit) :
    (den C k) (cB Try.f19) Q (St0 x0) = top (fun (x2 : Bool) => Q .ret (St1 x2)) x0 := by
  have h : ∀ (D L : DT α), denJ D L Js C (cB Try.f19) Q (St0 x0) =
        (Go.Bx.fork_Check.run x0).bind fun y1 =>
        (Go.Bx.basculeref_TreeFault.run x0).bind fun y2 =>
        Q .ret (St1 (y1 == y2)) := by
    intro D L; kernel_rfl
  refine (show (den C k) (cB Try.f19) Q (St0 x0) = denJ (den C k) (lp C k) Js C (cB Try.f19) Q (St0 x0) from (denJ_den _ _ _ _ _ _).symm).trans ((h (den C k) (lp C k)).trans ?_)
  first | rfl | kernel_rfl
def run (x0 : List (Int × Int × List (Int × List Int × List Int × Int × List Int × List Int × List Int × Int × Int × List Int × Unit) × Unit) × Int × Int × Unit) : Option (Bool) := top (α := Bool) (fun (x2 : Bool) => some x2) x0
def F : Fn := ⟨(.pair (.pair (.sl (.pair (.int .i64) (.pair (.int .i64) (.pair (.sl (.pair (.int .i64) (.pair (.arr 32 (.int .u8)) (.pair (.arr 32 (.int .u8)) (.pair (.int .i64) (.pair (.arr 4 (.int .u64)) (.pair (.arr 4 (.int .u64)) (.pair (.arr 32 (.int .u8)) (.pair (.int .i64) (.pair (.int .i64) (.pair (.sl (.int .u8)) .unit))))))))))) .unit)))) (.pair (.int .i64) (.pair (.int .i64) .unit))) .unit), .bool, false, fun x => run x.1⟩
set_option maxRecDepth 100000 in
theorem con : Con Try.prog 19 F := by
  refine con_of_den (C := C) (ctx_ok (by kernel_rfl) (by kernel_rfl) ⟨.inl ⟨Go.Bx.fork_Check.con, Go.Bx.fork_Check.named⟩, ⟨.inl ⟨Go.Bx.basculeref_TreeFault.con, Go.Bx.basculeref_TreeFault.named⟩, trivial⟩⟩) (by kernel_rfl) Try.func19 (c := cB Try.f19) (by kernel_rfl) (by kernel_rfl) F fuel (fun x => by simp [F, spread, Try.ntmps19]) ?_
  intro x r h
  rw [← h]
  have h1 : start F Try.f19.ntmps x = (St0 x.1) := by kernel_rfl
  rw [h1]
  refine (top_eq fuel (fin C Try.f19.results.toList F.rs F.multi) x.1).trans ?_
  kernel_rfl
theorem named : Named Try.prog 19 := named_of Try.func19 (by kernel_rfl) (by kernel_rfl)
end Go.Bx.basculelaw_ForkChecks
