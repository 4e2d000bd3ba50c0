/- Go functions of this seat in their own words of Lean, each tied to its code by a contract. -/
import Derived.Test.YtpapikaeaodfgaaGBase
import Derived.Test.YtpapikaeaodfgaaFnLoadDecodes0
namespace Go.Bx.basculeref_passes
open Go Go.Proofs Go.Bx
set_option maxRecDepth 100000
set_option linter.unusedVariables false
def Js : List Nat := [8, 9]
def C : Ctx := ⟨[(3, (.int .i64)), (4, .bool), (39, (.arr 3 (.int .i64))), (40, (.sl (.pair (.int .i64) (.pair (.int .i64) (.pair (.int .i64) (.pair (.int .i64) .unit)))))), (42, (.pair (.arr 3 (.int .i64)) (.pair (.arr 3 (.int .i64)) (.pair (.int .i64) (.pair (.sl (.pair (.int .i64) (.pair (.int .i64) (.pair (.int .i64) (.pair (.int .i64) .unit))))) (.pair (.sl (.pair (.int .i64) (.pair (.int .i64) (.pair (.int .i64) (.pair (.int .i64) .unit))))) .unit)))))), (103, (.pair (.int .i64) (.pair (.int .i64) (.pair (.int .i64) (.pair (.int .i64) .unit)))))], [], [], fnL [], noSh, [], invL [], [(2, [4]), (1, [2, 3, 5]), (4, [2, 3, 5, 11, 12, 13]), (9, [2, 3, 5, 11, 12, 13]), (21, [2, 3, 5, 11, 12, 13]), (24, [2, 3, 5])], [], [], 0, 0⟩
def St0 (x0 : List Int × List Int × Int × List (Int × Int × Int × Int × Unit) × List (Int × Int × Int × Int × Unit) × Unit) (x1 : Int × Int × Int × Int × Unit) : St := stL 58 [(0, .data (.pair (.arr 3 (.int .i64)) (.pair (.arr 3 (.int .i64)) (.pair (.int .i64) (.pair (.sl (.pair (.int .i64) (.pair (.int .i64) (.pair (.int .i64) (.pair (.int .i64) .unit))))) (.pair (.sl (.pair (.int .i64) (.pair (.int .i64) (.pair (.int .i64) (.pair (.int .i64) .unit))))) .unit))))) x0), (1, .data (.pair (.int .i64) (.pair (.int .i64) (.pair (.int .i64) (.pair (.int .i64) .unit)))) x1)] []
def St1 (x5 : Int) (x11 : List (Int × Int × Int × Int × Unit)) (x12 : Int) (x13 : Int) (c2 : List Int × List Int × Int × List (Int × Int × Int × Int × Unit) × List (Int × Int × Int × Int × Unit) × Unit) (c3 : Int × Int × Int × Int × Unit) : St := stL 58 [(2, .ref 2 0 []), (3, .ref 3 0 []), (5, .data (.int .i64) x5), (11, .data (.sl (.pair (.int .i64) (.pair (.int .i64) (.pair (.int .i64) (.pair (.int .i64) .unit))))) x11), (12, .data (.int .i64) x12), (13, .data (.int .i64) x13)] [(2, .cell (.pair (.arr 3 (.int .i64)) (.pair (.arr 3 (.int .i64)) (.pair (.int .i64) (.pair (.sl (.pair (.int .i64) (.pair (.int .i64) (.pair (.int .i64) (.pair (.int .i64) .unit))))) (.pair (.sl (.pair (.int .i64) (.pair (.int .i64) (.pair (.int .i64) (.pair (.int .i64) .unit))))) .unit))))) (.data (.pair (.arr 3 (.int .i64)) (.pair (.arr 3 (.int .i64)) (.pair (.int .i64) (.pair (.sl (.pair (.int .i64) (.pair (.int .i64) (.pair (.int .i64) (.pair (.int .i64) .unit))))) (.pair (.sl (.pair (.int .i64) (.pair (.int .i64) (.pair (.int .i64) (.pair (.int .i64) .unit))))) .unit))))) c2) false), (3, .cell (.pair (.int .i64) (.pair (.int .i64) (.pair (.int .i64) (.pair (.int .i64) .unit)))) (.data (.pair (.int .i64) (.pair (.int .i64) (.pair (.int .i64) (.pair (.int .i64) .unit)))) c3) false)]
noncomputable def cd0 : Code := cL (cL (cR (cL (cR (cR (cB Try.f64))))))
def St2 (x5 : Int) (x11 : List (Int × Int × Int × Int × Unit)) (x12 : Int) (x13 : Int) (c2 : List Int × List Int × Int × List (Int × Int × Int × Int × Unit) × List (Int × Int × Int × Int × Unit) × Unit) (c3 : Int × Int × Int × Int × Unit) : St := stL 58 [(2, .ref 2 0 []), (3, .ref 3 0 []), (5, .data (.int .i64) x5), (11, .data (.sl (.pair (.int .i64) (.pair (.int .i64) (.pair (.int .i64) (.pair (.int .i64) .unit))))) x11), (12, .data (.int .i64) x12), (13, .data (.int .i64) x13)] [(2, .cell (.pair (.arr 3 (.int .i64)) (.pair (.arr 3 (.int .i64)) (.pair (.int .i64) (.pair (.sl (.pair (.int .i64) (.pair (.int .i64) (.pair (.int .i64) (.pair (.int .i64) .unit))))) (.pair (.sl (.pair (.int .i64) (.pair (.int .i64) (.pair (.int .i64) (.pair (.int .i64) .unit))))) .unit))))) (.data (.pair (.arr 3 (.int .i64)) (.pair (.arr 3 (.int .i64)) (.pair (.int .i64) (.pair (.sl (.pair (.int .i64) (.pair (.int .i64) (.pair (.int .i64) (.pair (.int .i64) .unit))))) (.pair (.sl (.pair (.int .i64) (.pair (.int .i64) (.pair (.int .i64) (.pair (.int .i64) .unit))))) .unit))))) c2) false), (3, .cell (.pair (.int .i64) (.pair (.int .i64) (.pair (.int .i64) (.pair (.int .i64) .unit)))) (.data (.pair (.int .i64) (.pair (.int .i64) (.pair (.int .i64) (.pair (.int .i64) .unit)))) c3) false)]
noncomputable def cd1 : Code := cR (cR (cR (cL (cL (cR (cL (cR (cR (cB Try.f64)))))))))
def j0 {α : Type} (Nx : Int → (List (Int × Int × Int × Int × Unit)) → Int → Int → (List Int × List Int × Int × List (Int × Int × Int × Int × Unit) × List (Int × Int × Int × Int × Unit) × Unit) → (Int × Int × Int × Int × Unit) → Option α) (x5 : Int) (x11 : List (Int × Int × Int × Int × Unit)) (x12 : Int) (x13 : Int) (c2 : List Int × List Int × Int × List (Int × Int × Int × Int × Unit) × List (Int × Int × Int × Int × Unit) × Unit) (c3 : Int × Int × Int × Int × Unit) : Option α :=
  Nx x5 x11 x12 (IntKind.i64.wrap (x13 + 1)) c2 c3
theorem j0_eq {α : Type} (k : Nat) (next : St → Option α) (Q : Ex → St → Option α) (x5 : Int) (x11 : List (Int × Int × Int × Int × Unit)) (x12 : Int) (x13 : Int) (c2 : List Int × List Int × Int × List (Int × Int × Int × Int × Unit) × List (Int × Int × Int × Int × Unit) × Unit) (c3 : Int × Int × Int × Int × Unit) :
    (den C k) cd1 (lq C 9 next Q) (St2 x5 x11 x12 x13 c2 c3) = j0 (fun (x5 : Int) (x11 : List (Int × Int × Int × Int × Unit)) (x12 : Int) (x13 : Int) (c2 : List Int × List Int × Int × List (Int × Int × Int × Int × Unit) × List (Int × Int × Int × Int × Unit) × Unit) (c3 : Int × Int × Int × Int × Unit) => next (St1 x5 x11 x12 x13 c2 c3)) x5 x11 x12 x13 c2 c3 := by
  have h : ∀ (D L : DT α), denJ D L Js C cd1 (lq C 9 next Q) (St2 x5 x11 x12 x13 c2 c3) =
        next (St1 x5 x11 x12 (IntKind.i64.wrap (x13 + 1)) c2 c3) := by
    intro D L; kernel_rfl
  refine (show (den C k) cd1 (lq C 9 next Q) (St2 x5 x11 x12 x13 c2 c3) = denJ (den C k) (lp C k) Js C cd1 (lq C 9 next Q) (St2 x5 x11 x12 x13 c2 c3) from (denJ_den _ _ _ _ _ _).symm).trans ((h (den C k) (lp C k)).trans ?_)
  first | rfl | kernel_rfl
def St3 (x5 : Int) (c2 : List Int × List Int × Int × List (Int × Int × Int × Int × Unit) × List (Int × Int × Int × Int × Unit) × Unit) (c3 : Int × Int × Int × Int × Unit) : St := stL 58 [(2, .ref 2 0 []), (3, .ref 3 0 []), (5, .data (.int .i64) x5)] [(2, .cell (.pair (.arr 3 (.int .i64)) (.pair (.arr 3 (.int .i64)) (.pair (.int .i64) (.pair (.sl (.pair (.int .i64) (.pair (.int .i64) (.pair (.int .i64) (.pair (.int .i64) .unit))))) (.pair (.sl (.pair (.int .i64) (.pair (.int .i64) (.pair (.int .i64) (.pair (.int .i64) .unit))))) .unit))))) (.data (.pair (.arr 3 (.int .i64)) (.pair (.arr 3 (.int .i64)) (.pair (.int .i64) (.pair (.sl (.pair (.int .i64) (.pair (.int .i64) (.pair (.int .i64) (.pair (.int .i64) .unit))))) (.pair (.sl (.pair (.int .i64) (.pair (.int .i64) (.pair (.int .i64) (.pair (.int .i64) .unit))))) .unit))))) c2) false), (3, .cell (.pair (.int .i64) (.pair (.int .i64) (.pair (.int .i64) (.pair (.int .i64) .unit)))) (.data (.pair (.int .i64) (.pair (.int .i64) (.pair (.int .i64) (.pair (.int .i64) .unit)))) c3) false)]
def l0s {α : Type} (Nx : Int → (List (Int × Int × Int × Int × Unit)) → Int → Int → (List Int × List Int × Int × List (Int × Int × Int × Int × Unit) × List (Int × Int × Int × Int × Unit) × Unit) → (Int × Int × Int × Int × Unit) → Option α) (Xt0 : Int → (List Int × List Int × Int × List (Int × Int × Int × Int × Unit) × List (Int × Int × Int × Int × Unit) × Unit) → (Int × Int × Int × Int × Unit) → Option α) (x5 : Int) (x11 : List (Int × Int × Int × Int × Unit)) (x12 : Int) (x13 : Int) (c2 : List Int × List Int × Int × List (Int × Int × Int × Int × Unit) × List (Int × Int × Int × Int × Unit) × Unit) (c3 : Int × Int × Int × Int × Unit) : Option α :=
  if (decide (x13 < x12)) = true then
    if 0 ≤ x13 ∧ x13 < (x11.length : Int) then
      if (cond ((List.getD x11 (Int.toNat x13) (0, 0, 0, 0, ())).2.2.1 == c3.2.2.1) (decide ((IntKind.i64.wrap ((List.getD x11 (Int.toNat x13) (0, 0, 0, 0, ())).2.2.2.1 + 24)) > c2.2.2.1)) false) = true then
        j0 Nx (IntKind.i64.wrap (x5 + (List.getD x11 (Int.toNat x13) (0, 0, 0, 0, ())).2.1)) x11 x12 x13 c2 c3
      else
        j0 Nx x5 x11 x12 x13 c2 c3
    else none
  else
    Xt0 x5 c2 c3
theorem l0s_eq {α : Type} (k : Nat) (next : St → Option α) (Q : Ex → St → Option α) (x5 : Int) (x11 : List (Int × Int × Int × Int × Unit)) (x12 : Int) (x13 : Int) (c2 : List Int × List Int × Int × List (Int × Int × Int × Int × Unit) × List (Int × Int × Int × Int × Unit) × Unit) (c3 : Int × Int × Int × Int × Unit) :
    rnd C k cd0 9 Q next (St1 x5 x11 x12 x13 c2 c3) = l0s (fun (x5 : Int) (x11 : List (Int × Int × Int × Int × Unit)) (x12 : Int) (x13 : Int) (c2 : List Int × List Int × Int × List (Int × Int × Int × Int × Unit) × List (Int × Int × Int × Int × Unit) × Unit) (c3 : Int × Int × Int × Int × Unit) => next (St1 x5 x11 x12 x13 c2 c3)) (fun (x5 : Int) (c2 : List Int × List Int × Int × List (Int × Int × Int × Int × Unit) × List (Int × Int × Int × Int × Unit) × Unit) (c3 : Int × Int × Int × Int × Unit) => Q (.exit 0) (St3 x5 c2 c3)) x5 x11 x12 x13 c2 c3 := by
  have h : ∀ (D L : DT α), denJ D L Js C cd0 (lq C 9 next Q) (St1 x5 x11 x12 x13 c2 c3) =
        if (decide (x13 < x12)) = true then
          if 0 ≤ x13 ∧ x13 < (x11.length : Int) then
            if (cond ((List.getD x11 (Int.toNat x13) (0, 0, 0, 0, ())).2.2.1 == c3.2.2.1) (decide ((IntKind.i64.wrap ((List.getD x11 (Int.toNat x13) (0, 0, 0, 0, ())).2.2.2.1 + 24)) > c2.2.2.1)) false) = true then
              D cd1 (lq C 9 next Q) (St2 (IntKind.i64.wrap (x5 + (List.getD x11 (Int.toNat x13) (0, 0, 0, 0, ())).2.1)) x11 x12 x13 c2 c3)
            else
              D cd1 (lq C 9 next Q) (St2 x5 x11 x12 x13 c2 c3)
          else none
        else
          Q (.exit 0) (St3 x5 c2 c3) := by
    intro D L; kernel_rfl
  refine (show rnd C k cd0 9 Q next (St1 x5 x11 x12 x13 c2 c3) = denJ (den C k) (lp C k) Js C cd0 (lq C 9 next Q) (St1 x5 x11 x12 x13 c2 c3) from (denJ_den _ _ _ _ _ _).symm).trans ((h (den C k) (lp C k)).trans ?_)
  simp only [j0_eq]
  first | rfl | kernel_rfl
def l0 {α : Type} (k : Nat) (Xt0 : Int → (List Int × List Int × Int × List (Int × Int × Int × Int × Unit) × List (Int × Int × Int × Int × Unit) × Unit) → (Int × Int × Int × Int × Unit) → Option α) : Nat → Int → (List (Int × Int × Int × Int × Unit)) → Int → Int → (List Int × List Int × Int × List (Int × Int × Int × Int × Unit) × List (Int × Int × Int × Int × Unit) × Unit) → (Int × Int × Int × Int × Unit) → Option α
  | 0, _, _, _, _, _, _ => none
  | n + 1, x5, x11, x12, x13, c2, c3 => l0s (l0 k Xt0 n) Xt0 x5 x11 x12 x13 c2 c3
theorem l0_eq {α : Type} (k : Nat) (Q : Ex → St → Option α) : ∀ (n : Nat) (x5 : Int) (x11 : List (Int × Int × Int × Int × Unit)) (x12 : Int) (x13 : Int) (c2 : List Int × List Int × Int × List (Int × Int × Int × Int × Unit) × List (Int × Int × Int × Int × Unit) × Unit) (c3 : Int × Int × Int × Int × Unit), iter (rnd C k cd0 9 Q) n (St1 x5 x11 x12 x13 c2 c3) = l0 k (fun (x5 : Int) (c2 : List Int × List Int × Int × List (Int × Int × Int × Int × Unit) × List (Int × Int × Int × Int × Unit) × Unit) (c3 : Int × Int × Int × Int × Unit) => Q (.exit 0) (St3 x5 c2 c3)) n x5 x11 x12 x13 c2 c3
  | 0, _, _, _, _, _, _ => rfl
  | n + 1, x5, x11, x12, x13, c2, c3 => (iter_succ _ _ _).trans ((l0s_eq k (iter (rnd C k cd0 9 Q) n) Q x5 x11 x12 x13 c2 c3).trans (congrArg (fun N => l0s N (fun (x5 : Int) (c2 : List Int × List Int × Int × List (Int × Int × Int × Int × Unit) × List (Int × Int × Int × Int × Unit) × Unit) (c3 : Int × Int × Int × Int × Unit) => Q (.exit 0) (St3 x5 c2 c3)) x5 x11 x12 x13 c2 c3) (funext fun x5 => funext fun x11 => funext fun x12 => funext fun x13 => funext fun c2 => funext fun c3 => l0_eq k Q n x5 x11 x12 x13 c2 c3)))
theorem l0_congr {α : Type} (k : Nat) (Xt0 : Int → (List Int × List Int × Int × List (Int × Int × Int × Int × Unit) × List (Int × Int × Int × Int × Unit) × Unit) → (Int × Int × Int × Int × Unit) → Option α) (Xt0q : Int → (List Int × List Int × Int × List (Int × Int × Int × Int × Unit) × List (Int × Int × Int × Int × Unit) × Unit) → (Int × Int × Int × Int × Unit) → Option α) (hXt0 : ∀ (x5 : Int) (c2 : List Int × List Int × Int × List (Int × Int × Int × Int × Unit) × List (Int × Int × Int × Int × Unit) × Unit) (c3 : Int × Int × Int × Int × Unit), Xt0 x5 c2 c3 = Xt0q x5 c2 c3) (n : Nat) (x5 : Int) (x11 : List (Int × Int × Int × Int × Unit)) (x12 : Int) (x13 : Int) (c2 : List Int × List Int × Int × List (Int × Int × Int × Int × Unit) × List (Int × Int × Int × Int × Unit) × Unit) (c3 : Int × Int × Int × Int × Unit) : l0 k Xt0 n x5 x11 x12 x13 c2 c3 = l0 k Xt0q n x5 x11 x12 x13 c2 c3 := by
  obtain rfl : Xt0 = Xt0q := by funext x5; funext c2; funext c3; exact hXt0 x5 c2 c3
  rfl
noncomputable def cd2 : Code := cR (cR (cR (cB Try.f64)))
def St4 (x5 : Int) (c2 : List Int × List Int × Int × List (Int × Int × Int × Int × Unit) × List (Int × Int × Int × Int × Unit) × Unit) (c3 : Int × Int × Int × Int × Unit) : St := stL 58 [(2, .ref 2 0 []), (3, .ref 3 0 []), (5, .data (.int .i64) x5)] [(2, .cell (.pair (.arr 3 (.int .i64)) (.pair (.arr 3 (.int .i64)) (.pair (.int .i64) (.pair (.sl (.pair (.int .i64) (.pair (.int .i64) (.pair (.int .i64) (.pair (.int .i64) .unit))))) (.pair (.sl (.pair (.int .i64) (.pair (.int .i64) (.pair (.int .i64) (.pair (.int .i64) .unit))))) .unit))))) (.data (.pair (.arr 3 (.int .i64)) (.pair (.arr 3 (.int .i64)) (.pair (.int .i64) (.pair (.sl (.pair (.int .i64) (.pair (.int .i64) (.pair (.int .i64) (.pair (.int .i64) .unit))))) (.pair (.sl (.pair (.int .i64) (.pair (.int .i64) (.pair (.int .i64) (.pair (.int .i64) .unit))))) .unit))))) c2) false), (3, .cell (.pair (.int .i64) (.pair (.int .i64) (.pair (.int .i64) (.pair (.int .i64) .unit)))) (.data (.pair (.int .i64) (.pair (.int .i64) (.pair (.int .i64) (.pair (.int .i64) .unit)))) c3) false)]
def St5 (x4 : Bool) : St := stL 58 [(4, .data .bool x4)] []
def j1 {α : Type} (Rt : Bool → Option α) (x5 : Int) (c2 : List Int × List Int × Int × List (Int × Int × Int × Int × Unit) × List (Int × Int × Int × Int × Unit) × Unit) (c3 : Int × Int × Int × Int × Unit) : Option α :=
  if 0 ≤ c3.2.2.1 ∧ c3.2.2.1 < (3 : Int) then
    cond (decide (0 ≤ c3.2.2.1 ∧ c3.2.2.1 < (3 : Int)) || !((decide (c3.2.1 < (List.getD c2.2.1 (Int.toNat c3.2.2.1) 0))) == true)) (
      Rt (cond (cond (decide (c3.2.1 < (List.getD c2.2.1 (Int.toNat c3.2.2.1) 0))) (decide (x5 ≤ (List.getD c2.1 (Int.toNat c3.2.2.1) 0))) false) (decide ((c2.2.2.2.1.length : Int) < 40)) false)) none
  else none
theorem j1_eq {α : Type} (k : Nat) (Q : Ex → St → Option α) (x5 : Int) (c2 : List Int × List Int × Int × List (Int × Int × Int × Int × Unit) × List (Int × Int × Int × Int × Unit) × Unit) (c3 : Int × Int × Int × Int × Unit) :
    (den C k) cd2 Q (St4 x5 c2 c3) = j1 (fun (x4 : Bool) => Q .ret (St5 x4)) x5 c2 c3 := by
  have h : ∀ (D L : DT α), denJ D L Js C cd2 Q (St4 x5 c2 c3) =
        if 0 ≤ c3.2.2.1 ∧ c3.2.2.1 < (3 : Int) then
          cond (decide (0 ≤ c3.2.2.1 ∧ c3.2.2.1 < (3 : Int)) || !((decide (c3.2.1 < (List.getD c2.2.1 (Int.toNat c3.2.2.1) 0))) == true)) (
            Q .ret (St5 (cond (cond (decide (c3.2.1 < (List.getD c2.2.1 (Int.toNat c3.2.2.1) 0))) (decide (x5 ≤ (List.getD c2.1 (Int.toNat c3.2.2.1) 0))) false) (decide ((c2.2.2.2.1.length : Int) < 40)) false))) none
        else none := by
    intro D L; kernel_rfl
  refine (show (den C k) cd2 Q (St4 x5 c2 c3) = denJ (den C k) (lp C k) Js C cd2 Q (St4 x5 c2 c3) from (denJ_den _ _ _ _ _ _).symm).trans ((h (den C k) (lp C k)).trans ?_)
  first | rfl | kernel_rfl
theorem a0 {α : Type} (k : Nat) (Q : Ex → St → Option α) (x5 : Int) (x11 : List (Int × Int × Int × Int × Unit)) (x12 : Int) (x13 : Int) (c2 : List Int × List Int × Int × List (Int × Int × Int × Int × Unit) × List (Int × Int × Int × Int × Unit) × Unit) (c3 : Int × Int × Int × Int × Unit) :
    (lp C k) cd0 (blkQ C 0 (sq (den C k) (lp C k) Js C cd2 Q)) (St1 x5 x11 x12 x13 c2 c3) = l0 k (fun (x5 : Int) (c2 : List Int × List Int × Int × List (Int × Int × Int × Int × Unit) × List (Int × Int × Int × Int × Unit) × Unit) (c3 : Int × Int × Int × Int × Unit) => j1 (fun (x4 : Bool) => Q .ret (St5 x4)) x5 c2 c3) k x5 x11 x12 x13 c2 c3 :=
  (show (lp C k) cd0 (blkQ C 0 (sq (den C k) (lp C k) Js C cd2 Q)) (St1 x5 x11 x12 x13 c2 c3) = iter (rnd C k cd0 9 (blkQ C 0 (sq (den C k) (lp C k) Js C cd2 Q))) k (St1 x5 x11 x12 x13 c2 c3) by kernel_rfl).trans ((l0_eq k (blkQ C 0 (sq (den C k) (lp C k) Js C cd2 Q)) k x5 x11 x12 x13 c2 c3).trans (l0_congr k _ _ (fun x5 c2 c3 => ((show (blkQ C 0 (sq (den C k) (lp C k) Js C cd2 Q)) (.exit 0) (St3 x5 c2 c3) = (den C k) cd2 Q (St4 x5 c2 c3) by kernel_rfl).trans (by simp only [j1_eq]))) k x5 x11 x12 x13 c2 c3))
def top {α : Type} (k : Nat) (Rt : Bool → Option α) (x0 : List Int × List Int × Int × List (Int × Int × Int × Int × Unit) × List (Int × Int × Int × Int × Unit) × Unit) (x1 : Int × Int × Int × Int × Unit) : Option α :=
  l0 k (fun (x5 : Int) (c2 : List Int × List Int × Int × List (Int × Int × Int × Int × Unit) × List (Int × Int × Int × Int × Unit) × Unit) (c3 : Int × Int × Int × Int × Unit) => j1 Rt x5 c2 c3) k x1.2.1 x0.2.2.2.1 (x0.2.2.2.1.length : Int) 0 x0 x1
theorem top_eq {α : Type} (k : Nat) (Q : Ex → St → Option α) (x0 : List Int × List Int × Int × List (Int × Int × Int × Int × Unit) × List (Int × Int × Int × Int × Unit) × Unit) (x1 : Int × Int × Int × Int × Unit) :
    (den C k) (cB Try.f64) Q (St0 x0 x1) = top k (fun (x4 : Bool) => Q .ret (St5 x4)) x0 x1 := by
  have h : ∀ (D L : DT α), denJ D L Js C (cB Try.f64) Q (St0 x0 x1) =
        L cd0 (blkQ C 0 (sq D L Js C cd2 Q)) (St1 x1.2.1 x0.2.2.2.1 (x0.2.2.2.1.length : Int) 0 x0 x1) := by
    intro D L; kernel_rfl
  refine (show (den C k) (cB Try.f64) Q (St0 x0 x1) = denJ (den C k) (lp C k) Js C (cB Try.f64) Q (St0 x0 x1) from (denJ_den _ _ _ _ _ _).symm).trans ((h (den C k) (lp C k)).trans ?_)
  simp only [a0]
  first | rfl | kernel_rfl
def run (x0 : List Int × List Int × Int × List (Int × Int × Int × Int × Unit) × List (Int × Int × Int × Int × Unit) × Unit) (x1 : Int × Int × Int × Int × Unit) : Option (Bool) := top (α := Bool) fuel (fun (x4 : Bool) => some x4) x0 x1
def F : Fn := ⟨(.pair (.pair (.arr 3 (.int .i64)) (.pair (.arr 3 (.int .i64)) (.pair (.int .i64) (.pair (.sl (.pair (.int .i64) (.pair (.int .i64) (.pair (.int .i64) (.pair (.int .i64) .unit))))) (.pair (.sl (.pair (.int .i64) (.pair (.int .i64) (.pair (.int .i64) (.pair (.int .i64) .unit))))) .unit))))) (.pair (.pair (.int .i64) (.pair (.int .i64) (.pair (.int .i64) (.pair (.int .i64) .unit)))) .unit)), .bool, false, fun x => run x.1 x.2.1⟩
set_option maxRecDepth 100000 in
theorem con : Con Try.prog 64 F := by
  refine con_of_den (C := C) (ctx_ok (by kernel_rfl) (by kernel_rfl) (by kernel_rfl) (by kernel_rfl) trivial) (by kernel_rfl) Try.func64 (c := cB Try.f64) (by kernel_rfl) (by kernel_rfl) F fuel (fun x => by simp [F, spread, Try.ntmps64]) ?_
  intro x r h
  rw [← h]
  have h1 : start F Try.f64.ntmps x = (St0 x.1 x.2.1) := by kernel_rfl
  rw [h1]
  refine (top_eq fuel (fin C Try.f64.results.toList F.rs F.multi) x.1 x.2.1).trans ?_
  kernel_rfl
theorem named : Named Try.prog 64 := named_of Try.func64 (by kernel_rfl) (by kernel_rfl)
end Go.Bx.basculeref_passes
namespace Go.Bx.basculelaw_sameQueue
open Go Go.Proofs Go.Bx
set_option maxRecDepth 100000
set_option linter.unusedVariables false
def Js : List Nat := [10]
def C : Ctx := ⟨[(4, .bool), (40, (.sl (.pair (.int .i64) (.pair (.int .i64) (.pair (.int .i64) (.pair (.int .i64) .unit)))))), (103, (.pair (.int .i64) (.pair (.int .i64) (.pair (.int .i64) (.pair (.int .i64) .unit)))))], [], [], fnL [], noSh, [], invL [], [(2, [4]), (1, []), (4, [0, 1, 12, 13]), (12, [0, 1, 12, 13]), (27, [])], [], [], 0, 0⟩
def St0 (x0 : List (Int × Int × Int × Int × Unit)) (x1 : List (Int × Int × Int × Int × Unit)) : St := stL 26 [(0, .data (.sl (.pair (.int .i64) (.pair (.int .i64) (.pair (.int .i64) (.pair (.int .i64) .unit))))) x0), (1, .data (.sl (.pair (.int .i64) (.pair (.int .i64) (.pair (.int .i64) (.pair (.int .i64) .unit))))) x1)] []
def St1 (x4 : Bool) : St := stL 26 [(4, .data .bool x4)] []
def St2 (x0 : List (Int × Int × Int × Int × Unit)) (x1 : List (Int × Int × Int × Int × Unit)) (x12 : Int) (x13 : Int) : St := stL 26 [(0, .data (.sl (.pair (.int .i64) (.pair (.int .i64) (.pair (.int .i64) (.pair (.int .i64) .unit))))) x0), (1, .data (.sl (.pair (.int .i64) (.pair (.int .i64) (.pair (.int .i64) (.pair (.int .i64) .unit))))) x1), (12, .data (.int .i64) x12), (13, .data (.int .i64) x13)] []
noncomputable def cd0 : Code := cL (cL (cR (cL (cR (cR (cB Try.f65))))))
def St3 : St := stL 26 [] []
def l0s {α : Type} (Nx : (List (Int × Int × Int × Int × Unit)) → (List (Int × Int × Int × Int × Unit)) → Int → Int → Option α) (Rt : Bool → Option α) (Xt0 : Option α) (x0 : List (Int × Int × Int × Int × Unit)) (x1 : List (Int × Int × Int × Int × Unit)) (x12 : Int) (x13 : Int) : Option α :=
  if (decide (x13 < x12)) = true then
    if 0 ≤ x13 ∧ x13 < (x0.length : Int) then
      if 0 ≤ x13 ∧ x13 < (x1.length : Int) then
        if (not (beqD (.pair (.int .i64) (.pair (.int .i64) (.pair (.int .i64) (.pair (.int .i64) .unit)))) (List.getD x0 (Int.toNat x13) (0, 0, 0, 0, ())) (List.getD x1 (Int.toNat x13) (0, 0, 0, 0, ())))) = true then
          Rt false
        else
          Nx x0 x1 x12 (IntKind.i64.wrap (x13 + 1))
      else none
    else none
  else
    Xt0
theorem l0s_eq {α : Type} (k : Nat) (next : St → Option α) (Q : Ex → St → Option α) (x0 : List (Int × Int × Int × Int × Unit)) (x1 : List (Int × Int × Int × Int × Unit)) (x12 : Int) (x13 : Int) :
    rnd C k cd0 12 Q next (St2 x0 x1 x12 x13) = l0s (fun (x0 : List (Int × Int × Int × Int × Unit)) (x1 : List (Int × Int × Int × Int × Unit)) (x12 : Int) (x13 : Int) => next (St2 x0 x1 x12 x13)) (fun (x4 : Bool) => Q .ret (St1 x4)) (Q (.exit 0) St3) x0 x1 x12 x13 := by
  have h : ∀ (D L : DT α), denJ D L Js C cd0 (lq C 12 next Q) (St2 x0 x1 x12 x13) =
        if (decide (x13 < x12)) = true then
          if 0 ≤ x13 ∧ x13 < (x0.length : Int) then
            if 0 ≤ x13 ∧ x13 < (x1.length : Int) then
              if (not (beqD (.pair (.int .i64) (.pair (.int .i64) (.pair (.int .i64) (.pair (.int .i64) .unit)))) (List.getD x0 (Int.toNat x13) (0, 0, 0, 0, ())) (List.getD x1 (Int.toNat x13) (0, 0, 0, 0, ())))) = true then
                Q .ret (St1 false)
              else
                next (St2 x0 x1 x12 (IntKind.i64.wrap (x13 + 1)))
            else none
          else none
        else
          Q (.exit 0) St3 := by
    intro D L; kernel_rfl
  refine (show rnd C k cd0 12 Q next (St2 x0 x1 x12 x13) = denJ (den C k) (lp C k) Js C cd0 (lq C 12 next Q) (St2 x0 x1 x12 x13) from (denJ_den _ _ _ _ _ _).symm).trans ((h (den C k) (lp C k)).trans ?_)
  first | rfl | kernel_rfl
def l0 {α : Type} (k : Nat) (Rt : Bool → Option α) (Xt0 : Option α) : Nat → (List (Int × Int × Int × Int × Unit)) → (List (Int × Int × Int × Int × Unit)) → Int → Int → Option α
  | 0, _, _, _, _ => none
  | n + 1, x0, x1, x12, x13 => l0s (l0 k Rt Xt0 n) Rt Xt0 x0 x1 x12 x13
theorem l0_eq {α : Type} (k : Nat) (Q : Ex → St → Option α) : ∀ (n : Nat) (x0 : List (Int × Int × Int × Int × Unit)) (x1 : List (Int × Int × Int × Int × Unit)) (x12 : Int) (x13 : Int), iter (rnd C k cd0 12 Q) n (St2 x0 x1 x12 x13) = l0 k (fun (x4 : Bool) => Q .ret (St1 x4)) (Q (.exit 0) St3) n x0 x1 x12 x13
  | 0, _, _, _, _ => rfl
  | n + 1, x0, x1, x12, x13 => (iter_succ _ _ _).trans ((l0s_eq k (iter (rnd C k cd0 12 Q) n) Q x0 x1 x12 x13).trans (congrArg (fun N => l0s N (fun (x4 : Bool) => Q .ret (St1 x4)) (Q (.exit 0) St3) x0 x1 x12 x13) (funext fun x0 => funext fun x1 => funext fun x12 => funext fun x13 => l0_eq k Q n x0 x1 x12 x13)))
theorem l0_congr {α : Type} (k : Nat) (Rt : Bool → Option α) (Xt0 : Option α) (Rtq : Bool → Option α) (Xt0q : Option α) (hRt : ∀ (x4 : Bool), Rt x4 = Rtq x4) (hXt0 : Xt0 = Xt0q) (n : Nat) (x0 : List (Int × Int × Int × Int × Unit)) (x1 : List (Int × Int × Int × Int × Unit)) (x12 : Int) (x13 : Int) : l0 k Rt Xt0 n x0 x1 x12 x13 = l0 k Rtq Xt0q n x0 x1 x12 x13 := by
  obtain rfl : Rt = Rtq := by funext x4; exact hRt x4
  obtain rfl : Xt0 = Xt0q := hXt0
  rfl
noncomputable def cd1 : Code := cR (cR (cR (cB Try.f65)))
def St4 : St := stL 26 [] []
def j0 {α : Type} (Rt : Bool → Option α) : Option α :=
  Rt true
theorem j0_eq {α : Type} (k : Nat) (Q : Ex → St → Option α) :
    (den C k) cd1 Q St4 = j0 (fun (x4 : Bool) => Q .ret (St1 x4)) := by
  have h : ∀ (D L : DT α), denJ D L Js C cd1 Q St4 =
        Q .ret (St1 true) := by
    intro D L; kernel_rfl
  refine (show (den C k) cd1 Q St4 = denJ (den C k) (lp C k) Js C cd1 Q St4 from (denJ_den _ _ _ _ _ _).symm).trans ((h (den C k) (lp C k)).trans ?_)
  first | rfl | kernel_rfl
theorem a0 {α : Type} (k : Nat) (Q : Ex → St → Option α) (x0 : List (Int × Int × Int × Int × Unit)) (x1 : List (Int × Int × Int × Int × Unit)) (x12 : Int) (x13 : Int) :
    (lp C k) cd0 (blkQ C 0 (sq (den C k) (lp C k) Js C cd1 Q)) (St2 x0 x1 x12 x13) = l0 k (fun (x4 : Bool) => (fun (x4 : Bool) => Q .ret (St1 x4)) x4) (j0 (fun (x4 : Bool) => Q .ret (St1 x4))) k x0 x1 x12 x13 :=
  (show (lp C k) cd0 (blkQ C 0 (sq (den C k) (lp C k) Js C cd1 Q)) (St2 x0 x1 x12 x13) = iter (rnd C k cd0 12 (blkQ C 0 (sq (den C k) (lp C k) Js C cd1 Q))) k (St2 x0 x1 x12 x13) by kernel_rfl).trans ((l0_eq k (blkQ C 0 (sq (den C k) (lp C k) Js C cd1 Q)) k x0 x1 x12 x13).trans (l0_congr k _ _ _ _ (fun x4 => (show (blkQ C 0 (sq (den C k) (lp C k) Js C cd1 Q)) .ret (St1 x4) = Q .ret (St1 x4) by kernel_rfl)) ((show (blkQ C 0 (sq (den C k) (lp C k) Js C cd1 Q)) (.exit 0) St3 = (den C k) cd1 Q St4 by kernel_rfl).trans (by simp only [j0_eq])) k x0 x1 x12 x13))
def top {α : Type} (k : Nat) (Rt : Bool → Option α) (x0 : List (Int × Int × Int × Int × Unit)) (x1 : List (Int × Int × Int × Int × Unit)) : Option α :=
  if ((x0.length : Int) != (x1.length : Int)) = true then
    Rt false
  else
    l0 k (fun (x4 : Bool) => Rt x4) (j0 Rt) k x0 x1 (x0.length : Int) 0
theorem top_eq {α : Type} (k : Nat) (Q : Ex → St → Option α) (x0 : List (Int × Int × Int × Int × Unit)) (x1 : List (Int × Int × Int × Int × Unit)) :
    (den C k) (cB Try.f65) Q (St0 x0 x1) = top k (fun (x4 : Bool) => Q .ret (St1 x4)) x0 x1 := by
  have h : ∀ (D L : DT α), denJ D L Js C (cB Try.f65) Q (St0 x0 x1) =
        if ((x0.length : Int) != (x1.length : Int)) = true then
          Q .ret (St1 false)
        else
          L cd0 (blkQ C 0 (sq D L Js C cd1 Q)) (St2 x0 x1 (x0.length : Int) 0) := by
    intro D L; kernel_rfl
  refine (show (den C k) (cB Try.f65) Q (St0 x0 x1) = denJ (den C k) (lp C k) Js C (cB Try.f65) Q (St0 x0 x1) from (denJ_den _ _ _ _ _ _).symm).trans ((h (den C k) (lp C k)).trans ?_)
  simp only [a0]
  first | rfl | kernel_rfl
def run (x0 : List (Int × Int × Int × Int × Unit)) (x1 : List (Int × Int × Int × Int × Unit)) : Option (Bool) := top (α := Bool) fuel (fun (x4 : Bool) => some x4) x0 x1
def F : Fn := ⟨(.pair (.sl (.pair (.int .i64) (.pair (.int .i64) (.pair (.int .i64) (.pair (.int .i64) .unit))))) (.pair (.sl (.pair (.int .i64) (.pair (.int .i64) (.pair (.int .i64) (.pair (.int .i64) .unit))))) .unit)), .bool, false, fun x => run x.1 x.2.1⟩
set_option maxRecDepth 100000 in
theorem con : Con Try.prog 65 F := by
  refine con_of_den (C := C) (ctx_ok (by kernel_rfl) (by kernel_rfl) (by kernel_rfl) (by kernel_rfl) trivial) (by kernel_rfl) Try.func65 (c := cB Try.f65) (by kernel_rfl) (by kernel_rfl) F fuel (fun x => by simp [F, spread, Try.ntmps65]) ?_
  intro x r h
  rw [← h]
  have h1 : start F Try.f65.ntmps x = (St0 x.1 x.2.1) := by kernel_rfl
  rw [h1]
  refine (top_eq fuel (fin C Try.f65.results.toList F.rs F.multi) x.1 x.2.1).trans ?_
  kernel_rfl
theorem named : Named Try.prog 65 := named_of Try.func65 (by kernel_rfl) (by kernel_rfl)
end Go.Bx.basculelaw_sameQueue
namespace Go.Bx.basculelaw_sameGate
open Go Go.Proofs Go.Bx
set_option maxRecDepth 100000
set_option linter.unusedVariables false
def Js : List Nat := []
def C : Ctx := ⟨[(3, (.int .i64)), (4, .bool), (39, (.arr 3 (.int .i64))), (40, (.sl (.pair (.int .i64) (.pair (.int .i64) (.pair (.int .i64) (.pair (.int .i64) .unit)))))), (42, (.pair (.arr 3 (.int .i64)) (.pair (.arr 3 (.int .i64)) (.pair (.int .i64) (.pair (.sl (.pair (.int .i64) (.pair (.int .i64) (.pair (.int .i64) (.pair (.int .i64) .unit))))) (.pair (.sl (.pair (.int .i64) (.pair (.int .i64) (.pair (.int .i64) (.pair (.int .i64) .unit))))) .unit))))))], [], [], fnL [(65, Go.Bx.basculelaw_sameQueue.F)], noSh, [], invL [], [(2, [4])], [], [], 0, 0⟩
def St0 (x0 : List Int × List Int × Int × List (Int × Int × Int × Int × Unit) × List (Int × Int × Int × Int × Unit) × Unit) (x1 : List Int × List Int × Int × List (Int × Int × Int × Int × Unit) × List (Int × Int × Int × Int × Unit) × Unit) : St := stL 38 [(0, .data (.pair (.arr 3 (.int .i64)) (.pair (.arr 3 (.int .i64)) (.pair (.int .i64) (.pair (.sl (.pair (.int .i64) (.pair (.int .i64) (.pair (.int .i64) (.pair (.int .i64) .unit))))) (.pair (.sl (.pair (.int .i64) (.pair (.int .i64) (.pair (.int .i64) (.pair (.int .i64) .unit))))) .unit))))) x0), (1, .data (.pair (.arr 3 (.int .i64)) (.pair (.arr 3 (.int .i64)) (.pair (.int .i64) (.pair (.sl (.pair (.int .i64) (.pair (.int .i64) (.pair (.int .i64) (.pair (.int .i64) .unit))))) (.pair (.sl (.pair (.int .i64) (.pair (.int .i64) (.pair (.int .i64) (.pair (.int .i64) .unit))))) .unit))))) x1)] []
def St1 (x4 : Bool) : St := stL 38 [(4, .data .bool x4)] []
def top {α : Type} (Rt : Bool → Option α) (x0 : List Int × List Int × Int × List (Int × Int × Int × Int × Unit) × List (Int × Int × Int × Int × Unit) × Unit) (x1 : List Int × List Int × Int × List (Int × Int × Int × Int × Unit) × List (Int × Int × Int × Int × Unit) × Unit) : Option α :=
  (if ((cond (cond (beqD (.arr 3 (.int .i64)) x0.1 x1.1) (beqD (.arr 3 (.int .i64)) x0.2.1 x1.2.1) false) (x0.2.2.1 == x1.2.2.1) false) == true) = true then Go.Bx.basculelaw_sameQueue.run x0.2.2.2.1 x1.2.2.2.1 else some false).bind fun y1 =>
  (if ((cond (cond (cond (beqD (.arr 3 (.int .i64)) x0.1 x1.1) (beqD (.arr 3 (.int .i64)) x0.2.1 x1.2.1) false) (x0.2.2.1 == x1.2.2.1) false) y1 false) == true) = true then Go.Bx.basculelaw_sameQueue.run x0.2.2.2.2.1 x1.2.2.2.2.1 else some false).bind fun y2 =>
  Rt (cond (cond (cond (cond (beqD (.arr 3 (.int .i64)) x0.1 x1.1) (beqD (.arr 3 (.int .i64)) x0.2.1 x1.2.1) false) (x0.2.2.1 == x1.2.2.1) false) y1 false) y2 false)
theorem top_eq {α : Type} (k : Nat) (Q : Ex → St → Option α) (x0 : List Int × List Int × Int × List (Int × Int × Int × Int × Unit) × List (Int × Int × Int × Int × Unit) × Unit) (x1 : List Int × List Int × Int × List (Int × Int × Int × Int × Unit) × List (Int × Int × Int × Int × Unit) × Unit) :
    (den C k) (cB Try.f32) Q (St0 x0 x1) = top (fun (x4 : Bool) => Q .ret (St1 x4)) x0 x1 := by
  have h : ∀ (D L : DT α), denJ D L Js C (cB Try.f32) Q (St0 x0 x1) =
        (if ((cond (cond (beqD (.arr 3 (.int .i64)) x0.1 x1.1) (beqD (.arr 3 (.int .i64)) x0.2.1 x1.2.1) false) (x0.2.2.1 == x1.2.2.1) false) == true) = true then Go.Bx.basculelaw_sameQueue.run x0.2.2.2.1 x1.2.2.2.1 else some false).bind fun y1 =>
        (if ((cond (cond (cond (beqD (.arr 3 (.int .i64)) x0.1 x1.1) (beqD (.arr 3 (.int .i64)) x0.2.1 x1.2.1) false) (x0.2.2.1 == x1.2.2.1) false) y1 false) == true) = true then Go.Bx.basculelaw_sameQueue.run x0.2.2.2.2.1 x1.2.2.2.2.1 else some false).bind fun y2 =>
        Q .ret (St1 (cond (cond (cond (cond (beqD (.arr 3 (.int .i64)) x0.1 x1.1) (beqD (.arr 3 (.int .i64)) x0.2.1 x1.2.1) false) (x0.2.2.1 == x1.2.2.1) false) y1 false) y2 false)) := by
    intro D L; kernel_rfl
  refine (show (den C k) (cB Try.f32) Q (St0 x0 x1) = denJ (den C k) (lp C k) Js C (cB Try.f32) Q (St0 x0 x1) from (denJ_den _ _ _ _ _ _).symm).trans ((h (den C k) (lp C k)).trans ?_)
  first | rfl | kernel_rfl
def run (x0 : List Int × List Int × Int × List (Int × Int × Int × Int × Unit) × List (Int × Int × Int × Int × Unit) × Unit) (x1 : List Int × List Int × Int × List (Int × Int × Int × Int × Unit) × List (Int × Int × Int × Int × Unit) × Unit) : Option (Bool) := top (α := Bool) (fun (x4 : Bool) => some x4) x0 x1
def F : Fn := ⟨(.pair (.pair (.arr 3 (.int .i64)) (.pair (.arr 3 (.int .i64)) (.pair (.int .i64) (.pair (.sl (.pair (.int .i64) (.pair (.int .i64) (.pair (.int .i64) (.pair (.int .i64) .unit))))) (.pair (.sl (.pair (.int .i64) (.pair (.int .i64) (.pair (.int .i64) (.pair (.int .i64) .unit))))) .unit))))) (.pair (.pair (.arr 3 (.int .i64)) (.pair (.arr 3 (.int .i64)) (.pair (.int .i64) (.pair (.sl (.pair (.int .i64) (.pair (.int .i64) (.pair (.int .i64) (.pair (.int .i64) .unit))))) (.pair (.sl (.pair (.int .i64) (.pair (.int .i64) (.pair (.int .i64) (.pair (.int .i64) .unit))))) .unit))))) .unit)), .bool, false, fun x => run x.1 x.2.1⟩
set_option maxRecDepth 100000 in
theorem con : Con Try.prog 32 F := by
  refine con_of_den (C := C) (ctx_ok (by kernel_rfl) (by kernel_rfl) (by kernel_rfl) (by kernel_rfl) ⟨.inl ⟨Go.Bx.basculelaw_sameQueue.con, Go.Bx.basculelaw_sameQueue.named⟩, trivial⟩) (by kernel_rfl) Try.func32 (c := cB Try.f32) (by kernel_rfl) (by kernel_rfl) F fuel (fun x => by simp [F, spread, Try.ntmps32]) ?_
  intro x r h
  rw [← h]
  have h1 : start F Try.f32.ntmps x = (St0 x.1 x.2.1) := by kernel_rfl
  rw [h1]
  refine (top_eq fuel (fin C Try.f32.results.toList F.rs F.multi) x.1 x.2.1).trans ?_
  kernel_rfl
theorem named : Named Try.prog 32 := named_of Try.func32 (by kernel_rfl) (by kernel_rfl)
end Go.Bx.basculelaw_sameGate
namespace Go.Bx.basculelaw_sameInts
open Go Go.Proofs Go.Bx
set_option maxRecDepth 100000
set_option linter.unusedVariables false
def Js : List Nat := [10]
def C : Ctx := ⟨[(3, (.int .i64)), (4, .bool), (49, (.sl (.int .i64)))], [], [], fnL [], noSh, [], invL [], [(2, [4]), (1, []), (4, [0, 1, 12, 13]), (12, [0, 1, 12, 13]), (27, [])], [], [], 0, 0⟩
def St0 (x0 : List Int) (x1 : List Int) : St := stL 26 [(0, .data (.sl (.int .i64)) x0), (1, .data (.sl (.int .i64)) x1)] []
def St1 (x4 : Bool) : St := stL 26 [(4, .data .bool x4)] []
def St2 (x0 : List Int) (x1 : List Int) (x12 : Int) (x13 : Int) : St := stL 26 [(0, .data (.sl (.int .i64)) x0), (1, .data (.sl (.int .i64)) x1), (12, .data (.int .i64) x12), (13, .data (.int .i64) x13)] []
noncomputable def cd0 : Code := cL (cL (cR (cL (cR (cR (cB Try.f35))))))
def St3 : St := stL 26 [] []
def l0s {α : Type} (Nx : (List Int) → (List Int) → Int → Int → Option α) (Rt : Bool → Option α) (Xt0 : Option α) (x0 : List Int) (x1 : List Int) (x12 : Int) (x13 : Int) : Option α :=
  if (decide (x13 < x12)) = true then
    if 0 ≤ x13 ∧ x13 < (x0.length : Int) then
      if 0 ≤ x13 ∧ x13 < (x1.length : Int) then
        if ((List.getD x0 (Int.toNat x13) 0) != (List.getD x1 (Int.toNat x13) 0)) = true then
          Rt false
        else
          Nx x0 x1 x12 (IntKind.i64.wrap (x13 + 1))
      else none
    else none
  else
    Xt0
theorem l0s_eq {α : Type} (k : Nat) (next : St → Option α) (Q : Ex → St → Option α) (x0 : List Int) (x1 : List Int) (x12 : Int) (x13 : Int) :
    rnd C k cd0 12 Q next (St2 x0 x1 x12 x13) = l0s (fun (x0 : List Int) (x1 : List Int) (x12 : Int) (x13 : Int) => next (St2 x0 x1 x12 x13)) (fun (x4 : Bool) => Q .ret (St1 x4)) (Q (.exit 0) St3) x0 x1 x12 x13 := by
  have h : ∀ (D L : DT α), denJ D L Js C cd0 (lq C 12 next Q) (St2 x0 x1 x12 x13) =
        if (decide (x13 < x12)) = true then
          if 0 ≤ x13 ∧ x13 < (x0.length : Int) then
            if 0 ≤ x13 ∧ x13 < (x1.length : Int) then
              if ((List.getD x0 (Int.toNat x13) 0) != (List.getD x1 (Int.toNat x13) 0)) = true then
                Q .ret (St1 false)
              else
                next (St2 x0 x1 x12 (IntKind.i64.wrap (x13 + 1)))
            else none
          else none
        else
          Q (.exit 0) St3 := by
    intro D L; kernel_rfl
  refine (show rnd C k cd0 12 Q next (St2 x0 x1 x12 x13) = denJ (den C k) (lp C k) Js C cd0 (lq C 12 next Q) (St2 x0 x1 x12 x13) from (denJ_den _ _ _ _ _ _).symm).trans ((h (den C k) (lp C k)).trans ?_)
  first | rfl | kernel_rfl
def l0 {α : Type} (k : Nat) (Rt : Bool → Option α) (Xt0 : Option α) : Nat → (List Int) → (List Int) → Int → Int → Option α
  | 0, _, _, _, _ => none
  | n + 1, x0, x1, x12, x13 => l0s (l0 k Rt Xt0 n) Rt Xt0 x0 x1 x12 x13
theorem l0_eq {α : Type} (k : Nat) (Q : Ex → St → Option α) : ∀ (n : Nat) (x0 : List Int) (x1 : List Int) (x12 : Int) (x13 : Int), iter (rnd C k cd0 12 Q) n (St2 x0 x1 x12 x13) = l0 k (fun (x4 : Bool) => Q .ret (St1 x4)) (Q (.exit 0) St3) n x0 x1 x12 x13
  | 0, _, _, _, _ => rfl
  | n + 1, x0, x1, x12, x13 => (iter_succ _ _ _).trans ((l0s_eq k (iter (rnd C k cd0 12 Q) n) Q x0 x1 x12 x13).trans (congrArg (fun N => l0s N (fun (x4 : Bool) => Q .ret (St1 x4)) (Q (.exit 0) St3) x0 x1 x12 x13) (funext fun x0 => funext fun x1 => funext fun x12 => funext fun x13 => l0_eq k Q n x0 x1 x12 x13)))
theorem l0_congr {α : Type} (k : Nat) (Rt : Bool → Option α) (Xt0 : Option α) (Rtq : Bool → Option α) (Xt0q : Option α) (hRt : ∀ (x4 : Bool), Rt x4 = Rtq x4) (hXt0 : Xt0 = Xt0q) (n : Nat) (x0 : List Int) (x1 : List Int) (x12 : Int) (x13 : Int) : l0 k Rt Xt0 n x0 x1 x12 x13 = l0 k Rtq Xt0q n x0 x1 x12 x13 := by
  obtain rfl : Rt = Rtq := by funext x4; exact hRt x4
  obtain rfl : Xt0 = Xt0q := hXt0
  rfl
noncomputable def cd1 : Code := cR (cR (cR (cB Try.f35)))
def St4 : St := stL 26 [] []
def j0 {α : Type} (Rt : Bool → Option α) : Option α :=
  Rt true
theorem j0_eq {α : Type} (k : Nat) (Q : Ex → St → Option α) :
    (den C k) cd1 Q St4 = j0 (fun (x4 : Bool) => Q .ret (St1 x4)) := by
  have h : ∀ (D L : DT α), denJ D L Js C cd1 Q St4 =
        Q .ret (St1 true) := by
    intro D L; kernel_rfl
  refine (show (den C k) cd1 Q St4 = denJ (den C k) (lp C k) Js C cd1 Q St4 from (denJ_den _ _ _ _ _ _).symm).trans ((h (den C k) (lp C k)).trans ?_)
  first | rfl | kernel_rfl
theorem a0 {α : Type} (k : Nat) (Q : Ex → St → Option α) (x0 : List Int) (x1 : List Int) (x12 : Int) (x13 : Int) :
    (lp C k) cd0 (blkQ C 0 (sq (den C k) (lp C k) Js C cd1 Q)) (St2 x0 x1 x12 x13) = l0 k (fun (x4 : Bool) => (fun (x4 : Bool) => Q .ret (St1 x4)) x4) (j0 (fun (x4 : Bool) => Q .ret (St1 x4))) k x0 x1 x12 x13 :=
  (show (lp C k) cd0 (blkQ C 0 (sq (den C k) (lp C k) Js C cd1 Q)) (St2 x0 x1 x12 x13) = iter (rnd C k cd0 12 (blkQ C 0 (sq (den C k) (lp C k) Js C cd1 Q))) k (St2 x0 x1 x12 x13) by kernel_rfl).trans ((l0_eq k (blkQ C 0 (sq (den C k) (lp C k) Js C cd1 Q)) k x0 x1 x12 x13).trans (l0_congr k _ _ _ _ (fun x4 => (show (blkQ C 0 (sq (den C k) (lp C k) Js C cd1 Q)) .ret (St1 x4) = Q .ret (St1 x4) by kernel_rfl)) ((show (blkQ C 0 (sq (den C k) (lp C k) Js C cd1 Q)) (.exit 0) St3 = (den C k) cd1 Q St4 by kernel_rfl).trans (by simp only [j0_eq])) k x0 x1 x12 x13))
def top {α : Type} (k : Nat) (Rt : Bool → Option α) (x0 : List Int) (x1 : List Int) : Option α :=
  if ((x0.length : Int) != (x1.length : Int)) = true then
    Rt false
  else
    l0 k (fun (x4 : Bool) => Rt x4) (j0 Rt) k x0 x1 (x0.length : Int) 0
theorem top_eq {α : Type} (k : Nat) (Q : Ex → St → Option α) (x0 : List Int) (x1 : List Int) :
    (den C k) (cB Try.f35) Q (St0 x0 x1) = top k (fun (x4 : Bool) => Q .ret (St1 x4)) x0 x1 := by
  have h : ∀ (D L : DT α), denJ D L Js C (cB Try.f35) Q (St0 x0 x1) =
        if ((x0.length : Int) != (x1.length : Int)) = true then
          Q .ret (St1 false)
        else
          L cd0 (blkQ C 0 (sq D L Js C cd1 Q)) (St2 x0 x1 (x0.length : Int) 0) := by
    intro D L; kernel_rfl
  refine (show (den C k) (cB Try.f35) Q (St0 x0 x1) = denJ (den C k) (lp C k) Js C (cB Try.f35) Q (St0 x0 x1) from (denJ_den _ _ _ _ _ _).symm).trans ((h (den C k) (lp C k)).trans ?_)
  simp only [a0]
  first | rfl | kernel_rfl
def run (x0 : List Int) (x1 : List Int) : Option (Bool) := top (α := Bool) fuel (fun (x4 : Bool) => some x4) x0 x1
def F : Fn := ⟨(.pair (.sl (.int .i64)) (.pair (.sl (.int .i64)) .unit)), .bool, false, fun x => run x.1 x.2.1⟩
set_option maxRecDepth 100000 in
theorem con : Con Try.prog 35 F := by
  refine con_of_den (C := C) (ctx_ok (by kernel_rfl) (by kernel_rfl) (by kernel_rfl) (by kernel_rfl) trivial) (by kernel_rfl) Try.func35 (c := cB Try.f35) (by kernel_rfl) (by kernel_rfl) F fuel (fun x => by simp [F, spread, Try.ntmps35]) ?_
  intro x r h
  rw [← h]
  have h1 : start F Try.f35.ntmps x = (St0 x.1 x.2.1) := by kernel_rfl
  rw [h1]
  refine (top_eq fuel (fin C Try.f35.results.toList F.rs F.multi) x.1 x.2.1).trans ?_
  kernel_rfl
theorem named : Named Try.prog 35 := named_of Try.func35 (by kernel_rfl) (by kernel_rfl)
end Go.Bx.basculelaw_sameInts
namespace Go.Bx.wide_Cmp
open Go Go.Proofs Go.Bx
set_option maxRecDepth 100000
set_option linter.unusedVariables false
def Js : List Nat := [9]
def C : Ctx := ⟨[(3, (.int .i64)), (54, (.int .u64)), (56, (.arr 4 (.int .u64)))], [], [], fnL [], noSh, [], invL [], [(2, [4]), (1, []), (4, [2, 3, 5]), (7, [2, 3, 5]), (6, [2, 3, 5]), (24, [])], [], [], 0, 0⟩
def St0 (x0 : List Int) (x1 : List Int) : St := stL 26 [(0, .data (.arr 4 (.int .u64)) x0), (1, .data (.arr 4 (.int .u64)) x1)] []
def St1 (x5 : Int) (c2 : List Int) (c3 : List Int) : St := stL 26 [(2, .ref 2 0 []), (3, .ref 3 0 []), (5, .data (.int .i64) x5)] [(2, .cell (.arr 4 (.int .u64)) (.data (.arr 4 (.int .u64)) c2) false), (3, .cell (.arr 4 (.int .u64)) (.data (.arr 4 (.int .u64)) c3) false)]
noncomputable def cd0 : Code := cL (cL (cR (cL (cR (cB Try.f144)))))
def St2 (x4 : Int) : St := stL 26 [(4, .data (.int .i64) x4)] []
def St3 : St := stL 26 [] []
def l0s {α : Type} (Nx : Int → (List Int) → (List Int) → Option α) (Rt : Int → Option α) (Xt0 : Option α) (x5 : Int) (c2 : List Int) (c3 : List Int) : Option α :=
  if (decide (x5 ≥ 0)) = true then
    if 0 ≤ x5 ∧ x5 < (4 : Int) then
      if 0 ≤ x5 ∧ x5 < (4 : Int) then
        if (decide ((List.getD c2 (Int.toNat x5) 0) < (List.getD c3 (Int.toNat x5) 0))) = true then
          Rt (-1)
        else
          if 0 ≤ x5 ∧ x5 < (4 : Int) then
            if 0 ≤ x5 ∧ x5 < (4 : Int) then
              if (decide ((List.getD c2 (Int.toNat x5) 0) > (List.getD c3 (Int.toNat x5) 0))) = true then
                Rt 1
              else
                Nx (IntKind.i64.wrap (x5 - 1)) c2 c3
            else none
          else none
      else none
    else none
  else
    Xt0
theorem l0s_eq {α : Type} (k : Nat) (next : St → Option α) (Q : Ex → St → Option α) (x5 : Int) (c2 : List Int) (c3 : List Int) :
    rnd C k cd0 6 Q next (St1 x5 c2 c3) = l0s (fun (x5 : Int) (c2 : List Int) (c3 : List Int) => next (St1 x5 c2 c3)) (fun (x4 : Int) => Q .ret (St2 x4)) (Q (.exit 0) St3) x5 c2 c3 := by
  have h : ∀ (D L : DT α), denJ D L Js C cd0 (lq C 6 next Q) (St1 x5 c2 c3) =
        if (decide (x5 ≥ 0)) = true then
          if 0 ≤ x5 ∧ x5 < (4 : Int) then
            if 0 ≤ x5 ∧ x5 < (4 : Int) then
              if (decide ((List.getD c2 (Int.toNat x5) 0) < (List.getD c3 (Int.toNat x5) 0))) = true then
                Q .ret (St2 (-1))
              else
                if 0 ≤ x5 ∧ x5 < (4 : Int) then
                  if 0 ≤ x5 ∧ x5 < (4 : Int) then
                    if (decide ((List.getD c2 (Int.toNat x5) 0) > (List.getD c3 (Int.toNat x5) 0))) = true then
                      Q .ret (St2 1)
                    else
                      next (St1 (IntKind.i64.wrap (x5 - 1)) c2 c3)
                  else none
                else none
            else none
          else none
        else
          Q (.exit 0) St3 := by
    intro D L; kernel_rfl
  refine (show rnd C k cd0 6 Q next (St1 x5 c2 c3) = denJ (den C k) (lp C k) Js C cd0 (lq C 6 next Q) (St1 x5 c2 c3) from (denJ_den _ _ _ _ _ _).symm).trans ((h (den C k) (lp C k)).trans ?_)
  first | rfl | kernel_rfl
def l0 {α : Type} (k : Nat) (Rt : Int → Option α) (Xt0 : Option α) : Nat → Int → (List Int) → (List Int) → Option α
  | 0, _, _, _ => none
  | n + 1, x5, c2, c3 => l0s (l0 k Rt Xt0 n) Rt Xt0 x5 c2 c3
theorem l0_eq {α : Type} (k : Nat) (Q : Ex → St → Option α) : ∀ (n : Nat) (x5 : Int) (c2 : List Int) (c3 : List Int), iter (rnd C k cd0 6 Q) n (St1 x5 c2 c3) = l0 k (fun (x4 : Int) => Q .ret (St2 x4)) (Q (.exit 0) St3) n x5 c2 c3
  | 0, _, _, _ => rfl
  | n + 1, x5, c2, c3 => (iter_succ _ _ _).trans ((l0s_eq k (iter (rnd C k cd0 6 Q) n) Q x5 c2 c3).trans (congrArg (fun N => l0s N (fun (x4 : Int) => Q .ret (St2 x4)) (Q (.exit 0) St3) x5 c2 c3) (funext fun x5 => funext fun c2 => funext fun c3 => l0_eq k Q n x5 c2 c3)))
theorem l0_congr {α : Type} (k : Nat) (Rt : Int → Option α) (Xt0 : Option α) (Rtq : Int → Option α) (Xt0q : Option α) (hRt : ∀ (x4 : Int), Rt x4 = Rtq x4) (hXt0 : Xt0 = Xt0q) (n : Nat) (x5 : Int) (c2 : List Int) (c3 : List Int) : l0 k Rt Xt0 n x5 c2 c3 = l0 k Rtq Xt0q n x5 c2 c3 := by
  obtain rfl : Rt = Rtq := by funext x4; exact hRt x4
  obtain rfl : Xt0 = Xt0q := hXt0
  rfl
noncomputable def cd1 : Code := cR (cR (cB Try.f144))
def St4 : St := stL 26 [] []
def j0 {α : Type} (Rt : Int → Option α) : Option α :=
  Rt 0
theorem j0_eq {α : Type} (k : Nat) (Q : Ex → St → Option α) :
    (den C k) cd1 Q St4 = j0 (fun (x4 : Int) => Q .ret (St2 x4)) := by
  have h : ∀ (D L : DT α), denJ D L Js C cd1 Q St4 =
        Q .ret (St2 0) := by
    intro D L; kernel_rfl
  refine (show (den C k) cd1 Q St4 = denJ (den C k) (lp C k) Js C cd1 Q St4 from (denJ_den _ _ _ _ _ _).symm).trans ((h (den C k) (lp C k)).trans ?_)
  first | rfl | kernel_rfl
theorem a0 {α : Type} (k : Nat) (Q : Ex → St → Option α) (x5 : Int) (c2 : List Int) (c3 : List Int) :
    (lp C k) cd0 (blkQ C 0 (sq (den C k) (lp C k) Js C cd1 Q)) (St1 x5 c2 c3) = l0 k (fun (x4 : Int) => (fun (x4 : Int) => Q .ret (St2 x4)) x4) (j0 (fun (x4 : Int) => Q .ret (St2 x4))) k x5 c2 c3 :=
  (show (lp C k) cd0 (blkQ C 0 (sq (den C k) (lp C k) Js C cd1 Q)) (St1 x5 c2 c3) = iter (rnd C k cd0 6 (blkQ C 0 (sq (den C k) (lp C k) Js C cd1 Q))) k (St1 x5 c2 c3) by kernel_rfl).trans ((l0_eq k (blkQ C 0 (sq (den C k) (lp C k) Js C cd1 Q)) k x5 c2 c3).trans (l0_congr k _ _ _ _ (fun x4 => (show (blkQ C 0 (sq (den C k) (lp C k) Js C cd1 Q)) .ret (St2 x4) = Q .ret (St2 x4) by kernel_rfl)) ((show (blkQ C 0 (sq (den C k) (lp C k) Js C cd1 Q)) (.exit 0) St3 = (den C k) cd1 Q St4 by kernel_rfl).trans (by simp only [j0_eq])) k x5 c2 c3))
def top {α : Type} (k : Nat) (Rt : Int → Option α) (x0 : List Int) (x1 : List Int) : Option α :=
  l0 k (fun (x4 : Int) => Rt x4) (j0 Rt) k 3 x0 x1
theorem top_eq {α : Type} (k : Nat) (Q : Ex → St → Option α) (x0 : List Int) (x1 : List Int) :
    (den C k) (cB Try.f144) Q (St0 x0 x1) = top k (fun (x4 : Int) => Q .ret (St2 x4)) x0 x1 := by
  have h : ∀ (D L : DT α), denJ D L Js C (cB Try.f144) Q (St0 x0 x1) =
        L cd0 (blkQ C 0 (sq D L Js C cd1 Q)) (St1 3 x0 x1) := by
    intro D L; kernel_rfl
  refine (show (den C k) (cB Try.f144) Q (St0 x0 x1) = denJ (den C k) (lp C k) Js C (cB Try.f144) Q (St0 x0 x1) from (denJ_den _ _ _ _ _ _).symm).trans ((h (den C k) (lp C k)).trans ?_)
  simp only [a0]
  first | rfl | kernel_rfl
def run (x0 : List Int) (x1 : List Int) : Option (Int) := top (α := Int) fuel (fun (x4 : Int) => some x4) x0 x1
def F : Fn := ⟨(.pair (.arr 4 (.int .u64)) (.pair (.arr 4 (.int .u64)) .unit)), (.int .i64), false, fun x => run x.1 x.2.1⟩
set_option maxRecDepth 100000 in
theorem con : Con Try.prog 144 F := by
  refine con_of_den (C := C) (ctx_ok (by kernel_rfl) (by kernel_rfl) (by kernel_rfl) (by kernel_rfl) trivial) (by kernel_rfl) Try.func144 (c := cB Try.f144) (by kernel_rfl) (by kernel_rfl) F fuel (fun x => by simp [F, spread, Try.ntmps144]) ?_
  intro x r h
  rw [← h]
  have h1 : start F Try.f144.ntmps x = (St0 x.1 x.2.1) := by kernel_rfl
  rw [h1]
  refine (top_eq fuel (fin C Try.f144.results.toList F.rs F.multi) x.1 x.2.1).trans ?_
  kernel_rfl
theorem named : Named Try.prog 144 := named_of Try.func144 (by kernel_rfl) (by kernel_rfl)
end Go.Bx.wide_Cmp
namespace Go.Bx.load_same
open Go Go.Proofs Go.Bx
set_option maxRecDepth 100000
set_option linter.unusedVariables false
def Js : List Nat := []
def C : Ctx := ⟨[(3, (.int .i64)), (4, .bool), (9, .str), (26, (.sl (.arr 20 (.int .u8)))), (56, (.arr 4 (.int .u64))), (59, (.sl (.int .u8))), (69, (.arr 32 (.int .u8))), (71, (.pair (.int .i64) (.pair (.arr 4 (.int .u64)) (.pair (.arr 4 (.int .u64)) (.pair (.arr 32 (.int .u8)) (.pair (.int .i64) (.pair (.arr 32 (.int .u8)) (.pair (.int .i64) (.pair (.int .i64) (.pair .str (.pair (.sl (.int .u8)) (.pair (.int .i64) (.pair (.sl (.arr 20 (.int .u8))) .unit)))))))))))))], [], [], fnL [], noSh, [], invL [], [(2, [4])], [], [], 0, 0⟩
def St0 (x0 : Int × List Int × List Int × List Int × Int × List Int × Int × Int × List Int × List Int × Int × List (List Int) × Unit) (x1 : Int × List Int × List Int × List Int × Int × List Int × Int × Int × List Int × List Int × Int × List (List Int) × Unit) : St := stL 93 [(0, .data (.pair (.int .i64) (.pair (.arr 4 (.int .u64)) (.pair (.arr 4 (.int .u64)) (.pair (.arr 32 (.int .u8)) (.pair (.int .i64) (.pair (.arr 32 (.int .u8)) (.pair (.int .i64) (.pair (.int .i64) (.pair .str (.pair (.sl (.int .u8)) (.pair (.int .i64) (.pair (.sl (.arr 20 (.int .u8))) .unit)))))))))))) x0), (1, .data (.pair (.int .i64) (.pair (.arr 4 (.int .u64)) (.pair (.arr 4 (.int .u64)) (.pair (.arr 32 (.int .u8)) (.pair (.int .i64) (.pair (.arr 32 (.int .u8)) (.pair (.int .i64) (.pair (.int .i64) (.pair .str (.pair (.sl (.int .u8)) (.pair (.int .i64) (.pair (.sl (.arr 20 (.int .u8))) .unit)))))))))))) x1)] []
def St1 (x4 : Bool) : St := stL 93 [(4, .data .bool x4)] []
def top {α : Type} (Rt : Bool → Option α) (x0 : Int × List Int × List Int × List Int × Int × List Int × Int × Int × List Int × List Int × Int × List (List Int) × Unit) (x1 : Int × List Int × List Int × List Int × Int × List Int × Int × Int × List Int × List Int × Int × List (List Int) × Unit) : Option α :=
  Rt (cond (cond (cond (cond (cond (cond (cond (cond (cond (cond (cond (x0.1 == x1.1) (beqD (.arr 4 (.int .u64)) x0.2.1 x1.2.1) false) (beqD (.arr 4 (.int .u64)) x0.2.2.1 x1.2.2.1) false) (beqD (.arr 32 (.int .u8)) x0.2.2.2.1 x1.2.2.2.1) false) (x0.2.2.2.2.1 == x1.2.2.2.2.1) false) (beqD (.arr 32 (.int .u8)) x0.2.2.2.2.2.1 x1.2.2.2.2.2.1) false) (x0.2.2.2.2.2.2.1 == x1.2.2.2.2.2.2.1) false) (x0.2.2.2.2.2.2.2.1 == x1.2.2.2.2.2.2.2.1) false) (beqD .str x0.2.2.2.2.2.2.2.2.1 x1.2.2.2.2.2.2.2.2.1) false) (x0.2.2.2.2.2.2.2.2.2.2.1 == x1.2.2.2.2.2.2.2.2.2.2.1) false) (beqD .str x0.2.2.2.2.2.2.2.2.2.1 x1.2.2.2.2.2.2.2.2.2.1) false) ((x0.2.2.2.2.2.2.2.2.2.2.2.1.length : Int) == (x1.2.2.2.2.2.2.2.2.2.2.2.1.length : Int)) false)
theorem top_eq {α : Type} (k : Nat) (Q : Ex → St → Option α) (x0 : Int × List Int × List Int × List Int × Int × List Int × Int × Int × List Int × List Int × Int × List (List Int) × Unit) (x1 : Int × List Int × List Int × List Int × Int × List Int × Int × Int × List Int × List Int × Int × List (List Int) × Unit) :
    (den C k) (cB Try.f75) Q (St0 x0 x1) = top (fun (x4 : Bool) => Q .ret (St1 x4)) x0 x1 := by
  have h : ∀ (D L : DT α), denJ D L Js C (cB Try.f75) Q (St0 x0 x1) =
        Q .ret (St1 (cond (cond (cond (cond (cond (cond (cond (cond (cond (cond (cond (x0.1 == x1.1) (beqD (.arr 4 (.int .u64)) x0.2.1 x1.2.1) false) (beqD (.arr 4 (.int .u64)) x0.2.2.1 x1.2.2.1) false) (beqD (.arr 32 (.int .u8)) x0.2.2.2.1 x1.2.2.2.1) false) (x0.2.2.2.2.1 == x1.2.2.2.2.1) false) (beqD (.arr 32 (.int .u8)) x0.2.2.2.2.2.1 x1.2.2.2.2.2.1) false) (x0.2.2.2.2.2.2.1 == x1.2.2.2.2.2.2.1) false) (x0.2.2.2.2.2.2.2.1 == x1.2.2.2.2.2.2.2.1) false) (beqD .str x0.2.2.2.2.2.2.2.2.1 x1.2.2.2.2.2.2.2.2.1) false) (x0.2.2.2.2.2.2.2.2.2.2.1 == x1.2.2.2.2.2.2.2.2.2.2.1) false) (beqD .str x0.2.2.2.2.2.2.2.2.2.1 x1.2.2.2.2.2.2.2.2.2.1) false) ((x0.2.2.2.2.2.2.2.2.2.2.2.1.length : Int) == (x1.2.2.2.2.2.2.2.2.2.2.2.1.length : Int)) false)) := by
    intro D L; kernel_rfl
  refine (show (den C k) (cB Try.f75) Q (St0 x0 x1) = denJ (den C k) (lp C k) Js C (cB Try.f75) Q (St0 x0 x1) from (denJ_den _ _ _ _ _ _).symm).trans ((h (den C k) (lp C k)).trans ?_)
  first | rfl | kernel_rfl
def run (x0 : Int × List Int × List Int × List Int × Int × List Int × Int × Int × List Int × List Int × Int × List (List Int) × Unit) (x1 : Int × List Int × List Int × List Int × Int × List Int × Int × Int × List Int × List Int × Int × List (List Int) × Unit) : Option (Bool) := top (α := Bool) (fun (x4 : Bool) => some x4) x0 x1
def F : Fn := ⟨(.pair (.pair (.int .i64) (.pair (.arr 4 (.int .u64)) (.pair (.arr 4 (.int .u64)) (.pair (.arr 32 (.int .u8)) (.pair (.int .i64) (.pair (.arr 32 (.int .u8)) (.pair (.int .i64) (.pair (.int .i64) (.pair .str (.pair (.sl (.int .u8)) (.pair (.int .i64) (.pair (.sl (.arr 20 (.int .u8))) .unit)))))))))))) (.pair (.pair (.int .i64) (.pair (.arr 4 (.int .u64)) (.pair (.arr 4 (.int .u64)) (.pair (.arr 32 (.int .u8)) (.pair (.int .i64) (.pair (.arr 32 (.int .u8)) (.pair (.int .i64) (.pair (.int .i64) (.pair .str (.pair (.sl (.int .u8)) (.pair (.int .i64) (.pair (.sl (.arr 20 (.int .u8))) .unit)))))))))))) .unit)), .bool, false, fun x => run x.1 x.2.1⟩
set_option maxRecDepth 100000 in
theorem con : Con Try.prog 75 F := by
  refine con_of_den (C := C) (ctx_ok (by kernel_rfl) (by kernel_rfl) (by kernel_rfl) (by kernel_rfl) trivial) (by kernel_rfl) Try.func75 (c := cB Try.f75) (by kernel_rfl) (by kernel_rfl) F fuel (fun x => by simp [F, spread, Try.ntmps75]) ?_
  intro x r h
  rw [← h]
  have h1 : start F Try.f75.ntmps x = (St0 x.1 x.2.1) := by kernel_rfl
  rw [h1]
  refine (top_eq fuel (fin C Try.f75.results.toList F.rs F.multi) x.1 x.2.1).trans ?_
  kernel_rfl
theorem named : Named Try.prog 75 := named_of Try.func75 (by kernel_rfl) (by kernel_rfl)
end Go.Bx.load_same
namespace Go.Bx.load_transfer__bare
open Go Go.Proofs Go.Bx
set_option maxRecDepth 100000
set_option linter.unusedVariables false
def Js : List Nat := []
def C : Ctx := ⟨[(3, (.int .i64)), (56, (.arr 4 (.int .u64))), (59, (.sl (.int .u8))), (69, (.arr 32 (.int .u8))), (71, (.pair (.int .i64) (.pair (.arr 4 (.int .u64)) (.pair (.arr 4 (.int .u64)) (.pair (.arr 32 (.int .u8)) (.pair (.int .i64) (.pair (.arr 32 (.int .u8)) (.pair (.int .i64) (.pair (.int .i64) (.pair .str (.pair (.sl (.int .u8)) (.pair (.int .i64) (.pair (.sl (.arr 20 (.int .u8))) .unit))))))))))))), (180, (.pair .bool .unit))], [], [], fnL [], noSh, [], invL [], [(2, [4])], [], [], 0, 0⟩
def St0 (x0 : Bool × Unit) (x1 : Int × List Int × List Int × List Int × Int × List Int × Int × Int × List Int × List Int × Int × List (List Int) × Unit) : St := stL 22 [(0, .data (.pair .bool .unit) x0), (1, .data (.pair (.int .i64) (.pair (.arr 4 (.int .u64)) (.pair (.arr 4 (.int .u64)) (.pair (.arr 32 (.int .u8)) (.pair (.int .i64) (.pair (.arr 32 (.int .u8)) (.pair (.int .i64) (.pair (.int .i64) (.pair .str (.pair (.sl (.int .u8)) (.pair (.int .i64) (.pair (.sl (.arr 20 (.int .u8))) .unit)))))))))))) x1)] []
def St1 (c4p0 : Int) (c4p1 : List Int) (c4p2 : List Int) (c4p3 : List Int) (c4p4 : Int) (c4p5 : List Int) (c4p6 : Int) (c4p7 : Int) (c4p8 : List Int) (c4p9 : List Int) (c4p10 : Int) : St := stL 22 [(4, .ref 4 0 [])] [(4, .cell (.pair (.int .i64) (.pair (.arr 4 (.int .u64)) (.pair (.arr 4 (.int .u64)) (.pair (.arr 32 (.int .u8)) (.pair (.int .i64) (.pair (.arr 32 (.int .u8)) (.pair (.int .i64) (.pair (.int .i64) (.pair .str (.pair (.sl (.int .u8)) (.pair (.int .i64) (.pair (.sl (.arr 20 (.int .u8))) .unit)))))))))))) (.agg (.pair (.int .i64) (.pair (.arr 4 (.int .u64)) (.pair (.arr 4 (.int .u64)) (.pair (.arr 32 (.int .u8)) (.pair (.int .i64) (.pair (.arr 32 (.int .u8)) (.pair (.int .i64) (.pair (.int .i64) (.pair .str (.pair (.sl (.int .u8)) (.pair (.int .i64) (.pair (.sl (.arr 20 (.int .u8))) .unit)))))))))))) [.data (.int .i64) c4p0, .data (.arr 4 (.int .u64)) c4p1, .data (.arr 4 (.int .u64)) c4p2, .data (.arr 32 (.int .u8)) c4p3, .data (.int .i64) c4p4, .data (.arr 32 (.int .u8)) c4p5, .data (.int .i64) c4p6, .data (.int .i64) c4p7, .data .str c4p8, .data (.sl (.int .u8)) c4p9, .data (.int .i64) c4p10, .full (.arr 20 (.int .u8)) []]) false)]
def top {α : Type} (Rt : Int → (List Int) → (List Int) → (List Int) → Int → (List Int) → Int → Int → (List Int) → (List Int) → Int → Option α) (x0 : Bool × Unit) (x1 : Int × List Int × List Int × List Int × Int × List Int × Int × Int × List Int × List Int × Int × List (List Int) × Unit) : Option α :=
  Rt x1.1 x1.2.1 x1.2.2.1 x1.2.2.2.1 x1.2.2.2.2.1 x1.2.2.2.2.2.1 x1.2.2.2.2.2.2.1 0 [] x1.2.2.2.2.2.2.2.2.2.1 0
theorem top_eq {α : Type} (k : Nat) (Q : Ex → St → Option α) (x0 : Bool × Unit) (x1 : Int × List Int × List Int × List Int × Int × List Int × Int × Int × List Int × List Int × Int × List (List Int) × Unit) :
    (den C k) (cB Try.f139) Q (St0 x0 x1) = top (fun (c4p0 : Int) (c4p1 : List Int) (c4p2 : List Int) (c4p3 : List Int) (c4p4 : Int) (c4p5 : List Int) (c4p6 : Int) (c4p7 : Int) (c4p8 : List Int) (c4p9 : List Int) (c4p10 : Int) => Q .ret (St1 c4p0 c4p1 c4p2 c4p3 c4p4 c4p5 c4p6 c4p7 c4p8 c4p9 c4p10)) x0 x1 := by
  have h : ∀ (D L : DT α), denJ D L Js C (cB Try.f139) Q (St0 x0 x1) =
        Q .ret (St1 x1.1 x1.2.1 x1.2.2.1 x1.2.2.2.1 x1.2.2.2.2.1 x1.2.2.2.2.2.1 x1.2.2.2.2.2.2.1 0 [] x1.2.2.2.2.2.2.2.2.2.1 0) := by
    intro D L; kernel_rfl
  refine (show (den C k) (cB Try.f139) Q (St0 x0 x1) = denJ (den C k) (lp C k) Js C (cB Try.f139) Q (St0 x0 x1) from (denJ_den _ _ _ _ _ _).symm).trans ((h (den C k) (lp C k)).trans ?_)
  first | rfl | kernel_rfl
def run (x0 : Bool × Unit) (x1 : Int × List Int × List Int × List Int × Int × List Int × Int × Int × List Int × List Int × Int × List (List Int) × Unit) : Option (Int × List Int × List Int × List Int × Int × List Int × Int × Int × List Int × List Int × Int × List (List Int) × Unit) := top (α := Int × List Int × List Int × List Int × Int × List Int × Int × Int × List Int × List Int × Int × List (List Int) × Unit) (fun (c4p0 : Int) (c4p1 : List Int) (c4p2 : List Int) (c4p3 : List Int) (c4p4 : Int) (c4p5 : List Int) (c4p6 : Int) (c4p7 : Int) (c4p8 : List Int) (c4p9 : List Int) (c4p10 : Int) => some (c4p0, c4p1, c4p2, c4p3, c4p4, c4p5, c4p6, c4p7, c4p8, c4p9, c4p10, [], ())) x0 x1
def F : Fn := ⟨(.pair (.pair .bool .unit) (.pair (.pair (.int .i64) (.pair (.arr 4 (.int .u64)) (.pair (.arr 4 (.int .u64)) (.pair (.arr 32 (.int .u8)) (.pair (.int .i64) (.pair (.arr 32 (.int .u8)) (.pair (.int .i64) (.pair (.int .i64) (.pair .str (.pair (.sl (.int .u8)) (.pair (.int .i64) (.pair (.sl (.arr 20 (.int .u8))) .unit)))))))))))) .unit)), (.pair (.int .i64) (.pair (.arr 4 (.int .u64)) (.pair (.arr 4 (.int .u64)) (.pair (.arr 32 (.int .u8)) (.pair (.int .i64) (.pair (.arr 32 (.int .u8)) (.pair (.int .i64) (.pair (.int .i64) (.pair .str (.pair (.sl (.int .u8)) (.pair (.int .i64) (.pair (.sl (.arr 20 (.int .u8))) .unit)))))))))))), false, fun x => run x.1 x.2.1⟩
set_option maxRecDepth 100000 in
theorem con : Con Try.prog 139 F := by
  refine con_of_den (C := C) (ctx_ok (by kernel_rfl) (by kernel_rfl) (by kernel_rfl) (by kernel_rfl) trivial) (by kernel_rfl) Try.func139 (c := cB Try.f139) (by kernel_rfl) (by kernel_rfl) F fuel (fun x => by simp [F, spread, Try.ntmps139]) ?_
  intro x r h
  rw [← h]
  have h1 : start F Try.f139.ntmps x = (St0 x.1 x.2.1) := by kernel_rfl
  rw [h1]
  refine (top_eq fuel (fin C Try.f139.results.toList F.rs F.multi) x.1 x.2.1).trans ?_
  kernel_rfl
theorem named : Named Try.prog 139 := named_of Try.func139 (by kernel_rfl) (by kernel_rfl)
end Go.Bx.load_transfer__bare
namespace Go.Bx.load_small
open Go Go.Proofs Go.Bx
set_option maxRecDepth 100000
set_option linter.unusedVariables false
def Js : List Nat := []
def C : Ctx := ⟨[(3, (.int .i64)), (4, .bool)], [], [], fnL [], noSh, [], invL [], [(2, [4])], [], [], 0, 0⟩
def St0 (x0 : Int) (x1 : Int) : St := stL 12 [(0, .data (.int .i64) x0), (1, .data (.int .i64) x1)] []
def St1 (x4 : Bool) : St := stL 12 [(4, .data .bool x4)] []
def top {α : Type} (Rt : Bool → Option α) (x0 : Int) (x1 : Int) : Option α :=
  Rt (cond (decide (x0 ≥ 0)) (decide (x0 ≤ x1)) false)
theorem top_eq {α : Type} (k : Nat) (Q : Ex → St → Option α) (x0 : Int) (x1 : Int) :
    (den C k) (cB Try.f143) Q (St0 x0 x1) = top (fun (x4 : Bool) => Q .ret (St1 x4)) x0 x1 := by
  have h : ∀ (D L : DT α), denJ D L Js C (cB Try.f143) Q (St0 x0 x1) =
        Q .ret (St1 (cond (decide (x0 ≥ 0)) (decide (x0 ≤ x1)) false)) := by
    intro D L; kernel_rfl
  refine (show (den C k) (cB Try.f143) Q (St0 x0 x1) = denJ (den C k) (lp C k) Js C (cB Try.f143) Q (St0 x0 x1) from (denJ_den _ _ _ _ _ _).symm).trans ((h (den C k) (lp C k)).trans ?_)
  first | rfl | kernel_rfl
def run (x0 : Int) (x1 : Int) : Option (Bool) := top (α := Bool) (fun (x4 : Bool) => some x4) x0 x1
def F : Fn := ⟨(.pair (.int .i64) (.pair (.int .i64) .unit)), .bool, false, fun x => run x.1 x.2.1⟩
set_option maxRecDepth 100000 in
theorem con : Con Try.prog 143 F := by
  refine con_of_den (C := C) (ctx_ok (by kernel_rfl) (by kernel_rfl) (by kernel_rfl) (by kernel_rfl) trivial) (by kernel_rfl) Try.func143 (c := cB Try.f143) (by kernel_rfl) (by kernel_rfl) F fuel (fun x => by simp [F, spread, Try.ntmps143]) ?_
  intro x r h
  rw [← h]
  have h1 : start F Try.f143.ntmps x = (St0 x.1 x.2.1) := by kernel_rfl
  rw [h1]
  refine (top_eq fuel (fin C Try.f143.results.toList F.rs F.multi) x.1 x.2.1).trans ?_
  kernel_rfl
theorem named : Named Try.prog 143 := named_of Try.func143 (by kernel_rfl) (by kernel_rfl)
end Go.Bx.load_small
namespace Go.Bx.load_transfer__check
open Go Go.Proofs Go.Bx
set_option maxRecDepth 100000
set_option linter.unusedVariables false
def Js : List Nat := []
def C : Ctx := ⟨[(3, (.int .i64)), (4, .bool), (56, (.arr 4 (.int .u64))), (59, (.sl (.int .u8))), (71, (.pair (.int .i64) (.pair (.arr 4 (.int .u64)) (.pair (.arr 4 (.int .u64)) (.pair (.arr 32 (.int .u8)) (.pair (.int .i64) (.pair (.arr 32 (.int .u8)) (.pair (.int .i64) (.pair (.int .i64) (.pair .str (.pair (.sl (.int .u8)) (.pair (.int .i64) (.pair (.sl (.arr 20 (.int .u8))) .unit))))))))))))), (180, (.pair .bool .unit))], [], [], fnL [(143, Go.Bx.load_small.F), (144, Go.Bx.wide_Cmp.F)], noSh, [], invL [], [(2, [4])], [], [], 0, 0⟩
def St0 (x0 : Bool × Unit) (x1 : Int × List Int × List Int × List Int × Int × List Int × Int × Int × List Int × List Int × Int × List (List Int) × Unit) : St := stL 42 [(0, .data (.pair .bool .unit) x0), (1, .data (.pair (.int .i64) (.pair (.arr 4 (.int .u64)) (.pair (.arr 4 (.int .u64)) (.pair (.arr 32 (.int .u8)) (.pair (.int .i64) (.pair (.arr 32 (.int .u8)) (.pair (.int .i64) (.pair (.int .i64) (.pair .str (.pair (.sl (.int .u8)) (.pair (.int .i64) (.pair (.sl (.arr 20 (.int .u8))) .unit)))))))))))) x1)] []
def St1 (x4 : Bool) : St := stL 42 [(4, .data .bool x4)] []
def top {α : Type} (Rt : Bool → Option α) (x0 : Bool × Unit) (x1 : Int × List Int × List Int × List Int × Int × List Int × Int × Int × List Int × List Int × Int × List (List Int) × Unit) : Option α :=
  (Go.Bx.load_small.run x1.2.2.2.2.1 65535).bind fun y1 =>
  (if (y1 == true) = true then Go.Bx.load_small.run x1.2.2.2.2.2.2.1 65535 else some false).bind fun y2 =>
  (if ((cond y1 y2 false) == true) = true then Go.Bx.wide_Cmp.run x1.2.2.1 x1.2.1 else some 0).bind fun y3 =>
  Rt (cond (cond (cond y1 y2 false) (decide (y3 ≤ 0)) false) (cond (cond x0.1 (decide ((x1.2.2.2.2.2.2.2.2.2.1.length : Int) ≤ 100)) false) true (cond (not x0.1) ((x1.2.2.2.2.2.2.2.2.2.1.length : Int) == 0) false)) false)
theorem top_eq {α : Type} (k : Nat) (Q : Ex → St → Option α) (x0 : Bool × Unit) (x1 : Int × List Int × List Int × List Int × Int × List Int × Int × Int × List Int × List Int × Int × List (List Int) × Unit) :
    (den C k) (cB Try.f140) Q (St0 x0 x1) = top (fun (x4 : Bool) => Q .ret (St1 x4)) x0 x1 := by
  have h : ∀ (D L : DT α), denJ D L Js C (cB Try.f140) Q (St0 x0 x1) =
        (Go.Bx.load_small.run x1.2.2.2.2.1 65535).bind fun y1 =>
        (if (y1 == true) = true then Go.Bx.load_small.run x1.2.2.2.2.2.2.1 65535 else some false).bind fun y2 =>
        (if ((cond y1 y2 false) == true) = true then Go.Bx.wide_Cmp.run x1.2.2.1 x1.2.1 else some 0).bind fun y3 =>
        Q .ret (St1 (cond (cond (cond y1 y2 false) (decide (y3 ≤ 0)) false) (cond (cond x0.1 (decide ((x1.2.2.2.2.2.2.2.2.2.1.length : Int) ≤ 100)) false) true (cond (not x0.1) ((x1.2.2.2.2.2.2.2.2.2.1.length : Int) == 0) false)) false)) := by
    intro D L; kernel_rfl
  refine (show (den C k) (cB Try.f140) Q (St0 x0 x1) = denJ (den C k) (lp C k) Js C (cB Try.f140) Q (St0 x0 x1) from (denJ_den _ _ _ _ _ _).symm).trans ((h (den C k) (lp C k)).trans ?_)
  first | rfl | kernel_rfl
def run (x0 : Bool × Unit) (x1 : Int × List Int × List Int × List Int × Int × List Int × Int × Int × List Int × List Int × Int × List (List Int) × Unit) : Option (Bool) := top (α := Bool) (fun (x4 : Bool) => some x4) x0 x1
def F : Fn := ⟨(.pair (.pair .bool .unit) (.pair (.pair (.int .i64) (.pair (.arr 4 (.int .u64)) (.pair (.arr 4 (.int .u64)) (.pair (.arr 32 (.int .u8)) (.pair (.int .i64) (.pair (.arr 32 (.int .u8)) (.pair (.int .i64) (.pair (.int .i64) (.pair .str (.pair (.sl (.int .u8)) (.pair (.int .i64) (.pair (.sl (.arr 20 (.int .u8))) .unit)))))))))))) .unit)), .bool, false, fun x => run x.1 x.2.1⟩
set_option maxRecDepth 100000 in
theorem con : Con Try.prog 140 F := by
  refine con_of_den (C := C) (ctx_ok (by kernel_rfl) (by kernel_rfl) (by kernel_rfl) (by kernel_rfl) ⟨.inl ⟨Go.Bx.load_small.con, Go.Bx.load_small.named⟩, ⟨.inl ⟨Go.Bx.wide_Cmp.con, Go.Bx.wide_Cmp.named⟩, trivial⟩⟩) (by kernel_rfl) Try.func140 (c := cB Try.f140) (by kernel_rfl) (by kernel_rfl) F fuel (fun x => by simp [F, spread, Try.ntmps140]) ?_
  intro x r h
  rw [← h]
  have h1 : start F Try.f140.ntmps x = (St0 x.1 x.2.1) := by kernel_rfl
  rw [h1]
  refine (top_eq fuel (fin C Try.f140.results.toList F.rs F.multi) x.1 x.2.1).trans ?_
  kernel_rfl
theorem named : Named Try.prog 140 := named_of Try.func140 (by kernel_rfl) (by kernel_rfl)
end Go.Bx.load_transfer__check
namespace Go.Bx.load_meta__bare
open Go Go.Proofs Go.Bx
set_option maxRecDepth 100000
set_option linter.unusedVariables false
def Js : List Nat := []
def C : Ctx := ⟨[(3, (.int .i64)), (9, .str), (69, (.arr 32 (.int .u8))), (71, (.pair (.int .i64) (.pair (.arr 4 (.int .u64)) (.pair (.arr 4 (.int .u64)) (.pair (.arr 32 (.int .u8)) (.pair (.int .i64) (.pair (.arr 32 (.int .u8)) (.pair (.int .i64) (.pair (.int .i64) (.pair .str (.pair (.sl (.int .u8)) (.pair (.int .i64) (.pair (.sl (.arr 20 (.int .u8))) .unit))))))))))))), (182, .unit)], [], [], fnL [], noSh, [], invL [], [(2, [4])], [], [], 0, 0⟩
def St0 (x0 : Unit) (x1 : Int × List Int × List Int × List Int × Int × List Int × Int × Int × List Int × List Int × Int × List (List Int) × Unit) : St := stL 16 [(0, .data .unit x0), (1, .data (.pair (.int .i64) (.pair (.arr 4 (.int .u64)) (.pair (.arr 4 (.int .u64)) (.pair (.arr 32 (.int .u8)) (.pair (.int .i64) (.pair (.arr 32 (.int .u8)) (.pair (.int .i64) (.pair (.int .i64) (.pair .str (.pair (.sl (.int .u8)) (.pair (.int .i64) (.pair (.sl (.arr 20 (.int .u8))) .unit)))))))))))) x1)] []
def St1 (c4p0 : Int) (c4p1 : List Int) (c4p2 : List Int) (c4p3 : List Int) (c4p4 : Int) (c4p5 : List Int) (c4p6 : Int) (c4p7 : Int) (c4p8 : List Int) (c4p10 : Int) : St := stL 16 [(4, .ref 4 0 [])] [(4, .cell (.pair (.int .i64) (.pair (.arr 4 (.int .u64)) (.pair (.arr 4 (.int .u64)) (.pair (.arr 32 (.int .u8)) (.pair (.int .i64) (.pair (.arr 32 (.int .u8)) (.pair (.int .i64) (.pair (.int .i64) (.pair .str (.pair (.sl (.int .u8)) (.pair (.int .i64) (.pair (.sl (.arr 20 (.int .u8))) .unit)))))))))))) (.agg (.pair (.int .i64) (.pair (.arr 4 (.int .u64)) (.pair (.arr 4 (.int .u64)) (.pair (.arr 32 (.int .u8)) (.pair (.int .i64) (.pair (.arr 32 (.int .u8)) (.pair (.int .i64) (.pair (.int .i64) (.pair .str (.pair (.sl (.int .u8)) (.pair (.int .i64) (.pair (.sl (.arr 20 (.int .u8))) .unit)))))))))))) [.data (.int .i64) c4p0, .data (.arr 4 (.int .u64)) c4p1, .data (.arr 4 (.int .u64)) c4p2, .data (.arr 32 (.int .u8)) c4p3, .data (.int .i64) c4p4, .data (.arr 32 (.int .u8)) c4p5, .data (.int .i64) c4p6, .data (.int .i64) c4p7, .data .str c4p8, .full (.int .u8) [], .data (.int .i64) c4p10, .full (.arr 20 (.int .u8)) []]) false)]
def top {α : Type} (Rt : Int → (List Int) → (List Int) → (List Int) → Int → (List Int) → Int → Int → (List Int) → Int → Option α) (x0 : Unit) (x1 : Int × List Int × List Int × List Int × Int × List Int × Int × Int × List Int × List Int × Int × List (List Int) × Unit) : Option α :=
  Rt x1.1 [0, 0, 0, 0] [0, 0, 0, 0] x1.2.2.2.1 x1.2.2.2.2.1 (List.replicate 32 0) 0 x1.2.2.2.2.2.2.2.1 x1.2.2.2.2.2.2.2.2.1 0
theorem top_eq {α : Type} (k : Nat) (Q : Ex → St → Option α) (x0 : Unit) (x1 : Int × List Int × List Int × List Int × Int × List Int × Int × Int × List Int × List Int × Int × List (List Int) × Unit) :
    (den C k) (cB Try.f148) Q (St0 x0 x1) = top (fun (c4p0 : Int) (c4p1 : List Int) (c4p2 : List Int) (c4p3 : List Int) (c4p4 : Int) (c4p5 : List Int) (c4p6 : Int) (c4p7 : Int) (c4p8 : List Int) (c4p10 : Int) => Q .ret (St1 c4p0 c4p1 c4p2 c4p3 c4p4 c4p5 c4p6 c4p7 c4p8 c4p10)) x0 x1 := by
  have h : ∀ (D L : DT α), denJ D L Js C (cB Try.f148) Q (St0 x0 x1) =
        Q .ret (St1 x1.1 [0, 0, 0, 0] [0, 0, 0, 0] x1.2.2.2.1 x1.2.2.2.2.1 (List.replicate 32 0) 0 x1.2.2.2.2.2.2.2.1 x1.2.2.2.2.2.2.2.2.1 0) := by
    intro D L; kernel_rfl
  refine (show (den C k) (cB Try.f148) Q (St0 x0 x1) = denJ (den C k) (lp C k) Js C (cB Try.f148) Q (St0 x0 x1) from (denJ_den _ _ _ _ _ _).symm).trans ((h (den C k) (lp C k)).trans ?_)
  first | rfl | kernel_rfl
def run (x0 : Unit) (x1 : Int × List Int × List Int × List Int × Int × List Int × Int × Int × List Int × List Int × Int × List (List Int) × Unit) : Option (Int × List Int × List Int × List Int × Int × List Int × Int × Int × List Int × List Int × Int × List (List Int) × Unit) := top (α := Int × List Int × List Int × List Int × Int × List Int × Int × Int × List Int × List Int × Int × List (List Int) × Unit) (fun (c4p0 : Int) (c4p1 : List Int) (c4p2 : List Int) (c4p3 : List Int) (c4p4 : Int) (c4p5 : List Int) (c4p6 : Int) (c4p7 : Int) (c4p8 : List Int) (c4p10 : Int) => some (c4p0, c4p1, c4p2, c4p3, c4p4, c4p5, c4p6, c4p7, c4p8, [], c4p10, [], ())) x0 x1
def F : Fn := ⟨(.pair .unit (.pair (.pair (.int .i64) (.pair (.arr 4 (.int .u64)) (.pair (.arr 4 (.int .u64)) (.pair (.arr 32 (.int .u8)) (.pair (.int .i64) (.pair (.arr 32 (.int .u8)) (.pair (.int .i64) (.pair (.int .i64) (.pair .str (.pair (.sl (.int .u8)) (.pair (.int .i64) (.pair (.sl (.arr 20 (.int .u8))) .unit)))))))))))) .unit)), (.pair (.int .i64) (.pair (.arr 4 (.int .u64)) (.pair (.arr 4 (.int .u64)) (.pair (.arr 32 (.int .u8)) (.pair (.int .i64) (.pair (.arr 32 (.int .u8)) (.pair (.int .i64) (.pair (.int .i64) (.pair .str (.pair (.sl (.int .u8)) (.pair (.int .i64) (.pair (.sl (.arr 20 (.int .u8))) .unit)))))))))))), false, fun x => run x.1 x.2.1⟩
set_option maxRecDepth 100000 in
theorem con : Con Try.prog 148 F := by
  refine con_of_den (C := C) (ctx_ok (by kernel_rfl) (by kernel_rfl) (by kernel_rfl) (by kernel_rfl) trivial) (by kernel_rfl) Try.func148 (c := cB Try.f148) (by kernel_rfl) (by kernel_rfl) F fuel (fun x => by simp [F, spread, Try.ntmps148]) ?_
  intro x r h
  rw [← h]
  have h1 : start F Try.f148.ntmps x = (St0 x.1 x.2.1) := by kernel_rfl
  rw [h1]
  refine (top_eq fuel (fin C Try.f148.results.toList F.rs F.multi) x.1 x.2.1).trans ?_
  kernel_rfl
theorem named : Named Try.prog 148 := named_of Try.func148 (by kernel_rfl) (by kernel_rfl)
end Go.Bx.load_meta__bare
namespace Go.Bx.load_meta__check
open Go Go.Proofs Go.Bx
set_option maxRecDepth 100000
set_option linter.unusedVariables false
def Js : List Nat := [8]
def C : Ctx := ⟨[(3, (.int .i64)), (4, .bool), (5, (.int .u8)), (9, .str), (59, (.sl (.int .u8))), (71, (.pair (.int .i64) (.pair (.arr 4 (.int .u64)) (.pair (.arr 4 (.int .u64)) (.pair (.arr 32 (.int .u8)) (.pair (.int .i64) (.pair (.arr 32 (.int .u8)) (.pair (.int .i64) (.pair (.int .i64) (.pair .str (.pair (.sl (.int .u8)) (.pair (.int .i64) (.pair (.sl (.arr 20 (.int .u8))) .unit))))))))))))), (182, .unit)], [], [], fnL [(143, Go.Bx.load_small.F)], noSh, [], invL [], [(2, [4]), (1, [5]), (4, [5, 24, 25, 26]), (9, [5, 24, 25, 26]), (21, [5])], [], [], 0, 0⟩
def St0 (x0 : Unit) (x1 : Int × List Int × List Int × List Int × Int × List Int × Int × Int × List Int × List Int × Int × List (List Int) × Unit) : St := stL 37 [(0, .data .unit x0), (1, .data (.pair (.int .i64) (.pair (.arr 4 (.int .u64)) (.pair (.arr 4 (.int .u64)) (.pair (.arr 32 (.int .u8)) (.pair (.int .i64) (.pair (.arr 32 (.int .u8)) (.pair (.int .i64) (.pair (.int .i64) (.pair .str (.pair (.sl (.int .u8)) (.pair (.int .i64) (.pair (.sl (.arr 20 (.int .u8))) .unit)))))))))))) x1)] []
def St1 (x5 : Bool) (x24 : List Int) (x25 : Int) (x26 : Int) : St := stL 37 [(5, .data .bool x5), (24, .data (.sl (.int .u8)) x24), (25, .data (.int .i64) x25), (26, .data (.int .i64) x26)] []
noncomputable def cd0 : Code := cL (cL (cR (cL (cR (cR (cB Try.f149))))))
def St2 (x5 : Bool) : St := stL 37 [(5, .data .bool x5)] []
def l0s {α : Type} (Nx : Bool → (List Int) → Int → Int → Option α) (Xt0 : Bool → Option α) (x5 : Bool) (x24 : List Int) (x25 : Int) (x26 : Int) : Option α :=
  if (decide (x26 < x25)) = true then
    if 0 ≤ x26 ∧ x26 < (x24.length : Int) then
      Nx (cond x5 ((List.getD x24 (Int.toNat x26) 0) != 0) false) x24 x25 (IntKind.i64.wrap (x26 + 1))
    else none
  else
    Xt0 x5
theorem l0s_eq {α : Type} (k : Nat) (next : St → Option α) (Q : Ex → St → Option α) (x5 : Bool) (x24 : List Int) (x25 : Int) (x26 : Int) :
    rnd C k cd0 9 Q next (St1 x5 x24 x25 x26) = l0s (fun (x5 : Bool) (x24 : List Int) (x25 : Int) (x26 : Int) => next (St1 x5 x24 x25 x26)) (fun (x5 : Bool) => Q (.exit 0) (St2 x5)) x5 x24 x25 x26 := by
  have h : ∀ (D L : DT α), denJ D L Js C cd0 (lq C 9 next Q) (St1 x5 x24 x25 x26) =
        if (decide (x26 < x25)) = true then
          if 0 ≤ x26 ∧ x26 < (x24.length : Int) then
            next (St1 (cond x5 ((List.getD x24 (Int.toNat x26) 0) != 0) false) x24 x25 (IntKind.i64.wrap (x26 + 1)))
          else none
        else
          Q (.exit 0) (St2 x5) := by
    intro D L; kernel_rfl
  refine (show rnd C k cd0 9 Q next (St1 x5 x24 x25 x26) = denJ (den C k) (lp C k) Js C cd0 (lq C 9 next Q) (St1 x5 x24 x25 x26) from (denJ_den _ _ _ _ _ _).symm).trans ((h (den C k) (lp C k)).trans ?_)
  first | rfl | kernel_rfl
def l0 {α : Type} (k : Nat) (Xt0 : Bool → Option α) : Nat → Bool → (List Int) → Int → Int → Option α
  | 0, _, _, _, _ => none
  | n + 1, x5, x24, x25, x26 => l0s (l0 k Xt0 n) Xt0 x5 x24 x25 x26
theorem l0_eq {α : Type} (k : Nat) (Q : Ex → St → Option α) : ∀ (n : Nat) (x5 : Bool) (x24 : List Int) (x25 : Int) (x26 : Int), iter (rnd C k cd0 9 Q) n (St1 x5 x24 x25 x26) = l0 k (fun (x5 : Bool) => Q (.exit 0) (St2 x5)) n x5 x24 x25 x26
  | 0, _, _, _, _ => rfl
  | n + 1, x5, x24, x25, x26 => (iter_succ _ _ _).trans ((l0s_eq k (iter (rnd C k cd0 9 Q) n) Q x5 x24 x25 x26).trans (congrArg (fun N => l0s N (fun (x5 : Bool) => Q (.exit 0) (St2 x5)) x5 x24 x25 x26) (funext fun x5 => funext fun x24 => funext fun x25 => funext fun x26 => l0_eq k Q n x5 x24 x25 x26)))
theorem l0_congr {α : Type} (k : Nat) (Xt0 : Bool → Option α) (Xt0q : Bool → Option α) (hXt0 : ∀ (x5 : Bool), Xt0 x5 = Xt0q x5) (n : Nat) (x5 : Bool) (x24 : List Int) (x25 : Int) (x26 : Int) : l0 k Xt0 n x5 x24 x25 x26 = l0 k Xt0q n x5 x24 x25 x26 := by
  obtain rfl : Xt0 = Xt0q := by funext x5; exact hXt0 x5
  rfl
noncomputable def cd1 : Code := cR (cR (cR (cB Try.f149)))
def St3 (x5 : Bool) : St := stL 37 [(5, .data .bool x5)] []
def St4 (x4 : Bool) : St := stL 37 [(4, .data .bool x4)] []
def j0 {α : Type} (Rt : Bool → Option α) (x5 : Bool) : Option α :=
  Rt x5
theorem j0_eq {α : Type} (k : Nat) (Q : Ex → St → Option α) (x5 : Bool) :
    (den C k) cd1 Q (St3 x5) = j0 (fun (x4 : Bool) => Q .ret (St4 x4)) x5 := by
  have h : ∀ (D L : DT α), denJ D L Js C cd1 Q (St3 x5) =
        Q .ret (St4 x5) := by
    intro D L; kernel_rfl
  refine (show (den C k) cd1 Q (St3 x5) = denJ (den C k) (lp C k) Js C cd1 Q (St3 x5) from (denJ_den _ _ _ _ _ _).symm).trans ((h (den C k) (lp C k)).trans ?_)
  first | rfl | kernel_rfl
theorem a0 {α : Type} (k : Nat) (Q : Ex → St → Option α) (x5 : Bool) (x24 : List Int) (x25 : Int) (x26 : Int) :
    (lp C k) cd0 (blkQ C 0 (sq (den C k) (lp C k) Js C cd1 Q)) (St1 x5 x24 x25 x26) = l0 k (fun (x5 : Bool) => j0 (fun (x4 : Bool) => Q .ret (St4 x4)) x5) k x5 x24 x25 x26 :=
  (show (lp C k) cd0 (blkQ C 0 (sq (den C k) (lp C k) Js C cd1 Q)) (St1 x5 x24 x25 x26) = iter (rnd C k cd0 9 (blkQ C 0 (sq (den C k) (lp C k) Js C cd1 Q))) k (St1 x5 x24 x25 x26) by kernel_rfl).trans ((l0_eq k (blkQ C 0 (sq (den C k) (lp C k) Js C cd1 Q)) k x5 x24 x25 x26).trans (l0_congr k _ _ (fun x5 => ((show (blkQ C 0 (sq (den C k) (lp C k) Js C cd1 Q)) (.exit 0) (St2 x5) = (den C k) cd1 Q (St3 x5) by kernel_rfl).trans (by simp only [j0_eq]))) k x5 x24 x25 x26))
def top {α : Type} (k : Nat) (Rt : Bool → Option α) (x0 : Unit) (x1 : Int × List Int × List Int × List Int × Int × List Int × Int × Int × List Int × List Int × Int × List (List Int) × Unit) : Option α :=
  (Go.Bx.load_small.run x1.2.2.2.2.1 65535).bind fun y1 =>
  (if (y1 == true) = true then Go.Bx.load_small.run x1.2.2.2.2.2.2.2.1 77 else some false).bind fun y2 =>
  l0 k (fun (x5 : Bool) => j0 Rt x5) k (cond (cond y1 y2 false) (decide ((x1.2.2.2.2.2.2.2.2.1.length : Int) ≤ 32)) false) x1.2.2.2.2.2.2.2.2.1 (x1.2.2.2.2.2.2.2.2.1.length : Int) 0
theorem top_eq {α : Type} (k : Nat) (Q : Ex → St → Option α) (x0 : Unit) (x1 : Int × List Int × List Int × List Int × Int × List Int × Int × Int × List Int × List Int × Int × List (List Int) × Unit) :
    (den C k) (cB Try.f149) Q (St0 x0 x1) = top k (fun (x4 : Bool) => Q .ret (St4 x4)) x0 x1 := by
  have h : ∀ (D L : DT α), denJ D L Js C (cB Try.f149) Q (St0 x0 x1) =
        (Go.Bx.load_small.run x1.2.2.2.2.1 65535).bind fun y1 =>
        (if (y1 == true) = true then Go.Bx.load_small.run x1.2.2.2.2.2.2.2.1 77 else some false).bind fun y2 =>
        L cd0 (blkQ C 0 (sq D L Js C cd1 Q)) (St1 (cond (cond y1 y2 false) (decide ((x1.2.2.2.2.2.2.2.2.1.length : Int) ≤ 32)) false) x1.2.2.2.2.2.2.2.2.1 (x1.2.2.2.2.2.2.2.2.1.length : Int) 0) := by
    intro D L; kernel_rfl
  refine (show (den C k) (cB Try.f149) Q (St0 x0 x1) = denJ (den C k) (lp C k) Js C (cB Try.f149) Q (St0 x0 x1) from (denJ_den _ _ _ _ _ _).symm).trans ((h (den C k) (lp C k)).trans ?_)
  simp only [a0]
  first | rfl | kernel_rfl
def run (x0 : Unit) (x1 : Int × List Int × List Int × List Int × Int × List Int × Int × Int × List Int × List Int × Int × List (List Int) × Unit) : Option (Bool) := top (α := Bool) fuel (fun (x4 : Bool) => some x4) x0 x1
def F : Fn := ⟨(.pair .unit (.pair (.pair (.int .i64) (.pair (.arr 4 (.int .u64)) (.pair (.arr 4 (.int .u64)) (.pair (.arr 32 (.int .u8)) (.pair (.int .i64) (.pair (.arr 32 (.int .u8)) (.pair (.int .i64) (.pair (.int .i64) (.pair .str (.pair (.sl (.int .u8)) (.pair (.int .i64) (.pair (.sl (.arr 20 (.int .u8))) .unit)))))))))))) .unit)), .bool, false, fun x => run x.1 x.2.1⟩
set_option maxRecDepth 100000 in
theorem con : Con Try.prog 149 F := by
  refine con_of_den (C := C) (ctx_ok (by kernel_rfl) (by kernel_rfl) (by kernel_rfl) (by kernel_rfl) ⟨.inl ⟨Go.Bx.load_small.con, Go.Bx.load_small.named⟩, trivial⟩) (by kernel_rfl) Try.func149 (c := cB Try.f149) (by kernel_rfl) (by kernel_rfl) F fuel (fun x => by simp [F, spread, Try.ntmps149]) ?_
  intro x r h
  rw [← h]
  have h1 : start F Try.f149.ntmps x = (St0 x.1 x.2.1) := by kernel_rfl
  rw [h1]
  refine (top_eq fuel (fin C Try.f149.results.toList F.rs F.multi) x.1 x.2.1).trans ?_
  kernel_rfl
theorem named : Named Try.prog 149 := named_of Try.func149 (by kernel_rfl) (by kernel_rfl)
end Go.Bx.load_meta__check
namespace Go.Bx.load_turn__bare
open Go Go.Proofs Go.Bx
set_option maxRecDepth 100000
set_option linter.unusedVariables false
def Js : List Nat := []
def C : Ctx := ⟨[(3, (.int .i64)), (26, (.sl (.arr 20 (.int .u8)))), (71, (.pair (.int .i64) (.pair (.arr 4 (.int .u64)) (.pair (.arr 4 (.int .u64)) (.pair (.arr 32 (.int .u8)) (.pair (.int .i64) (.pair (.arr 32 (.int .u8)) (.pair (.int .i64) (.pair (.int .i64) (.pair .str (.pair (.sl (.int .u8)) (.pair (.int .i64) (.pair (.sl (.arr 20 (.int .u8))) .unit))))))))))))), (183, .unit)], [], [], fnL [], noSh, [], invL [], [(2, [4])], [], [], 0, 0⟩
def St0 (x0 : Unit) (x1 : Int × List Int × List Int × List Int × Int × List Int × Int × Int × List Int × List Int × Int × List (List Int) × Unit) : St := stL 12 [(0, .data .unit x0), (1, .data (.pair (.int .i64) (.pair (.arr 4 (.int .u64)) (.pair (.arr 4 (.int .u64)) (.pair (.arr 32 (.int .u8)) (.pair (.int .i64) (.pair (.arr 32 (.int .u8)) (.pair (.int .i64) (.pair (.int .i64) (.pair .str (.pair (.sl (.int .u8)) (.pair (.int .i64) (.pair (.sl (.arr 20 (.int .u8))) .unit)))))))))))) x1)] []
def St1 (c4p0 : Int) (c4p1 : List Int) (c4p2 : List Int) (c4p3 : List Int) (c4p4 : Int) (c4p5 : List Int) (c4p6 : Int) (c4p7 : Int) (c4p8 : List Int) (c4p10 : Int) (c4p11 : List (List Int)) : St := stL 12 [(4, .ref 4 0 [])] [(4, .cell (.pair (.int .i64) (.pair (.arr 4 (.int .u64)) (.pair (.arr 4 (.int .u64)) (.pair (.arr 32 (.int .u8)) (.pair (.int .i64) (.pair (.arr 32 (.int .u8)) (.pair (.int .i64) (.pair (.int .i64) (.pair .str (.pair (.sl (.int .u8)) (.pair (.int .i64) (.pair (.sl (.arr 20 (.int .u8))) .unit)))))))))))) (.agg (.pair (.int .i64) (.pair (.arr 4 (.int .u64)) (.pair (.arr 4 (.int .u64)) (.pair (.arr 32 (.int .u8)) (.pair (.int .i64) (.pair (.arr 32 (.int .u8)) (.pair (.int .i64) (.pair (.int .i64) (.pair .str (.pair (.sl (.int .u8)) (.pair (.int .i64) (.pair (.sl (.arr 20 (.int .u8))) .unit)))))))))))) [.data (.int .i64) c4p0, .data (.arr 4 (.int .u64)) c4p1, .data (.arr 4 (.int .u64)) c4p2, .data (.arr 32 (.int .u8)) c4p3, .data (.int .i64) c4p4, .data (.arr 32 (.int .u8)) c4p5, .data (.int .i64) c4p6, .data (.int .i64) c4p7, .data .str c4p8, .full (.int .u8) [], .data (.int .i64) c4p10, .data (.sl (.arr 20 (.int .u8))) c4p11]) false)]
def top {α : Type} (Rt : Int → (List Int) → (List Int) → (List Int) → Int → (List Int) → Int → Int → (List Int) → Int → (List (List Int)) → Option α) (x0 : Unit) (x1 : Int × List Int × List Int × List Int × Int × List Int × Int × Int × List Int × List Int × Int × List (List Int) × Unit) : Option α :=
  Rt x1.1 [0, 0, 0, 0] [0, 0, 0, 0] (List.replicate 32 0) 0 (List.replicate 32 0) 0 0 [] x1.2.2.2.2.2.2.2.2.2.2.1 x1.2.2.2.2.2.2.2.2.2.2.2.1
theorem top_eq {α : Type} (k : Nat) (Q : Ex → St → Option α) (x0 : Unit) (x1 : Int × List Int × List Int × List Int × Int × List Int × Int × Int × List Int × List Int × Int × List (List Int) × Unit) :
    (den C k) (cB Try.f152) Q (St0 x0 x1) = top (fun (c4p0 : Int) (c4p1 : List Int) (c4p2 : List Int) (c4p3 : List Int) (c4p4 : Int) (c4p5 : List Int) (c4p6 : Int) (c4p7 : Int) (c4p8 : List Int) (c4p10 : Int) (c4p11 : List (List Int)) => Q .ret (St1 c4p0 c4p1 c4p2 c4p3 c4p4 c4p5 c4p6 c4p7 c4p8 c4p10 c4p11)) x0 x1 := by
  have h : ∀ (D L : DT α), denJ D L Js C (cB Try.f152) Q (St0 x0 x1) =
        Q .ret (St1 x1.1 [0, 0, 0, 0] [0, 0, 0, 0] (List.replicate 32 0) 0 (List.replicate 32 0) 0 0 [] x1.2.2.2.2.2.2.2.2.2.2.1 x1.2.2.2.2.2.2.2.2.2.2.2.1) := by
    intro D L; kernel_rfl
  refine (show (den C k) (cB Try.f152) Q (St0 x0 x1) = denJ (den C k) (lp C k) Js C (cB Try.f152) Q (St0 x0 x1) from (denJ_den _ _ _ _ _ _).symm).trans ((h (den C k) (lp C k)).trans ?_)
  first | rfl | kernel_rfl
def run (x0 : Unit) (x1 : Int × List Int × List Int × List Int × Int × List Int × Int × Int × List Int × List Int × Int × List (List Int) × Unit) : Option (Int × List Int × List Int × List Int × Int × List Int × Int × Int × List Int × List Int × Int × List (List Int) × Unit) := top (α := Int × List Int × List Int × List Int × Int × List Int × Int × Int × List Int × List Int × Int × List (List Int) × Unit) (fun (c4p0 : Int) (c4p1 : List Int) (c4p2 : List Int) (c4p3 : List Int) (c4p4 : Int) (c4p5 : List Int) (c4p6 : Int) (c4p7 : Int) (c4p8 : List Int) (c4p10 : Int) (c4p11 : List (List Int)) => some (c4p0, c4p1, c4p2, c4p3, c4p4, c4p5, c4p6, c4p7, c4p8, [], c4p10, c4p11, ())) x0 x1
def F : Fn := ⟨(.pair .unit (.pair (.pair (.int .i64) (.pair (.arr 4 (.int .u64)) (.pair (.arr 4 (.int .u64)) (.pair (.arr 32 (.int .u8)) (.pair (.int .i64) (.pair (.arr 32 (.int .u8)) (.pair (.int .i64) (.pair (.int .i64) (.pair .str (.pair (.sl (.int .u8)) (.pair (.int .i64) (.pair (.sl (.arr 20 (.int .u8))) .unit)))))))))))) .unit)), (.pair (.int .i64) (.pair (.arr 4 (.int .u64)) (.pair (.arr 4 (.int .u64)) (.pair (.arr 32 (.int .u8)) (.pair (.int .i64) (.pair (.arr 32 (.int .u8)) (.pair (.int .i64) (.pair (.int .i64) (.pair .str (.pair (.sl (.int .u8)) (.pair (.int .i64) (.pair (.sl (.arr 20 (.int .u8))) .unit)))))))))))), false, fun x => run x.1 x.2.1⟩
set_option maxRecDepth 100000 in
theorem con : Con Try.prog 152 F := by
  refine con_of_den (C := C) (ctx_ok (by kernel_rfl) (by kernel_rfl) (by kernel_rfl) (by kernel_rfl) trivial) (by kernel_rfl) Try.func152 (c := cB Try.f152) (by kernel_rfl) (by kernel_rfl) F fuel (fun x => by simp [F, spread, Try.ntmps152]) ?_
  intro x r h
  rw [← h]
  have h1 : start F Try.f152.ntmps x = (St0 x.1 x.2.1) := by kernel_rfl
  rw [h1]
  refine (top_eq fuel (fin C Try.f152.results.toList F.rs F.multi) x.1 x.2.1).trans ?_
  kernel_rfl
theorem named : Named Try.prog 152 := named_of Try.func152 (by kernel_rfl) (by kernel_rfl)
end Go.Bx.load_turn__bare
namespace Go.Bx.load_turn__check
open Go Go.Proofs Go.Bx
set_option maxRecDepth 100000
set_option linter.unusedVariables false
def Js : List Nat := []
def C : Ctx := ⟨[(3, (.int .i64)), (4, .bool), (26, (.sl (.arr 20 (.int .u8)))), (71, (.pair (.int .i64) (.pair (.arr 4 (.int .u64)) (.pair (.arr 4 (.int .u64)) (.pair (.arr 32 (.int .u8)) (.pair (.int .i64) (.pair (.arr 32 (.int .u8)) (.pair (.int .i64) (.pair (.int .i64) (.pair .str (.pair (.sl (.int .u8)) (.pair (.int .i64) (.pair (.sl (.arr 20 (.int .u8))) .unit))))))))))))), (183, .unit)], [], [], fnL [(143, Go.Bx.load_small.F)], noSh, [], invL [], [(2, [4])], [], [], 0, 0⟩
def St0 (x0 : Unit) (x1 : Int × List Int × List Int × List Int × Int × List Int × Int × Int × List Int × List Int × Int × List (List Int) × Unit) : St := stL 20 [(0, .data .unit x0), (1, .data (.pair (.int .i64) (.pair (.arr 4 (.int .u64)) (.pair (.arr 4 (.int .u64)) (.pair (.arr 32 (.int .u8)) (.pair (.int .i64) (.pair (.arr 32 (.int .u8)) (.pair (.int .i64) (.pair (.int .i64) (.pair .str (.pair (.sl (.int .u8)) (.pair (.int .i64) (.pair (.sl (.arr 20 (.int .u8))) .unit)))))))))))) x1)] []
def St1 (x4 : Bool) : St := stL 20 [(4, .data .bool x4)] []
def top {α : Type} (Rt : Bool → Option α) (x0 : Unit) (x1 : Int × List Int × List Int × List Int × Int × List Int × Int × Int × List Int × List Int × Int × List (List Int) × Unit) : Option α :=
  (Go.Bx.load_small.run x1.2.2.2.2.2.2.2.2.2.2.1 4294967295).bind fun y1 =>
  Rt (cond (cond y1 (decide ((x1.2.2.2.2.2.2.2.2.2.2.2.1.length : Int) ≥ 1)) false) (decide ((x1.2.2.2.2.2.2.2.2.2.2.2.1.length : Int) ≤ 19)) false)
theorem top_eq {α : Type} (k : Nat) (Q : Ex → St → Option α) (x0 : Unit) (x1 : Int × List Int × List Int × List Int × Int × List Int × Int × Int × List Int × List Int × Int × List (List Int) × Unit) :
    (den C k) (cB Try.f153) Q (St0 x0 x1) = top (fun (x4 : Bool) => Q .ret (St1 x4)) x0 x1 := by
  have h : ∀ (D L : DT α), denJ D L Js C (cB Try.f153) Q (St0 x0 x1) =
        (Go.Bx.load_small.run x1.2.2.2.2.2.2.2.2.2.2.1 4294967295).bind fun y1 =>
        Q .ret (St1 (cond (cond y1 (decide ((x1.2.2.2.2.2.2.2.2.2.2.2.1.length : Int) ≥ 1)) false) (decide ((x1.2.2.2.2.2.2.2.2.2.2.2.1.length : Int) ≤ 19)) false)) := by
    intro D L; kernel_rfl
  refine (show (den C k) (cB Try.f153) Q (St0 x0 x1) = denJ (den C k) (lp C k) Js C (cB Try.f153) Q (St0 x0 x1) from (denJ_den _ _ _ _ _ _).symm).trans ((h (den C k) (lp C k)).trans ?_)
  first | rfl | kernel_rfl
def run (x0 : Unit) (x1 : Int × List Int × List Int × List Int × Int × List Int × Int × Int × List Int × List Int × Int × List (List Int) × Unit) : Option (Bool) := top (α := Bool) (fun (x4 : Bool) => some x4) x0 x1
def F : Fn := ⟨(.pair .unit (.pair (.pair (.int .i64) (.pair (.arr 4 (.int .u64)) (.pair (.arr 4 (.int .u64)) (.pair (.arr 32 (.int .u8)) (.pair (.int .i64) (.pair (.arr 32 (.int .u8)) (.pair (.int .i64) (.pair (.int .i64) (.pair .str (.pair (.sl (.int .u8)) (.pair (.int .i64) (.pair (.sl (.arr 20 (.int .u8))) .unit)))))))))))) .unit)), .bool, false, fun x => run x.1 x.2.1⟩
set_option maxRecDepth 100000 in
theorem con : Con Try.prog 153 F := by
  refine con_of_den (C := C) (ctx_ok (by kernel_rfl) (by kernel_rfl) (by kernel_rfl) (by kernel_rfl) ⟨.inl ⟨Go.Bx.load_small.con, Go.Bx.load_small.named⟩, trivial⟩) (by kernel_rfl) Try.func153 (c := cB Try.f153) (by kernel_rfl) (by kernel_rfl) F fuel (fun x => by simp [F, spread, Try.ntmps153]) ?_
  intro x r h
  rw [← h]
  have h1 : start F Try.f153.ntmps x = (St0 x.1 x.2.1) := by kernel_rfl
  rw [h1]
  refine (top_eq fuel (fin C Try.f153.results.toList F.rs F.multi) x.1 x.2.1).trans ?_
  kernel_rfl
theorem named : Named Try.prog 153 := named_of Try.func153 (by kernel_rfl) (by kernel_rfl)
end Go.Bx.load_turn__check
namespace Go.Bx.load_kindOf_s0
open Go Go.Proofs Go.Bx
set_option maxRecDepth 100000
set_option linter.unusedVariables false
def Js : List Nat := [5]
def C : Ctx := ⟨[(180, (.pair .bool .unit)), (182, .unit), (183, .unit)], [], [], fnL [], noSh, [], invL [], [(2, [2, 3]), (1, []), (20, [0, 4, 5])], [], [], 0, 0⟩
def St0 (x0 : Int) : St := stL 20 [(0, .data (.int .i64) x0)] []
def St1 (x0 : Int) (x4 : Int) (x5 : Bool) : St := stL 20 [(0, .data (.int .i64) x0), (4, .data (.int .i64) x4), (5, .data .bool x5)] []
noncomputable def cd0 : Code := cR (cR (cB Try.f74))
noncomputable def cd1 : Code := cR (cL (cR (cL (cR (cB Try.f74)))))
def St2 (x2y : Bool × Unit) (x3 : Bool) : St := stL 20 [(2, .ifc 180 (.data (.pair .bool .unit) x2y)), (3, .data .bool x3)] []
def St3 (x2y : Unit) (x3 : Bool) : St := stL 20 [(2, .ifc 182 (.data .unit x2y)), (3, .data .bool x3)] []
def St4 (x2y : Unit) (x3 : Bool) : St := stL 20 [(2, .ifc 183 (.data .unit x2y)), (3, .data .bool x3)] []
def St5 (x3 : Bool) : St := stL 20 [(3, .data .bool x3)] []
def j0 {α : Type} (Rt0 : (Bool × Unit) → Bool → Option α) (Rt1 : Unit → Bool → Option α) (Rt2 : Unit → Bool → Option α) (Rt3 : Bool → Option α) (x0 : Int) (x4 : Int) (x5 : Bool) : Option α :=
  if x5 = true then
    Rt0 ((x0 == 3), ()) true
  else
    if (x4 == 2) = true then
      Rt1 () true
    else
      if (x4 == 4) = true then
        Rt2 () true
      else
        Rt3 false
theorem j0_eq {α : Type} (k : Nat) (Q : Ex → St → Option α) (x0 : Int) (x4 : Int) (x5 : Bool) :
    (den C k) cd1 (blkQ C 0 (sq (den C k) (lp C k) Js C cd0 (endQ C Q))) (St1 x0 x4 x5) = j0 (fun (x2y : Bool × Unit) (x3 : Bool) => Q .ret (St2 x2y x3)) (fun (x2y : Unit) (x3 : Bool) => Q .ret (St3 x2y x3)) (fun (x2y : Unit) (x3 : Bool) => Q .ret (St4 x2y x3)) (fun (x3 : Bool) => Q .ret (St5 x3)) x0 x4 x5 := by
  have h : ∀ (D L : DT α), denJ D L Js C cd1 (blkQ C 0 (sq D L Js C cd0 (endQ C Q))) (St1 x0 x4 x5) =
        if x5 = true then
          Q .ret (St2 ((x0 == 3), ()) true)
        else
          if (x4 == 2) = true then
            Q .ret (St3 () true)
          else
            if (x4 == 4) = true then
              Q .ret (St4 () true)
            else
              Q .ret (St5 false) := by
    intro D L; kernel_rfl
  refine (show (den C k) cd1 (blkQ C 0 (sq (den C k) (lp C k) Js C cd0 (endQ C Q))) (St1 x0 x4 x5) = denJ (den C k) (lp C k) Js C cd1 (blkQ C 0 (sq (den C k) (lp C k) Js C cd0 (endQ C Q))) (St1 x0 x4 x5) from (denJ_den _ _ _ _ _ _).symm).trans ((h (den C k) (lp C k)).trans ?_)
  first | rfl | kernel_rfl
def top {α : Type} (Rt0 : (Bool × Unit) → Bool → Option α) (Rt1 : Unit → Bool → Option α) (Rt2 : Unit → Bool → Option α) (Rt3 : Bool → Option α) (x0 : Int) : Option α :=
  if (x0 == 1) = true then
    j0 Rt0 Rt1 Rt2 Rt3 x0 x0 (x0 == 1)
  else
    j0 Rt0 Rt1 Rt2 Rt3 x0 x0 (x0 == 3)
theorem top_eq {α : Type} (k : Nat) (Q : Ex → St → Option α) (x0 : Int) :
    (den C k) (cB Try.f74) (endQ C Q) (St0 x0) = top (fun (x2y : Bool × Unit) (x3 : Bool) => Q .ret (St2 x2y x3)) (fun (x2y : Unit) (x3 : Bool) => Q .ret (St3 x2y x3)) (fun (x2y : Unit) (x3 : Bool) => Q .ret (St4 x2y x3)) (fun (x3 : Bool) => Q .ret (St5 x3)) x0 := by
  have h : ∀ (D L : DT α), denJ D L Js C (cB Try.f74) (endQ C Q) (St0 x0) =
        if (x0 == 1) = true then
          D cd1 (blkQ C 0 (sq D L Js C cd0 (endQ C Q))) (St1 x0 x0 (x0 == 1))
        else
          D cd1 (blkQ C 0 (sq D L Js C cd0 (endQ C Q))) (St1 x0 x0 (x0 == 3)) := by
    intro D L; kernel_rfl
  refine (show (den C k) (cB Try.f74) (endQ C Q) (St0 x0) = denJ (den C k) (lp C k) Js C (cB Try.f74) (endQ C Q) (St0 x0) from (denJ_den _ _ _ _ _ _).symm).trans ((h (den C k) (lp C k)).trans ?_)
  simp only [j0_eq]
  first | rfl | kernel_rfl
def run (x0 : Int) : Option (((Bool × Unit) × Bool × Unit) ⊕ ((Unit × Bool × Unit) ⊕ ((Unit × Bool × Unit) ⊕ ((Bool × Unit) ⊕ (Empty))))) := top (α := ((Bool × Unit) × Bool × Unit) ⊕ ((Unit × Bool × Unit) ⊕ ((Unit × Bool × Unit) ⊕ ((Bool × Unit) ⊕ (Empty))))) (fun (x2y : Bool × Unit) (x3 : Bool) => some (.inl (x2y, x3, ()))) (fun (x2y : Unit) (x3 : Bool) => some (.inr (.inl (x2y, x3, ())))) (fun (x2y : Unit) (x3 : Bool) => some (.inr (.inr (.inl (x2y, x3, ()))))) (fun (x3 : Bool) => some (.inr (.inr (.inr (.inl (x3, ())))))) x0
def Sp : SpecA := ⟨[hD (.int .i64)], [], (.pair (.int .i64) .unit), [⟨.tup [.ifc 180 (hD (.pair .bool .unit)), hD .bool], [], (.pair (.pair .bool .unit) (.pair .bool .unit))⟩, ⟨.tup [.ifc 182 (hD .unit), hD .bool], [], (.pair .unit (.pair .bool .unit))⟩, ⟨.tup [.ifc 183 (hD .unit), hD .bool], [], (.pair .unit (.pair .bool .unit))⟩, ⟨.tup [.any, hD .bool], [], (.pair .bool .unit)⟩], fun x => run x.1⟩
set_option maxRecDepth 100000 in
theorem sok : SOk Try.prog 74 Sp.h := by
  refine sok_of_denA (C := C) (ctx_ok (by kernel_rfl) (by kernel_rfl) (by kernel_rfl) (by kernel_rfl) trivial) (by kernel_rfl) Try.func74 (c := cB Try.f74) (by kernel_rfl) (by kernel_rfl) Sp fuel (by kernel_rfl) (by kernel_rfl) ?_
  intro x r h
  rw [← h]
  have h1 : Sp.start x Try.f74.ntmps = (St0 x.1) := by kernel_rfl
  rw [h1]
  refine (top_eq fuel (finS C Try.f74.results.toList Sp.read) x.1).trans ?_
  kernel_rfl
theorem named : Named Try.prog 74 := named_of Try.func74 (by kernel_rfl) (by kernel_rfl)
end Go.Bx.load_kindOf_s0
namespace Go.Bx.load_Check
open Go Go.Proofs Go.Bx
set_option maxRecDepth 100000
set_option linter.unusedVariables false
def Js : List Nat := []
def C : Ctx := ⟨[(3, (.int .i64)), (23, (.int .i64)), (71, (.pair (.int .i64) (.pair (.arr 4 (.int .u64)) (.pair (.arr 4 (.int .u64)) (.pair (.arr 32 (.int .u8)) (.pair (.int .i64) (.pair (.arr 32 (.int .u8)) (.pair (.int .i64) (.pair (.int .i64) (.pair .str (.pair (.sl (.int .u8)) (.pair (.int .i64) (.pair (.sl (.arr 20 (.int .u8))) .unit)))))))))))))], [], [], fnL [(75, Go.Bx.load_same.F), (139, Go.Bx.load_transfer__bare.F), (140, Go.Bx.load_transfer__check.F), (148, Go.Bx.load_meta__bare.F), (149, Go.Bx.load_meta__check.F), (152, Go.Bx.load_turn__bare.F), (153, Go.Bx.load_turn__check.F)], shL [(74, [.alt Go.Bx.load_kindOf_s0.Sp])], [(8, 26)], invL [(180, [("bascule/load.bare", 139), ("bascule/load.check", 140)]), (182, [("bascule/load.bare", 148), ("bascule/load.check", 149)]), (183, [("bascule/load.bare", 152), ("bascule/load.check", 153)])], [(2, [2])], [], [], 0, 0⟩
def St0 (x0 : Int × List Int × List Int × List Int × Int × List Int × Int × Int × List Int × List Int × Int × List (List Int) × Unit) : St := stL 25 [(0, .data (.pair (.int .i64) (.pair (.arr 4 (.int .u64)) (.pair (.arr 4 (.int .u64)) (.pair (.arr 32 (.int .u8)) (.pair (.int .i64) (.pair (.arr 32 (.int .u8)) (.pair (.int .i64) (.pair (.int .i64) (.pair .str (.pair (.sl (.int .u8)) (.pair (.int .i64) (.pair (.sl (.arr 20 (.int .u8))) .unit)))))))))))) x0)] []
def St1 (x2 : Int) : St := stL 25 [(2, .data (.int .i64) x2)] []
def top {α : Type} (Rt : Int → Option α) (x0 : Int × List Int × List Int × List Int × Int × List Int × Int × Int × List Int × List Int × Int × List (List Int) × Unit) : Option α :=
  (Go.Bx.load_kindOf_s0.run x0.1).bind fun y1 => (Sum.elim (fun y2 =>
    if (not y2.2.1) = true then
      Rt 2
    else
      (Go.Bx.load_transfer__check.run y2.1 x0).bind fun y6 =>
      (if ((not y6) == false) = true then Go.Bx.load_transfer__bare.run y2.1 x0 else some (0, [0, 0, 0, 0], [0, 0, 0, 0], (List.replicate 32 0), 0, (List.replicate 32 0), 0, 0, [], [], 0, [], ())).bind fun y7 =>
      (if ((not y6) == false) = true then Go.Bx.load_same.run x0 y7 else some false).bind fun y8 =>
      if (cond (not y6) true (not y8)) = true then
        Rt 3
      else
        Rt 0) (Sum.elim (fun y3 =>
    if (not y3.2.1) = true then
      Rt 2
    else
      (Go.Bx.load_meta__check.run y3.1 x0).bind fun y9 =>
      (if ((not y9) == false) = true then Go.Bx.load_meta__bare.run y3.1 x0 else some (0, [0, 0, 0, 0], [0, 0, 0, 0], (List.replicate 32 0), 0, (List.replicate 32 0), 0, 0, [], [], 0, [], ())).bind fun y10 =>
      (if ((not y9) == false) = true then Go.Bx.load_same.run x0 y10 else some false).bind fun y11 =>
      if (cond (not y9) true (not y11)) = true then
        Rt 3
      else
        Rt 0) (Sum.elim (fun y4 =>
    if (not y4.2.1) = true then
      Rt 2
    else
      (Go.Bx.load_turn__check.run y4.1 x0).bind fun y12 =>
      (if ((not y12) == false) = true then Go.Bx.load_turn__bare.run y4.1 x0 else some (0, [0, 0, 0, 0], [0, 0, 0, 0], (List.replicate 32 0), 0, (List.replicate 32 0), 0, 0, [], [], 0, [], ())).bind fun y13 =>
      (if ((not y12) == false) = true then Go.Bx.load_same.run x0 y13 else some false).bind fun y14 =>
      if (cond (not y12) true (not y14)) = true then
        Rt 3
      else
        Rt 0) (Sum.elim (fun y5 =>
    if (not y5.1) = true then
      Rt 2
    else
      none) (fun (e : Empty) => e.elim))))) y1
theorem top_eq {α : Type} (k : Nat) (Q : Ex → St → Option α) (x0 : Int × List Int × List Int × List Int × Int × List Int × Int × Int × List Int × List Int × Int × List (List Int) × Unit) :
    (den C k) (cB Try.f41) Q (St0 x0) = top (fun (x2 : Int) => Q .ret (St1 x2)) x0 := by
  have h : ∀ (D L : DT α), denJ D L Js C (cB Try.f41) Q (St0 x0) =
        (Go.Bx.load_kindOf_s0.run x0.1).bind fun y1 => (Sum.elim (fun y2 =>
          if (not y2.2.1) = true then
            Q .ret (St1 2)
          else
            (Go.Bx.load_transfer__check.run y2.1 x0).bind fun y6 =>
            (if ((not y6) == false) = true then Go.Bx.load_transfer__bare.run y2.1 x0 else some (0, [0, 0, 0, 0], [0, 0, 0, 0], (List.replicate 32 0), 0, (List.replicate 32 0), 0, 0, [], [], 0, [], ())).bind fun y7 =>
            (if ((not y6) == false) = true then Go.Bx.load_same.run x0 y7 else some false).bind fun y8 =>
            if (cond (not y6) true (not y8)) = true then
              Q .ret (St1 3)
            else
              Q .ret (St1 0)) (Sum.elim (fun y3 =>
          if (not y3.2.1) = true then
            Q .ret (St1 2)
          else
            (Go.Bx.load_meta__check.run y3.1 x0).bind fun y9 =>
            (if ((not y9) == false) = true then Go.Bx.load_meta__bare.run y3.1 x0 else some (0, [0, 0, 0, 0], [0, 0, 0, 0], (List.replicate 32 0), 0, (List.replicate 32 0), 0, 0, [], [], 0, [], ())).bind fun y10 =>
            (if ((not y9) == false) = true then Go.Bx.load_same.run x0 y10 else some false).bind fun y11 =>
            if (cond (not y9) true (not y11)) = true then
              Q .ret (St1 3)
            else
              Q .ret (St1 0)) (Sum.elim (fun y4 =>
          if (not y4.2.1) = true then
            Q .ret (St1 2)
          else
            (Go.Bx.load_turn__check.run y4.1 x0).bind fun y12 =>
            (if ((not y12) == false) = true then Go.Bx.load_turn__bare.run y4.1 x0 else some (0, [0, 0, 0, 0], [0, 0, 0, 0], (List.replicate 32 0), 0, (List.replicate 32 0), 0, 0, [], [], 0, [], ())).bind fun y13 =>
            (if ((not y12) == false) = true then Go.Bx.load_same.run x0 y13 else some false).bind fun y14 =>
            if (cond (not y12) true (not y14)) = true then
              Q .ret (St1 3)
            else
              Q .ret (St1 0)) (Sum.elim (fun y5 =>
          if (not y5.1) = true then
            Q .ret (St1 2)
          else
            none) (fun (e : Empty) => e.elim))))) y1 := by
    intro D L; kernel_rfl
  refine (show (den C k) (cB Try.f41) Q (St0 x0) = denJ (den C k) (lp C k) Js C (cB Try.f41) Q (St0 x0) from (denJ_den _ _ _ _ _ _).symm).trans ((h (den C k) (lp C k)).trans ?_)
  first | rfl | kernel_rfl
def run (x0 : Int × List Int × List Int × List Int × Int × List Int × Int × Int × List Int × List Int × Int × List (List Int) × Unit) : Option (Int) := top (α := Int) (fun (x2 : Int) => some x2) x0
def F : Fn := ⟨(.pair (.pair (.int .i64) (.pair (.arr 4 (.int .u64)) (.pair (.arr 4 (.int .u64)) (.pair (.arr 32 (.int .u8)) (.pair (.int .i64) (.pair (.arr 32 (.int .u8)) (.pair (.int .i64) (.pair (.int .i64) (.pair .str (.pair (.sl (.int .u8)) (.pair (.int .i64) (.pair (.sl (.arr 20 (.int .u8))) .unit)))))))))))) .unit), (.int .i64), false, fun x => run x.1⟩
set_option maxRecDepth 100000 in
theorem con : Con Try.prog 41 F := by
  refine con_of_den (C := C) (ctx_ok_sh (by kernel_rfl) (by kernel_rfl) (by kernel_rfl) (by kernel_rfl) ⟨.inl ⟨Go.Bx.load_same.con, Go.Bx.load_same.named⟩, ⟨.inl ⟨Go.Bx.load_transfer__bare.con, Go.Bx.load_transfer__bare.named⟩, ⟨.inl ⟨Go.Bx.load_transfer__check.con, Go.Bx.load_transfer__check.named⟩, ⟨.inl ⟨Go.Bx.load_meta__bare.con, Go.Bx.load_meta__bare.named⟩, ⟨.inl ⟨Go.Bx.load_meta__check.con, Go.Bx.load_meta__check.named⟩, ⟨.inl ⟨Go.Bx.load_turn__bare.con, Go.Bx.load_turn__bare.named⟩, ⟨.inl ⟨Go.Bx.load_turn__check.con, Go.Bx.load_turn__check.named⟩, trivial⟩⟩⟩⟩⟩⟩⟩ ⟨⟨⟨Go.Bx.load_kindOf_s0.sok, trivial⟩, Go.Bx.load_kindOf_s0.named⟩, trivial⟩) (by kernel_rfl) Try.func41 (c := cB Try.f41) (by kernel_rfl) (by kernel_rfl) F fuel (fun x => by simp [F, spread, Try.ntmps41]) ?_
  intro x r h
  rw [← h]
  have h1 : start F Try.f41.ntmps x = (St0 x.1) := by kernel_rfl
  rw [h1]
  refine (top_eq fuel (fin C Try.f41.results.toList F.rs F.multi) x.1).trans ?_
  kernel_rfl
theorem named : Named Try.prog 41 := named_of Try.func41 (by kernel_rfl) (by kernel_rfl)
end Go.Bx.load_Check
namespace Go.Bx.basculeref_SameLoad
open Go Go.Proofs Go.Bx
set_option maxRecDepth 100000
set_option linter.unusedVariables false
def Js : List Nat := [10]
def C : Ctx := ⟨[(3, (.int .i64)), (4, .bool), (9, .str), (26, (.sl (.arr 20 (.int .u8)))), (56, (.arr 4 (.int .u64))), (59, (.sl (.int .u8))), (69, (.arr 32 (.int .u8))), (71, (.pair (.int .i64) (.pair (.arr 4 (.int .u64)) (.pair (.arr 4 (.int .u64)) (.pair (.arr 32 (.int .u8)) (.pair (.int .i64) (.pair (.arr 32 (.int .u8)) (.pair (.int .i64) (.pair (.int .i64) (.pair .str (.pair (.sl (.int .u8)) (.pair (.int .i64) (.pair (.sl (.arr 20 (.int .u8))) .unit))))))))))))), (168, (.arr 20 (.int .u8)))], [], [], fnL [], noSh, [], invL [], [(2, [4]), (1, [2, 3]), (4, [2, 3, 24, 25]), (12, [2, 3, 24, 25]), (27, [2, 3])], [], [], 0, 0⟩
def St0 (x0 : Int × List Int × List Int × List Int × Int × List Int × Int × Int × List Int × List Int × Int × List (List Int) × Unit) (x1 : Int × List Int × List Int × List Int × Int × List Int × Int × Int × List Int × List Int × Int × List (List Int) × Unit) : St := stL 108 [(0, .data (.pair (.int .i64) (.pair (.arr 4 (.int .u64)) (.pair (.arr 4 (.int .u64)) (.pair (.arr 32 (.int .u8)) (.pair (.int .i64) (.pair (.arr 32 (.int .u8)) (.pair (.int .i64) (.pair (.int .i64) (.pair .str (.pair (.sl (.int .u8)) (.pair (.int .i64) (.pair (.sl (.arr 20 (.int .u8))) .unit)))))))))))) x0), (1, .data (.pair (.int .i64) (.pair (.arr 4 (.int .u64)) (.pair (.arr 4 (.int .u64)) (.pair (.arr 32 (.int .u8)) (.pair (.int .i64) (.pair (.arr 32 (.int .u8)) (.pair (.int .i64) (.pair (.int .i64) (.pair .str (.pair (.sl (.int .u8)) (.pair (.int .i64) (.pair (.sl (.arr 20 (.int .u8))) .unit)))))))))))) x1)] []
def St1 (x4 : Bool) : St := stL 108 [(4, .data .bool x4)] []
def St2 (x24 : Int) (x25 : Int) (c2 : Int × List Int × List Int × List Int × Int × List Int × Int × Int × List Int × List Int × Int × List (List Int) × Unit) (c3 : Int × List Int × List Int × List Int × Int × List Int × Int × Int × List Int × List Int × Int × List (List Int) × Unit) : St := stL 108 [(2, .ref 2 0 []), (3, .ref 3 0 []), (24, .data (.int .i64) x24), (25, .data (.int .i64) x25)] [(2, .cell (.pair (.int .i64) (.pair (.arr 4 (.int .u64)) (.pair (.arr 4 (.int .u64)) (.pair (.arr 32 (.int .u8)) (.pair (.int .i64) (.pair (.arr 32 (.int .u8)) (.pair (.int .i64) (.pair (.int .i64) (.pair .str (.pair (.sl (.int .u8)) (.pair (.int .i64) (.pair (.sl (.arr 20 (.int .u8))) .unit)))))))))))) (.data (.pair (.int .i64) (.pair (.arr 4 (.int .u64)) (.pair (.arr 4 (.int .u64)) (.pair (.arr 32 (.int .u8)) (.pair (.int .i64) (.pair (.arr 32 (.int .u8)) (.pair (.int .i64) (.pair (.int .i64) (.pair .str (.pair (.sl (.int .u8)) (.pair (.int .i64) (.pair (.sl (.arr 20 (.int .u8))) .unit)))))))))))) c2) false), (3, .cell (.pair (.int .i64) (.pair (.arr 4 (.int .u64)) (.pair (.arr 4 (.int .u64)) (.pair (.arr 32 (.int .u8)) (.pair (.int .i64) (.pair (.arr 32 (.int .u8)) (.pair (.int .i64) (.pair (.int .i64) (.pair .str (.pair (.sl (.int .u8)) (.pair (.int .i64) (.pair (.sl (.arr 20 (.int .u8))) .unit)))))))))))) (.data (.pair (.int .i64) (.pair (.arr 4 (.int .u64)) (.pair (.arr 4 (.int .u64)) (.pair (.arr 32 (.int .u8)) (.pair (.int .i64) (.pair (.arr 32 (.int .u8)) (.pair (.int .i64) (.pair (.int .i64) (.pair .str (.pair (.sl (.int .u8)) (.pair (.int .i64) (.pair (.sl (.arr 20 (.int .u8))) .unit)))))))))))) c3) false)]
noncomputable def cd0 : Code := cL (cL (cR (cL (cR (cR (cB Try.f55))))))
def St3 (c2 : Int × List Int × List Int × List Int × Int × List Int × Int × Int × List Int × List Int × Int × List (List Int) × Unit) (c3 : Int × List Int × List Int × List Int × Int × List Int × Int × Int × List Int × List Int × Int × List (List Int) × Unit) : St := stL 108 [(2, .ref 2 0 []), (3, .ref 3 0 [])] [(2, .cell (.pair (.int .i64) (.pair (.arr 4 (.int .u64)) (.pair (.arr 4 (.int .u64)) (.pair (.arr 32 (.int .u8)) (.pair (.int .i64) (.pair (.arr 32 (.int .u8)) (.pair (.int .i64) (.pair (.int .i64) (.pair .str (.pair (.sl (.int .u8)) (.pair (.int .i64) (.pair (.sl (.arr 20 (.int .u8))) .unit)))))))))))) (.data (.pair (.int .i64) (.pair (.arr 4 (.int .u64)) (.pair (.arr 4 (.int .u64)) (.pair (.arr 32 (.int .u8)) (.pair (.int .i64) (.pair (.arr 32 (.int .u8)) (.pair (.int .i64) (.pair (.int .i64) (.pair .str (.pair (.sl (.int .u8)) (.pair (.int .i64) (.pair (.sl (.arr 20 (.int .u8))) .unit)))))))))))) c2) false), (3, .cell (.pair (.int .i64) (.pair (.arr 4 (.int .u64)) (.pair (.arr 4 (.int .u64)) (.pair (.arr 32 (.int .u8)) (.pair (.int .i64) (.pair (.arr 32 (.int .u8)) (.pair (.int .i64) (.pair (.int .i64) (.pair .str (.pair (.sl (.int .u8)) (.pair (.int .i64) (.pair (.sl (.arr 20 (.int .u8))) .unit)))))))))))) (.data (.pair (.int .i64) (.pair (.arr 4 (.int .u64)) (.pair (.arr 4 (.int .u64)) (.pair (.arr 32 (.int .u8)) (.pair (.int .i64) (.pair (.arr 32 (.int .u8)) (.pair (.int .i64) (.pair (.int .i64) (.pair .str (.pair (.sl (.int .u8)) (.pair (.int .i64) (.pair (.sl (.arr 20 (.int .u8))) .unit)))))))))))) c3) false)]
def l0s {α : Type} (Nx : Int → Int → (Int × List Int × List Int × List Int × Int × List Int × Int × Int × List Int × List Int × Int × List (List Int) × Unit) → (Int × List Int × List Int × List Int × Int × List Int × Int × Int × List Int × List Int × Int × List (List Int) × Unit) → Option α) (Rt : Bool → Option α) (Xt0 : (Int × List Int × List Int × List Int × Int × List Int × Int × Int × List Int × List Int × Int × List (List Int) × Unit) → (Int × List Int × List Int × List Int × Int × List Int × Int × Int × List Int × List Int × Int × List (List Int) × Unit) → Option α) (x24 : Int) (x25 : Int) (c2 : Int × List Int × List Int × List Int × Int × List Int × Int × Int × List Int × List Int × Int × List (List Int) × Unit) (c3 : Int × List Int × List Int × List Int × Int × List Int × Int × Int × List Int × List Int × Int × List (List Int) × Unit) : Option α :=
  if (decide (x25 < x24)) = true then
    if 0 ≤ x25 ∧ x25 < (c2.2.2.2.2.2.2.2.2.2.2.2.1.length : Int) then
      if 0 ≤ x25 ∧ x25 < (c3.2.2.2.2.2.2.2.2.2.2.2.1.length : Int) then
        if (not (beqD (.arr 20 (.int .u8)) (List.getD c2.2.2.2.2.2.2.2.2.2.2.2.1 (Int.toNat x25) (List.replicate 20 0)) (List.getD c3.2.2.2.2.2.2.2.2.2.2.2.1 (Int.toNat x25) (List.replicate 20 0)))) = true then
          Rt false
        else
          Nx x24 (IntKind.i64.wrap (x25 + 1)) c2 c3
      else none
    else none
  else
    Xt0 c2 c3
theorem l0s_eq {α : Type} (k : Nat) (next : St → Option α) (Q : Ex → St → Option α) (x24 : Int) (x25 : Int) (c2 : Int × List Int × List Int × List Int × Int × List Int × Int × Int × List Int × List Int × Int × List (List Int) × Unit) (c3 : Int × List Int × List Int × List Int × Int × List Int × Int × Int × List Int × List Int × Int × List (List Int) × Unit) :
    rnd C k cd0 12 Q next (St2 x24 x25 c2 c3) = l0s (fun (x24 : Int) (x25 : Int) (c2 : Int × List Int × List Int × List Int × Int × List Int × Int × Int × List Int × List Int × Int × List (List Int) × Unit) (c3 : Int × List Int × List Int × List Int × Int × List Int × Int × Int × List Int × List Int × Int × List (List Int) × Unit) => next (St2 x24 x25 c2 c3)) (fun (x4 : Bool) => Q .ret (St1 x4)) (fun (c2 : Int × List Int × List Int × List Int × Int × List Int × Int × Int × List Int × List Int × Int × List (List Int) × Unit) (c3 : Int × List Int × List Int × List Int × Int × List Int × Int × Int × List Int × List Int × Int × List (List Int) × Unit) => Q (.exit 0) (St3 c2 c3)) x24 x25 c2 c3 := by
  have h : ∀ (D L : DT α), denJ D L Js C cd0 (lq C 12 next Q) (St2 x24 x25 c2 c3) =
        if (decide (x25 < x24)) = true then
          if 0 ≤ x25 ∧ x25 < (c2.2.2.2.2.2.2.2.2.2.2.2.1.length : Int) then
            if 0 ≤ x25 ∧ x25 < (c3.2.2.2.2.2.2.2.2.2.2.2.1.length : Int) then
              if (not (beqD (.arr 20 (.int .u8)) (List.getD c2.2.2.2.2.2.2.2.2.2.2.2.1 (Int.toNat x25) (List.replicate 20 0)) (List.getD c3.2.2.2.2.2.2.2.2.2.2.2.1 (Int.toNat x25) (List.replicate 20 0)))) = true then
                Q .ret (St1 false)
              else
                next (St2 x24 (IntKind.i64.wrap (x25 + 1)) c2 c3)
            else none
          else none
        else
          Q (.exit 0) (St3 c2 c3) := by
    intro D L; kernel_rfl
  refine (show rnd C k cd0 12 Q next (St2 x24 x25 c2 c3) = denJ (den C k) (lp C k) Js C cd0 (lq C 12 next Q) (St2 x24 x25 c2 c3) from (denJ_den _ _ _ _ _ _).symm).trans ((h (den C k) (lp C k)).trans ?_)
  first | rfl | kernel_rfl
def l0 {α : Type} (k : Nat) (Rt : Bool → Option α) (Xt0 : (Int × List Int × List Int × List Int × Int × List Int × Int × Int × List Int × List Int × Int × List (List Int) × Unit) → (Int × List Int × List Int × List Int × Int × List Int × Int × Int × List Int × List Int × Int × List (List Int) × Unit) → Option α) : Nat → Int → Int → (Int × List Int × List Int × List Int × Int × List Int × Int × Int × List Int × List Int × Int × List (List Int) × Unit) → (Int × List Int × List Int × List Int × Int × List Int × Int × Int × List Int × List Int × Int × List (List Int) × Unit) → Option α
  | 0, _, _, _, _ => none
  | n + 1, x24, x25, c2, c3 => l0s (l0 k Rt Xt0 n) Rt Xt0 x24 x25 c2 c3
theorem l0_eq {α : Type} (k : Nat) (Q : Ex → St → Option α) : ∀ (n : Nat) (x24 : Int) (x25 : Int) (c2 : Int × List Int × List Int × List Int × Int × List Int × Int × Int × List Int × List Int × Int × List (List Int) × Unit) (c3 : Int × List Int × List Int × List Int × Int × List Int × Int × Int × List Int × List Int × Int × List (List Int) × Unit), iter (rnd C k cd0 12 Q) n (St2 x24 x25 c2 c3) = l0 k (fun (x4 : Bool) => Q .ret (St1 x4)) (fun (c2 : Int × List Int × List Int × List Int × Int × List Int × Int × Int × List Int × List Int × Int × List (List Int) × Unit) (c3 : Int × List Int × List Int × List Int × Int × List Int × Int × Int × List Int × List Int × Int × List (List Int) × Unit) => Q (.exit 0) (St3 c2 c3)) n x24 x25 c2 c3
  | 0, _, _, _, _ => rfl
  | n + 1, x24, x25, c2, c3 => (iter_succ _ _ _).trans ((l0s_eq k (iter (rnd C k cd0 12 Q) n) Q x24 x25 c2 c3).trans (congrArg (fun N => l0s N (fun (x4 : Bool) => Q .ret (St1 x4)) (fun (c2 : Int × List Int × List Int × List Int × Int × List Int × Int × Int × List Int × List Int × Int × List (List Int) × Unit) (c3 : Int × List Int × List Int × List Int × Int × List Int × Int × Int × List Int × List Int × Int × List (List Int) × Unit) => Q (.exit 0) (St3 c2 c3)) x24 x25 c2 c3) (funext fun x24 => funext fun x25 => funext fun c2 => funext fun c3 => l0_eq k Q n x24 x25 c2 c3)))
theorem l0_congr {α : Type} (k : Nat) (Rt : Bool → Option α) (Xt0 : (Int × List Int × List Int × List Int × Int × List Int × Int × Int × List Int × List Int × Int × List (List Int) × Unit) → (Int × List Int × List Int × List Int × Int × List Int × Int × Int × List Int × List Int × Int × List (List Int) × Unit) → Option α) (Rtq : Bool → Option α) (Xt0q : (Int × List Int × List Int × List Int × Int × List Int × Int × Int × List Int × List Int × Int × List (List Int) × Unit) → (Int × List Int × List Int × List Int × Int × List Int × Int × Int × List Int × List Int × Int × List (List Int) × Unit) → Option α) (hRt : ∀ (x4 : Bool), Rt x4 = Rtq x4) (hXt0 : ∀ (c2 : Int × List Int × List Int × List Int × Int × List Int × Int × Int × List Int × List Int × Int × List (List Int) × Unit) (c3 : Int × List Int × List Int × List Int × Int × List Int × Int × Int × List Int × List Int × Int × List (List Int) × Unit), Xt0 c2 c3 = Xt0q c2 c3) (n : Nat) (x24 : Int) (x25 : Int) (c2 : Int × List Int × List Int × List Int × Int × List Int × Int × Int × List Int × List Int × Int × List (List Int) × Unit) (c3 : Int × List Int × List Int × List Int × Int × List Int × Int × Int × List Int × List Int × Int × List (List Int) × Unit) : l0 k Rt Xt0 n x24 x25 c2 c3 = l0 k Rtq Xt0q n x24 x25 c2 c3 := by
  obtain rfl : Rt = Rtq := by funext x4; exact hRt x4
  obtain rfl : Xt0 = Xt0q := by funext c2; funext c3; exact hXt0 c2 c3
  rfl
noncomputable def cd1 : Code := cR (cR (cR (cB Try.f55)))
def St4 (c2 : Int × List Int × List Int × List Int × Int × List Int × Int × Int × List Int × List Int × Int × List (List Int) × Unit) (c3 : Int × List Int × List Int × List Int × Int × List Int × Int × Int × List Int × List Int × Int × List (List Int) × Unit) : St := stL 108 [(2, .ref 2 0 []), (3, .ref 3 0 [])] [(2, .cell (.pair (.int .i64) (.pair (.arr 4 (.int .u64)) (.pair (.arr 4 (.int .u64)) (.pair (.arr 32 (.int .u8)) (.pair (.int .i64) (.pair (.arr 32 (.int .u8)) (.pair (.int .i64) (.pair (.int .i64) (.pair .str (.pair (.sl (.int .u8)) (.pair (.int .i64) (.pair (.sl (.arr 20 (.int .u8))) .unit)))))))))))) (.data (.pair (.int .i64) (.pair (.arr 4 (.int .u64)) (.pair (.arr 4 (.int .u64)) (.pair (.arr 32 (.int .u8)) (.pair (.int .i64) (.pair (.arr 32 (.int .u8)) (.pair (.int .i64) (.pair (.int .i64) (.pair .str (.pair (.sl (.int .u8)) (.pair (.int .i64) (.pair (.sl (.arr 20 (.int .u8))) .unit)))))))))))) c2) false), (3, .cell (.pair (.int .i64) (.pair (.arr 4 (.int .u64)) (.pair (.arr 4 (.int .u64)) (.pair (.arr 32 (.int .u8)) (.pair (.int .i64) (.pair (.arr 32 (.int .u8)) (.pair (.int .i64) (.pair (.int .i64) (.pair .str (.pair (.sl (.int .u8)) (.pair (.int .i64) (.pair (.sl (.arr 20 (.int .u8))) .unit)))))))))))) (.data (.pair (.int .i64) (.pair (.arr 4 (.int .u64)) (.pair (.arr 4 (.int .u64)) (.pair (.arr 32 (.int .u8)) (.pair (.int .i64) (.pair (.arr 32 (.int .u8)) (.pair (.int .i64) (.pair (.int .i64) (.pair .str (.pair (.sl (.int .u8)) (.pair (.int .i64) (.pair (.sl (.arr 20 (.int .u8))) .unit)))))))))))) c3) false)]
def j0 {α : Type} (Rt : Bool → Option α) (c2 : Int × List Int × List Int × List Int × Int × List Int × Int × Int × List Int × List Int × Int × List (List Int) × Unit) (c3 : Int × List Int × List Int × List Int × Int × List Int × Int × Int × List Int × List Int × Int × List (List Int) × Unit) : Option α :=
  Rt (cond (cond (cond (cond (cond (cond (cond (cond (cond (c2.1 == c3.1) (beqD (.arr 4 (.int .u64)) c2.2.1 c3.2.1) false) (beqD (.arr 4 (.int .u64)) c2.2.2.1 c3.2.2.1) false) (beqD (.arr 32 (.int .u8)) c2.2.2.2.1 c3.2.2.2.1) false) (c2.2.2.2.2.1 == c3.2.2.2.2.1) false) (beqD (.arr 32 (.int .u8)) c2.2.2.2.2.2.1 c3.2.2.2.2.2.1) false) (c2.2.2.2.2.2.2.1 == c3.2.2.2.2.2.2.1) false) (c2.2.2.2.2.2.2.2.1 == c3.2.2.2.2.2.2.2.1) false) (beqD .str c2.2.2.2.2.2.2.2.2.1 c3.2.2.2.2.2.2.2.2.1) false) (c2.2.2.2.2.2.2.2.2.2.2.1 == c3.2.2.2.2.2.2.2.2.2.2.1) false)
theorem j0_eq {α : Type} (k : Nat) (Q : Ex → St → Option α) (c2 : Int × List Int × List Int × List Int × Int × List Int × Int × Int × List Int × List Int × Int × List (List Int) × Unit) (c3 : Int × List Int × List Int × List Int × Int × List Int × Int × Int × List Int × List Int × Int × List (List Int) × Unit) :
    (den C k) cd1 Q (St4 c2 c3) = j0 (fun (x4 : Bool) => Q .ret (St1 x4)) c2 c3 := by
  have h : ∀ (D L : DT α), denJ D L Js C cd1 Q (St4 c2 c3) =
        Q .ret (St1 (cond (cond (cond (cond (cond (cond (cond (cond (cond (c2.1 == c3.1) (beqD (.arr 4 (.int .u64)) c2.2.1 c3.2.1) false) (beqD (.arr 4 (.int .u64)) c2.2.2.1 c3.2.2.1) false) (beqD (.arr 32 (.int .u8)) c2.2.2.2.1 c3.2.2.2.1) false) (c2.2.2.2.2.1 == c3.2.2.2.2.1) false) (beqD (.arr 32 (.int .u8)) c2.2.2.2.2.2.1 c3.2.2.2.2.2.1) false) (c2.2.2.2.2.2.2.1 == c3.2.2.2.2.2.2.1) false) (c2.2.2.2.2.2.2.2.1 == c3.2.2.2.2.2.2.2.1) false) (beqD .str c2.2.2.2.2.2.2.2.2.1 c3.2.2.2.2.2.2.2.2.1) false) (c2.2.2.2.2.2.2.2.2.2.2.1 == c3.2.2.2.2.2.2.2.2.2.2.1) false)) := by
    intro D L; kernel_rfl
  refine (show (den C k) cd1 Q (St4 c2 c3) = denJ (den C k) (lp C k) Js C cd1 Q (St4 c2 c3) from (denJ_den _ _ _ _ _ _).symm).trans ((h (den C k) (lp C k)).trans ?_)
  first | rfl | kernel_rfl
theorem a0 {α : Type} (k : Nat) (Q : Ex → St → Option α) (x24 : Int) (x25 : Int) (c2 : Int × List Int × List Int × List Int × Int × List Int × Int × Int × List Int × List Int × Int × List (List Int) × Unit) (c3 : Int × List Int × List Int × List Int × Int × List Int × Int × Int × List Int × List Int × Int × List (List Int) × Unit) :
    (lp C k) cd0 (blkQ C 0 (sq (den C k) (lp C k) Js C cd1 Q)) (St2 x24 x25 c2 c3) = l0 k (fun (x4 : Bool) => (fun (x4 : Bool) => Q .ret (St1 x4)) x4) (fun (c2 : Int × List Int × List Int × List Int × Int × List Int × Int × Int × List Int × List Int × Int × List (List Int) × Unit) (c3 : Int × List Int × List Int × List Int × Int × List Int × Int × Int × List Int × List Int × Int × List (List Int) × Unit) => j0 (fun (x4 : Bool) => Q .ret (St1 x4)) c2 c3) k x24 x25 c2 c3 :=
  (show (lp C k) cd0 (blkQ C 0 (sq (den C k) (lp C k) Js C cd1 Q)) (St2 x24 x25 c2 c3) = iter (rnd C k cd0 12 (blkQ C 0 (sq (den C k) (lp C k) Js C cd1 Q))) k (St2 x24 x25 c2 c3) by kernel_rfl).trans ((l0_eq k (blkQ C 0 (sq (den C k) (lp C k) Js C cd1 Q)) k x24 x25 c2 c3).trans (l0_congr k _ _ _ _ (fun x4 => (show (blkQ C 0 (sq (den C k) (lp C k) Js C cd1 Q)) .ret (St1 x4) = Q .ret (St1 x4) by kernel_rfl)) (fun c2 c3 => ((show (blkQ C 0 (sq (den C k) (lp C k) Js C cd1 Q)) (.exit 0) (St3 c2 c3) = (den C k) cd1 Q (St4 c2 c3) by kernel_rfl).trans (by simp only [j0_eq]))) k x24 x25 c2 c3))
def top {α : Type} (k : Nat) (Rt : Bool → Option α) (x0 : Int × List Int × List Int × List Int × Int × List Int × Int × Int × List Int × List Int × Int × List (List Int) × Unit) (x1 : Int × List Int × List Int × List Int × Int × List Int × Int × Int × List Int × List Int × Int × List (List Int) × Unit) : Option α :=
  if (cond ((x0.2.2.2.2.2.2.2.2.2.2.2.1.length : Int) != (x1.2.2.2.2.2.2.2.2.2.2.2.1.length : Int)) true (not (beqD .str x0.2.2.2.2.2.2.2.2.2.1 x1.2.2.2.2.2.2.2.2.2.1))) = true then
    Rt false
  else
    l0 k (fun (x4 : Bool) => Rt x4) (fun (c2 : Int × List Int × List Int × List Int × Int × List Int × Int × Int × List Int × List Int × Int × List (List Int) × Unit) (c3 : Int × List Int × List Int × List Int × Int × List Int × Int × Int × List Int × List Int × Int × List (List Int) × Unit) => j0 Rt c2 c3) k (x0.2.2.2.2.2.2.2.2.2.2.2.1.length : Int) 0 x0 x1
theorem top_eq {α : Type} (k : Nat) (Q : Ex → St → Option α) (x0 : Int × List Int × List Int × List Int × Int × List Int × Int × Int × List Int × List Int × Int × List (List Int) × Unit) (x1 : Int × List Int × List Int × List Int × Int × List Int × Int × Int × List Int × List Int × Int × List (List Int) × Unit) :
    (den C k) (cB Try.f55) Q (St0 x0 x1) = top k (fun (x4 : Bool) => Q .ret (St1 x4)) x0 x1 := by
  have h : ∀ (D L : DT α), denJ D L Js C (cB Try.f55) Q (St0 x0 x1) =
        if (cond ((x0.2.2.2.2.2.2.2.2.2.2.2.1.length : Int) != (x1.2.2.2.2.2.2.2.2.2.2.2.1.length : Int)) true (not (beqD .str x0.2.2.2.2.2.2.2.2.2.1 x1.2.2.2.2.2.2.2.2.2.1))) = true then
          Q .ret (St1 false)
        else
          L cd0 (blkQ C 0 (sq D L Js C cd1 Q)) (St2 (x0.2.2.2.2.2.2.2.2.2.2.2.1.length : Int) 0 x0 x1) := by
    intro D L; kernel_rfl
  refine (show (den C k) (cB Try.f55) Q (St0 x0 x1) = denJ (den C k) (lp C k) Js C (cB Try.f55) Q (St0 x0 x1) from (denJ_den _ _ _ _ _ _).symm).trans ((h (den C k) (lp C k)).trans ?_)
  simp only [a0]
  first | rfl | kernel_rfl
def run (x0 : Int × List Int × List Int × List Int × Int × List Int × Int × Int × List Int × List Int × Int × List (List Int) × Unit) (x1 : Int × List Int × List Int × List Int × Int × List Int × Int × Int × List Int × List Int × Int × List (List Int) × Unit) : Option (Bool) := top (α := Bool) fuel (fun (x4 : Bool) => some x4) x0 x1
def F : Fn := ⟨(.pair (.pair (.int .i64) (.pair (.arr 4 (.int .u64)) (.pair (.arr 4 (.int .u64)) (.pair (.arr 32 (.int .u8)) (.pair (.int .i64) (.pair (.arr 32 (.int .u8)) (.pair (.int .i64) (.pair (.int .i64) (.pair .str (.pair (.sl (.int .u8)) (.pair (.int .i64) (.pair (.sl (.arr 20 (.int .u8))) .unit)))))))))))) (.pair (.pair (.int .i64) (.pair (.arr 4 (.int .u64)) (.pair (.arr 4 (.int .u64)) (.pair (.arr 32 (.int .u8)) (.pair (.int .i64) (.pair (.arr 32 (.int .u8)) (.pair (.int .i64) (.pair (.int .i64) (.pair .str (.pair (.sl (.int .u8)) (.pair (.int .i64) (.pair (.sl (.arr 20 (.int .u8))) .unit)))))))))))) .unit)), .bool, false, fun x => run x.1 x.2.1⟩
set_option maxRecDepth 100000 in
theorem con : Con Try.prog 55 F := by
  refine con_of_den (C := C) (ctx_ok (by kernel_rfl) (by kernel_rfl) (by kernel_rfl) (by kernel_rfl) trivial) (by kernel_rfl) Try.func55 (c := cB Try.f55) (by kernel_rfl) (by kernel_rfl) F fuel (fun x => by simp [F, spread, Try.ntmps55]) ?_
  intro x r h
  rw [← h]
  have h1 : start F Try.f55.ntmps x = (St0 x.1 x.2.1) := by kernel_rfl
  rw [h1]
  refine (top_eq fuel (fin C Try.f55.results.toList F.rs F.multi) x.1 x.2.1).trans ?_
  kernel_rfl
theorem named : Named Try.prog 55 := named_of Try.func55 (by kernel_rfl) (by kernel_rfl)
end Go.Bx.basculeref_SameLoad
namespace Go.Bx.basculeref_only
open Go Go.Proofs Go.Bx
set_option maxRecDepth 100000
set_option linter.unusedVariables false
def Js : List Nat := [5]
def C : Ctx := ⟨[(3, (.int .i64)), (4, .bool), (9, .str), (26, (.sl (.arr 20 (.int .u8)))), (56, (.arr 4 (.int .u64))), (59, (.sl (.int .u8))), (69, (.arr 32 (.int .u8))), (71, (.pair (.int .i64) (.pair (.arr 4 (.int .u64)) (.pair (.arr 4 (.int .u64)) (.pair (.arr 32 (.int .u8)) (.pair (.int .i64) (.pair (.arr 32 (.int .u8)) (.pair (.int .i64) (.pair (.int .i64) (.pair .str (.pair (.sl (.int .u8)) (.pair (.int .i64) (.pair (.sl (.arr 20 (.int .u8))) .unit)))))))))))))], [], [], fnL [], noSh, [], invL [], [(2, [2, 3]), (1, [2]), (20, [1, 2, 5, 6])], [(2, [.dat false 2 [9], .dat false 2 []])], [], 0, 0⟩
def St0 (x0 : Int × List Int × List Int × List Int × Int × List Int × Int × Int × List Int × List Int × Int × List (List Int) × Unit) : St := stL 49 [(0, .data (.pair (.int .i64) (.pair (.arr 4 (.int .u64)) (.pair (.arr 4 (.int .u64)) (.pair (.arr 32 (.int .u8)) (.pair (.int .i64) (.pair (.arr 32 (.int .u8)) (.pair (.int .i64) (.pair (.int .i64) (.pair .str (.pair (.sl (.int .u8)) (.pair (.int .i64) (.pair (.sl (.arr 20 (.int .u8))) .unit)))))))))))) x0)] []
def St1 (x5 : Int) (x6 : Bool) (c1 : Int × List Int × List Int × List Int × Int × List Int × Int × Int × List Int × List Int × Int × List (List Int) × Unit) (c2p0 : Int) (c2p1 : List Int) (c2p2 : List Int) (c2p3 : List Int) (c2p4 : Int) (c2p5 : List Int) (c2p6 : Int) (c2p7 : Int) (c2p8 : List Int) (c2p10 : Int) : St := stL 49 [(1, .ref 1 0 []), (2, .ref 2 0 []), (5, .data (.int .i64) x5), (6, .data .bool x6)] [(1, .cell (.pair (.int .i64) (.pair (.arr 4 (.int .u64)) (.pair (.arr 4 (.int .u64)) (.pair (.arr 32 (.int .u8)) (.pair (.int .i64) (.pair (.arr 32 (.int .u8)) (.pair (.int .i64) (.pair (.int .i64) (.pair .str (.pair (.sl (.int .u8)) (.pair (.int .i64) (.pair (.sl (.arr 20 (.int .u8))) .unit)))))))))))) (.data (.pair (.int .i64) (.pair (.arr 4 (.int .u64)) (.pair (.arr 4 (.int .u64)) (.pair (.arr 32 (.int .u8)) (.pair (.int .i64) (.pair (.arr 32 (.int .u8)) (.pair (.int .i64) (.pair (.int .i64) (.pair .str (.pair (.sl (.int .u8)) (.pair (.int .i64) (.pair (.sl (.arr 20 (.int .u8))) .unit)))))))))))) c1) false), (2, .cell (.pair (.int .i64) (.pair (.arr 4 (.int .u64)) (.pair (.arr 4 (.int .u64)) (.pair (.arr 32 (.int .u8)) (.pair (.int .i64) (.pair (.arr 32 (.int .u8)) (.pair (.int .i64) (.pair (.int .i64) (.pair .str (.pair (.sl (.int .u8)) (.pair (.int .i64) (.pair (.sl (.arr 20 (.int .u8))) .unit)))))))))))) (.agg (.pair (.int .i64) (.pair (.arr 4 (.int .u64)) (.pair (.arr 4 (.int .u64)) (.pair (.arr 32 (.int .u8)) (.pair (.int .i64) (.pair (.arr 32 (.int .u8)) (.pair (.int .i64) (.pair (.int .i64) (.pair .str (.pair (.sl (.int .u8)) (.pair (.int .i64) (.pair (.sl (.arr 20 (.int .u8))) .unit)))))))))))) [.data (.int .i64) c2p0, .data (.arr 4 (.int .u64)) c2p1, .data (.arr 4 (.int .u64)) c2p2, .data (.arr 32 (.int .u8)) c2p3, .data (.int .i64) c2p4, .data (.arr 32 (.int .u8)) c2p5, .data (.int .i64) c2p6, .data (.int .i64) c2p7, .data .str c2p8, .full (.int .u8) [], .data (.int .i64) c2p10, .full (.arr 20 (.int .u8)) []]) false)]
noncomputable def cd0 : Code := cR (cR (cB Try.f76))
noncomputable def cd1 : Code := cR (cL (cR (cL (cR (cB Try.f76)))))
def St2 (x3 : Bool) (c2 : Int × List Int × List Int × List Int × Int × List Int × Int × Int × List Int × List Int × Int × List (List Int) × Unit) : St := stL 49 [(2, .ref 2 0 []), (3, .data .bool x3)] [(2, .cell (.pair (.int .i64) (.pair (.arr 4 (.int .u64)) (.pair (.arr 4 (.int .u64)) (.pair (.arr 32 (.int .u8)) (.pair (.int .i64) (.pair (.arr 32 (.int .u8)) (.pair (.int .i64) (.pair (.int .i64) (.pair .str (.pair (.sl (.int .u8)) (.pair (.int .i64) (.pair (.sl (.arr 20 (.int .u8))) .unit)))))))))))) (.data (.pair (.int .i64) (.pair (.arr 4 (.int .u64)) (.pair (.arr 4 (.int .u64)) (.pair (.arr 32 (.int .u8)) (.pair (.int .i64) (.pair (.arr 32 (.int .u8)) (.pair (.int .i64) (.pair (.int .i64) (.pair .str (.pair (.sl (.int .u8)) (.pair (.int .i64) (.pair (.sl (.arr 20 (.int .u8))) .unit)))))))))))) c2) false)]
def j0 {α : Type} (Rt : Bool → (Int × List Int × List Int × List Int × Int × List Int × Int × Int × List Int × List Int × Int × List (List Int) × Unit) → Option α) (x5 : Int) (x6 : Bool) (c1 : Int × List Int × List Int × List Int × Int × List Int × Int × Int × List Int × List Int × Int × List (List Int) × Unit) (c2p0 : Int) (c2p1 : List Int) (c2p2 : List Int) (c2p3 : List Int) (c2p4 : Int) (c2p5 : List Int) (c2p6 : Int) (c2p7 : Int) (c2p8 : List Int) (c2p10 : Int) : Option α :=
  if x6 = true then
    Rt true (c1.1, c1.2.1, c1.2.2.1, c1.2.2.2.1, c1.2.2.2.2.1, c1.2.2.2.2.2.1, c1.2.2.2.2.2.2.1, 0, [], c1.2.2.2.2.2.2.2.2.2.1, 0, [], ())
  else
    if (x5 == 2) = true then
      Rt true (c1.1, [0, 0, 0, 0], [0, 0, 0, 0], c1.2.2.2.1, c1.2.2.2.2.1, (List.replicate 32 0), 0, c1.2.2.2.2.2.2.2.1, c1.2.2.2.2.2.2.2.2.1, [], 0, [], ())
    else
      if (x5 == 4) = true then
        Rt true (c1.1, [0, 0, 0, 0], [0, 0, 0, 0], (List.replicate 32 0), 0, (List.replicate 32 0), 0, 0, [], [], c1.2.2.2.2.2.2.2.2.2.2.1, c1.2.2.2.2.2.2.2.2.2.2.2.1, ())
      else
        Rt false (0, [0, 0, 0, 0], [0, 0, 0, 0], (List.replicate 32 0), 0, (List.replicate 32 0), 0, 0, [], [], 0, [], ())
theorem j0_eq {α : Type} (k : Nat) (Q : Ex → St → Option α) (x5 : Int) (x6 : Bool) (c1 : Int × List Int × List Int × List Int × Int × List Int × Int × Int × List Int × List Int × Int × List (List Int) × Unit) (c2p0 : Int) (c2p1 : List Int) (c2p2 : List Int) (c2p3 : List Int) (c2p4 : Int) (c2p5 : List Int) (c2p6 : Int) (c2p7 : Int) (c2p8 : List Int) (c2p10 : Int) :
    (den C k) cd1 (blkQ C 0 (sq (den C k) (lp C k) Js C cd0 Q)) (St1 x5 x6 c1 c2p0 c2p1 c2p2 c2p3 c2p4 c2p5 c2p6 c2p7 c2p8 c2p10) = j0 (fun (x3 : Bool) (c2 : Int × List Int × List Int × List Int × Int × List Int × Int × Int × List Int × List Int × Int × List (List Int) × Unit) => Q .ret (St2 x3 c2)) x5 x6 c1 c2p0 c2p1 c2p2 c2p3 c2p4 c2p5 c2p6 c2p7 c2p8 c2p10 := by
  have h : ∀ (D L : DT α), denJ D L Js C cd1 (blkQ C 0 (sq D L Js C cd0 Q)) (St1 x5 x6 c1 c2p0 c2p1 c2p2 c2p3 c2p4 c2p5 c2p6 c2p7 c2p8 c2p10) =
        if x6 = true then
          Q .ret (St2 true (c1.1, c1.2.1, c1.2.2.1, c1.2.2.2.1, c1.2.2.2.2.1, c1.2.2.2.2.2.1, c1.2.2.2.2.2.2.1, 0, [], c1.2.2.2.2.2.2.2.2.2.1, 0, [], ()))
        else
          if (x5 == 2) = true then
            Q .ret (St2 true (c1.1, [0, 0, 0, 0], [0, 0, 0, 0], c1.2.2.2.1, c1.2.2.2.2.1, (List.replicate 32 0), 0, c1.2.2.2.2.2.2.2.1, c1.2.2.2.2.2.2.2.2.1, [], 0, [], ()))
          else
            if (x5 == 4) = true then
              Q .ret (St2 true (c1.1, [0, 0, 0, 0], [0, 0, 0, 0], (List.replicate 32 0), 0, (List.replicate 32 0), 0, 0, [], [], c1.2.2.2.2.2.2.2.2.2.2.1, c1.2.2.2.2.2.2.2.2.2.2.2.1, ()))
            else
              Q .ret (St2 false (0, [0, 0, 0, 0], [0, 0, 0, 0], (List.replicate 32 0), 0, (List.replicate 32 0), 0, 0, [], [], 0, [], ())) := by
    intro D L; kernel_rfl
  refine (show (den C k) cd1 (blkQ C 0 (sq (den C k) (lp C k) Js C cd0 Q)) (St1 x5 x6 c1 c2p0 c2p1 c2p2 c2p3 c2p4 c2p5 c2p6 c2p7 c2p8 c2p10) = denJ (den C k) (lp C k) Js C cd1 (blkQ C 0 (sq (den C k) (lp C k) Js C cd0 Q)) (St1 x5 x6 c1 c2p0 c2p1 c2p2 c2p3 c2p4 c2p5 c2p6 c2p7 c2p8 c2p10) from (denJ_den _ _ _ _ _ _).symm).trans ((h (den C k) (lp C k)).trans ?_)
  first | rfl | kernel_rfl
def top {α : Type} (Rt : Bool → (Int × List Int × List Int × List Int × Int × List Int × Int × Int × List Int × List Int × Int × List (List Int) × Unit) → Option α) (x0 : Int × List Int × List Int × List Int × Int × List Int × Int × Int × List Int × List Int × Int × List (List Int) × Unit) : Option α :=
  if (x0.1 == 1) = true then
    j0 Rt x0.1 (x0.1 == 1) x0 0 [0, 0, 0, 0] [0, 0, 0, 0] (List.replicate 32 0) 0 (List.replicate 32 0) 0 0 [] 0
  else
    j0 Rt x0.1 (x0.1 == 3) x0 0 [0, 0, 0, 0] [0, 0, 0, 0] (List.replicate 32 0) 0 (List.replicate 32 0) 0 0 [] 0
theorem top_eq {α : Type} (k : Nat) (Q : Ex → St → Option α) (x0 : Int × List Int × List Int × List Int × Int × List Int × Int × Int × List Int × List Int × Int × List (List Int) × Unit) :
    (den C k) (cB Try.f76) Q (St0 x0) = top (fun (x3 : Bool) (c2 : Int × List Int × List Int × List Int × Int × List Int × Int × Int × List Int × List Int × Int × List (List Int) × Unit) => Q .ret (St2 x3 c2)) x0 := by
  have h : ∀ (D L : DT α), denJ D L Js C (cB Try.f76) Q (St0 x0) =
        if (x0.1 == 1) = true then
          D cd1 (blkQ C 0 (sq D L Js C cd0 Q)) (St1 x0.1 (x0.1 == 1) x0 0 [0, 0, 0, 0] [0, 0, 0, 0] (List.replicate 32 0) 0 (List.replicate 32 0) 0 0 [] 0)
        else
          D cd1 (blkQ C 0 (sq D L Js C cd0 Q)) (St1 x0.1 (x0.1 == 3) x0 0 [0, 0, 0, 0] [0, 0, 0, 0] (List.replicate 32 0) 0 (List.replicate 32 0) 0 0 [] 0) := by
    intro D L; kernel_rfl
  refine (show (den C k) (cB Try.f76) Q (St0 x0) = denJ (den C k) (lp C k) Js C (cB Try.f76) Q (St0 x0) from (denJ_den _ _ _ _ _ _).symm).trans ((h (den C k) (lp C k)).trans ?_)
  simp only [j0_eq]
  first | rfl | kernel_rfl
def run (x0 : Int × List Int × List Int × List Int × Int × List Int × Int × Int × List Int × List Int × Int × List (List Int) × Unit) : Option ((Int × List Int × List Int × List Int × Int × List Int × Int × Int × List Int × List Int × Int × List (List Int) × Unit) × Bool × Unit) := top (α := (Int × List Int × List Int × List Int × Int × List Int × Int × Int × List Int × List Int × Int × List (List Int) × Unit) × Bool × Unit) (fun (x3 : Bool) (c2 : Int × List Int × List Int × List Int × Int × List Int × Int × Int × List Int × List Int × Int × List (List Int) × Unit) => some (c2, x3, ())) x0
def F : Fn := ⟨(.pair (.pair (.int .i64) (.pair (.arr 4 (.int .u64)) (.pair (.arr 4 (.int .u64)) (.pair (.arr 32 (.int .u8)) (.pair (.int .i64) (.pair (.arr 32 (.int .u8)) (.pair (.int .i64) (.pair (.int .i64) (.pair .str (.pair (.sl (.int .u8)) (.pair (.int .i64) (.pair (.sl (.arr 20 (.int .u8))) .unit)))))))))))) .unit), (.pair (.pair (.int .i64) (.pair (.arr 4 (.int .u64)) (.pair (.arr 4 (.int .u64)) (.pair (.arr 32 (.int .u8)) (.pair (.int .i64) (.pair (.arr 32 (.int .u8)) (.pair (.int .i64) (.pair (.int .i64) (.pair .str (.pair (.sl (.int .u8)) (.pair (.int .i64) (.pair (.sl (.arr 20 (.int .u8))) .unit)))))))))))) (.pair .bool .unit)), true, fun x => run x.1⟩
set_option maxRecDepth 100000 in
theorem con : Con Try.prog 76 F := by
  refine con_of_den (C := C) (ctx_ok (by kernel_rfl) (by kernel_rfl) (by kernel_rfl) (by kernel_rfl) trivial) (by kernel_rfl) Try.func76 (c := cB Try.f76) (by kernel_rfl) (by kernel_rfl) F fuel (fun x => by simp [F, spread, Try.ntmps76]) ?_
  intro x r h
  rw [← h]
  have h1 : start F Try.f76.ntmps x = (St0 x.1) := by kernel_rfl
  rw [h1]
  refine (top_eq fuel (fin C Try.f76.results.toList F.rs F.multi) x.1).trans ?_
  kernel_rfl
theorem named : Named Try.prog 76 := named_of Try.func76 (by kernel_rfl) (by kernel_rfl)
end Go.Bx.basculeref_only
namespace Go.Bx.basculeref_Order
open Go Go.Proofs Go.Bx
set_option maxRecDepth 100000
set_option linter.unusedVariables false
def Js : List Nat := []
def C : Ctx := ⟨[(3, (.int .i64)), (56, (.arr 4 (.int .u64)))], [], [], fnL [(68, Go.Bx.basculeref_of.F), (106, Go.Bx.basculeref_compare.F)], noSh, [], invL [], [(2, [4])], [], [], 0, 0⟩
def St0 (x0 : List Int) (x1 : List Int) : St := stL 10 [(0, .data (.arr 4 (.int .u64)) x0), (1, .data (.arr 4 (.int .u64)) x1)] []
def St1 (x4 : Int) : St := stL 10 [(4, .data (.int .i64) x4)] []
def top {α : Type} (Rt : Int → Option α) (x0 : List Int) (x1 : List Int) : Option α :=
  (Go.Bx.basculeref_of.run x0).bind fun y1 =>
  (Go.Bx.basculeref_of.run x1).bind fun y2 =>
  (Go.Bx.basculeref_compare.run y1 y2).bind fun y3 =>
  Rt y3
theorem top_eq {α : Type} (k : Nat) (Q : Ex → St → Option α) (x0 : List Int) (x1 : List Int) :
    (den C k) (cB Try.f77) Q (St0 x0 x1) = top (fun (x4 : Int) => Q .ret (St1 x4)) x0 x1 := by
  have h : ∀ (D L : DT α), denJ D L Js C (cB Try.f77) Q (St0 x0 x1) =
        (Go.Bx.basculeref_of.run x0).bind fun y1 =>
        (Go.Bx.basculeref_of.run x1).bind fun y2 =>
        (Go.Bx.basculeref_compare.run y1 y2).bind fun y3 =>
        Q .ret (St1 y3) := by
    intro D L; kernel_rfl
  refine (show (den C k) (cB Try.f77) Q (St0 x0 x1) = denJ (den C k) (lp C k) Js C (cB Try.f77) Q (St0 x0 x1) from (denJ_den _ _ _ _ _ _).symm).trans ((h (den C k) (lp C k)).trans ?_)
  first | rfl | kernel_rfl
def run (x0 : List Int) (x1 : List Int) : Option (Int) := top (α := Int) (fun (x4 : Int) => some x4) x0 x1
def F : Fn := ⟨(.pair (.arr 4 (.int .u64)) (.pair (.arr 4 (.int .u64)) .unit)), (.int .i64), false, fun x => run x.1 x.2.1⟩
set_option maxRecDepth 100000 in
theorem con : Con Try.prog 77 F := by
  refine con_of_den (C := C) (ctx_ok (by kernel_rfl) (by kernel_rfl) (by kernel_rfl) (by kernel_rfl) ⟨.inl ⟨Go.Bx.basculeref_of.con, Go.Bx.basculeref_of.named⟩, ⟨.inl ⟨Go.Bx.basculeref_compare.con, Go.Bx.basculeref_compare.named⟩, trivial⟩⟩) (by kernel_rfl) Try.func77 (c := cB Try.f77) (by kernel_rfl) (by kernel_rfl) F fuel (fun x => by simp [F, spread, Try.ntmps77]) ?_
  intro x r h
  rw [← h]
  have h1 : start F Try.f77.ntmps x = (St0 x.1 x.2.1) := by kernel_rfl
  rw [h1]
  refine (top_eq fuel (fin C Try.f77.results.toList F.rs F.multi) x.1 x.2.1).trans ?_
  kernel_rfl
theorem named : Named Try.prog 77 := named_of Try.func77 (by kernel_rfl) (by kernel_rfl)
end Go.Bx.basculeref_Order
namespace Go.Bx.basculeref_hasNought
open Go Go.Proofs Go.Bx
set_option maxRecDepth 100000
set_option linter.unusedVariables false
def Js : List Nat := [7]
def C : Ctx := ⟨[(4, .bool), (9, .str)], [], [], fnL [], noSh, [], invL [], [(2, [2]), (1, []), (4, [0, 3]), (6, [0, 3]), (18, [])], [], [], 0, 0⟩
def St0 (x0 : List Int) : St := stL 14 [(0, .data .str x0)] []
def St1 (x0 : List Int) (x3 : Int) : St := stL 14 [(0, .data .str x0), (3, .data (.int .i64) x3)] []
noncomputable def cd0 : Code := cL (cL (cR (cL (cR (cB Try.f78)))))
def St2 (x2 : Bool) : St := stL 14 [(2, .data .bool x2)] []
def St3 : St := stL 14 [] []
def l0s {α : Type} (Nx : (List Int) → Int → Option α) (Rt : Bool → Option α) (Xt0 : Option α) (x0 : List Int) (x3 : Int) : Option α :=
  if (decide (x3 < (x0.length : Int))) = true then
    if 0 ≤ x3 ∧ x3 < (x0.length : Int) then
      if ((List.getD x0 (Int.toNat x3) 0) == 0) = true then
        Rt true
      else
        Nx x0 (IntKind.i64.wrap (x3 + 1))
    else none
  else
    Xt0
theorem l0s_eq {α : Type} (k : Nat) (next : St → Option α) (Q : Ex → St → Option α) (x0 : List Int) (x3 : Int) :
    rnd C k cd0 6 Q next (St1 x0 x3) = l0s (fun (x0 : List Int) (x3 : Int) => next (St1 x0 x3)) (fun (x2 : Bool) => Q .ret (St2 x2)) (Q (.exit 0) St3) x0 x3 := by
  have h : ∀ (D L : DT α), denJ D L Js C cd0 (lq C 6 next Q) (St1 x0 x3) =
        if (decide (x3 < (x0.length : Int))) = true then
          if 0 ≤ x3 ∧ x3 < (x0.length : Int) then
            if ((List.getD x0 (Int.toNat x3) 0) == 0) = true then
              Q .ret (St2 true)
            else
              next (St1 x0 (IntKind.i64.wrap (x3 + 1)))
          else none
        else
          Q (.exit 0) St3 := by
    intro D L; kernel_rfl
  refine (show rnd C k cd0 6 Q next (St1 x0 x3) = denJ (den C k) (lp C k) Js C cd0 (lq C 6 next Q) (St1 x0 x3) from (denJ_den _ _ _ _ _ _).symm).trans ((h (den C k) (lp C k)).trans ?_)
  first | rfl | kernel_rfl
def l0 {α : Type} (k : Nat) (Rt : Bool → Option α) (Xt0 : Option α) : Nat → (List Int) → Int → Option α
  | 0, _, _ => none
  | n + 1, x0, x3 => l0s (l0 k Rt Xt0 n) Rt Xt0 x0 x3
theorem l0_eq {α : Type} (k : Nat) (Q : Ex → St → Option α) : ∀ (n : Nat) (x0 : List Int) (x3 : Int), iter (rnd C k cd0 6 Q) n (St1 x0 x3) = l0 k (fun (x2 : Bool) => Q .ret (St2 x2)) (Q (.exit 0) St3) n x0 x3
  | 0, _, _ => rfl
  | n + 1, x0, x3 => (iter_succ _ _ _).trans ((l0s_eq k (iter (rnd C k cd0 6 Q) n) Q x0 x3).trans (congrArg (fun N => l0s N (fun (x2 : Bool) => Q .ret (St2 x2)) (Q (.exit 0) St3) x0 x3) (funext fun x0 => funext fun x3 => l0_eq k Q n x0 x3)))
theorem l0_congr {α : Type} (k : Nat) (Rt : Bool → Option α) (Xt0 : Option α) (Rtq : Bool → Option α) (Xt0q : Option α) (hRt : ∀ (x2 : Bool), Rt x2 = Rtq x2) (hXt0 : Xt0 = Xt0q) (n : Nat) (x0 : List Int) (x3 : Int) : l0 k Rt Xt0 n x0 x3 = l0 k Rtq Xt0q n x0 x3 := by
  obtain rfl : Rt = Rtq := by funext x2; exact hRt x2
  obtain rfl : Xt0 = Xt0q := hXt0
  rfl
noncomputable def cd1 : Code := cR (cR (cB Try.f78))
def St4 : St := stL 14 [] []
def j0 {α : Type} (Rt : Bool → Option α) : Option α :=
  Rt false
theorem j0_eq {α : Type} (k : Nat) (Q : Ex → St → Option α) :
    (den C k) cd1 Q St4 = j0 (fun (x2 : Bool) => Q .ret (St2 x2)) := by
  have h : ∀ (D L : DT α), denJ D L Js C cd1 Q St4 =
        Q .ret (St2 false) := by
    intro D L; kernel_rfl
  refine (show (den C k) cd1 Q St4 = denJ (den C k) (lp C k) Js C cd1 Q St4 from (denJ_den _ _ _ _ _ _).symm).trans ((h (den C k) (lp C k)).trans ?_)
  first | rfl | kernel_rfl
theorem a0 {α : Type} (k : Nat) (Q : Ex → St → Option α) (x0 : List Int) (x3 : Int) :
    (lp C k) cd0 (blkQ C 0 (sq (den C k) (lp C k) Js C cd1 Q)) (St1 x0 x3) = l0 k (fun (x2 : Bool) => (fun (x2 : Bool) => Q .ret (St2 x2)) x2) (j0 (fun (x2 : Bool) => Q .ret (St2 x2))) k x0 x3 :=
  (show (lp C k) cd0 (blkQ C 0 (sq (den C k) (lp C k) Js C cd1 Q)) (St1 x0 x3) = iter (rnd C k cd0 6 (blkQ C 0 (sq (den C k) (lp C k) Js C cd1 Q))) k (St1 x0 x3) by kernel_rfl).trans ((l0_eq k (blkQ C 0 (sq (den C k) (lp C k) Js C cd1 Q)) k x0 x3).trans (l0_congr k _ _ _ _ (fun x2 => (show (blkQ C 0 (sq (den C k) (lp C k) Js C cd1 Q)) .ret (St2 x2) = Q .ret (St2 x2) by kernel_rfl)) ((show (blkQ C 0 (sq (den C k) (lp C k) Js C cd1 Q)) (.exit 0) St3 = (den C k) cd1 Q St4 by kernel_rfl).trans (by simp only [j0_eq])) k x0 x3))
def top {α : Type} (k : Nat) (Rt : Bool → Option α) (x0 : List Int) : Option α :=
  l0 k (fun (x2 : Bool) => Rt x2) (j0 Rt) k x0 0
theorem top_eq {α : Type} (k : Nat) (Q : Ex → St → Option α) (x0 : List Int) :
    (den C k) (cB Try.f78) Q (St0 x0) = top k (fun (x2 : Bool) => Q .ret (St2 x2)) x0 := by
  have h : ∀ (D L : DT α), denJ D L Js C (cB Try.f78) Q (St0 x0) =
        L cd0 (blkQ C 0 (sq D L Js C cd1 Q)) (St1 x0 0) := by
    intro D L; kernel_rfl
  refine (show (den C k) (cB Try.f78) Q (St0 x0) = denJ (den C k) (lp C k) Js C (cB Try.f78) Q (St0 x0) from (denJ_den _ _ _ _ _ _).symm).trans ((h (den C k) (lp C k)).trans ?_)
  simp only [a0]
  first | rfl | kernel_rfl
def run (x0 : List Int) : Option (Bool) := top (α := Bool) fuel (fun (x2 : Bool) => some x2) x0
def F : Fn := ⟨(.pair .str .unit), .bool, false, fun x => run x.1⟩
set_option maxRecDepth 100000 in
theorem con : Con Try.prog 78 F := by
  refine con_of_den (C := C) (ctx_ok (by kernel_rfl) (by kernel_rfl) (by kernel_rfl) (by kernel_rfl) trivial) (by kernel_rfl) Try.func78 (c := cB Try.f78) (by kernel_rfl) (by kernel_rfl) F fuel (fun x => by simp [F, spread, Try.ntmps78]) ?_
  intro x r h
  rw [← h]
  have h1 : start F Try.f78.ntmps x = (St0 x.1) := by kernel_rfl
  rw [h1]
  refine (top_eq fuel (fin C Try.f78.results.toList F.rs F.multi) x.1).trans ?_
  kernel_rfl
theorem named : Named Try.prog 78 := named_of Try.func78 (by kernel_rfl) (by kernel_rfl)
end Go.Bx.basculeref_hasNought
namespace Go.Bx.basculeref_LoadFault
open Go Go.Proofs Go.Bx
set_option maxRecDepth 100000
set_option linter.unusedVariables false
def Js : List Nat := [9, 14]
def C : Ctx := ⟨[(3, (.int .i64)), (9, .str), (23, (.int .i64)), (26, (.sl (.arr 20 (.int .u8)))), (56, (.arr 4 (.int .u64))), (59, (.sl (.int .u8))), (71, (.pair (.int .i64) (.pair (.arr 4 (.int .u64)) (.pair (.arr 4 (.int .u64)) (.pair (.arr 32 (.int .u8)) (.pair (.int .i64) (.pair (.arr 32 (.int .u8)) (.pair (.int .i64) (.pair (.int .i64) (.pair .str (.pair (.sl (.int .u8)) (.pair (.int .i64) (.pair (.sl (.arr 20 (.int .u8))) .unit)))))))))))))], [], [], fnL [(55, Go.Bx.basculeref_SameLoad.F), (61, Go.Bx.basculeref_upTo.F), (76, Go.Bx.basculeref_only.F), (77, Go.Bx.basculeref_Order.F), (78, Go.Bx.basculeref_hasNought.F)], noSh, [], invL [], [(2, [2]), (1, [4]), (32, [1, 4, 16, 17]), (39, [4])], [], [], 0, 0⟩
def St0 (x0 : Int × List Int × List Int × List Int × Int × List Int × Int × Int × List Int × List Int × Int × List (List Int) × Unit) : St := stL 103 [(0, .data (.pair (.int .i64) (.pair (.arr 4 (.int .u64)) (.pair (.arr 4 (.int .u64)) (.pair (.arr 32 (.int .u8)) (.pair (.int .i64) (.pair (.arr 32 (.int .u8)) (.pair (.int .i64) (.pair (.int .i64) (.pair .str (.pair (.sl (.int .u8)) (.pair (.int .i64) (.pair (.sl (.arr 20 (.int .u8))) .unit)))))))))))) x0)] []
def St1 (x2 : Int) : St := stL 103 [(2, .data (.int .i64) x2)] []
def St2 (x4 : Bool) (x16 : Int) (x17 : Bool) (c1 : Int × List Int × List Int × List Int × Int × List Int × Int × Int × List Int × List Int × Int × List (List Int) × Unit) : St := stL 103 [(1, .ref 1 0 []), (4, .data .bool x4), (16, .data (.int .i64) x16), (17, .data .bool x17)] [(1, .cell (.pair (.int .i64) (.pair (.arr 4 (.int .u64)) (.pair (.arr 4 (.int .u64)) (.pair (.arr 32 (.int .u8)) (.pair (.int .i64) (.pair (.arr 32 (.int .u8)) (.pair (.int .i64) (.pair (.int .i64) (.pair .str (.pair (.sl (.int .u8)) (.pair (.int .i64) (.pair (.sl (.arr 20 (.int .u8))) .unit)))))))))))) (.data (.pair (.int .i64) (.pair (.arr 4 (.int .u64)) (.pair (.arr 4 (.int .u64)) (.pair (.arr 32 (.int .u8)) (.pair (.int .i64) (.pair (.arr 32 (.int .u8)) (.pair (.int .i64) (.pair (.int .i64) (.pair .str (.pair (.sl (.int .u8)) (.pair (.int .i64) (.pair (.sl (.arr 20 (.int .u8))) .unit)))))))))))) c1) false)]
noncomputable def cd0 : Code := cR (cR (cR (cR (cR (cB Try.f42)))))
noncomputable def cd1 : Code := cR (cL (cR (cL (cR (cR (cR (cR (cB Try.f42))))))))
def St3 (x4 : Bool) : St := stL 103 [(4, .data .bool x4)] []
def j1 {α : Type} (Rt : Int → Option α) (x4 : Bool) : Option α :=
  if (not x4) = true then
    Rt 3
  else
    Rt 0
theorem j1_eq {α : Type} (k : Nat) (Q : Ex → St → Option α) (x4 : Bool) :
    (den C k) cd0 Q (St3 x4) = j1 (fun (x2 : Int) => Q .ret (St1 x2)) x4 := by
  have h : ∀ (D L : DT α), denJ D L Js C cd0 Q (St3 x4) =
        if (not x4) = true then
          Q .ret (St1 3)
        else
          Q .ret (St1 0) := by
    intro D L; kernel_rfl
  refine (show (den C k) cd0 Q (St3 x4) = denJ (den C k) (lp C k) Js C cd0 Q (St3 x4) from (denJ_den _ _ _ _ _ _).symm).trans ((h (den C k) (lp C k)).trans ?_)
  first | rfl | kernel_rfl
def j0 {α : Type} (Rt : Int → Option α) (x4 : Bool) (x16 : Int) (x17 : Bool) (c1 : Int × List Int × List Int × List Int × Int × List Int × Int × Int × List Int × List Int × Int × List (List Int) × Unit) : Option α :=
  if x17 = true then
    (if (x4 == true) = true then Go.Bx.basculeref_upTo.run c1.2.2.2.2.1 65535 else some false).bind fun y3 =>
    (if ((cond x4 y3 false) == true) = true then Go.Bx.basculeref_upTo.run c1.2.2.2.2.2.2.1 65535 else some false).bind fun y4 =>
    (if ((cond (cond x4 y3 false) y4 false) == true) = true then Go.Bx.basculeref_Order.run c1.2.2.1 c1.2.1 else some 0).bind fun y5 =>
    j1 Rt (cond (cond (cond (cond (cond x4 y3 false) y4 false) (decide (y5 ≤ 0)) false) (decide ((c1.2.2.2.2.2.2.2.2.2.1.length : Int) ≤ 100)) false) (cond (c1.1 == 3) true ((c1.2.2.2.2.2.2.2.2.2.1.length : Int) == 0)) false)
  else
    if (x16 == 2) = true then
      (if (x4 == true) = true then Go.Bx.basculeref_upTo.run c1.2.2.2.2.1 65535 else some false).bind fun y6 =>
      (if ((cond x4 y6 false) == true) = true then Go.Bx.basculeref_upTo.run c1.2.2.2.2.2.2.2.1 77 else some false).bind fun y7 =>
      (if ((cond (cond (cond x4 y6 false) y7 false) (decide ((c1.2.2.2.2.2.2.2.2.1.length : Int) ≤ 32)) false) == true) = true then Go.Bx.basculeref_hasNought.run c1.2.2.2.2.2.2.2.2.1 else some false).bind fun y8 =>
      j1 Rt (cond (cond (cond (cond x4 y6 false) y7 false) (decide ((c1.2.2.2.2.2.2.2.2.1.length : Int) ≤ 32)) false) (not y8) false)
    else
      if (x16 == 4) = true then
        (if (x4 == true) = true then Go.Bx.basculeref_upTo.run c1.2.2.2.2.2.2.2.2.2.2.1 4294967295 else some false).bind fun y9 =>
        j1 Rt (cond (cond (cond x4 y9 false) (decide ((c1.2.2.2.2.2.2.2.2.2.2.2.1.length : Int) > 0)) false) (decide ((c1.2.2.2.2.2.2.2.2.2.2.2.1.length : Int) ≤ 19)) false)
      else
        j1 Rt x4
theorem j0_eq {α : Type} (k : Nat) (Q : Ex → St → Option α) (x4 : Bool) (x16 : Int) (x17 : Bool) (c1 : Int × List Int × List Int × List Int × Int × List Int × Int × Int × List Int × List Int × Int × List (List Int) × Unit) :
    (den C k) cd1 (blkQ C 0 (sq (den C k) (lp C k) Js C cd0 Q)) (St2 x4 x16 x17 c1) = j0 (fun (x2 : Int) => Q .ret (St1 x2)) x4 x16 x17 c1 := by
  have h : ∀ (D L : DT α), denJ D L Js C cd1 (blkQ C 0 (sq D L Js C cd0 Q)) (St2 x4 x16 x17 c1) =
        if x17 = true then
          (if (x4 == true) = true then Go.Bx.basculeref_upTo.run c1.2.2.2.2.1 65535 else some false).bind fun y3 =>
          (if ((cond x4 y3 false) == true) = true then Go.Bx.basculeref_upTo.run c1.2.2.2.2.2.2.1 65535 else some false).bind fun y4 =>
          (if ((cond (cond x4 y3 false) y4 false) == true) = true then Go.Bx.basculeref_Order.run c1.2.2.1 c1.2.1 else some 0).bind fun y5 =>
          D cd0 Q (St3 (cond (cond (cond (cond (cond x4 y3 false) y4 false) (decide (y5 ≤ 0)) false) (decide ((c1.2.2.2.2.2.2.2.2.2.1.length : Int) ≤ 100)) false) (cond (c1.1 == 3) true ((c1.2.2.2.2.2.2.2.2.2.1.length : Int) == 0)) false))
        else
          if (x16 == 2) = true then
            (if (x4 == true) = true then Go.Bx.basculeref_upTo.run c1.2.2.2.2.1 65535 else some false).bind fun y6 =>
            (if ((cond x4 y6 false) == true) = true then Go.Bx.basculeref_upTo.run c1.2.2.2.2.2.2.2.1 77 else some false).bind fun y7 =>
            (if ((cond (cond (cond x4 y6 false) y7 false) (decide ((c1.2.2.2.2.2.2.2.2.1.length : Int) ≤ 32)) false) == true) = true then Go.Bx.basculeref_hasNought.run c1.2.2.2.2.2.2.2.2.1 else some false).bind fun y8 =>
            D cd0 Q (St3 (cond (cond (cond (cond x4 y6 false) y7 false) (decide ((c1.2.2.2.2.2.2.2.2.1.length : Int) ≤ 32)) false) (not y8) false))
          else
            if (x16 == 4) = true then
              (if (x4 == true) = true then Go.Bx.basculeref_upTo.run c1.2.2.2.2.2.2.2.2.2.2.1 4294967295 else some false).bind fun y9 =>
              D cd0 Q (St3 (cond (cond (cond x4 y9 false) (decide ((c1.2.2.2.2.2.2.2.2.2.2.2.1.length : Int) > 0)) false) (decide ((c1.2.2.2.2.2.2.2.2.2.2.2.1.length : Int) ≤ 19)) false))
            else
              D cd0 Q (St3 x4) := by
    intro D L; kernel_rfl
  refine (show (den C k) cd1 (blkQ C 0 (sq (den C k) (lp C k) Js C cd0 Q)) (St2 x4 x16 x17 c1) = denJ (den C k) (lp C k) Js C cd1 (blkQ C 0 (sq (den C k) (lp C k) Js C cd0 Q)) (St2 x4 x16 x17 c1) from (denJ_den _ _ _ _ _ _).symm).trans ((h (den C k) (lp C k)).trans ?_)
  simp only [j1_eq]
  first | rfl | kernel_rfl
def top {α : Type} (Rt : Int → Option α) (x0 : Int × List Int × List Int × List Int × Int × List Int × Int × Int × List Int × List Int × Int × List (List Int) × Unit) : Option α :=
  (Go.Bx.basculeref_only.run x0).bind fun y1 =>
  if (not y1.2.1) = true then
    Rt 2
  else
    (Go.Bx.basculeref_SameLoad.run x0 y1.1).bind fun y2 =>
    if (x0.1 == 1) = true then
      j0 Rt y2 x0.1 (x0.1 == 1) x0
    else
      j0 Rt y2 x0.1 (x0.1 == 3) x0
theorem top_eq {α : Type} (k : Nat) (Q : Ex → St → Option α) (x0 : Int × List Int × List Int × List Int × Int × List Int × Int × Int × List Int × List Int × Int × List (List Int) × Unit) :
    (den C k) (cB Try.f42) Q (St0 x0) = top (fun (x2 : Int) => Q .ret (St1 x2)) x0 := by
  have h : ∀ (D L : DT α), denJ D L Js C (cB Try.f42) Q (St0 x0) =
        (Go.Bx.basculeref_only.run x0).bind fun y1 =>
        if (not y1.2.1) = true then
          Q .ret (St1 2)
        else
          (Go.Bx.basculeref_SameLoad.run x0 y1.1).bind fun y2 =>
          if (x0.1 == 1) = true then
            D cd1 (blkQ C 0 (sq D L Js C cd0 Q)) (St2 y2 x0.1 (x0.1 == 1) x0)
          else
            D cd1 (blkQ C 0 (sq D L Js C cd0 Q)) (St2 y2 x0.1 (x0.1 == 3) x0) := by
    intro D L; kernel_rfl
  refine (show (den C k) (cB Try.f42) Q (St0 x0) = denJ (den C k) (lp C k) Js C (cB Try.f42) Q (St0 x0) from (denJ_den _ _ _ _ _ _).symm).trans ((h (den C k) (lp C k)).trans ?_)
  simp only [j0_eq]
  first | rfl | kernel_rfl
def run (x0 : Int × List Int × List Int × List Int × Int × List Int × Int × Int × List Int × List Int × Int × List (List Int) × Unit) : Option (Int) := top (α := Int) (fun (x2 : Int) => some x2) x0
def F : Fn := ⟨(.pair (.pair (.int .i64) (.pair (.arr 4 (.int .u64)) (.pair (.arr 4 (.int .u64)) (.pair (.arr 32 (.int .u8)) (.pair (.int .i64) (.pair (.arr 32 (.int .u8)) (.pair (.int .i64) (.pair (.int .i64) (.pair .str (.pair (.sl (.int .u8)) (.pair (.int .i64) (.pair (.sl (.arr 20 (.int .u8))) .unit)))))))))))) .unit), (.int .i64), false, fun x => run x.1⟩
set_option maxRecDepth 100000 in
theorem con : Con Try.prog 42 F := by
  refine con_of_den (C := C) (ctx_ok (by kernel_rfl) (by kernel_rfl) (by kernel_rfl) (by kernel_rfl) ⟨.inl ⟨Go.Bx.basculeref_SameLoad.con, Go.Bx.basculeref_SameLoad.named⟩, ⟨.inl ⟨Go.Bx.basculeref_upTo.con, Go.Bx.basculeref_upTo.named⟩, ⟨.inl ⟨Go.Bx.basculeref_only.con, Go.Bx.basculeref_only.named⟩, ⟨.inl ⟨Go.Bx.basculeref_Order.con, Go.Bx.basculeref_Order.named⟩, ⟨.inl ⟨Go.Bx.basculeref_hasNought.con, Go.Bx.basculeref_hasNought.named⟩, trivial⟩⟩⟩⟩⟩) (by kernel_rfl) Try.func42 (c := cB Try.f42) (by kernel_rfl) (by kernel_rfl) F fuel (fun x => by simp [F, spread, Try.ntmps42]) ?_
  intro x r h
  rw [← h]
  have h1 : start F Try.f42.ntmps x = (St0 x.1) := by kernel_rfl
  rw [h1]
  refine (top_eq fuel (fin C Try.f42.results.toList F.rs F.multi) x.1).trans ?_
  kernel_rfl
theorem named : Named Try.prog 42 := named_of Try.func42 (by kernel_rfl) (by kernel_rfl)
end Go.Bx.basculeref_LoadFault
namespace Go.Bx.basculelaw_LoadChecks
open Go Go.Proofs Go.Bx
set_option maxRecDepth 100000
set_option linter.unusedVariables false
def Js : List Nat := []
def C : Ctx := ⟨[(4, .bool), (71, (.pair (.int .i64) (.pair (.arr 4 (.int .u64)) (.pair (.arr 4 (.int .u64)) (.pair (.arr 32 (.int .u8)) (.pair (.int .i64) (.pair (.arr 32 (.int .u8)) (.pair (.int .i64) (.pair (.int .i64) (.pair .str (.pair (.sl (.int .u8)) (.pair (.int .i64) (.pair (.sl (.arr 20 (.int .u8))) .unit)))))))))))))], [], [], fnL [(41, Go.Bx.load_Check.F), (42, Go.Bx.basculeref_LoadFault.F)], noSh, [], invL [], [(2, [2])], [], [], 0, 0⟩
def St0 (x0 : Int × List Int × List Int × List Int × Int × List Int × Int × Int × List Int × List Int × Int × List (List Int) × Unit) : St := stL 12 [(0, .data (.pair (.int .i64) (.pair (.arr 4 (.int .u64)) (.pair (.arr 4 (.int .u64)) (.pair (.arr 32 (.int .u8)) (.pair (.int .i64) (.pair (.arr 32 (.int .u8)) (.pair (.int .i64) (.pair (.int .i64) (.pair .str (.pair (.sl (.int .u8)) (.pair (.int .i64) (.pair (.sl (.arr 20 (.int .u8))) .unit)))))))))))) x0)] []
def St1 (x2 : Bool) : St := stL 12 [(2, .data .bool x2)] []
def top {α : Type} (Rt : Bool → Option α) (x0 : Int × List Int × List Int × List Int × Int × List Int × Int × Int × List Int × List Int × Int × List (List Int) × Unit) : Option α :=
  (Go.Bx.load_Check.run x0).bind fun y1 =>
  (Go.Bx.basculeref_LoadFault.run x0).bind fun y2 =>
  Rt (y1 == y2)
theorem top_eq {α : Type} (k : Nat) (Q : Ex → St → Option α) (x0 : Int × List Int × List Int × List Int × Int × List Int × Int × Int × List Int × List Int × Int × List (List Int) × Unit) :
    (den C k) (cB Try.f12) Q (St0 x0) = top (fun (x2 : Bool) => Q .ret (St1 x2)) x0 := by
  have h : ∀ (D L : DT α), denJ D L Js C (cB Try.f12) Q (St0 x0) =
        (Go.Bx.load_Check.run x0).bind fun y1 =>
        (Go.Bx.basculeref_LoadFault.run x0).bind fun y2 =>
        Q .ret (St1 (y1 == y2)) := by
    intro D L; kernel_rfl
  refine (show (den C k) (cB Try.f12) Q (St0 x0) = denJ (den C k) (lp C k) Js C (cB Try.f12) Q (St0 x0) from (denJ_den _ _ _ _ _ _).symm).trans ((h (den C k) (lp C k)).trans ?_)
  first | rfl | kernel_rfl
def run (x0 : Int × List Int × List Int × List Int × Int × List Int × Int × Int × List Int × List Int × Int × List (List Int) × Unit) : Option (Bool) := top (α := Bool) (fun (x2 : Bool) => some x2) x0
def F : Fn := ⟨(.pair (.pair (.int .i64) (.pair (.arr 4 (.int .u64)) (.pair (.arr 4 (.int .u64)) (.pair (.arr 32 (.int .u8)) (.pair (.int .i64) (.pair (.arr 32 (.int .u8)) (.pair (.int .i64) (.pair (.int .i64) (.pair .str (.pair (.sl (.int .u8)) (.pair (.int .i64) (.pair (.sl (.arr 20 (.int .u8))) .unit)))))))))))) .unit), .bool, false, fun x => run x.1⟩
set_option maxRecDepth 100000 in
theorem con : Con Try.prog 12 F := by
  refine con_of_den (C := C) (ctx_ok (by kernel_rfl) (by kernel_rfl) (by kernel_rfl) (by kernel_rfl) ⟨.inl ⟨Go.Bx.load_Check.con, Go.Bx.load_Check.named⟩, ⟨.inl ⟨Go.Bx.basculeref_LoadFault.con, Go.Bx.basculeref_LoadFault.named⟩, trivial⟩⟩) (by kernel_rfl) Try.func12 (c := cB Try.f12) (by kernel_rfl) (by kernel_rfl) F fuel (fun x => by simp [F, spread, Try.ntmps12]) ?_
  intro x r h
  rw [← h]
  have h1 : start F Try.f12.ntmps x = (St0 x.1) := by kernel_rfl
  rw [h1]
  refine (top_eq fuel (fin C Try.f12.results.toList F.rs F.multi) x.1).trans ?_
  kernel_rfl
theorem named : Named Try.prog 12 := named_of Try.func12 (by kernel_rfl) (by kernel_rfl)
end Go.Bx.basculelaw_LoadChecks
namespace Go.Bx.load_word
open Go Go.Proofs Go.Bx
set_option maxRecDepth 100000
set_option linter.unusedVariables false
def Js : List Nat := []
def C : Ctx := ⟨[(59, (.sl (.int .u8))), (69, (.arr 32 (.int .u8)))], [], [], fnL [], noSh, [], invL [], [(2, [2])], [], [], 0, 0⟩
def St0 (x0 : List Int) : St := stL 8 [(0, .data (.sl (.int .u8)) x0)] []
def St1 (c2 : List Int) : St := stL 8 [(2, .ref 2 0 [])] [(2, .cell (.arr 32 (.int .u8)) (.data (.arr 32 (.int .u8)) c2) false)]
def top {α : Type} (Rt : (List Int) → Option α) (x0 : List Int) : Option α :=
  Rt (cpyL (List.replicate 32 0) 0 32 x0)
theorem top_eq {α : Type} (k : Nat) (Q : Ex → St → Option α) (x0 : List Int) :
    (den C k) (cB Try.f145) Q (St0 x0) = top (fun (c2 : List Int) => Q .ret (St1 c2)) x0 := by
  have h : ∀ (D L : DT α), denJ D L Js C (cB Try.f145) Q (St0 x0) =
        Q .ret (St1 (cpyL (List.replicate 32 0) 0 32 x0)) := by
    intro D L; kernel_rfl
  refine (show (den C k) (cB Try.f145) Q (St0 x0) = denJ (den C k) (lp C k) Js C (cB Try.f145) Q (St0 x0) from (denJ_den _ _ _ _ _ _).symm).trans ((h (den C k) (lp C k)).trans ?_)
  first | rfl | kernel_rfl
def run (x0 : List Int) : Option (List Int) := top (α := List Int) (fun (c2 : List Int) => some c2) x0
def F : Fn := ⟨(.pair (.sl (.int .u8)) .unit), (.arr 32 (.int .u8)), false, fun x => run x.1⟩
set_option maxRecDepth 100000 in
theorem con : Con Try.prog 145 F := by
  refine con_of_den (C := C) (ctx_ok (by kernel_rfl) (by kernel_rfl) (by kernel_rfl) (by kernel_rfl) trivial) (by kernel_rfl) Try.func145 (c := cB Try.f145) (by kernel_rfl) (by kernel_rfl) F fuel (fun x => by simp [F, spread, Try.ntmps145]) ?_
  intro x r h
  rw [← h]
  have h1 : start F Try.f145.ntmps x = (St0 x.1) := by kernel_rfl
  rw [h1]
  refine (top_eq fuel (fin C Try.f145.results.toList F.rs F.multi) x.1).trans ?_
  kernel_rfl
theorem named : Named Try.prog 145 := named_of Try.func145 (by kernel_rfl) (by kernel_rfl)
end Go.Bx.load_word
namespace Go.Bx.load_transfer__get
open Go Go.Proofs Go.Bx
set_option maxRecDepth 100000
set_option linter.unusedVariables false
def Js : List Nat := []
def C : Ctx := ⟨[(3, (.int .i64)), (5, (.int .u8)), (23, (.int .i64)), (59, (.sl (.int .u8))), (71, (.pair (.int .i64) (.pair (.arr 4 (.int .u64)) (.pair (.arr 4 (.int .u64)) (.pair (.arr 32 (.int .u8)) (.pair (.int .i64) (.pair (.arr 32 (.int .u8)) (.pair (.int .i64) (.pair (.int .i64) (.pair .str (.pair (.sl (.int .u8)) (.pair (.int .i64) (.pair (.sl (.arr 20 (.int .u8))) .unit))))))))))))), (180, (.pair .bool .unit))], [], [], fnL [(89, Go.Bx.wide_From.F), (145, Go.Bx.load_word.F)], noSh, [], invL [], [(2, [4, 5])], [(2, [.dat false 4 [9]])], [47], 0, 0⟩
def St0 (x0 : Bool × Unit) (x1 : List Int) : St := stL 49 [(0, .data (.pair .bool .unit) x0), (1, .data (.sl (.int .u8)) x1)] []
def St1 (x5 : Int) (c4p0 : Int) (c4p1 : List Int) (c4p2 : List Int) (c4p3 : List Int) (c4p4 : Int) (c4p5 : List Int) (c4p6 : Int) (c4p7 : Int) (c4p8 : List Int) (c4p9 : List Int) (c4p10 : Int) : St := stL 49 [(4, .ref 4 0 []), (5, .data (.int .i64) x5)] [(4, .cell (.pair (.int .i64) (.pair (.arr 4 (.int .u64)) (.pair (.arr 4 (.int .u64)) (.pair (.arr 32 (.int .u8)) (.pair (.int .i64) (.pair (.arr 32 (.int .u8)) (.pair (.int .i64) (.pair (.int .i64) (.pair .str (.pair (.sl (.int .u8)) (.pair (.int .i64) (.pair (.sl (.arr 20 (.int .u8))) .unit)))))))))))) (.agg (.pair (.int .i64) (.pair (.arr 4 (.int .u64)) (.pair (.arr 4 (.int .u64)) (.pair (.arr 32 (.int .u8)) (.pair (.int .i64) (.pair (.arr 32 (.int .u8)) (.pair (.int .i64) (.pair (.int .i64) (.pair .str (.pair (.sl (.int .u8)) (.pair (.int .i64) (.pair (.sl (.arr 20 (.int .u8))) .unit)))))))))))) [.data (.int .i64) c4p0, .data (.arr 4 (.int .u64)) c4p1, .data (.arr 4 (.int .u64)) c4p2, .data (.arr 32 (.int .u8)) c4p3, .data (.int .i64) c4p4, .data (.arr 32 (.int .u8)) c4p5, .data (.int .i64) c4p6, .data (.int .i64) c4p7, .data .str c4p8, .data (.sl (.int .u8)) c4p9, .data (.int .i64) c4p10, .full (.arr 20 (.int .u8)) []]) false)]
def top {α : Type} (Rt : Int → Int → (List Int) → (List Int) → (List Int) → Int → (List Int) → Int → Int → (List Int) → (List Int) → Int → Option α) (x0 : Bool × Unit) (x1 : List Int) : Option α :=
  if (decide ((x1.length : Int) < 132)) = true then
    Rt 4 0 [0, 0, 0, 0] [0, 0, 0, 0] (List.replicate 32 0) 0 (List.replicate 32 0) 0 0 [] [] 0
  else
    if 0 ≤ (0 : Int) ∧ (0 : Int) ≤ (32 : Int) ∧ (32 : Int) ≤ (x1.length : Int) then
      (Go.Bx.load_word.run (cutL x1 0 32)).bind fun y1 =>
      (Go.Bx.wide_From.run y1).bind fun y2 =>
      if 0 ≤ (32 : Int) ∧ (32 : Int) ≤ (64 : Int) ∧ (64 : Int) ≤ (x1.length : Int) then
        (Go.Bx.load_word.run (cutL x1 32 64)).bind fun y3 =>
        if 0 ≤ (64 : Int) ∧ (64 : Int) < (x1.length : Int) then
          if 0 ≤ (65 : Int) ∧ (65 : Int) < (x1.length : Int) then
            if 0 ≤ (66 : Int) ∧ (66 : Int) ≤ (98 : Int) ∧ (98 : Int) ≤ (x1.length : Int) then
              (Go.Bx.load_word.run (cutL x1 66 98)).bind fun y4 =>
              if 0 ≤ (98 : Int) ∧ (98 : Int) < (x1.length : Int) then
                if 0 ≤ (99 : Int) ∧ (99 : Int) < (x1.length : Int) then
                  if 0 ≤ (100 : Int) ∧ (100 : Int) ≤ (132 : Int) ∧ (132 : Int) ≤ (x1.length : Int) then
                    (Go.Bx.load_word.run (cutL x1 100 132)).bind fun y5 =>
                    (Go.Bx.wide_From.run y5).bind fun y6 =>
                    if 0 ≤ (132 : Int) ∧ (132 : Int) ≤ (x1.length : Int) ∧ (x1.length : Int) ≤ (x1.length : Int) then
                      if fitB (0 + (cutL x1 132 (x1.length : Int)).length) 1 = true then
                        Rt 0 0 y2 y6 y3 (bor .i64 (shlI .i64 (IntKind.i64.wrap (List.getD x1 64 0)) 8) (IntKind.i64.wrap (List.getD x1 65 0))) y4 (bor .i64 (shlI .i64 (IntKind.i64.wrap (List.getD x1 98 0)) 8) (IntKind.i64.wrap (List.getD x1 99 0))) 0 [] (cutL x1 132 (x1.length : Int)) 0
                      else none
                    else none
                  else none
                else none
              else none
            else none
          else none
        else none
      else none
    else none
theorem top_eq {α : Type} (k : Nat) (Q : Ex → St → Option α) (x0 : Bool × Unit) (x1 : List Int) :
    (den C k) (cB Try.f141) Q (St0 x0 x1) = top (fun (x5 : Int) (c4p0 : Int) (c4p1 : List Int) (c4p2 : List Int) (c4p3 : List Int) (c4p4 : Int) (c4p5 : List Int) (c4p6 : Int) (c4p7 : Int) (c4p8 : List Int) (c4p9 : List Int) (c4p10 : Int) => Q .ret (St1 x5 c4p0 c4p1 c4p2 c4p3 c4p4 c4p5 c4p6 c4p7 c4p8 c4p9 c4p10)) x0 x1 := by
  have h : ∀ (D L : DT α), denJ D L Js C (cB Try.f141) Q (St0 x0 x1) =
        if (decide ((x1.length : Int) < 132)) = true then
          Q .ret (St1 4 0 [0, 0, 0, 0] [0, 0, 0, 0] (List.replicate 32 0) 0 (List.replicate 32 0) 0 0 [] [] 0)
        else
          if 0 ≤ (0 : Int) ∧ (0 : Int) ≤ (32 : Int) ∧ (32 : Int) ≤ (x1.length : Int) then
            (Go.Bx.load_word.run (cutL x1 0 32)).bind fun y1 =>
            (Go.Bx.wide_From.run y1).bind fun y2 =>
            if 0 ≤ (32 : Int) ∧ (32 : Int) ≤ (64 : Int) ∧ (64 : Int) ≤ (x1.length : Int) then
              (Go.Bx.load_word.run (cutL x1 32 64)).bind fun y3 =>
              if 0 ≤ (64 : Int) ∧ (64 : Int) < (x1.length : Int) then
                if 0 ≤ (65 : Int) ∧ (65 : Int) < (x1.length : Int) then
                  if 0 ≤ (66 : Int) ∧ (66 : Int) ≤ (98 : Int) ∧ (98 : Int) ≤ (x1.length : Int) then
                    (Go.Bx.load_word.run (cutL x1 66 98)).bind fun y4 =>
                    if 0 ≤ (98 : Int) ∧ (98 : Int) < (x1.length : Int) then
                      if 0 ≤ (99 : Int) ∧ (99 : Int) < (x1.length : Int) then
                        if 0 ≤ (100 : Int) ∧ (100 : Int) ≤ (132 : Int) ∧ (132 : Int) ≤ (x1.length : Int) then
                          (Go.Bx.load_word.run (cutL x1 100 132)).bind fun y5 =>
                          (Go.Bx.wide_From.run y5).bind fun y6 =>
                          if 0 ≤ (132 : Int) ∧ (132 : Int) ≤ (x1.length : Int) ∧ (x1.length : Int) ≤ (x1.length : Int) then
                            if fitB (0 + (cutL x1 132 (x1.length : Int)).length) 1 = true then
                              Q .ret (St1 0 0 y2 y6 y3 (bor .i64 (shlI .i64 (IntKind.i64.wrap (List.getD x1 64 0)) 8) (IntKind.i64.wrap (List.getD x1 65 0))) y4 (bor .i64 (shlI .i64 (IntKind.i64.wrap (List.getD x1 98 0)) 8) (IntKind.i64.wrap (List.getD x1 99 0))) 0 [] (cutL x1 132 (x1.length : Int)) 0)
                            else none
                          else none
                        else none
                      else none
                    else none
                  else none
                else none
              else none
            else none
          else none := by
    intro D L; kernel_rfl
  refine (show (den C k) (cB Try.f141) Q (St0 x0 x1) = denJ (den C k) (lp C k) Js C (cB Try.f141) Q (St0 x0 x1) from (denJ_den _ _ _ _ _ _).symm).trans ((h (den C k) (lp C k)).trans ?_)
  first | rfl | kernel_rfl
def run (x0 : Bool × Unit) (x1 : List Int) : Option ((Int × List Int × List Int × List Int × Int × List Int × Int × Int × List Int × List Int × Int × List (List Int) × Unit) × Int × Unit) := top (α := (Int × List Int × List Int × List Int × Int × List Int × Int × Int × List Int × List Int × Int × List (List Int) × Unit) × Int × Unit) (fun (x5 : Int) (c4p0 : Int) (c4p1 : List Int) (c4p2 : List Int) (c4p3 : List Int) (c4p4 : Int) (c4p5 : List Int) (c4p6 : Int) (c4p7 : Int) (c4p8 : List Int) (c4p9 : List Int) (c4p10 : Int) => some ((c4p0, c4p1, c4p2, c4p3, c4p4, c4p5, c4p6, c4p7, c4p8, c4p9, c4p10, [], ()), x5, ())) x0 x1
def F : Fn := ⟨(.pair (.pair .bool .unit) (.pair (.sl (.int .u8)) .unit)), (.pair (.pair (.int .i64) (.pair (.arr 4 (.int .u64)) (.pair (.arr 4 (.int .u64)) (.pair (.arr 32 (.int .u8)) (.pair (.int .i64) (.pair (.arr 32 (.int .u8)) (.pair (.int .i64) (.pair (.int .i64) (.pair .str (.pair (.sl (.int .u8)) (.pair (.int .i64) (.pair (.sl (.arr 20 (.int .u8))) .unit)))))))))))) (.pair (.int .i64) .unit)), true, fun x => run x.1 x.2.1⟩
set_option maxRecDepth 100000 in
theorem con : Con Try.prog 141 F := by
  refine con_of_den (C := C) (ctx_ok (by kernel_rfl) (by kernel_rfl) (by kernel_rfl) (by kernel_rfl) ⟨.inl ⟨Go.Bx.wide_From.con, Go.Bx.wide_From.named⟩, ⟨.inl ⟨Go.Bx.load_word.con, Go.Bx.load_word.named⟩, trivial⟩⟩) (by kernel_rfl) Try.func141 (c := cB Try.f141) (by kernel_rfl) (by kernel_rfl) F fuel (fun x => by simp [F, spread, Try.ntmps141]) ?_
  intro x r h
  rw [← h]
  have h1 : start F Try.f141.ntmps x = (St0 x.1 x.2.1) := by kernel_rfl
  rw [h1]
  refine (top_eq fuel (fin C Try.f141.results.toList F.rs F.multi) x.1 x.2.1).trans ?_
  kernel_rfl
theorem named : Named Try.prog 141 := named_of Try.func141 (by kernel_rfl) (by kernel_rfl)
end Go.Bx.load_transfer__get
namespace Go.Bx.load_meta__get
open Go Go.Proofs Go.Bx
set_option maxRecDepth 100000
set_option linter.unusedVariables false
def Js : List Nat := [9]
def C : Ctx := ⟨[(3, (.int .i64)), (5, (.int .u8)), (9, .str), (23, (.int .i64)), (59, (.sl (.int .u8))), (71, (.pair (.int .i64) (.pair (.arr 4 (.int .u64)) (.pair (.arr 4 (.int .u64)) (.pair (.arr 32 (.int .u8)) (.pair (.int .i64) (.pair (.arr 32 (.int .u8)) (.pair (.int .i64) (.pair (.int .i64) (.pair .str (.pair (.sl (.int .u8)) (.pair (.int .i64) (.pair (.sl (.arr 20 (.int .u8))) .unit))))))))))))), (182, .unit)], [], [], fnL [(145, Go.Bx.load_word.F)], noSh, [], invL [], [(2, [4, 5]), (1, [1, 4, 6]), (4, [1, 4, 6]), (18, [1, 4, 6]), (24, [1, 4, 6])], [], [], 0, 0⟩
def St0 (x0 : Unit) (x1 : List Int) : St := stL 49 [(0, .data .unit x0), (1, .data (.sl (.int .u8)) x1)] []
def St1 (x5 : Int) (c4p0 : Int) (c4p1 : List Int) (c4p2 : List Int) (c4p3 : List Int) (c4p4 : Int) (c4p5 : List Int) (c4p6 : Int) (c4p7 : Int) (c4p8 : List Int) (c4p10 : Int) : St := stL 49 [(4, .ref 4 0 []), (5, .data (.int .i64) x5)] [(4, .cell (.pair (.int .i64) (.pair (.arr 4 (.int .u64)) (.pair (.arr 4 (.int .u64)) (.pair (.arr 32 (.int .u8)) (.pair (.int .i64) (.pair (.arr 32 (.int .u8)) (.pair (.int .i64) (.pair (.int .i64) (.pair .str (.pair (.sl (.int .u8)) (.pair (.int .i64) (.pair (.sl (.arr 20 (.int .u8))) .unit)))))))))))) (.agg (.pair (.int .i64) (.pair (.arr 4 (.int .u64)) (.pair (.arr 4 (.int .u64)) (.pair (.arr 32 (.int .u8)) (.pair (.int .i64) (.pair (.arr 32 (.int .u8)) (.pair (.int .i64) (.pair (.int .i64) (.pair .str (.pair (.sl (.int .u8)) (.pair (.int .i64) (.pair (.sl (.arr 20 (.int .u8))) .unit)))))))))))) [.data (.int .i64) c4p0, .data (.arr 4 (.int .u64)) c4p1, .data (.arr 4 (.int .u64)) c4p2, .data (.arr 32 (.int .u8)) c4p3, .data (.int .i64) c4p4, .data (.arr 32 (.int .u8)) c4p5, .data (.int .i64) c4p6, .data (.int .i64) c4p7, .data .str c4p8, .full (.int .u8) [], .data (.int .i64) c4p10, .full (.arr 20 (.int .u8)) []]) false)]
def St2 (x1 : List Int) (x6 : Int) (c4p0 : Int) (c4p1 : List Int) (c4p2 : List Int) (c4p3 : List Int) (c4p4 : Int) (c4p5 : List Int) (c4p6 : Int) (c4p7 : Int) (c4p8 : List Int) (c4p10 : Int) : St := stL 49 [(1, .data (.sl (.int .u8)) x1), (4, .ref 4 0 []), (6, .data (.int .i64) x6)] [(4, .cell (.pair (.int .i64) (.pair (.arr 4 (.int .u64)) (.pair (.arr 4 (.int .u64)) (.pair (.arr 32 (.int .u8)) (.pair (.int .i64) (.pair (.arr 32 (.int .u8)) (.pair (.int .i64) (.pair (.int .i64) (.pair .str (.pair (.sl (.int .u8)) (.pair (.int .i64) (.pair (.sl (.arr 20 (.int .u8))) .unit)))))))))))) (.agg (.pair (.int .i64) (.pair (.arr 4 (.int .u64)) (.pair (.arr 4 (.int .u64)) (.pair (.arr 32 (.int .u8)) (.pair (.int .i64) (.pair (.arr 32 (.int .u8)) (.pair (.int .i64) (.pair (.int .i64) (.pair .str (.pair (.sl (.int .u8)) (.pair (.int .i64) (.pair (.sl (.arr 20 (.int .u8))) .unit)))))))))))) [.data (.int .i64) c4p0, .data (.arr 4 (.int .u64)) c4p1, .data (.arr 4 (.int .u64)) c4p2, .data (.arr 32 (.int .u8)) c4p3, .data (.int .i64) c4p4, .data (.arr 32 (.int .u8)) c4p5, .data (.int .i64) c4p6, .data (.int .i64) c4p7, .data .str c4p8, .full (.int .u8) [], .data (.int .i64) c4p10, .full (.arr 20 (.int .u8)) []]) false)]
noncomputable def cd0 : Code := cL (cL (cL (cR (cR (cR (cR (cB Try.f150)))))))
def St3 (x1 : List Int) (x6 : Int) (c4p0 : Int) (c4p1 : List Int) (c4p2 : List Int) (c4p3 : List Int) (c4p4 : Int) (c4p5 : List Int) (c4p6 : Int) (c4p7 : Int) (c4p8 : List Int) (c4p10 : Int) : St := stL 49 [(1, .data (.sl (.int .u8)) x1), (4, .ref 4 0 []), (6, .data (.int .i64) x6)] [(4, .cell (.pair (.int .i64) (.pair (.arr 4 (.int .u64)) (.pair (.arr 4 (.int .u64)) (.pair (.arr 32 (.int .u8)) (.pair (.int .i64) (.pair (.arr 32 (.int .u8)) (.pair (.int .i64) (.pair (.int .i64) (.pair .str (.pair (.sl (.int .u8)) (.pair (.int .i64) (.pair (.sl (.arr 20 (.int .u8))) .unit)))))))))))) (.agg (.pair (.int .i64) (.pair (.arr 4 (.int .u64)) (.pair (.arr 4 (.int .u64)) (.pair (.arr 32 (.int .u8)) (.pair (.int .i64) (.pair (.arr 32 (.int .u8)) (.pair (.int .i64) (.pair (.int .i64) (.pair .str (.pair (.sl (.int .u8)) (.pair (.int .i64) (.pair (.sl (.arr 20 (.int .u8))) .unit)))))))))))) [.data (.int .i64) c4p0, .data (.arr 4 (.int .u64)) c4p1, .data (.arr 4 (.int .u64)) c4p2, .data (.arr 32 (.int .u8)) c4p3, .data (.int .i64) c4p4, .data (.arr 32 (.int .u8)) c4p5, .data (.int .i64) c4p6, .data (.int .i64) c4p7, .data .str c4p8, .full (.int .u8) [], .data (.int .i64) c4p10, .full (.arr 20 (.int .u8)) []]) false)]
def l0s {α : Type} (Nx : (List Int) → Int → Int → (List Int) → (List Int) → (List Int) → Int → (List Int) → Int → Int → (List Int) → Int → Option α) (Xt0 : (List Int) → Int → Int → (List Int) → (List Int) → (List Int) → Int → (List Int) → Int → Int → (List Int) → Int → Option α) (x1 : List Int) (x6 : Int) (c4p0 : Int) (c4p1 : List Int) (c4p2 : List Int) (c4p3 : List Int) (c4p4 : Int) (c4p5 : List Int) (c4p6 : Int) (c4p7 : Int) (c4p8 : List Int) (c4p10 : Int) : Option α :=
  cond (decide (0 ≤ (IntKind.i64.wrap (x6 - 1)) ∧ (IntKind.i64.wrap (x6 - 1)) < (x1.length : Int)) || !((decide (x6 > 35)) == true)) (
    if (cond (decide (x6 > 35)) ((List.getD x1 (Int.toNat (IntKind.i64.wrap (x6 - 1))) 0) == 0) false) = true then
      Nx x1 (IntKind.i64.wrap (x6 - 1)) c4p0 c4p1 c4p2 c4p3 c4p4 c4p5 c4p6 c4p7 c4p8 c4p10
    else
      Xt0 x1 x6 c4p0 c4p1 c4p2 c4p3 c4p4 c4p5 c4p6 c4p7 c4p8 c4p10) none
theorem l0s_eq {α : Type} (k : Nat) (next : St → Option α) (Q : Ex → St → Option α) (x1 : List Int) (x6 : Int) (c4p0 : Int) (c4p1 : List Int) (c4p2 : List Int) (c4p3 : List Int) (c4p4 : Int) (c4p5 : List Int) (c4p6 : Int) (c4p7 : Int) (c4p8 : List Int) (c4p10 : Int) :
    rnd C k cd0 18 Q next (St2 x1 x6 c4p0 c4p1 c4p2 c4p3 c4p4 c4p5 c4p6 c4p7 c4p8 c4p10) = l0s (fun (x1 : List Int) (x6 : Int) (c4p0 : Int) (c4p1 : List Int) (c4p2 : List Int) (c4p3 : List Int) (c4p4 : Int) (c4p5 : List Int) (c4p6 : Int) (c4p7 : Int) (c4p8 : List Int) (c4p10 : Int) => next (St2 x1 x6 c4p0 c4p1 c4p2 c4p3 c4p4 c4p5 c4p6 c4p7 c4p8 c4p10)) (fun (x1 : List Int) (x6 : Int) (c4p0 : Int) (c4p1 : List Int) (c4p2 : List Int) (c4p3 : List Int) (c4p4 : Int) (c4p5 : List Int) (c4p6 : Int) (c4p7 : Int) (c4p8 : List Int) (c4p10 : Int) => Q (.exit 0) (St3 x1 x6 c4p0 c4p1 c4p2 c4p3 c4p4 c4p5 c4p6 c4p7 c4p8 c4p10)) x1 x6 c4p0 c4p1 c4p2 c4p3 c4p4 c4p5 c4p6 c4p7 c4p8 c4p10 := by
  have h : ∀ (D L : DT α), denJ D L Js C cd0 (lq C 18 next Q) (St2 x1 x6 c4p0 c4p1 c4p2 c4p3 c4p4 c4p5 c4p6 c4p7 c4p8 c4p10) =
        cond (decide (0 ≤ (IntKind.i64.wrap (x6 - 1)) ∧ (IntKind.i64.wrap (x6 - 1)) < (x1.length : Int)) || !((decide (x6 > 35)) == true)) (
          if (cond (decide (x6 > 35)) ((List.getD x1 (Int.toNat (IntKind.i64.wrap (x6 - 1))) 0) == 0) false) = true then
            next (St2 x1 (IntKind.i64.wrap (x6 - 1)) c4p0 c4p1 c4p2 c4p3 c4p4 c4p5 c4p6 c4p7 c4p8 c4p10)
          else
            Q (.exit 0) (St3 x1 x6 c4p0 c4p1 c4p2 c4p3 c4p4 c4p5 c4p6 c4p7 c4p8 c4p10)) none := by
    intro D L; kernel_rfl
  refine (show rnd C k cd0 18 Q next (St2 x1 x6 c4p0 c4p1 c4p2 c4p3 c4p4 c4p5 c4p6 c4p7 c4p8 c4p10) = denJ (den C k) (lp C k) Js C cd0 (lq C 18 next Q) (St2 x1 x6 c4p0 c4p1 c4p2 c4p3 c4p4 c4p5 c4p6 c4p7 c4p8 c4p10) from (denJ_den _ _ _ _ _ _).symm).trans ((h (den C k) (lp C k)).trans ?_)
  first | rfl | kernel_rfl
def l0 {α : Type} (k : Nat) (Xt0 : (List Int) → Int → Int → (List Int) → (List Int) → (List Int) → Int → (List Int) → Int → Int → (List Int) → Int → Option α) : Nat → (List Int) → Int → Int → (List Int) → (List Int) → (List Int) → Int → (List Int) → Int → Int → (List Int) → Int → Option α
  | 0, _, _, _, _, _, _, _, _, _, _, _, _ => none
  | n + 1, x1, x6, c4p0, c4p1, c4p2, c4p3, c4p4, c4p5, c4p6, c4p7, c4p8, c4p10 => l0s (l0 k Xt0 n) Xt0 x1 x6 c4p0 c4p1 c4p2 c4p3 c4p4 c4p5 c4p6 c4p7 c4p8 c4p10
theorem l0_eq {α : Type} (k : Nat) (Q : Ex → St → Option α) : ∀ (n : Nat) (x1 : List Int) (x6 : Int) (c4p0 : Int) (c4p1 : List Int) (c4p2 : List Int) (c4p3 : List Int) (c4p4 : Int) (c4p5 : List Int) (c4p6 : Int) (c4p7 : Int) (c4p8 : List Int) (c4p10 : Int), iter (rnd C k cd0 18 Q) n (St2 x1 x6 c4p0 c4p1 c4p2 c4p3 c4p4 c4p5 c4p6 c4p7 c4p8 c4p10) = l0 k (fun (x1 : List Int) (x6 : Int) (c4p0 : Int) (c4p1 : List Int) (c4p2 : List Int) (c4p3 : List Int) (c4p4 : Int) (c4p5 : List Int) (c4p6 : Int) (c4p7 : Int) (c4p8 : List Int) (c4p10 : Int) => Q (.exit 0) (St3 x1 x6 c4p0 c4p1 c4p2 c4p3 c4p4 c4p5 c4p6 c4p7 c4p8 c4p10)) n x1 x6 c4p0 c4p1 c4p2 c4p3 c4p4 c4p5 c4p6 c4p7 c4p8 c4p10
  | 0, _, _, _, _, _, _, _, _, _, _, _, _ => rfl
  | n + 1, x1, x6, c4p0, c4p1, c4p2, c4p3, c4p4, c4p5, c4p6, c4p7, c4p8, c4p10 => (iter_succ _ _ _).trans ((l0s_eq k (iter (rnd C k cd0 18 Q) n) Q x1 x6 c4p0 c4p1 c4p2 c4p3 c4p4 c4p5 c4p6 c4p7 c4p8 c4p10).trans (congrArg (fun N => l0s N (fun (x1 : List Int) (x6 : Int) (c4p0 : Int) (c4p1 : List Int) (c4p2 : List Int) (c4p3 : List Int) (c4p4 : Int) (c4p5 : List Int) (c4p6 : Int) (c4p7 : Int) (c4p8 : List Int) (c4p10 : Int) => Q (.exit 0) (St3 x1 x6 c4p0 c4p1 c4p2 c4p3 c4p4 c4p5 c4p6 c4p7 c4p8 c4p10)) x1 x6 c4p0 c4p1 c4p2 c4p3 c4p4 c4p5 c4p6 c4p7 c4p8 c4p10) (funext fun x1 => funext fun x6 => funext fun c4p0 => funext fun c4p1 => funext fun c4p2 => funext fun c4p3 => funext fun c4p4 => funext fun c4p5 => funext fun c4p6 => funext fun c4p7 => funext fun c4p8 => funext fun c4p10 => l0_eq k Q n x1 x6 c4p0 c4p1 c4p2 c4p3 c4p4 c4p5 c4p6 c4p7 c4p8 c4p10)))
theorem l0_congr {α : Type} (k : Nat) (Xt0 : (List Int) → Int → Int → (List Int) → (List Int) → (List Int) → Int → (List Int) → Int → Int → (List Int) → Int → Option α) (Xt0q : (List Int) → Int → Int → (List Int) → (List Int) → (List Int) → Int → (List Int) → Int → Int → (List Int) → Int → Option α) (hXt0 : ∀ (x1 : List Int) (x6 : Int) (c4p0 : Int) (c4p1 : List Int) (c4p2 : List Int) (c4p3 : List Int) (c4p4 : Int) (c4p5 : List Int) (c4p6 : Int) (c4p7 : Int) (c4p8 : List Int) (c4p10 : Int), Xt0 x1 x6 c4p0 c4p1 c4p2 c4p3 c4p4 c4p5 c4p6 c4p7 c4p8 c4p10 = Xt0q x1 x6 c4p0 c4p1 c4p2 c4p3 c4p4 c4p5 c4p6 c4p7 c4p8 c4p10) (n : Nat) (x1 : List Int) (x6 : Int) (c4p0 : Int) (c4p1 : List Int) (c4p2 : List Int) (c4p3 : List Int) (c4p4 : Int) (c4p5 : List Int) (c4p6 : Int) (c4p7 : Int) (c4p8 : List Int) (c4p10 : Int) : l0 k Xt0 n x1 x6 c4p0 c4p1 c4p2 c4p3 c4p4 c4p5 c4p6 c4p7 c4p8 c4p10 = l0 k Xt0q n x1 x6 c4p0 c4p1 c4p2 c4p3 c4p4 c4p5 c4p6 c4p7 c4p8 c4p10 := by
  obtain rfl : Xt0 = Xt0q := by funext x1; funext x6; funext c4p0; funext c4p1; funext c4p2; funext c4p3; funext c4p4; funext c4p5; funext c4p6; funext c4p7; funext c4p8; funext c4p10; exact hXt0 x1 x6 c4p0 c4p1 c4p2 c4p3 c4p4 c4p5 c4p6 c4p7 c4p8 c4p10
  rfl
noncomputable def cd1 : Code := cR (cR (cR (cR (cR (cB Try.f150)))))
def St4 (x1 : List Int) (x6 : Int) (c4p0 : Int) (c4p1 : List Int) (c4p2 : List Int) (c4p3 : List Int) (c4p4 : Int) (c4p5 : List Int) (c4p6 : Int) (c4p7 : Int) (c4p8 : List Int) (c4p10 : Int) : St := stL 49 [(1, .data (.sl (.int .u8)) x1), (4, .ref 4 0 []), (6, .data (.int .i64) x6)] [(4, .cell (.pair (.int .i64) (.pair (.arr 4 (.int .u64)) (.pair (.arr 4 (.int .u64)) (.pair (.arr 32 (.int .u8)) (.pair (.int .i64) (.pair (.arr 32 (.int .u8)) (.pair (.int .i64) (.pair (.int .i64) (.pair .str (.pair (.sl (.int .u8)) (.pair (.int .i64) (.pair (.sl (.arr 20 (.int .u8))) .unit)))))))))))) (.agg (.pair (.int .i64) (.pair (.arr 4 (.int .u64)) (.pair (.arr 4 (.int .u64)) (.pair (.arr 32 (.int .u8)) (.pair (.int .i64) (.pair (.arr 32 (.int .u8)) (.pair (.int .i64) (.pair (.int .i64) (.pair .str (.pair (.sl (.int .u8)) (.pair (.int .i64) (.pair (.sl (.arr 20 (.int .u8))) .unit)))))))))))) [.data (.int .i64) c4p0, .data (.arr 4 (.int .u64)) c4p1, .data (.arr 4 (.int .u64)) c4p2, .data (.arr 32 (.int .u8)) c4p3, .data (.int .i64) c4p4, .data (.arr 32 (.int .u8)) c4p5, .data (.int .i64) c4p6, .data (.int .i64) c4p7, .data .str c4p8, .full (.int .u8) [], .data (.int .i64) c4p10, .full (.arr 20 (.int .u8)) []]) false)]
def j0 {α : Type} (Rt : Int → Int → (List Int) → (List Int) → (List Int) → Int → (List Int) → Int → Int → (List Int) → Int → Option α) (x1 : List Int) (x6 : Int) (c4p0 : Int) (c4p1 : List Int) (c4p2 : List Int) (c4p3 : List Int) (c4p4 : Int) (c4p5 : List Int) (c4p6 : Int) (c4p7 : Int) (c4p8 : List Int) (c4p10 : Int) : Option α :=
  if 0 ≤ (0 : Int) ∧ (0 : Int) ≤ (32 : Int) ∧ (32 : Int) ≤ (x1.length : Int) then
    (Go.Bx.load_word.run (cutL x1 0 32)).bind fun y1 =>
    if 0 ≤ (32 : Int) ∧ (32 : Int) < (x1.length : Int) then
      if 0 ≤ (33 : Int) ∧ (33 : Int) < (x1.length : Int) then
        if 0 ≤ (34 : Int) ∧ (34 : Int) < (x1.length : Int) then
          if 0 ≤ (35 : Int) ∧ (35 : Int) ≤ x6 ∧ x6 ≤ (x1.length : Int) then
            Rt 0 0 [0, 0, 0, 0] [0, 0, 0, 0] y1 (bor .i64 (shlI .i64 (IntKind.i64.wrap (List.getD x1 32 0)) 8) (IntKind.i64.wrap (List.getD x1 33 0))) (List.replicate 32 0) 0 (IntKind.i64.wrap (List.getD x1 34 0)) (cutL x1 35 x6) 0
          else none
        else none
      else none
    else none
  else none
theorem j0_eq {α : Type} (k : Nat) (Q : Ex → St → Option α) (x1 : List Int) (x6 : Int) (c4p0 : Int) (c4p1 : List Int) (c4p2 : List Int) (c4p3 : List Int) (c4p4 : Int) (c4p5 : List Int) (c4p6 : Int) (c4p7 : Int) (c4p8 : List Int) (c4p10 : Int) :
    (den C k) cd1 Q (St4 x1 x6 c4p0 c4p1 c4p2 c4p3 c4p4 c4p5 c4p6 c4p7 c4p8 c4p10) = j0 (fun (x5 : Int) (c4p0 : Int) (c4p1 : List Int) (c4p2 : List Int) (c4p3 : List Int) (c4p4 : Int) (c4p5 : List Int) (c4p6 : Int) (c4p7 : Int) (c4p8 : List Int) (c4p10 : Int) => Q .ret (St1 x5 c4p0 c4p1 c4p2 c4p3 c4p4 c4p5 c4p6 c4p7 c4p8 c4p10)) x1 x6 c4p0 c4p1 c4p2 c4p3 c4p4 c4p5 c4p6 c4p7 c4p8 c4p10 := by
  have h : ∀ (D L : DT α), denJ D L Js C cd1 Q (St4 x1 x6 c4p0 c4p1 c4p2 c4p3 c4p4 c4p5 c4p6 c4p7 c4p8 c4p10) =
        if 0 ≤ (0 : Int) ∧ (0 : Int) ≤ (32 : Int) ∧ (32 : Int) ≤ (x1.length : Int) then
          (Go.Bx.load_word.run (cutL x1 0 32)).bind fun y1 =>
          if 0 ≤ (32 : Int) ∧ (32 : Int) < (x1.length : Int) then
            if 0 ≤ (33 : Int) ∧ (33 : Int) < (x1.length : Int) then
              if 0 ≤ (34 : Int) ∧ (34 : Int) < (x1.length : Int) then
                if 0 ≤ (35 : Int) ∧ (35 : Int) ≤ x6 ∧ x6 ≤ (x1.length : Int) then
                  Q .ret (St1 0 0 [0, 0, 0, 0] [0, 0, 0, 0] y1 (bor .i64 (shlI .i64 (IntKind.i64.wrap (List.getD x1 32 0)) 8) (IntKind.i64.wrap (List.getD x1 33 0))) (List.replicate 32 0) 0 (IntKind.i64.wrap (List.getD x1 34 0)) (cutL x1 35 x6) 0)
                else none
              else none
            else none
          else none
        else none := by
    intro D L; kernel_rfl
  refine (show (den C k) cd1 Q (St4 x1 x6 c4p0 c4p1 c4p2 c4p3 c4p4 c4p5 c4p6 c4p7 c4p8 c4p10) = denJ (den C k) (lp C k) Js C cd1 Q (St4 x1 x6 c4p0 c4p1 c4p2 c4p3 c4p4 c4p5 c4p6 c4p7 c4p8 c4p10) from (denJ_den _ _ _ _ _ _).symm).trans ((h (den C k) (lp C k)).trans ?_)
  first | rfl | kernel_rfl
theorem a0 {α : Type} (k : Nat) (Q : Ex → St → Option α) (x1 : List Int) (x6 : Int) (c4p0 : Int) (c4p1 : List Int) (c4p2 : List Int) (c4p3 : List Int) (c4p4 : Int) (c4p5 : List Int) (c4p6 : Int) (c4p7 : Int) (c4p8 : List Int) (c4p10 : Int) :
    (lp C k) cd0 (blkQ C 0 (sq (den C k) (lp C k) Js C cd1 Q)) (St2 x1 x6 c4p0 c4p1 c4p2 c4p3 c4p4 c4p5 c4p6 c4p7 c4p8 c4p10) = l0 k (fun (x1 : List Int) (x6 : Int) (c4p0 : Int) (c4p1 : List Int) (c4p2 : List Int) (c4p3 : List Int) (c4p4 : Int) (c4p5 : List Int) (c4p6 : Int) (c4p7 : Int) (c4p8 : List Int) (c4p10 : Int) => j0 (fun (x5 : Int) (c4p0 : Int) (c4p1 : List Int) (c4p2 : List Int) (c4p3 : List Int) (c4p4 : Int) (c4p5 : List Int) (c4p6 : Int) (c4p7 : Int) (c4p8 : List Int) (c4p10 : Int) => Q .ret (St1 x5 c4p0 c4p1 c4p2 c4p3 c4p4 c4p5 c4p6 c4p7 c4p8 c4p10)) x1 x6 c4p0 c4p1 c4p2 c4p3 c4p4 c4p5 c4p6 c4p7 c4p8 c4p10) k x1 x6 c4p0 c4p1 c4p2 c4p3 c4p4 c4p5 c4p6 c4p7 c4p8 c4p10 :=
  (show (lp C k) cd0 (blkQ C 0 (sq (den C k) (lp C k) Js C cd1 Q)) (St2 x1 x6 c4p0 c4p1 c4p2 c4p3 c4p4 c4p5 c4p6 c4p7 c4p8 c4p10) = iter (rnd C k cd0 18 (blkQ C 0 (sq (den C k) (lp C k) Js C cd1 Q))) k (St2 x1 x6 c4p0 c4p1 c4p2 c4p3 c4p4 c4p5 c4p6 c4p7 c4p8 c4p10) by kernel_rfl).trans ((l0_eq k (blkQ C 0 (sq (den C k) (lp C k) Js C cd1 Q)) k x1 x6 c4p0 c4p1 c4p2 c4p3 c4p4 c4p5 c4p6 c4p7 c4p8 c4p10).trans (l0_congr k _ _ (fun x1 x6 c4p0 c4p1 c4p2 c4p3 c4p4 c4p5 c4p6 c4p7 c4p8 c4p10 => ((show (blkQ C 0 (sq (den C k) (lp C k) Js C cd1 Q)) (.exit 0) (St3 x1 x6 c4p0 c4p1 c4p2 c4p3 c4p4 c4p5 c4p6 c4p7 c4p8 c4p10) = (den C k) cd1 Q (St4 x1 x6 c4p0 c4p1 c4p2 c4p3 c4p4 c4p5 c4p6 c4p7 c4p8 c4p10) by kernel_rfl).trans (by simp only [j0_eq]))) k x1 x6 c4p0 c4p1 c4p2 c4p3 c4p4 c4p5 c4p6 c4p7 c4p8 c4p10))
def top {α : Type} (k : Nat) (Rt : Int → Int → (List Int) → (List Int) → (List Int) → Int → (List Int) → Int → Int → (List Int) → Int → Option α) (x0 : Unit) (x1 : List Int) : Option α :=
  if (decide ((x1.length : Int) < 67)) = true then
    Rt 4 0 [0, 0, 0, 0] [0, 0, 0, 0] (List.replicate 32 0) 0 (List.replicate 32 0) 0 0 [] 0
  else
    if (decide ((x1.length : Int) > 67)) = true then
      Rt 3 0 [0, 0, 0, 0] [0, 0, 0, 0] (List.replicate 32 0) 0 (List.replicate 32 0) 0 0 [] 0
    else
      l0 k (fun (x1 : List Int) (x6 : Int) (c4p0 : Int) (c4p1 : List Int) (c4p2 : List Int) (c4p3 : List Int) (c4p4 : Int) (c4p5 : List Int) (c4p6 : Int) (c4p7 : Int) (c4p8 : List Int) (c4p10 : Int) => j0 Rt x1 x6 c4p0 c4p1 c4p2 c4p3 c4p4 c4p5 c4p6 c4p7 c4p8 c4p10) k x1 67 0 [0, 0, 0, 0] [0, 0, 0, 0] (List.replicate 32 0) 0 (List.replicate 32 0) 0 0 [] 0
theorem top_eq {α : Type} (k : Nat) (Q : Ex → St → Option α) (x0 : Unit) (x1 : List Int) :
    (den C k) (cB Try.f150) Q (St0 x0 x1) = top k (fun (x5 : Int) (c4p0 : Int) (c4p1 : List Int) (c4p2 : List Int) (c4p3 : List Int) (c4p4 : Int) (c4p5 : List Int) (c4p6 : Int) (c4p7 : Int) (c4p8 : List Int) (c4p10 : Int) => Q .ret (St1 x5 c4p0 c4p1 c4p2 c4p3 c4p4 c4p5 c4p6 c4p7 c4p8 c4p10)) x0 x1 := by
  have h : ∀ (D L : DT α), denJ D L Js C (cB Try.f150) Q (St0 x0 x1) =
        if (decide ((x1.length : Int) < 67)) = true then
          Q .ret (St1 4 0 [0, 0, 0, 0] [0, 0, 0, 0] (List.replicate 32 0) 0 (List.replicate 32 0) 0 0 [] 0)
        else
          if (decide ((x1.length : Int) > 67)) = true then
            Q .ret (St1 3 0 [0, 0, 0, 0] [0, 0, 0, 0] (List.replicate 32 0) 0 (List.replicate 32 0) 0 0 [] 0)
          else
            L cd0 (blkQ C 0 (sq D L Js C cd1 Q)) (St2 x1 67 0 [0, 0, 0, 0] [0, 0, 0, 0] (List.replicate 32 0) 0 (List.replicate 32 0) 0 0 [] 0) := by
    intro D L; kernel_rfl
  refine (show (den C k) (cB Try.f150) Q (St0 x0 x1) = denJ (den C k) (lp C k) Js C (cB Try.f150) Q (St0 x0 x1) from (denJ_den _ _ _ _ _ _).symm).trans ((h (den C k) (lp C k)).trans ?_)
  simp only [a0]
  first | rfl | kernel_rfl
def run (x0 : Unit) (x1 : List Int) : Option ((Int × List Int × List Int × List Int × Int × List Int × Int × Int × List Int × List Int × Int × List (List Int) × Unit) × Int × Unit) := top (α := (Int × List Int × List Int × List Int × Int × List Int × Int × Int × List Int × List Int × Int × List (List Int) × Unit) × Int × Unit) fuel (fun (x5 : Int) (c4p0 : Int) (c4p1 : List Int) (c4p2 : List Int) (c4p3 : List Int) (c4p4 : Int) (c4p5 : List Int) (c4p6 : Int) (c4p7 : Int) (c4p8 : List Int) (c4p10 : Int) => some ((c4p0, c4p1, c4p2, c4p3, c4p4, c4p5, c4p6, c4p7, c4p8, [], c4p10, [], ()), x5, ())) x0 x1
def F : Fn := ⟨(.pair .unit (.pair (.sl (.int .u8)) .unit)), (.pair (.pair (.int .i64) (.pair (.arr 4 (.int .u64)) (.pair (.arr 4 (.int .u64)) (.pair (.arr 32 (.int .u8)) (.pair (.int .i64) (.pair (.arr 32 (.int .u8)) (.pair (.int .i64) (.pair (.int .i64) (.pair .str (.pair (.sl (.int .u8)) (.pair (.int .i64) (.pair (.sl (.arr 20 (.int .u8))) .unit)))))))))))) (.pair (.int .i64) .unit)), true, fun x => run x.1 x.2.1⟩
set_option maxRecDepth 100000 in
theorem con : Con Try.prog 150 F := by
  refine con_of_den (C := C) (ctx_ok (by kernel_rfl) (by kernel_rfl) (by kernel_rfl) (by kernel_rfl) ⟨.inl ⟨Go.Bx.load_word.con, Go.Bx.load_word.named⟩, trivial⟩) (by kernel_rfl) Try.func150 (c := cB Try.f150) (by kernel_rfl) (by kernel_rfl) F fuel (fun x => by simp [F, spread, Try.ntmps150]) ?_
  intro x r h
  rw [← h]
  have h1 : start F Try.f150.ntmps x = (St0 x.1 x.2.1) := by kernel_rfl
  rw [h1]
  refine (top_eq fuel (fin C Try.f150.results.toList F.rs F.multi) x.1 x.2.1).trans ?_
  kernel_rfl
theorem named : Named Try.prog 150 := named_of Try.func150 (by kernel_rfl) (by kernel_rfl)
end Go.Bx.load_meta__get
namespace Go.Bx.load_turn__get
open Go Go.Proofs Go.Bx
set_option maxRecDepth 100000
set_option linter.unusedVariables false
def Js : List Nat := [15]
def C : Ctx := ⟨[(3, (.int .i64)), (5, (.int .u8)), (23, (.int .i64)), (26, (.sl (.arr 20 (.int .u8)))), (59, (.sl (.int .u8))), (71, (.pair (.int .i64) (.pair (.arr 4 (.int .u64)) (.pair (.arr 4 (.int .u64)) (.pair (.arr 32 (.int .u8)) (.pair (.int .i64) (.pair (.arr 32 (.int .u8)) (.pair (.int .i64) (.pair (.int .i64) (.pair .str (.pair (.sl (.int .u8)) (.pair (.int .i64) (.pair (.sl (.arr 20 (.int .u8))) .unit))))))))))))), (168, (.arr 20 (.int .u8))), (183, .unit)], [], [], fnL [], noSh, [], invL [], [(2, [4, 5]), (1, [4, 6]), (4, [1, 4, 6, 59, 60]), (24, [1, 4, 6, 59, 60]), (42, [4, 6])], [(2, [.dat false 4 [11]]), (24, [.melt false 6 [11] 74 true])], [], 0, 0⟩
def St0 (x0 : Unit) (x1 : List Int) : St := stL 78 [(0, .data .unit x0), (1, .data (.sl (.int .u8)) x1)] []
def St1 (x5 : Int) (c4p0 : Int) (c4p1 : List Int) (c4p2 : List Int) (c4p3 : List Int) (c4p4 : Int) (c4p5 : List Int) (c4p6 : Int) (c4p7 : Int) (c4p8 : List Int) (c4p10 : Int) (c4p11 : List (List Int)) : St := stL 78 [(4, .ref 4 0 []), (5, .data (.int .i64) x5)] [(4, .cell (.pair (.int .i64) (.pair (.arr 4 (.int .u64)) (.pair (.arr 4 (.int .u64)) (.pair (.arr 32 (.int .u8)) (.pair (.int .i64) (.pair (.arr 32 (.int .u8)) (.pair (.int .i64) (.pair (.int .i64) (.pair .str (.pair (.sl (.int .u8)) (.pair (.int .i64) (.pair (.sl (.arr 20 (.int .u8))) .unit)))))))))))) (.agg (.pair (.int .i64) (.pair (.arr 4 (.int .u64)) (.pair (.arr 4 (.int .u64)) (.pair (.arr 32 (.int .u8)) (.pair (.int .i64) (.pair (.arr 32 (.int .u8)) (.pair (.int .i64) (.pair (.int .i64) (.pair .str (.pair (.sl (.int .u8)) (.pair (.int .i64) (.pair (.sl (.arr 20 (.int .u8))) .unit)))))))))))) [.data (.int .i64) c4p0, .data (.arr 4 (.int .u64)) c4p1, .data (.arr 4 (.int .u64)) c4p2, .data (.arr 32 (.int .u8)) c4p3, .data (.int .i64) c4p4, .data (.arr 32 (.int .u8)) c4p5, .data (.int .i64) c4p6, .data (.int .i64) c4p7, .data .str c4p8, .full (.int .u8) [], .data (.int .i64) c4p10, .data (.sl (.arr 20 (.int .u8))) c4p11]) false)]
def St2 (x1 : List Int) (x59 : Int) (x60 : Int) (c4p0 : Int) (c4p1 : List Int) (c4p2 : List Int) (c4p3 : List Int) (c4p4 : Int) (c4p5 : List Int) (c4p6 : Int) (c4p7 : Int) (c4p8 : List Int) (c4p10 : Int) (c6p0 : Int) (c6p1 : List Int) (c6p2 : List Int) (c6p3 : List Int) (c6p4 : Int) (c6p5 : List Int) (c6p6 : Int) (c6p7 : Int) (c6p8 : List Int) (c6p10 : Int) (c74 : List (List Int)) : St := stL 78 [(1, .data (.sl (.int .u8)) x1), (4, .ref 4 0 []), (6, .ref 6 0 []), (59, .data (.int .i64) x59), (60, .data (.int .i64) x60)] [(4, .cell (.pair (.int .i64) (.pair (.arr 4 (.int .u64)) (.pair (.arr 4 (.int .u64)) (.pair (.arr 32 (.int .u8)) (.pair (.int .i64) (.pair (.arr 32 (.int .u8)) (.pair (.int .i64) (.pair (.int .i64) (.pair .str (.pair (.sl (.int .u8)) (.pair (.int .i64) (.pair (.sl (.arr 20 (.int .u8))) .unit)))))))))))) (.agg (.pair (.int .i64) (.pair (.arr 4 (.int .u64)) (.pair (.arr 4 (.int .u64)) (.pair (.arr 32 (.int .u8)) (.pair (.int .i64) (.pair (.arr 32 (.int .u8)) (.pair (.int .i64) (.pair (.int .i64) (.pair .str (.pair (.sl (.int .u8)) (.pair (.int .i64) (.pair (.sl (.arr 20 (.int .u8))) .unit)))))))))))) [.data (.int .i64) c4p0, .data (.arr 4 (.int .u64)) c4p1, .data (.arr 4 (.int .u64)) c4p2, .data (.arr 32 (.int .u8)) c4p3, .data (.int .i64) c4p4, .data (.arr 32 (.int .u8)) c4p5, .data (.int .i64) c4p6, .data (.int .i64) c4p7, .data .str c4p8, .full (.int .u8) [], .data (.int .i64) c4p10, .full (.arr 20 (.int .u8)) []]) false), (6, .cell (.pair (.int .i64) (.pair (.arr 4 (.int .u64)) (.pair (.arr 4 (.int .u64)) (.pair (.arr 32 (.int .u8)) (.pair (.int .i64) (.pair (.arr 32 (.int .u8)) (.pair (.int .i64) (.pair (.int .i64) (.pair .str (.pair (.sl (.int .u8)) (.pair (.int .i64) (.pair (.sl (.arr 20 (.int .u8))) .unit)))))))))))) (.agg (.pair (.int .i64) (.pair (.arr 4 (.int .u64)) (.pair (.arr 4 (.int .u64)) (.pair (.arr 32 (.int .u8)) (.pair (.int .i64) (.pair (.arr 32 (.int .u8)) (.pair (.int .i64) (.pair (.int .i64) (.pair .str (.pair (.sl (.int .u8)) (.pair (.int .i64) (.pair (.sl (.arr 20 (.int .u8))) .unit)))))))))))) [.data (.int .i64) c6p0, .data (.arr 4 (.int .u64)) c6p1, .data (.arr 4 (.int .u64)) c6p2, .data (.arr 32 (.int .u8)) c6p3, .data (.int .i64) c6p4, .data (.arr 32 (.int .u8)) c6p5, .data (.int .i64) c6p6, .data (.int .i64) c6p7, .data .str c6p8, .full (.int .u8) [], .data (.int .i64) c6p10, .app 74 0]) false), (74, .buf (.arr 20 (.int .u8)) c74 0 true)]
noncomputable def cd0 : Code := cL (cL (cR (cL (cR (cR (cR (cR (cR (cB Try.f154)))))))))
def St3 (c4p0 : Int) (c4p1 : List Int) (c4p2 : List Int) (c4p3 : List Int) (c4p4 : Int) (c4p5 : List Int) (c4p6 : Int) (c4p7 : Int) (c4p8 : List Int) (c4p10 : Int) (c6p0 : Int) (c6p1 : List Int) (c6p2 : List Int) (c6p3 : List Int) (c6p4 : Int) (c6p5 : List Int) (c6p6 : Int) (c6p7 : Int) (c6p8 : List Int) (c6p10 : Int) (c74 : List (List Int)) : St := stL 78 [(4, .ref 4 0 []), (6, .ref 6 0 [])] [(4, .cell (.pair (.int .i64) (.pair (.arr 4 (.int .u64)) (.pair (.arr 4 (.int .u64)) (.pair (.arr 32 (.int .u8)) (.pair (.int .i64) (.pair (.arr 32 (.int .u8)) (.pair (.int .i64) (.pair (.int .i64) (.pair .str (.pair (.sl (.int .u8)) (.pair (.int .i64) (.pair (.sl (.arr 20 (.int .u8))) .unit)))))))))))) (.agg (.pair (.int .i64) (.pair (.arr 4 (.int .u64)) (.pair (.arr 4 (.int .u64)) (.pair (.arr 32 (.int .u8)) (.pair (.int .i64) (.pair (.arr 32 (.int .u8)) (.pair (.int .i64) (.pair (.int .i64) (.pair .str (.pair (.sl (.int .u8)) (.pair (.int .i64) (.pair (.sl (.arr 20 (.int .u8))) .unit)))))))))))) [.data (.int .i64) c4p0, .data (.arr 4 (.int .u64)) c4p1, .data (.arr 4 (.int .u64)) c4p2, .data (.arr 32 (.int .u8)) c4p3, .data (.int .i64) c4p4, .data (.arr 32 (.int .u8)) c4p5, .data (.int .i64) c4p6, .data (.int .i64) c4p7, .data .str c4p8, .full (.int .u8) [], .data (.int .i64) c4p10, .full (.arr 20 (.int .u8)) []]) false), (6, .cell (.pair (.int .i64) (.pair (.arr 4 (.int .u64)) (.pair (.arr 4 (.int .u64)) (.pair (.arr 32 (.int .u8)) (.pair (.int .i64) (.pair (.arr 32 (.int .u8)) (.pair (.int .i64) (.pair (.int .i64) (.pair .str (.pair (.sl (.int .u8)) (.pair (.int .i64) (.pair (.sl (.arr 20 (.int .u8))) .unit)))))))))))) (.agg (.pair (.int .i64) (.pair (.arr 4 (.int .u64)) (.pair (.arr 4 (.int .u64)) (.pair (.arr 32 (.int .u8)) (.pair (.int .i64) (.pair (.arr 32 (.int .u8)) (.pair (.int .i64) (.pair (.int .i64) (.pair .str (.pair (.sl (.int .u8)) (.pair (.int .i64) (.pair (.sl (.arr 20 (.int .u8))) .unit)))))))))))) [.data (.int .i64) c6p0, .data (.arr 4 (.int .u64)) c6p1, .data (.arr 4 (.int .u64)) c6p2, .data (.arr 32 (.int .u8)) c6p3, .data (.int .i64) c6p4, .data (.arr 32 (.int .u8)) c6p5, .data (.int .i64) c6p6, .data (.int .i64) c6p7, .data .str c6p8, .full (.int .u8) [], .data (.int .i64) c6p10, .app 74 0]) false), (74, .buf (.arr 20 (.int .u8)) c74 0 true)]
def l0s {α : Type} (Nx : (List Int) → Int → Int → Int → (List Int) → (List Int) → (List Int) → Int → (List Int) → Int → Int → (List Int) → Int → Int → (List Int) → (List Int) → (List Int) → Int → (List Int) → Int → Int → (List Int) → Int → (List (List Int)) → Option α) (Xt0 : Int → (List Int) → (List Int) → (List Int) → Int → (List Int) → Int → Int → (List Int) → Int → Int → (List Int) → (List Int) → (List Int) → Int → (List Int) → Int → Int → (List Int) → Int → (List (List Int)) → Option α) (x1 : List Int) (x59 : Int) (x60 : Int) (c4p0 : Int) (c4p1 : List Int) (c4p2 : List Int) (c4p3 : List Int) (c4p4 : Int) (c4p5 : List Int) (c4p6 : Int) (c4p7 : Int) (c4p8 : List Int) (c4p10 : Int) (c6p0 : Int) (c6p1 : List Int) (c6p2 : List Int) (c6p3 : List Int) (c6p4 : Int) (c6p5 : List Int) (c6p6 : Int) (c6p7 : Int) (c6p8 : List Int) (c6p10 : Int) (c74 : List (List Int)) : Option α :=
  if (decide (x60 < x59)) = true then
    if 0 ≤ (IntKind.i64.wrap (5 + (IntKind.i64.wrap (20 * x60)))) ∧ (IntKind.i64.wrap (5 + (IntKind.i64.wrap (20 * x60)))) ≤ (x1.length : Int) ∧ (x1.length : Int) ≤ (x1.length : Int) then
      if fitB (c74.length + 1) 20 = true then
        Nx x1 x59 (IntKind.i64.wrap (x60 + 1)) c4p0 c4p1 c4p2 c4p3 c4p4 c4p5 c4p6 c4p7 c4p8 c4p10 c6p0 c6p1 c6p2 c6p3 c6p4 c6p5 c6p6 c6p7 c6p8 c6p10 (c74 ++ [(cpyL (List.replicate 20 0) 0 20 (cutL x1 (IntKind.i64.wrap (5 + (IntKind.i64.wrap (20 * x60)))) (x1.length : Int)))])
      else none
    else none
  else
    Xt0 c4p0 c4p1 c4p2 c4p3 c4p4 c4p5 c4p6 c4p7 c4p8 c4p10 c6p0 c6p1 c6p2 c6p3 c6p4 c6p5 c6p6 c6p7 c6p8 c6p10 c74
theorem l0s_eq {α : Type} (k : Nat) (next : St → Option α) (Q : Ex → St → Option α) (x1 : List Int) (x59 : Int) (x60 : Int) (c4p0 : Int) (c4p1 : List Int) (c4p2 : List Int) (c4p3 : List Int) (c4p4 : Int) (c4p5 : List Int) (c4p6 : Int) (c4p7 : Int) (c4p8 : List Int) (c4p10 : Int) (c6p0 : Int) (c6p1 : List Int) (c6p2 : List Int) (c6p3 : List Int) (c6p4 : Int) (c6p5 : List Int) (c6p6 : Int) (c6p7 : Int) (c6p8 : List Int) (c6p10 : Int) (c74 : List (List Int)) :
    rnd C k cd0 24 Q next (St2 x1 x59 x60 c4p0 c4p1 c4p2 c4p3 c4p4 c4p5 c4p6 c4p7 c4p8 c4p10 c6p0 c6p1 c6p2 c6p3 c6p4 c6p5 c6p6 c6p7 c6p8 c6p10 c74) = l0s (fun (x1 : List Int) (x59 : Int) (x60 : Int) (c4p0 : Int) (c4p1 : List Int) (c4p2 : List Int) (c4p3 : List Int) (c4p4 : Int) (c4p5 : List Int) (c4p6 : Int) (c4p7 : Int) (c4p8 : List Int) (c4p10 : Int) (c6p0 : Int) (c6p1 : List Int) (c6p2 : List Int) (c6p3 : List Int) (c6p4 : Int) (c6p5 : List Int) (c6p6 : Int) (c6p7 : Int) (c6p8 : List Int) (c6p10 : Int) (c74 : List (List Int)) => next (St2 x1 x59 x60 c4p0 c4p1 c4p2 c4p3 c4p4 c4p5 c4p6 c4p7 c4p8 c4p10 c6p0 c6p1 c6p2 c6p3 c6p4 c6p5 c6p6 c6p7 c6p8 c6p10 c74)) (fun (c4p0 : Int) (c4p1 : List Int) (c4p2 : List Int) (c4p3 : List Int) (c4p4 : Int) (c4p5 : List Int) (c4p6 : Int) (c4p7 : Int) (c4p8 : List Int) (c4p10 : Int) (c6p0 : Int) (c6p1 : List Int) (c6p2 : List Int) (c6p3 : List Int) (c6p4 : Int) (c6p5 : List Int) (c6p6 : Int) (c6p7 : Int) (c6p8 : List Int) (c6p10 : Int) (c74 : List (List Int)) => Q (.exit 0) (St3 c4p0 c4p1 c4p2 c4p3 c4p4 c4p5 c4p6 c4p7 c4p8 c4p10 c6p0 c6p1 c6p2 c6p3 c6p4 c6p5 c6p6 c6p7 c6p8 c6p10 c74)) x1 x59 x60 c4p0 c4p1 c4p2 c4p3 c4p4 c4p5 c4p6 c4p7 c4p8 c4p10 c6p0 c6p1 c6p2 c6p3 c6p4 c6p5 c6p6 c6p7 c6p8 c6p10 c74 := by
  have h : ∀ (D L : DT α), denJ D L Js C cd0 (lq C 24 next Q) (St2 x1 x59 x60 c4p0 c4p1 c4p2 c4p3 c4p4 c4p5 c4p6 c4p7 c4p8 c4p10 c6p0 c6p1 c6p2 c6p3 c6p4 c6p5 c6p6 c6p7 c6p8 c6p10 c74) =
        if (decide (x60 < x59)) = true then
          if 0 ≤ (IntKind.i64.wrap (5 + (IntKind.i64.wrap (20 * x60)))) ∧ (IntKind.i64.wrap (5 + (IntKind.i64.wrap (20 * x60)))) ≤ (x1.length : Int) ∧ (x1.length : Int) ≤ (x1.length : Int) then
            if fitB (c74.length + 1) 20 = true then
              next (St2 x1 x59 (IntKind.i64.wrap (x60 + 1)) c4p0 c4p1 c4p2 c4p3 c4p4 c4p5 c4p6 c4p7 c4p8 c4p10 c6p0 c6p1 c6p2 c6p3 c6p4 c6p5 c6p6 c6p7 c6p8 c6p10 (c74 ++ [(cpyL (List.replicate 20 0) 0 20 (cutL x1 (IntKind.i64.wrap (5 + (IntKind.i64.wrap (20 * x60)))) (x1.length : Int)))]))
            else none
          else none
        else
          Q (.exit 0) (St3 c4p0 c4p1 c4p2 c4p3 c4p4 c4p5 c4p6 c4p7 c4p8 c4p10 c6p0 c6p1 c6p2 c6p3 c6p4 c6p5 c6p6 c6p7 c6p8 c6p10 c74) := by
    intro D L; kernel_rfl
  refine (show rnd C k cd0 24 Q next (St2 x1 x59 x60 c4p0 c4p1 c4p2 c4p3 c4p4 c4p5 c4p6 c4p7 c4p8 c4p10 c6p0 c6p1 c6p2 c6p3 c6p4 c6p5 c6p6 c6p7 c6p8 c6p10 c74) = denJ (den C k) (lp C k) Js C cd0 (lq C 24 next Q) (St2 x1 x59 x60 c4p0 c4p1 c4p2 c4p3 c4p4 c4p5 c4p6 c4p7 c4p8 c4p10 c6p0 c6p1 c6p2 c6p3 c6p4 c6p5 c6p6 c6p7 c6p8 c6p10 c74) from (denJ_den _ _ _ _ _ _).symm).trans ((h (den C k) (lp C k)).trans ?_)
  first | rfl | kernel_rfl
def l0 {α : Type} (k : Nat) (Xt0 : Int → (List Int) → (List Int) → (List Int) → Int → (List Int) → Int → Int → (List Int) → Int → Int → (List Int) → (List Int) → (List Int) → Int → (List Int) → Int → Int → (List Int) → Int → (List (List Int)) → Option α) : Nat → (List Int) → Int → Int → Int → (List Int) → (List Int) → (List Int) → Int → (List Int) → Int → Int → (List Int) → Int → Int → (List Int) → (List Int) → (List Int) → Int → (List Int) → Int → Int → (List Int) → Int → (List (List Int)) → Option α
  | 0, _, _, _, _, _, _, _, _, _, _, _, _, _, _, _, _, _, _, _, _, _, _, _, _ => none
  | n + 1, x1, x59, x60, c4p0, c4p1, c4p2, c4p3, c4p4, c4p5, c4p6, c4p7, c4p8, c4p10, c6p0, c6p1, c6p2, c6p3, c6p4, c6p5, c6p6, c6p7, c6p8, c6p10, c74 => l0s (l0 k Xt0 n) Xt0 x1 x59 x60 c4p0 c4p1 c4p2 c4p3 c4p4 c4p5 c4p6 c4p7 c4p8 c4p10 c6p0 c6p1 c6p2 c6p3 c6p4 c6p5 c6p6 c6p7 c6p8 c6p10 c74
theorem l0_eq {α : Type} (k : Nat) (Q : Ex → St → Option α) : ∀ (n : Nat) (x1 : List Int) (x59 : Int) (x60 : Int) (c4p0 : Int) (c4p1 : List Int) (c4p2 : List Int) (c4p3 : List Int) (c4p4 : Int) (c4p5 : List Int) (c4p6 : Int) (c4p7 : Int) (c4p8 : List Int) (c4p10 : Int) (c6p0 : Int) (c6p1 : List Int) (c6p2 : List Int) (c6p3 : List Int) (c6p4 : Int) (c6p5 : List Int) (c6p6 : Int) (c6p7 : Int) (c6p8 : List Int) (c6p10 : Int) (c74 : List (List Int)), iter (rnd C k cd0 24 Q) n (St2 x1 x59 x60 c4p0 c4p1 c4p2 c4p3 c4p4 c4p5 c4p6 c4p7 c4p8 c4p10 c6p0 c6p1 c6p2 c6p3 c6p4 c6p5 c6p6 c6p7 c6p8 c6p10 c74) = l0 k (fun (c4p0 : Int) (c4p1 : List Int) (c4p2 : List Int) (c4p3 : List Int) (c4p4 : Int) (c4p5 : List Int) (c4p6 : Int) (c4p7 : Int) (c4p8 : List Int) (c4p10 : Int) (c6p0 : Int) (c6p1 : List Int) (c6p2 : List Int) (c6p3 : List Int) (c6p4 : Int) (c6p5 : List Int) (c6p6 : Int) (c6p7 : Int) (c6p8 : List Int) (c6p10 : Int) (c74 : List (List Int)) => Q (.exit 0) (St3 c4p0 c4p1 c4p2 c4p3 c4p4 c4p5 c4p6 c4p7 c4p8 c4p10 c6p0 c6p1 c6p2 c6p3 c6p4 c6p5 c6p6 c6p7 c6p8 c6p10 c74)) n x1 x59 x60 c4p0 c4p1 c4p2 c4p3 c4p4 c4p5 c4p6 c4p7 c4p8 c4p10 c6p0 c6p1 c6p2 c6p3 c6p4 c6p5 c6p6 c6p7 c6p8 c6p10 c74
  | 0, _, _, _, _, _, _, _, _, _, _, _, _, _, _, _, _, _, _, _, _, _, _, _, _ => rfl
  | n + 1, x1, x59, x60, c4p0, c4p1, c4p2, c4p3, c4p4, c4p5, c4p6, c4p7, c4p8, c4p10, c6p0, c6p1, c6p2, c6p3, c6p4, c6p5, c6p6, c6p7, c6p8, c6p10, c74 => (iter_succ _ _ _).trans ((l0s_eq k (iter (rnd C k cd0 24 Q) n) Q x1 x59 x60 c4p0 c4p1 c4p2 c4p3 c4p4 c4p5 c4p6 c4p7 c4p8 c4p10 c6p0 c6p1 c6p2 c6p3 c6p4 c6p5 c6p6 c6p7 c6p8 c6p10 c74).trans (congrArg (fun N => l0s N (fun (c4p0 : Int) (c4p1 : List Int) (c4p2 : List Int) (c4p3 : List Int) (c4p4 : Int) (c4p5 : List Int) (c4p6 : Int) (c4p7 : Int) (c4p8 : List Int) (c4p10 : Int) (c6p0 : Int) (c6p1 : List Int) (c6p2 : List Int) (c6p3 : List Int) (c6p4 : Int) (c6p5 : List Int) (c6p6 : Int) (c6p7 : Int) (c6p8 : List Int) (c6p10 : Int) (c74 : List (List Int)) => Q (.exit 0) (St3 c4p0 c4p1 c4p2 c4p3 c4p4 c4p5 c4p6 c4p7 c4p8 c4p10 c6p0 c6p1 c6p2 c6p3 c6p4 c6p5 c6p6 c6p7 c6p8 c6p10 c74)) x1 x59 x60 c4p0 c4p1 c4p2 c4p3 c4p4 c4p5 c4p6 c4p7 c4p8 c4p10 c6p0 c6p1 c6p2 c6p3 c6p4 c6p5 c6p6 c6p7 c6p8 c6p10 c74) (funext fun x1 => funext fun x59 => funext fun x60 => funext fun c4p0 => funext fun c4p1 => funext fun c4p2 => funext fun c4p3 => funext fun c4p4 => funext fun c4p5 => funext fun c4p6 => funext fun c4p7 => funext fun c4p8 => funext fun c4p10 => funext fun c6p0 => funext fun c6p1 => funext fun c6p2 => funext fun c6p3 => funext fun c6p4 => funext fun c6p5 => funext fun c6p6 => funext fun c6p7 => funext fun c6p8 => funext fun c6p10 => funext fun c74 => l0_eq k Q n x1 x59 x60 c4p0 c4p1 c4p2 c4p3 c4p4 c4p5 c4p6 c4p7 c4p8 c4p10 c6p0 c6p1 c6p2 c6p3 c6p4 c6p5 c6p6 c6p7 c6p8 c6p10 c74)))
theorem l0_congr {α : Type} (k : Nat) (Xt0 : Int → (List Int) → (List Int) → (List Int) → Int → (List Int) → Int → Int → (List Int) → Int → Int → (List Int) → (List Int) → (List Int) → Int → (List Int) → Int → Int → (List Int) → Int → (List (List Int)) → Option α) (Xt0q : Int → (List Int) → (List Int) → (List Int) → Int → (List Int) → Int → Int → (List Int) → Int → Int → (List Int) → (List Int) → (List Int) → Int → (List Int) → Int → Int → (List Int) → Int → (List (List Int)) → Option α) (hXt0 : ∀ (c4p0 : Int) (c4p1 : List Int) (c4p2 : List Int) (c4p3 : List Int) (c4p4 : Int) (c4p5 : List Int) (c4p6 : Int) (c4p7 : Int) (c4p8 : List Int) (c4p10 : Int) (c6p0 : Int) (c6p1 : List Int) (c6p2 : List Int) (c6p3 : List Int) (c6p4 : Int) (c6p5 : List Int) (c6p6 : Int) (c6p7 : Int) (c6p8 : List Int) (c6p10 : Int) (c74 : List (List Int)), Xt0 c4p0 c4p1 c4p2 c4p3 c4p4 c4p5 c4p6 c4p7 c4p8 c4p10 c6p0 c6p1 c6p2 c6p3 c6p4 c6p5 c6p6 c6p7 c6p8 c6p10 c74 = Xt0q c4p0 c4p1 c4p2 c4p3 c4p4 c4p5 c4p6 c4p7 c4p8 c4p10 c6p0 c6p1 c6p2 c6p3 c6p4 c6p5 c6p6 c6p7 c6p8 c6p10 c74) (n : Nat) (x1 : List Int) (x59 : Int) (x60 : Int) (c4p0 : Int) (c4p1 : List Int) (c4p2 : List Int) (c4p3 : List Int) (c4p4 : Int) (c4p5 : List Int) (c4p6 : Int) (c4p7 : Int) (c4p8 : List Int) (c4p10 : Int) (c6p0 : Int) (c6p1 : List Int) (c6p2 : List Int) (c6p3 : List Int) (c6p4 : Int) (c6p5 : List Int) (c6p6 : Int) (c6p7 : Int) (c6p8 : List Int) (c6p10 : Int) (c74 : List (List Int)) : l0 k Xt0 n x1 x59 x60 c4p0 c4p1 c4p2 c4p3 c4p4 c4p5 c4p6 c4p7 c4p8 c4p10 c6p0 c6p1 c6p2 c6p3 c6p4 c6p5 c6p6 c6p7 c6p8 c6p10 c74 = l0 k Xt0q n x1 x59 x60 c4p0 c4p1 c4p2 c4p3 c4p4 c4p5 c4p6 c4p7 c4p8 c4p10 c6p0 c6p1 c6p2 c6p3 c6p4 c6p5 c6p6 c6p7 c6p8 c6p10 c74 := by
  obtain rfl : Xt0 = Xt0q := by funext c4p0; funext c4p1; funext c4p2; funext c4p3; funext c4p4; funext c4p5; funext c4p6; funext c4p7; funext c4p8; funext c4p10; funext c6p0; funext c6p1; funext c6p2; funext c6p3; funext c6p4; funext c6p5; funext c6p6; funext c6p7; funext c6p8; funext c6p10; funext c74; exact hXt0 c4p0 c4p1 c4p2 c4p3 c4p4 c4p5 c4p6 c4p7 c4p8 c4p10 c6p0 c6p1 c6p2 c6p3 c6p4 c6p5 c6p6 c6p7 c6p8 c6p10 c74
  rfl
noncomputable def cd1 : Code := cR (cR (cR (cR (cR (cR (cB Try.f154))))))
def St4 (c4p0 : Int) (c4p1 : List Int) (c4p2 : List Int) (c4p3 : List Int) (c4p4 : Int) (c4p5 : List Int) (c4p6 : Int) (c4p7 : Int) (c4p8 : List Int) (c4p10 : Int) (c6p0 : Int) (c6p1 : List Int) (c6p2 : List Int) (c6p3 : List Int) (c6p4 : Int) (c6p5 : List Int) (c6p6 : Int) (c6p7 : Int) (c6p8 : List Int) (c6p10 : Int) (c74 : List (List Int)) : St := stL 78 [(4, .ref 4 0 []), (6, .ref 6 0 [])] [(4, .cell (.pair (.int .i64) (.pair (.arr 4 (.int .u64)) (.pair (.arr 4 (.int .u64)) (.pair (.arr 32 (.int .u8)) (.pair (.int .i64) (.pair (.arr 32 (.int .u8)) (.pair (.int .i64) (.pair (.int .i64) (.pair .str (.pair (.sl (.int .u8)) (.pair (.int .i64) (.pair (.sl (.arr 20 (.int .u8))) .unit)))))))))))) (.agg (.pair (.int .i64) (.pair (.arr 4 (.int .u64)) (.pair (.arr 4 (.int .u64)) (.pair (.arr 32 (.int .u8)) (.pair (.int .i64) (.pair (.arr 32 (.int .u8)) (.pair (.int .i64) (.pair (.int .i64) (.pair .str (.pair (.sl (.int .u8)) (.pair (.int .i64) (.pair (.sl (.arr 20 (.int .u8))) .unit)))))))))))) [.data (.int .i64) c4p0, .data (.arr 4 (.int .u64)) c4p1, .data (.arr 4 (.int .u64)) c4p2, .data (.arr 32 (.int .u8)) c4p3, .data (.int .i64) c4p4, .data (.arr 32 (.int .u8)) c4p5, .data (.int .i64) c4p6, .data (.int .i64) c4p7, .data .str c4p8, .full (.int .u8) [], .data (.int .i64) c4p10, .full (.arr 20 (.int .u8)) []]) false), (6, .cell (.pair (.int .i64) (.pair (.arr 4 (.int .u64)) (.pair (.arr 4 (.int .u64)) (.pair (.arr 32 (.int .u8)) (.pair (.int .i64) (.pair (.arr 32 (.int .u8)) (.pair (.int .i64) (.pair (.int .i64) (.pair .str (.pair (.sl (.int .u8)) (.pair (.int .i64) (.pair (.sl (.arr 20 (.int .u8))) .unit)))))))))))) (.agg (.pair (.int .i64) (.pair (.arr 4 (.int .u64)) (.pair (.arr 4 (.int .u64)) (.pair (.arr 32 (.int .u8)) (.pair (.int .i64) (.pair (.arr 32 (.int .u8)) (.pair (.int .i64) (.pair (.int .i64) (.pair .str (.pair (.sl (.int .u8)) (.pair (.int .i64) (.pair (.sl (.arr 20 (.int .u8))) .unit)))))))))))) [.data (.int .i64) c6p0, .data (.arr 4 (.int .u64)) c6p1, .data (.arr 4 (.int .u64)) c6p2, .data (.arr 32 (.int .u8)) c6p3, .data (.int .i64) c6p4, .data (.arr 32 (.int .u8)) c6p5, .data (.int .i64) c6p6, .data (.int .i64) c6p7, .data .str c6p8, .full (.int .u8) [], .data (.int .i64) c6p10, .app 74 0]) false), (74, .buf (.arr 20 (.int .u8)) c74 0 true)]
def j0 {α : Type} (Rt : Int → Int → (List Int) → (List Int) → (List Int) → Int → (List Int) → Int → Int → (List Int) → Int → (List (List Int)) → Option α) (c4p0 : Int) (c4p1 : List Int) (c4p2 : List Int) (c4p3 : List Int) (c4p4 : Int) (c4p5 : List Int) (c4p6 : Int) (c4p7 : Int) (c4p8 : List Int) (c4p10 : Int) (c6p0 : Int) (c6p1 : List Int) (c6p2 : List Int) (c6p3 : List Int) (c6p4 : Int) (c6p5 : List Int) (c6p6 : Int) (c6p7 : Int) (c6p8 : List Int) (c6p10 : Int) (c74 : List (List Int)) : Option α :=
  Rt 0 c6p0 c6p1 c6p2 c6p3 c6p4 c6p5 c6p6 c6p7 c6p8 c6p10 c74
theorem j0_eq {α : Type} (k : Nat) (Q : Ex → St → Option α) (c4p0 : Int) (c4p1 : List Int) (c4p2 : List Int) (c4p3 : List Int) (c4p4 : Int) (c4p5 : List Int) (c4p6 : Int) (c4p7 : Int) (c4p8 : List Int) (c4p10 : Int) (c6p0 : Int) (c6p1 : List Int) (c6p2 : List Int) (c6p3 : List Int) (c6p4 : Int) (c6p5 : List Int) (c6p6 : Int) (c6p7 : Int) (c6p8 : List Int) (c6p10 : Int) (c74 : List (List Int)) :
    (den C k) cd1 Q (St4 c4p0 c4p1 c4p2 c4p3 c4p4 c4p5 c4p6 c4p7 c4p8 c4p10 c6p0 c6p1 c6p2 c6p3 c6p4 c6p5 c6p6 c6p7 c6p8 c6p10 c74) = j0 (fun (x5 : Int) (c4p0 : Int) (c4p1 : List Int) (c4p2 : List Int) (c4p3 : List Int) (c4p4 : Int) (c4p5 : List Int) (c4p6 : Int) (c4p7 : Int) (c4p8 : List Int) (c4p10 : Int) (c4p11 : List (List Int)) => Q .ret (St1 x5 c4p0 c4p1 c4p2 c4p3 c4p4 c4p5 c4p6 c4p7 c4p8 c4p10 c4p11)) c4p0 c4p1 c4p2 c4p3 c4p4 c4p5 c4p6 c4p7 c4p8 c4p10 c6p0 c6p1 c6p2 c6p3 c6p4 c6p5 c6p6 c6p7 c6p8 c6p10 c74 := by
  have h : ∀ (D L : DT α), denJ D L Js C cd1 Q (St4 c4p0 c4p1 c4p2 c4p3 c4p4 c4p5 c4p6 c4p7 c4p8 c4p10 c6p0 c6p1 c6p2 c6p3 c6p4 c6p5 c6p6 c6p7 c6p8 c6p10 c74) =
        Q .ret (St1 0 c6p0 c6p1 c6p2 c6p3 c6p4 c6p5 c6p6 c6p7 c6p8 c6p10 c74) := by
    intro D L; kernel_rfl
  refine (show (den C k) cd1 Q (St4 c4p0 c4p1 c4p2 c4p3 c4p4 c4p5 c4p6 c4p7 c4p8 c4p10 c6p0 c6p1 c6p2 c6p3 c6p4 c6p5 c6p6 c6p7 c6p8 c6p10 c74) = denJ (den C k) (lp C k) Js C cd1 Q (St4 c4p0 c4p1 c4p2 c4p3 c4p4 c4p5 c4p6 c4p7 c4p8 c4p10 c6p0 c6p1 c6p2 c6p3 c6p4 c6p5 c6p6 c6p7 c6p8 c6p10 c74) from (denJ_den _ _ _ _ _ _).symm).trans ((h (den C k) (lp C k)).trans ?_)
  first | rfl | kernel_rfl
theorem a0 {α : Type} (k : Nat) (Q : Ex → St → Option α) (x1 : List Int) (x59 : Int) (x60 : Int) (c4p0 : Int) (c4p1 : List Int) (c4p2 : List Int) (c4p3 : List Int) (c4p4 : Int) (c4p5 : List Int) (c4p6 : Int) (c4p7 : Int) (c4p8 : List Int) (c4p10 : Int) (c6p0 : Int) (c6p1 : List Int) (c6p2 : List Int) (c6p3 : List Int) (c6p4 : Int) (c6p5 : List Int) (c6p6 : Int) (c6p7 : Int) (c6p8 : List Int) (c6p10 : Int) (c74 : List (List Int)) :
    (lp C k) cd0 (blkQ C 0 (sq (den C k) (lp C k) Js C cd1 Q)) (St2 x1 x59 x60 c4p0 c4p1 c4p2 c4p3 c4p4 c4p5 c4p6 c4p7 c4p8 c4p10 c6p0 c6p1 c6p2 c6p3 c6p4 c6p5 c6p6 c6p7 c6p8 c6p10 c74) = l0 k (fun (c4p0 : Int) (c4p1 : List Int) (c4p2 : List Int) (c4p3 : List Int) (c4p4 : Int) (c4p5 : List Int) (c4p6 : Int) (c4p7 : Int) (c4p8 : List Int) (c4p10 : Int) (c6p0 : Int) (c6p1 : List Int) (c6p2 : List Int) (c6p3 : List Int) (c6p4 : Int) (c6p5 : List Int) (c6p6 : Int) (c6p7 : Int) (c6p8 : List Int) (c6p10 : Int) (c74 : List (List Int)) => j0 (fun (x5 : Int) (c4p0 : Int) (c4p1 : List Int) (c4p2 : List Int) (c4p3 : List Int) (c4p4 : Int) (c4p5 : List Int) (c4p6 : Int) (c4p7 : Int) (c4p8 : List Int) (c4p10 : Int) (c4p11 : List (List Int)) => Q .ret (St1 x5 c4p0 c4p1 c4p2 c4p3 c4p4 c4p5 c4p6 c4p7 c4p8 c4p10 c4p11)) c4p0 c4p1 c4p2 c4p3 c4p4 c4p5 c4p6 c4p7 c4p8 c4p10 c6p0 c6p1 c6p2 c6p3 c6p4 c6p5 c6p6 c6p7 c6p8 c6p10 c74) k x1 x59 x60 c4p0 c4p1 c4p2 c4p3 c4p4 c4p5 c4p6 c4p7 c4p8 c4p10 c6p0 c6p1 c6p2 c6p3 c6p4 c6p5 c6p6 c6p7 c6p8 c6p10 c74 :=
  (show (lp C k) cd0 (blkQ C 0 (sq (den C k) (lp C k) Js C cd1 Q)) (St2 x1 x59 x60 c4p0 c4p1 c4p2 c4p3 c4p4 c4p5 c4p6 c4p7 c4p8 c4p10 c6p0 c6p1 c6p2 c6p3 c6p4 c6p5 c6p6 c6p7 c6p8 c6p10 c74) = iter (rnd C k cd0 24 (blkQ C 0 (sq (den C k) (lp C k) Js C cd1 Q))) k (St2 x1 x59 x60 c4p0 c4p1 c4p2 c4p3 c4p4 c4p5 c4p6 c4p7 c4p8 c4p10 c6p0 c6p1 c6p2 c6p3 c6p4 c6p5 c6p6 c6p7 c6p8 c6p10 c74) by kernel_rfl).trans ((l0_eq k (blkQ C 0 (sq (den C k) (lp C k) Js C cd1 Q)) k x1 x59 x60 c4p0 c4p1 c4p2 c4p3 c4p4 c4p5 c4p6 c4p7 c4p8 c4p10 c6p0 c6p1 c6p2 c6p3 c6p4 c6p5 c6p6 c6p7 c6p8 c6p10 c74).trans (l0_congr k _ _ (fun c4p0 c4p1 c4p2 c4p3 c4p4 c4p5 c4p6 c4p7 c4p8 c4p10 c6p0 c6p1 c6p2 c6p3 c6p4 c6p5 c6p6 c6p7 c6p8 c6p10 c74 => ((show (blkQ C 0 (sq (den C k) (lp C k) Js C cd1 Q)) (.exit 0) (St3 c4p0 c4p1 c4p2 c4p3 c4p4 c4p5 c4p6 c4p7 c4p8 c4p10 c6p0 c6p1 c6p2 c6p3 c6p4 c6p5 c6p6 c6p7 c6p8 c6p10 c74) = (den C k) cd1 Q (St4 c4p0 c4p1 c4p2 c4p3 c4p4 c4p5 c4p6 c4p7 c4p8 c4p10 c6p0 c6p1 c6p2 c6p3 c6p4 c6p5 c6p6 c6p7 c6p8 c6p10 c74) by kernel_rfl).trans (by simp only [j0_eq]))) k x1 x59 x60 c4p0 c4p1 c4p2 c4p3 c4p4 c4p5 c4p6 c4p7 c4p8 c4p10 c6p0 c6p1 c6p2 c6p3 c6p4 c6p5 c6p6 c6p7 c6p8 c6p10 c74))
def top {α : Type} (k : Nat) (Rt : Int → Int → (List Int) → (List Int) → (List Int) → Int → (List Int) → Int → Int → (List Int) → Int → (List (List Int)) → Option α) (x0 : Unit) (x1 : List Int) : Option α :=
  cond (decide (0 ≤ (4 : Int) ∧ (4 : Int) < (x1.length : Int)) || !((decide ((x1.length : Int) < 5)) == false)) (
    if (cond (decide ((x1.length : Int) < 5)) true (decide ((x1.length : Int) < (IntKind.i64.wrap (5 + (IntKind.i64.wrap (20 * (IntKind.i64.wrap (List.getD x1 4 0))))))))) = true then
      Rt 4 0 [0, 0, 0, 0] [0, 0, 0, 0] (List.replicate 32 0) 0 (List.replicate 32 0) 0 0 [] 0 []
    else
      if 0 ≤ (0 : Int) ∧ (0 : Int) < (x1.length : Int) then
        if 0 ≤ (1 : Int) ∧ (1 : Int) < (x1.length : Int) then
          if 0 ≤ (2 : Int) ∧ (2 : Int) < (x1.length : Int) then
            if 0 ≤ (3 : Int) ∧ (3 : Int) < (x1.length : Int) then
              if 0 ≤ (4 : Int) ∧ (4 : Int) < (x1.length : Int) then
                if (decide ((x1.length : Int) > (IntKind.i64.wrap (5 + (IntKind.i64.wrap (20 * (IntKind.i64.wrap (List.getD x1 4 0)))))))) = true then
                  Rt 3 0 [0, 0, 0, 0] [0, 0, 0, 0] (List.replicate 32 0) 0 (List.replicate 32 0) 0 0 [] 0 []
                else
                  l0 k (fun (c4p0 : Int) (c4p1 : List Int) (c4p2 : List Int) (c4p3 : List Int) (c4p4 : Int) (c4p5 : List Int) (c4p6 : Int) (c4p7 : Int) (c4p8 : List Int) (c4p10 : Int) (c6p0 : Int) (c6p1 : List Int) (c6p2 : List Int) (c6p3 : List Int) (c6p4 : Int) (c6p5 : List Int) (c6p6 : Int) (c6p7 : Int) (c6p8 : List Int) (c6p10 : Int) (c74 : List (List Int)) => j0 Rt c4p0 c4p1 c4p2 c4p3 c4p4 c4p5 c4p6 c4p7 c4p8 c4p10 c6p0 c6p1 c6p2 c6p3 c6p4 c6p5 c6p6 c6p7 c6p8 c6p10 c74) k x1 (IntKind.i64.wrap (List.getD x1 4 0)) 0 0 [0, 0, 0, 0] [0, 0, 0, 0] (List.replicate 32 0) 0 (List.replicate 32 0) 0 0 [] 0 0 [0, 0, 0, 0] [0, 0, 0, 0] (List.replicate 32 0) 0 (List.replicate 32 0) 0 0 [] (bor .i64 (bor .i64 (bor .i64 (shlI .i64 (IntKind.i64.wrap (List.getD x1 0 0)) 24) (shlI .i64 (IntKind.i64.wrap (List.getD x1 1 0)) 16)) (shlI .i64 (IntKind.i64.wrap (List.getD x1 2 0)) 8)) (IntKind.i64.wrap (List.getD x1 3 0))) []
              else none
            else none
          else none
        else none
      else none) none
theorem top_eq {α : Type} (k : Nat) (Q : Ex → St → Option α) (x0 : Unit) (x1 : List Int) :
    (den C k) (cB Try.f154) Q (St0 x0 x1) = top k (fun (x5 : Int) (c4p0 : Int) (c4p1 : List Int) (c4p2 : List Int) (c4p3 : List Int) (c4p4 : Int) (c4p5 : List Int) (c4p6 : Int) (c4p7 : Int) (c4p8 : List Int) (c4p10 : Int) (c4p11 : List (List Int)) => Q .ret (St1 x5 c4p0 c4p1 c4p2 c4p3 c4p4 c4p5 c4p6 c4p7 c4p8 c4p10 c4p11)) x0 x1 := by
  have h : ∀ (D L : DT α), denJ D L Js C (cB Try.f154) Q (St0 x0 x1) =
        cond (decide (0 ≤ (4 : Int) ∧ (4 : Int) < (x1.length : Int)) || !((decide ((x1.length : Int) < 5)) == false)) (
          if (cond (decide ((x1.length : Int) < 5)) true (decide ((x1.length : Int) < (IntKind.i64.wrap (5 + (IntKind.i64.wrap (20 * (IntKind.i64.wrap (List.getD x1 4 0))))))))) = true then
            Q .ret (St1 4 0 [0, 0, 0, 0] [0, 0, 0, 0] (List.replicate 32 0) 0 (List.replicate 32 0) 0 0 [] 0 [])
          else
            if 0 ≤ (0 : Int) ∧ (0 : Int) < (x1.length : Int) then
              if 0 ≤ (1 : Int) ∧ (1 : Int) < (x1.length : Int) then
                if 0 ≤ (2 : Int) ∧ (2 : Int) < (x1.length : Int) then
                  if 0 ≤ (3 : Int) ∧ (3 : Int) < (x1.length : Int) then
                    if 0 ≤ (4 : Int) ∧ (4 : Int) < (x1.length : Int) then
                      if (decide ((x1.length : Int) > (IntKind.i64.wrap (5 + (IntKind.i64.wrap (20 * (IntKind.i64.wrap (List.getD x1 4 0)))))))) = true then
                        Q .ret (St1 3 0 [0, 0, 0, 0] [0, 0, 0, 0] (List.replicate 32 0) 0 (List.replicate 32 0) 0 0 [] 0 [])
                      else
                        L cd0 (blkQ C 0 (sq D L Js C cd1 Q)) (St2 x1 (IntKind.i64.wrap (List.getD x1 4 0)) 0 0 [0, 0, 0, 0] [0, 0, 0, 0] (List.replicate 32 0) 0 (List.replicate 32 0) 0 0 [] 0 0 [0, 0, 0, 0] [0, 0, 0, 0] (List.replicate 32 0) 0 (List.replicate 32 0) 0 0 [] (bor .i64 (bor .i64 (bor .i64 (shlI .i64 (IntKind.i64.wrap (List.getD x1 0 0)) 24) (shlI .i64 (IntKind.i64.wrap (List.getD x1 1 0)) 16)) (shlI .i64 (IntKind.i64.wrap (List.getD x1 2 0)) 8)) (IntKind.i64.wrap (List.getD x1 3 0))) [])
                    else none
                  else none
                else none
              else none
            else none) none := by
    intro D L; kernel_rfl
  refine (show (den C k) (cB Try.f154) Q (St0 x0 x1) = denJ (den C k) (lp C k) Js C (cB Try.f154) Q (St0 x0 x1) from (denJ_den _ _ _ _ _ _).symm).trans ((h (den C k) (lp C k)).trans ?_)
  simp only [a0]
  first | rfl | kernel_rfl
def run (x0 : Unit) (x1 : List Int) : Option ((Int × List Int × List Int × List Int × Int × List Int × Int × Int × List Int × List Int × Int × List (List Int) × Unit) × Int × Unit) := top (α := (Int × List Int × List Int × List Int × Int × List Int × Int × Int × List Int × List Int × Int × List (List Int) × Unit) × Int × Unit) fuel (fun (x5 : Int) (c4p0 : Int) (c4p1 : List Int) (c4p2 : List Int) (c4p3 : List Int) (c4p4 : Int) (c4p5 : List Int) (c4p6 : Int) (c4p7 : Int) (c4p8 : List Int) (c4p10 : Int) (c4p11 : List (List Int)) => some ((c4p0, c4p1, c4p2, c4p3, c4p4, c4p5, c4p6, c4p7, c4p8, [], c4p10, c4p11, ()), x5, ())) x0 x1
def F : Fn := ⟨(.pair .unit (.pair (.sl (.int .u8)) .unit)), (.pair (.pair (.int .i64) (.pair (.arr 4 (.int .u64)) (.pair (.arr 4 (.int .u64)) (.pair (.arr 32 (.int .u8)) (.pair (.int .i64) (.pair (.arr 32 (.int .u8)) (.pair (.int .i64) (.pair (.int .i64) (.pair .str (.pair (.sl (.int .u8)) (.pair (.int .i64) (.pair (.sl (.arr 20 (.int .u8))) .unit)))))))))))) (.pair (.int .i64) .unit)), true, fun x => run x.1 x.2.1⟩
set_option maxRecDepth 100000 in
theorem con : Con Try.prog 154 F := by
  refine con_of_den (C := C) (ctx_ok (by kernel_rfl) (by kernel_rfl) (by kernel_rfl) (by kernel_rfl) trivial) (by kernel_rfl) Try.func154 (c := cB Try.f154) (by kernel_rfl) (by kernel_rfl) F fuel (fun x => by simp [F, spread, Try.ntmps154]) ?_
  intro x r h
  rw [← h]
  have h1 : start F Try.f154.ntmps x = (St0 x.1 x.2.1) := by kernel_rfl
  rw [h1]
  refine (top_eq fuel (fin C Try.f154.results.toList F.rs F.multi) x.1 x.2.1).trans ?_
  kernel_rfl
theorem named : Named Try.prog 154 := named_of Try.func154 (by kernel_rfl) (by kernel_rfl)
end Go.Bx.load_turn__get
namespace Go.Bx.load_Decode
open Go Go.Proofs Go.Bx
set_option maxRecDepth 100000
set_option linter.unusedVariables false
def Js : List Nat := []
def C : Ctx := ⟨[(3, (.int .i64)), (5, (.int .u8)), (23, (.int .i64)), (59, (.sl (.int .u8))), (71, (.pair (.int .i64) (.pair (.arr 4 (.int .u64)) (.pair (.arr 4 (.int .u64)) (.pair (.arr 32 (.int .u8)) (.pair (.int .i64) (.pair (.arr 32 (.int .u8)) (.pair (.int .i64) (.pair (.int .i64) (.pair .str (.pair (.sl (.int .u8)) (.pair (.int .i64) (.pair (.sl (.arr 20 (.int .u8))) .unit)))))))))))))], [], [], fnL [(41, Go.Bx.load_Check.F), (141, Go.Bx.load_transfer__get.F), (150, Go.Bx.load_meta__get.F), (154, Go.Bx.load_turn__get.F)], shL [(74, [.alt Go.Bx.load_kindOf_s0.Sp])], [(17, 48)], invL [(180, [("bascule/load.get", 141)]), (182, [("bascule/load.get", 150)]), (183, [("bascule/load.get", 154)])], [(2, [2, 3])], [(2, [.dat false 2 []])], [], 0, 0⟩
def St0 (x0 : List Int) : St := stL 47 [(0, .data (.sl (.int .u8)) x0)] []
def St1 (x3 : Int) (c2 : Int × List Int × List Int × List Int × Int × List Int × Int × Int × List Int × List Int × Int × List (List Int) × Unit) : St := stL 47 [(2, .ref 2 0 []), (3, .data (.int .i64) x3)] [(2, .cell (.pair (.int .i64) (.pair (.arr 4 (.int .u64)) (.pair (.arr 4 (.int .u64)) (.pair (.arr 32 (.int .u8)) (.pair (.int .i64) (.pair (.arr 32 (.int .u8)) (.pair (.int .i64) (.pair (.int .i64) (.pair .str (.pair (.sl (.int .u8)) (.pair (.int .i64) (.pair (.sl (.arr 20 (.int .u8))) .unit)))))))))))) (.data (.pair (.int .i64) (.pair (.arr 4 (.int .u64)) (.pair (.arr 4 (.int .u64)) (.pair (.arr 32 (.int .u8)) (.pair (.int .i64) (.pair (.arr 32 (.int .u8)) (.pair (.int .i64) (.pair (.int .i64) (.pair .str (.pair (.sl (.int .u8)) (.pair (.int .i64) (.pair (.sl (.arr 20 (.int .u8))) .unit)))))))))))) c2) false)]
def top {α : Type} (Rt : Int → (Int × List Int × List Int × List Int × Int × List Int × Int × Int × List Int × List Int × Int × List (List Int) × Unit) → Option α) (x0 : List Int) : Option α :=
  if ((x0.length : Int) == 0) = true then
    Rt 4 (0, [0, 0, 0, 0], [0, 0, 0, 0], (List.replicate 32 0), 0, (List.replicate 32 0), 0, 0, [], [], 0, [], ())
  else
    if 0 ≤ (0 : Int) ∧ (0 : Int) < (x0.length : Int) then
      (Go.Bx.load_kindOf_s0.run (IntKind.i64.wrap (List.getD x0 0 0))).bind fun y1 => (Sum.elim (fun y2 =>
        if (not y2.2.1) = true then
          Rt 2 (0, [0, 0, 0, 0], [0, 0, 0, 0], (List.replicate 32 0), 0, (List.replicate 32 0), 0, 0, [], [], 0, [], ())
        else
          if 0 ≤ (1 : Int) ∧ (1 : Int) ≤ (x0.length : Int) ∧ (x0.length : Int) ≤ (x0.length : Int) then
            (Go.Bx.load_transfer__get.run y2.1 (cutL x0 1 (x0.length : Int))).bind fun y6 =>
            if (y6.2.1 != 0) = true then
              Rt y6.2.1 (0, [0, 0, 0, 0], [0, 0, 0, 0], (List.replicate 32 0), 0, (List.replicate 32 0), 0, 0, [], [], 0, [], ())
            else
              if 0 ≤ (0 : Int) ∧ (0 : Int) < (x0.length : Int) then
                (Go.Bx.load_Check.run ((IntKind.i64.wrap (List.getD x0 0 0)), y6.1.2)).bind fun y7 =>
                if (y7 != 0) = true then
                  Rt 3 (0, [0, 0, 0, 0], [0, 0, 0, 0], (List.replicate 32 0), 0, (List.replicate 32 0), 0, 0, [], [], 0, [], ())
                else
                  Rt 0 ((IntKind.i64.wrap (List.getD x0 0 0)), y6.1.2)
              else none
          else none) (Sum.elim (fun y3 =>
        if (not y3.2.1) = true then
          Rt 2 (0, [0, 0, 0, 0], [0, 0, 0, 0], (List.replicate 32 0), 0, (List.replicate 32 0), 0, 0, [], [], 0, [], ())
        else
          if 0 ≤ (1 : Int) ∧ (1 : Int) ≤ (x0.length : Int) ∧ (x0.length : Int) ≤ (x0.length : Int) then
            (Go.Bx.load_meta__get.run y3.1 (cutL x0 1 (x0.length : Int))).bind fun y8 =>
            if (y8.2.1 != 0) = true then
              Rt y8.2.1 (0, [0, 0, 0, 0], [0, 0, 0, 0], (List.replicate 32 0), 0, (List.replicate 32 0), 0, 0, [], [], 0, [], ())
            else
              if 0 ≤ (0 : Int) ∧ (0 : Int) < (x0.length : Int) then
                (Go.Bx.load_Check.run ((IntKind.i64.wrap (List.getD x0 0 0)), y8.1.2)).bind fun y9 =>
                if (y9 != 0) = true then
                  Rt 3 (0, [0, 0, 0, 0], [0, 0, 0, 0], (List.replicate 32 0), 0, (List.replicate 32 0), 0, 0, [], [], 0, [], ())
                else
                  Rt 0 ((IntKind.i64.wrap (List.getD x0 0 0)), y8.1.2)
              else none
          else none) (Sum.elim (fun y4 =>
        if (not y4.2.1) = true then
          Rt 2 (0, [0, 0, 0, 0], [0, 0, 0, 0], (List.replicate 32 0), 0, (List.replicate 32 0), 0, 0, [], [], 0, [], ())
        else
          if 0 ≤ (1 : Int) ∧ (1 : Int) ≤ (x0.length : Int) ∧ (x0.length : Int) ≤ (x0.length : Int) then
            (Go.Bx.load_turn__get.run y4.1 (cutL x0 1 (x0.length : Int))).bind fun y10 =>
            if (y10.2.1 != 0) = true then
              Rt y10.2.1 (0, [0, 0, 0, 0], [0, 0, 0, 0], (List.replicate 32 0), 0, (List.replicate 32 0), 0, 0, [], [], 0, [], ())
            else
              if 0 ≤ (0 : Int) ∧ (0 : Int) < (x0.length : Int) then
                (Go.Bx.load_Check.run ((IntKind.i64.wrap (List.getD x0 0 0)), y10.1.2)).bind fun y11 =>
                if (y11 != 0) = true then
                  Rt 3 (0, [0, 0, 0, 0], [0, 0, 0, 0], (List.replicate 32 0), 0, (List.replicate 32 0), 0, 0, [], [], 0, [], ())
                else
                  Rt 0 ((IntKind.i64.wrap (List.getD x0 0 0)), y10.1.2)
              else none
          else none) (Sum.elim (fun y5 =>
        if (not y5.1) = true then
          Rt 2 (0, [0, 0, 0, 0], [0, 0, 0, 0], (List.replicate 32 0), 0, (List.replicate 32 0), 0, 0, [], [], 0, [], ())
        else
          if 0 ≤ (1 : Int) ∧ (1 : Int) ≤ (x0.length : Int) ∧ (x0.length : Int) ≤ (x0.length : Int) then
            none
          else none) (fun (e : Empty) => e.elim))))) y1
    else none
theorem top_eq {α : Type} (k : Nat) (Q : Ex → St → Option α) (x0 : List Int) :
    (den C k) (cB Try.f53) Q (St0 x0) = top (fun (x3 : Int) (c2 : Int × List Int × List Int × List Int × Int × List Int × Int × Int × List Int × List Int × Int × List (List Int) × Unit) => Q .ret (St1 x3 c2)) x0 := by
  have h : ∀ (D L : DT α), denJ D L Js C (cB Try.f53) Q (St0 x0) =
        if ((x0.length : Int) == 0) = true then
          Q .ret (St1 4 (0, [0, 0, 0, 0], [0, 0, 0, 0], (List.replicate 32 0), 0, (List.replicate 32 0), 0, 0, [], [], 0, [], ()))
        else
          if 0 ≤ (0 : Int) ∧ (0 : Int) < (x0.length : Int) then
            (Go.Bx.load_kindOf_s0.run (IntKind.i64.wrap (List.getD x0 0 0))).bind fun y1 => (Sum.elim (fun y2 =>
              if (not y2.2.1) = true then
                Q .ret (St1 2 (0, [0, 0, 0, 0], [0, 0, 0, 0], (List.replicate 32 0), 0, (List.replicate 32 0), 0, 0, [], [], 0, [], ()))
              else
                if 0 ≤ (1 : Int) ∧ (1 : Int) ≤ (x0.length : Int) ∧ (x0.length : Int) ≤ (x0.length : Int) then
                  (Go.Bx.load_transfer__get.run y2.1 (cutL x0 1 (x0.length : Int))).bind fun y6 =>
                  if (y6.2.1 != 0) = true then
                    Q .ret (St1 y6.2.1 (0, [0, 0, 0, 0], [0, 0, 0, 0], (List.replicate 32 0), 0, (List.replicate 32 0), 0, 0, [], [], 0, [], ()))
                  else
                    if 0 ≤ (0 : Int) ∧ (0 : Int) < (x0.length : Int) then
                      (Go.Bx.load_Check.run ((IntKind.i64.wrap (List.getD x0 0 0)), y6.1.2)).bind fun y7 =>
                      if (y7 != 0) = true then
                        Q .ret (St1 3 (0, [0, 0, 0, 0], [0, 0, 0, 0], (List.replicate 32 0), 0, (List.replicate 32 0), 0, 0, [], [], 0, [], ()))
                      else
                        Q .ret (St1 0 ((IntKind.i64.wrap (List.getD x0 0 0)), y6.1.2))
                    else none
                else none) (Sum.elim (fun y3 =>
              if (not y3.2.1) = true then
                Q .ret (St1 2 (0, [0, 0, 0, 0], [0, 0, 0, 0], (List.replicate 32 0), 0, (List.replicate 32 0), 0, 0, [], [], 0, [], ()))
              else
                if 0 ≤ (1 : Int) ∧ (1 : Int) ≤ (x0.length : Int) ∧ (x0.length : Int) ≤ (x0.length : Int) then
                  (Go.Bx.load_meta__get.run y3.1 (cutL x0 1 (x0.length : Int))).bind fun y8 =>
                  if (y8.2.1 != 0) = true then
                    Q .ret (St1 y8.2.1 (0, [0, 0, 0, 0], [0, 0, 0, 0], (List.replicate 32 0), 0, (List.replicate 32 0), 0, 0, [], [], 0, [], ()))
                  else
                    if 0 ≤ (0 : Int) ∧ (0 : Int) < (x0.length : Int) then
                      (Go.Bx.load_Check.run ((IntKind.i64.wrap (List.getD x0 0 0)), y8.1.2)).bind fun y9 =>
                      if (y9 != 0) = true then
                        Q .ret (St1 3 (0, [0, 0, 0, 0], [0, 0, 0, 0], (List.replicate 32 0), 0, (List.replicate 32 0), 0, 0, [], [], 0, [], ()))
                      else
                        Q .ret (St1 0 ((IntKind.i64.wrap (List.getD x0 0 0)), y8.1.2))
                    else none
                else none) (Sum.elim (fun y4 =>
              if (not y4.2.1) = true then
                Q .ret (St1 2 (0, [0, 0, 0, 0], [0, 0, 0, 0], (List.replicate 32 0), 0, (List.replicate 32 0), 0, 0, [], [], 0, [], ()))
              else
                if 0 ≤ (1 : Int) ∧ (1 : Int) ≤ (x0.length : Int) ∧ (x0.length : Int) ≤ (x0.length : Int) then
                  (Go.Bx.load_turn__get.run y4.1 (cutL x0 1 (x0.length : Int))).bind fun y10 =>
                  if (y10.2.1 != 0) = true then
                    Q .ret (St1 y10.2.1 (0, [0, 0, 0, 0], [0, 0, 0, 0], (List.replicate 32 0), 0, (List.replicate 32 0), 0, 0, [], [], 0, [], ()))
                  else
                    if 0 ≤ (0 : Int) ∧ (0 : Int) < (x0.length : Int) then
                      (Go.Bx.load_Check.run ((IntKind.i64.wrap (List.getD x0 0 0)), y10.1.2)).bind fun y11 =>
                      if (y11 != 0) = true then
                        Q .ret (St1 3 (0, [0, 0, 0, 0], [0, 0, 0, 0], (List.replicate 32 0), 0, (List.replicate 32 0), 0, 0, [], [], 0, [], ()))
                      else
                        Q .ret (St1 0 ((IntKind.i64.wrap (List.getD x0 0 0)), y10.1.2))
                    else none
                else none) (Sum.elim (fun y5 =>
              if (not y5.1) = true then
                Q .ret (St1 2 (0, [0, 0, 0, 0], [0, 0, 0, 0], (List.replicate 32 0), 0, (List.replicate 32 0), 0, 0, [], [], 0, [], ()))
              else
                if 0 ≤ (1 : Int) ∧ (1 : Int) ≤ (x0.length : Int) ∧ (x0.length : Int) ≤ (x0.length : Int) then
                  none
                else none) (fun (e : Empty) => e.elim))))) y1
          else none := by
    intro D L; kernel_rfl
  refine (show (den C k) (cB Try.f53) Q (St0 x0) = denJ (den C k) (lp C k) Js C (cB Try.f53) Q (St0 x0) from (denJ_den _ _ _ _ _ _).symm).trans ((h (den C k) (lp C k)).trans ?_)
  first | rfl | kernel_rfl
def run (x0 : List Int) : Option ((Int × List Int × List Int × List Int × Int × List Int × Int × Int × List Int × List Int × Int × List (List Int) × Unit) × Int × Unit) := top (α := (Int × List Int × List Int × List Int × Int × List Int × Int × Int × List Int × List Int × Int × List (List Int) × Unit) × Int × Unit) (fun (x3 : Int) (c2 : Int × List Int × List Int × List Int × Int × List Int × Int × Int × List Int × List Int × Int × List (List Int) × Unit) => some (c2, x3, ())) x0
def F : Fn := ⟨(.pair (.sl (.int .u8)) .unit), (.pair (.pair (.int .i64) (.pair (.arr 4 (.int .u64)) (.pair (.arr 4 (.int .u64)) (.pair (.arr 32 (.int .u8)) (.pair (.int .i64) (.pair (.arr 32 (.int .u8)) (.pair (.int .i64) (.pair (.int .i64) (.pair .str (.pair (.sl (.int .u8)) (.pair (.int .i64) (.pair (.sl (.arr 20 (.int .u8))) .unit)))))))))))) (.pair (.int .i64) .unit)), true, fun x => run x.1⟩
set_option maxRecDepth 100000 in
theorem con : Con Try.prog 53 F := by
  refine con_of_den (C := C) (ctx_ok_sh (by kernel_rfl) (by kernel_rfl) (by kernel_rfl) (by kernel_rfl) ⟨.inl ⟨Go.Bx.load_Check.con, Go.Bx.load_Check.named⟩, ⟨.inl ⟨Go.Bx.load_transfer__get.con, Go.Bx.load_transfer__get.named⟩, ⟨.inl ⟨Go.Bx.load_meta__get.con, Go.Bx.load_meta__get.named⟩, ⟨.inl ⟨Go.Bx.load_turn__get.con, Go.Bx.load_turn__get.named⟩, trivial⟩⟩⟩⟩ ⟨⟨⟨Go.Bx.load_kindOf_s0.sok, trivial⟩, Go.Bx.load_kindOf_s0.named⟩, trivial⟩) (by kernel_rfl) Try.func53 (c := cB Try.f53) (by kernel_rfl) (by kernel_rfl) F fuel (fun x => by simp [F, spread, Try.ntmps53]) ?_
  intro x r h
  rw [← h]
  have h1 : start F Try.f53.ntmps x = (St0 x.1) := by kernel_rfl
  rw [h1]
  refine (top_eq fuel (fin C Try.f53.results.toList F.rs F.multi) x.1).trans ?_
  kernel_rfl
theorem named : Named Try.prog 53 := named_of Try.func53 (by kernel_rfl) (by kernel_rfl)
end Go.Bx.load_Decode
