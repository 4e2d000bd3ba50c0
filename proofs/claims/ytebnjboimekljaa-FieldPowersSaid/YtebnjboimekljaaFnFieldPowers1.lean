/- Go functions of this seat in their own words of Lean, each tied to its code by a contract. -/
import Derived.Test.YtebnjboimekljaaGBase
import Derived.Test.YtebnjboimekljaaFnFieldPowers0
namespace Go.Bx.field_bits_s1
open Go Go.Proofs Go.Bx
set_option maxRecDepth 100000
set_option linter.unusedVariables false
def Js : List Nat := [5, 9]
def C : Ctx := ⟨[(22, (.int .u64)), (24, (.arr 4 (.int .u64)))], [], fnL [], shL [(105, [Go.Bx.field_Pow_1_s0.Sp])], [(38, 40)], noInv, [(2, []), (1, []), (4, [1, 2, 4, 5]), (7, [1, 2, 4, 5]), (10, [1, 2, 4, 5, 6]), (9, [1, 2, 4, 5]), (12, [1, 2, 4, 5]), (21, [1, 2, 4, 5, 6]), (24, [1, 2, 4, 5, 6])], [], [], 3, 0⟩
def St0 (x0 : List Int) (c0 : List Int) (c1 : List Int) (c2 : List Int) : St := stL 39 [(0, .data (.arr 4 (.int .u64)) x0), (1, .fn 105 [] [.ref 0 0 [], .ref 1 0 [], .ref 2 0 []])] [(0, .cell (.arr 4 (.int .u64)) (.data (.arr 4 (.int .u64)) c0) false), (1, .cell (.arr 4 (.int .u64)) (.data (.arr 4 (.int .u64)) c1) false), (2, .cell (.arr 4 (.int .u64)) (.data (.arr 4 (.int .u64)) c2) false)]
def St1 (x4 : Bool) (x5 : Int) (c0 : List Int) (c1 : List Int) (c2 : List Int) (c5 : List Int) : St := stL 39 [(1, .fn 105 [] [.ref 0 0 [], .ref 1 0 [], .ref 2 0 []]), (2, .ref 5 0 []), (4, .data .bool x4), (5, .data (.int .i64) x5)] [(0, .cell (.arr 4 (.int .u64)) (.data (.arr 4 (.int .u64)) c0) false), (1, .cell (.arr 4 (.int .u64)) (.data (.arr 4 (.int .u64)) c1) false), (2, .cell (.arr 4 (.int .u64)) (.data (.arr 4 (.int .u64)) c2) false), (5, .cell (.arr 4 (.int .u64)) (.data (.arr 4 (.int .u64)) c5) false)]
noncomputable def cd0 : Code := cL (cL (cR (cR (cR (cB Try.f104)))))
def St2 (x4 : Bool) (x5 : Int) (c0 : List Int) (c1 : List Int) (c2 : List Int) (c5 : List Int) : St := stL 39 [(1, .fn 105 [] [.ref 0 0 [], .ref 1 0 [], .ref 2 0 []]), (2, .ref 5 0 []), (4, .data .bool x4), (5, .data (.int .i64) x5)] [(0, .cell (.arr 4 (.int .u64)) (.data (.arr 4 (.int .u64)) c0) false), (1, .cell (.arr 4 (.int .u64)) (.data (.arr 4 (.int .u64)) c1) false), (2, .cell (.arr 4 (.int .u64)) (.data (.arr 4 (.int .u64)) c2) false), (5, .cell (.arr 4 (.int .u64)) (.data (.arr 4 (.int .u64)) c5) false)]
noncomputable def cd1 : Code := cR (cR (cL (cL (cR (cR (cR (cB Try.f104)))))))
def j0 {α : Type} (Nx : Bool → Int → (List Int) → (List Int) → (List Int) → (List Int) → Option α) (x4 : Bool) (x5 : Int) (c0 : List Int) (c1 : List Int) (c2 : List Int) (c5 : List Int) : Option α :=
  Nx x4 (IntKind.i64.wrap (x5 - 1)) c0 c1 c2 c5
theorem j0_eq {α : Type} (k : Nat) (next : St → Option α) (Q : Ex → St → Option α) (x4 : Bool) (x5 : Int) (c0 : List Int) (c1 : List Int) (c2 : List Int) (c5 : List Int) :
    (den C k) cd1 (lq C 9 next Q) (St2 x4 x5 c0 c1 c2 c5) = j0 (fun (x4 : Bool) (x5 : Int) (c0 : List Int) (c1 : List Int) (c2 : List Int) (c5 : List Int) => next (St1 x4 x5 c0 c1 c2 c5)) x4 x5 c0 c1 c2 c5 := by
  have h : ∀ (D L : DT α), denJ D L Js C cd1 (lq C 9 next Q) (St2 x4 x5 c0 c1 c2 c5) =
        next (St1 x4 (IntKind.i64.wrap (x5 - 1)) c0 c1 c2 c5) := by
    intro D L; kernel_rfl
  refine (show (den C k) cd1 (lq C 9 next Q) (St2 x4 x5 c0 c1 c2 c5) = denJ (den C k) (lp C k) Js C cd1 (lq C 9 next Q) (St2 x4 x5 c0 c1 c2 c5) from (denJ_den _ _ _ _ _ _).symm).trans ((h (den C k) (lp C k)).trans ?_)
  first | rfl | kernel_rfl
def St3 (x4 : Bool) (x5 : Int) (x6 : Int) (c0 : List Int) (c1 : List Int) (c2 : List Int) (c5 : List Int) : St := stL 39 [(1, .fn 105 [] [.ref 0 0 [], .ref 1 0 [], .ref 2 0 []]), (2, .ref 5 0 []), (4, .data .bool x4), (5, .data (.int .i64) x5), (6, .data (.int .i64) x6)] [(0, .cell (.arr 4 (.int .u64)) (.data (.arr 4 (.int .u64)) c0) false), (1, .cell (.arr 4 (.int .u64)) (.data (.arr 4 (.int .u64)) c1) false), (2, .cell (.arr 4 (.int .u64)) (.data (.arr 4 (.int .u64)) c2) false), (5, .cell (.arr 4 (.int .u64)) (.data (.arr 4 (.int .u64)) c5) false)]
noncomputable def cd2 : Code := cL (cL (cR (cR (cL (cL (cR (cL (cL (cR (cR (cR (cB Try.f104))))))))))))
def St4 (x4 : Bool) (x5 : Int) (x6 : Int) (c0 : List Int) (c1 : List Int) (c2 : List Int) (c5 : List Int) : St := stL 39 [(1, .fn 105 [] [.ref 0 0 [], .ref 1 0 [], .ref 2 0 []]), (2, .ref 5 0 []), (4, .data .bool x4), (5, .data (.int .i64) x5), (6, .data (.int .i64) x6)] [(0, .cell (.arr 4 (.int .u64)) (.data (.arr 4 (.int .u64)) c0) false), (1, .cell (.arr 4 (.int .u64)) (.data (.arr 4 (.int .u64)) c1) false), (2, .cell (.arr 4 (.int .u64)) (.data (.arr 4 (.int .u64)) c2) false), (5, .cell (.arr 4 (.int .u64)) (.data (.arr 4 (.int .u64)) c5) false)]
noncomputable def cd3 : Code := cR (cR (cL (cL (cR (cR (cL (cL (cR (cL (cL (cR (cR (cR (cB Try.f104))))))))))))))
def j1 {α : Type} (Nx : Bool → Int → Int → (List Int) → (List Int) → (List Int) → (List Int) → Option α) (x4 : Bool) (x5 : Int) (x6 : Int) (c0 : List Int) (c1 : List Int) (c2 : List Int) (c5 : List Int) : Option α :=
  Nx x4 x5 (IntKind.i64.wrap (x6 - 1)) c0 c1 c2 c5
theorem j1_eq {α : Type} (k : Nat) (next : St → Option α) (Q : Ex → St → Option α) (x4 : Bool) (x5 : Int) (x6 : Int) (c0 : List Int) (c1 : List Int) (c2 : List Int) (c5 : List Int) :
    (den C k) cd3 (lq C 21 next Q) (St4 x4 x5 x6 c0 c1 c2 c5) = j1 (fun (x4 : Bool) (x5 : Int) (x6 : Int) (c0 : List Int) (c1 : List Int) (c2 : List Int) (c5 : List Int) => next (St3 x4 x5 x6 c0 c1 c2 c5)) x4 x5 x6 c0 c1 c2 c5 := by
  have h : ∀ (D L : DT α), denJ D L Js C cd3 (lq C 21 next Q) (St4 x4 x5 x6 c0 c1 c2 c5) =
        next (St3 x4 x5 (IntKind.i64.wrap (x6 - 1)) c0 c1 c2 c5) := by
    intro D L; kernel_rfl
  refine (show (den C k) cd3 (lq C 21 next Q) (St4 x4 x5 x6 c0 c1 c2 c5) = denJ (den C k) (lp C k) Js C cd3 (lq C 21 next Q) (St4 x4 x5 x6 c0 c1 c2 c5) from (denJ_den _ _ _ _ _ _).symm).trans ((h (den C k) (lp C k)).trans ?_)
  first | rfl | kernel_rfl
def St5 (x4 : Bool) (x5 : Int) (c0 : List Int) (c1 : List Int) (c2 : List Int) (c5 : List Int) : St := stL 39 [(1, .fn 105 [] [.ref 0 0 [], .ref 1 0 [], .ref 2 0 []]), (2, .ref 5 0 []), (4, .data .bool x4), (5, .data (.int .i64) x5)] [(0, .cell (.arr 4 (.int .u64)) (.data (.arr 4 (.int .u64)) c0) false), (1, .cell (.arr 4 (.int .u64)) (.data (.arr 4 (.int .u64)) c1) false), (2, .cell (.arr 4 (.int .u64)) (.data (.arr 4 (.int .u64)) c2) false), (5, .cell (.arr 4 (.int .u64)) (.data (.arr 4 (.int .u64)) c5) false)]
def l1s {α : Type} (Nx : Bool → Int → Int → (List Int) → (List Int) → (List Int) → (List Int) → Option α) (Xt2 : Bool → Int → (List Int) → (List Int) → (List Int) → (List Int) → Option α) (x4 : Bool) (x5 : Int) (x6 : Int) (c0 : List Int) (c1 : List Int) (c2 : List Int) (c5 : List Int) : Option α :=
  if (decide (x6 ≥ 0)) = true then
    if 0 ≤ x5 ∧ x5 < (4 : Int) then
      if 0 ≤ x6 then
        if (cond x4 true ((band .u64 (shrI .u64 (List.getD c5 (Int.toNat x5) 0) x6) 1) == 1)) = true then
          (Go.Bx.field_Pow_1_s0.run ((band .u64 (shrI .u64 (List.getD c5 (Int.toNat x5) 0) x6) 1) == 1) c0 c1 c2).bind fun y1 =>
          j1 Nx (cond x4 true ((band .u64 (shrI .u64 (List.getD c5 (Int.toNat x5) 0) x6) 1) == 1)) x5 x6 y1.1 y1.2.1 y1.2.2.1 c5
        else
          j1 Nx (cond x4 true ((band .u64 (shrI .u64 (List.getD c5 (Int.toNat x5) 0) x6) 1) == 1)) x5 x6 c0 c1 c2 c5
      else none
    else none
  else
    Xt2 x4 x5 c0 c1 c2 c5
theorem l1s_eq {α : Type} (k : Nat) (next : St → Option α) (Q : Ex → St → Option α) (x4 : Bool) (x5 : Int) (x6 : Int) (c0 : List Int) (c1 : List Int) (c2 : List Int) (c5 : List Int) :
    rnd C k cd2 21 Q next (St3 x4 x5 x6 c0 c1 c2 c5) = l1s (fun (x4 : Bool) (x5 : Int) (x6 : Int) (c0 : List Int) (c1 : List Int) (c2 : List Int) (c5 : List Int) => next (St3 x4 x5 x6 c0 c1 c2 c5)) (fun (x4 : Bool) (x5 : Int) (c0 : List Int) (c1 : List Int) (c2 : List Int) (c5 : List Int) => Q (.exit 2) (St5 x4 x5 c0 c1 c2 c5)) x4 x5 x6 c0 c1 c2 c5 := by
  have h : ∀ (D L : DT α), denJ D L Js C cd2 (lq C 21 next Q) (St3 x4 x5 x6 c0 c1 c2 c5) =
        if (decide (x6 ≥ 0)) = true then
          if 0 ≤ x5 ∧ x5 < (4 : Int) then
            if 0 ≤ x6 then
              if (cond x4 true ((band .u64 (shrI .u64 (List.getD c5 (Int.toNat x5) 0) x6) 1) == 1)) = true then
                (Go.Bx.field_Pow_1_s0.run ((band .u64 (shrI .u64 (List.getD c5 (Int.toNat x5) 0) x6) 1) == 1) c0 c1 c2).bind fun y1 =>
                D cd3 (lq C 21 next Q) (St4 (cond x4 true ((band .u64 (shrI .u64 (List.getD c5 (Int.toNat x5) 0) x6) 1) == 1)) x5 x6 y1.1 y1.2.1 y1.2.2.1 c5)
              else
                D cd3 (lq C 21 next Q) (St4 (cond x4 true ((band .u64 (shrI .u64 (List.getD c5 (Int.toNat x5) 0) x6) 1) == 1)) x5 x6 c0 c1 c2 c5)
            else none
          else none
        else
          Q (.exit 2) (St5 x4 x5 c0 c1 c2 c5) := by
    intro D L; kernel_rfl
  refine (show rnd C k cd2 21 Q next (St3 x4 x5 x6 c0 c1 c2 c5) = denJ (den C k) (lp C k) Js C cd2 (lq C 21 next Q) (St3 x4 x5 x6 c0 c1 c2 c5) from (denJ_den _ _ _ _ _ _).symm).trans ((h (den C k) (lp C k)).trans ?_)
  simp only [j1_eq]
  first | rfl | kernel_rfl
def l1 {α : Type} (k : Nat) (Xt2 : Bool → Int → (List Int) → (List Int) → (List Int) → (List Int) → Option α) : Nat → Bool → Int → Int → (List Int) → (List Int) → (List Int) → (List Int) → Option α
  | 0, _, _, _, _, _, _, _ => none
  | n + 1, x4, x5, x6, c0, c1, c2, c5 => l1s (l1 k Xt2 n) Xt2 x4 x5 x6 c0 c1 c2 c5
theorem l1_eq {α : Type} (k : Nat) (Q : Ex → St → Option α) : ∀ (n : Nat) (x4 : Bool) (x5 : Int) (x6 : Int) (c0 : List Int) (c1 : List Int) (c2 : List Int) (c5 : List Int), iter (rnd C k cd2 21 Q) n (St3 x4 x5 x6 c0 c1 c2 c5) = l1 k (fun (x4 : Bool) (x5 : Int) (c0 : List Int) (c1 : List Int) (c2 : List Int) (c5 : List Int) => Q (.exit 2) (St5 x4 x5 c0 c1 c2 c5)) n x4 x5 x6 c0 c1 c2 c5
  | 0, _, _, _, _, _, _, _ => rfl
  | n + 1, x4, x5, x6, c0, c1, c2, c5 => (iter_succ _ _ _).trans ((l1s_eq k (iter (rnd C k cd2 21 Q) n) Q x4 x5 x6 c0 c1 c2 c5).trans (congrArg (fun N => l1s N (fun (x4 : Bool) (x5 : Int) (c0 : List Int) (c1 : List Int) (c2 : List Int) (c5 : List Int) => Q (.exit 2) (St5 x4 x5 c0 c1 c2 c5)) x4 x5 x6 c0 c1 c2 c5) (funext fun x4 => funext fun x5 => funext fun x6 => funext fun c0 => funext fun c1 => funext fun c2 => funext fun c5 => l1_eq k Q n x4 x5 x6 c0 c1 c2 c5)))
theorem l1_congr {α : Type} (k : Nat) (Xt2 : Bool → Int → (List Int) → (List Int) → (List Int) → (List Int) → Option α) (Xt2q : Bool → Int → (List Int) → (List Int) → (List Int) → (List Int) → Option α) (hXt2 : ∀ (x4 : Bool) (x5 : Int) (c0 : List Int) (c1 : List Int) (c2 : List Int) (c5 : List Int), Xt2 x4 x5 c0 c1 c2 c5 = Xt2q x4 x5 c0 c1 c2 c5) (n : Nat) (x4 : Bool) (x5 : Int) (x6 : Int) (c0 : List Int) (c1 : List Int) (c2 : List Int) (c5 : List Int) : l1 k Xt2 n x4 x5 x6 c0 c1 c2 c5 = l1 k Xt2q n x4 x5 x6 c0 c1 c2 c5 := by
  obtain rfl : Xt2 = Xt2q := by funext x4; funext x5; funext c0; funext c1; funext c2; funext c5; exact hXt2 x4 x5 c0 c1 c2 c5
  rfl
theorem a0 {α : Type} (k : Nat) (next : St → Option α) (Q : Ex → St → Option α) (x4 : Bool) (x5 : Int) (x6 : Int) (c0 : List Int) (c1 : List Int) (c2 : List Int) (c5 : List Int) :
    (lp C k) cd2 (blkQ C 2 (blkQ C 1 (sq (den C k) (lp C k) Js C cd1 (lq C 9 next Q)))) (St3 x4 x5 x6 c0 c1 c2 c5) = l1 k (fun (x4 : Bool) (x5 : Int) (c0 : List Int) (c1 : List Int) (c2 : List Int) (c5 : List Int) => j0 (fun (x4 : Bool) (x5 : Int) (c0 : List Int) (c1 : List Int) (c2 : List Int) (c5 : List Int) => next (St1 x4 x5 c0 c1 c2 c5)) x4 x5 c0 c1 c2 c5) k x4 x5 x6 c0 c1 c2 c5 :=
  (show (lp C k) cd2 (blkQ C 2 (blkQ C 1 (sq (den C k) (lp C k) Js C cd1 (lq C 9 next Q)))) (St3 x4 x5 x6 c0 c1 c2 c5) = iter (rnd C k cd2 21 (blkQ C 2 (blkQ C 1 (sq (den C k) (lp C k) Js C cd1 (lq C 9 next Q))))) k (St3 x4 x5 x6 c0 c1 c2 c5) by kernel_rfl).trans ((l1_eq k (blkQ C 2 (blkQ C 1 (sq (den C k) (lp C k) Js C cd1 (lq C 9 next Q)))) k x4 x5 x6 c0 c1 c2 c5).trans (l1_congr k _ _ (fun x4 x5 c0 c1 c2 c5 => ((show (blkQ C 2 (blkQ C 1 (sq (den C k) (lp C k) Js C cd1 (lq C 9 next Q)))) (.exit 2) (St5 x4 x5 c0 c1 c2 c5) = (den C k) cd1 (lq C 9 next Q) (St2 x4 x5 c0 c1 c2 c5) by kernel_rfl).trans (by simp only [j0_eq]))) k x4 x5 x6 c0 c1 c2 c5))
def St6 (c0 : List Int) (c1 : List Int) (c2 : List Int) : St := stL 39 [] [(0, .cell (.arr 4 (.int .u64)) (.data (.arr 4 (.int .u64)) c0) false), (1, .cell (.arr 4 (.int .u64)) (.data (.arr 4 (.int .u64)) c1) false), (2, .cell (.arr 4 (.int .u64)) (.data (.arr 4 (.int .u64)) c2) false)]
def l0s {α : Type} (k : Nat) (Nx : Bool → Int → (List Int) → (List Int) → (List Int) → (List Int) → Option α) (Xt0 : (List Int) → (List Int) → (List Int) → Option α) (x4 : Bool) (x5 : Int) (c0 : List Int) (c1 : List Int) (c2 : List Int) (c5 : List Int) : Option α :=
  if (decide (x5 ≥ 0)) = true then
    if 0 ≤ x5 ∧ x5 < (4 : Int) then
      if (cond ((List.getD c5 (Int.toNat x5) 0) == 0) (not x4) false) = true then
        j0 Nx x4 x5 c0 c1 c2 c5
      else
        l1 k (fun (x4 : Bool) (x5 : Int) (c0 : List Int) (c1 : List Int) (c2 : List Int) (c5 : List Int) => j0 Nx x4 x5 c0 c1 c2 c5) k x4 x5 63 c0 c1 c2 c5
    else none
  else
    Xt0 c0 c1 c2
theorem l0s_eq {α : Type} (k : Nat) (next : St → Option α) (Q : Ex → St → Option α) (x4 : Bool) (x5 : Int) (c0 : List Int) (c1 : List Int) (c2 : List Int) (c5 : List Int) :
    rnd C k cd0 9 Q next (St1 x4 x5 c0 c1 c2 c5) = l0s k (fun (x4 : Bool) (x5 : Int) (c0 : List Int) (c1 : List Int) (c2 : List Int) (c5 : List Int) => next (St1 x4 x5 c0 c1 c2 c5)) (fun (c0 : List Int) (c1 : List Int) (c2 : List Int) => Q (.exit 0) (St6 c0 c1 c2)) x4 x5 c0 c1 c2 c5 := by
  have h : ∀ (D L : DT α), denJ D L Js C cd0 (lq C 9 next Q) (St1 x4 x5 c0 c1 c2 c5) =
        if (decide (x5 ≥ 0)) = true then
          if 0 ≤ x5 ∧ x5 < (4 : Int) then
            if (cond ((List.getD c5 (Int.toNat x5) 0) == 0) (not x4) false) = true then
              D cd1 (lq C 9 next Q) (St2 x4 x5 c0 c1 c2 c5)
            else
              L cd2 (blkQ C 2 (blkQ C 1 (sq D L Js C cd1 (lq C 9 next Q)))) (St3 x4 x5 63 c0 c1 c2 c5)
          else none
        else
          Q (.exit 0) (St6 c0 c1 c2) := by
    intro D L; kernel_rfl
  refine (show rnd C k cd0 9 Q next (St1 x4 x5 c0 c1 c2 c5) = denJ (den C k) (lp C k) Js C cd0 (lq C 9 next Q) (St1 x4 x5 c0 c1 c2 c5) from (denJ_den _ _ _ _ _ _).symm).trans ((h (den C k) (lp C k)).trans ?_)
  simp only [j0_eq, a0]
  first | rfl | kernel_rfl
def l0 {α : Type} (k : Nat) (Xt0 : (List Int) → (List Int) → (List Int) → Option α) : Nat → Bool → Int → (List Int) → (List Int) → (List Int) → (List Int) → Option α
  | 0, _, _, _, _, _, _ => none
  | n + 1, x4, x5, c0, c1, c2, c5 => l0s k (l0 k Xt0 n) Xt0 x4 x5 c0 c1 c2 c5
theorem l0_eq {α : Type} (k : Nat) (Q : Ex → St → Option α) : ∀ (n : Nat) (x4 : Bool) (x5 : Int) (c0 : List Int) (c1 : List Int) (c2 : List Int) (c5 : List Int), iter (rnd C k cd0 9 Q) n (St1 x4 x5 c0 c1 c2 c5) = l0 k (fun (c0 : List Int) (c1 : List Int) (c2 : List Int) => Q (.exit 0) (St6 c0 c1 c2)) n x4 x5 c0 c1 c2 c5
  | 0, _, _, _, _, _, _ => rfl
  | n + 1, x4, x5, c0, c1, c2, c5 => (iter_succ _ _ _).trans ((l0s_eq k (iter (rnd C k cd0 9 Q) n) Q x4 x5 c0 c1 c2 c5).trans (congrArg (fun N => l0s k N (fun (c0 : List Int) (c1 : List Int) (c2 : List Int) => Q (.exit 0) (St6 c0 c1 c2)) x4 x5 c0 c1 c2 c5) (funext fun x4 => funext fun x5 => funext fun c0 => funext fun c1 => funext fun c2 => funext fun c5 => l0_eq k Q n x4 x5 c0 c1 c2 c5)))
theorem l0_congr {α : Type} (k : Nat) (Xt0 : (List Int) → (List Int) → (List Int) → Option α) (Xt0q : (List Int) → (List Int) → (List Int) → Option α) (hXt0 : ∀ (c0 : List Int) (c1 : List Int) (c2 : List Int), Xt0 c0 c1 c2 = Xt0q c0 c1 c2) (n : Nat) (x4 : Bool) (x5 : Int) (c0 : List Int) (c1 : List Int) (c2 : List Int) (c5 : List Int) : l0 k Xt0 n x4 x5 c0 c1 c2 c5 = l0 k Xt0q n x4 x5 c0 c1 c2 c5 := by
  obtain rfl : Xt0 = Xt0q := by funext c0; funext c1; funext c2; exact hXt0 c0 c1 c2
  rfl
def St7 (c0 : List Int) (c1 : List Int) (c2 : List Int) : St := stL 39 [] [(0, .cell (.arr 4 (.int .u64)) (.data (.arr 4 (.int .u64)) c0) false), (1, .cell (.arr 4 (.int .u64)) (.data (.arr 4 (.int .u64)) c1) false), (2, .cell (.arr 4 (.int .u64)) (.data (.arr 4 (.int .u64)) c2) false)]
theorem a1 {α : Type} (k : Nat) (Q : Ex → St → Option α) (x4 : Bool) (x5 : Int) (c0 : List Int) (c1 : List Int) (c2 : List Int) (c5 : List Int) :
    (lp C k) cd0 (blkQ C 0 (endQ C Q)) (St1 x4 x5 c0 c1 c2 c5) = l0 k (fun (c0 : List Int) (c1 : List Int) (c2 : List Int) => (fun (c0 : List Int) (c1 : List Int) (c2 : List Int) => Q .ret (St7 c0 c1 c2)) c0 c1 c2) k x4 x5 c0 c1 c2 c5 :=
  (show (lp C k) cd0 (blkQ C 0 (endQ C Q)) (St1 x4 x5 c0 c1 c2 c5) = iter (rnd C k cd0 9 (blkQ C 0 (endQ C Q))) k (St1 x4 x5 c0 c1 c2 c5) by kernel_rfl).trans ((l0_eq k (blkQ C 0 (endQ C Q)) k x4 x5 c0 c1 c2 c5).trans (l0_congr k _ _ (fun c0 c1 c2 => (show (blkQ C 0 (endQ C Q)) (.exit 0) (St6 c0 c1 c2) = Q .ret (St7 c0 c1 c2) by kernel_rfl)) k x4 x5 c0 c1 c2 c5))
def top {α : Type} (k : Nat) (Rt : (List Int) → (List Int) → (List Int) → Option α) (x0 : List Int) (c0 : List Int) (c1 : List Int) (c2 : List Int) : Option α :=
  l0 k (fun (c0 : List Int) (c1 : List Int) (c2 : List Int) => Rt c0 c1 c2) k false 3 c0 c1 c2 x0
theorem top_eq {α : Type} (k : Nat) (Q : Ex → St → Option α) (x0 : List Int) (c0 : List Int) (c1 : List Int) (c2 : List Int) :
    (den C k) (cB Try.f104) (endQ C Q) (St0 x0 c0 c1 c2) = top k (fun (c0 : List Int) (c1 : List Int) (c2 : List Int) => Q .ret (St7 c0 c1 c2)) x0 c0 c1 c2 := by
  have h : ∀ (D L : DT α), denJ D L Js C (cB Try.f104) (endQ C Q) (St0 x0 c0 c1 c2) =
        L cd0 (blkQ C 0 (endQ C Q)) (St1 false 3 c0 c1 c2 x0) := by
    intro D L; kernel_rfl
  refine (show (den C k) (cB Try.f104) (endQ C Q) (St0 x0 c0 c1 c2) = denJ (den C k) (lp C k) Js C (cB Try.f104) (endQ C Q) (St0 x0 c0 c1 c2) from (denJ_den _ _ _ _ _ _).symm).trans ((h (den C k) (lp C k)).trans ?_)
  simp only [a1]
  first | rfl | kernel_rfl
def run (x0 : List Int) (c0 : List Int) (c1 : List Int) (c2 : List Int) : Option (List Int × List Int × List Int × Unit) := top (α := List Int × List Int × List Int × Unit) fuel (fun (c0 : List Int) (c1 : List Int) (c2 : List Int) => some (c0, c1, c2, ())) x0 c0 c1 c2
def Sp : Spec := ⟨[hD (.arr 4 (.int .u64)), .fn 105 [] [.ref 0 0 [], .ref 1 0 [], .ref 2 0 []]], [(0, hC (.arr 4 (.int .u64)) (hD (.arr 4 (.int .u64))) false), (1, hC (.arr 4 (.int .u64)) (hD (.arr 4 (.int .u64))) false), (2, hC (.arr 4 (.int .u64)) (hD (.arr 4 (.int .u64))) false)], (.pair (.arr 4 (.int .u64)) (.pair (.arr 4 (.int .u64)) (.pair (.arr 4 (.int .u64)) (.pair (.arr 4 (.int .u64)) .unit)))), .tup [], [(0, hC (.arr 4 (.int .u64)) (hD (.arr 4 (.int .u64))) false), (1, hC (.arr 4 (.int .u64)) (hD (.arr 4 (.int .u64))) false), (2, hC (.arr 4 (.int .u64)) (hD (.arr 4 (.int .u64))) false)], (.pair (.arr 4 (.int .u64)) (.pair (.arr 4 (.int .u64)) (.pair (.arr 4 (.int .u64)) .unit))), fun x => run x.1 x.2.1 x.2.2.1 x.2.2.2.1⟩
set_option maxRecDepth 100000 in
theorem sok : SOk Try.prog 104 Sp.h := by
  refine sok_of_den (C := C) (ctx_ok_sh (by kernel_rfl) (by kernel_rfl) trivial ⟨⟨⟨Go.Bx.field_Pow_1_s0.sok, trivial⟩, Go.Bx.field_Pow_1_s0.named⟩, trivial⟩) (by kernel_rfl) Try.func104 (c := cB Try.f104) (by kernel_rfl) (by kernel_rfl) Sp fuel (by kernel_rfl) (by kernel_rfl) ?_
  intro x r h
  rw [← h]
  have h1 : Sp.start x Try.f104.ntmps = (St0 x.1 x.2.1 x.2.2.1 x.2.2.2.1) := by kernel_rfl
  rw [h1]
  refine (top_eq fuel (finS C Try.f104.results.toList Sp.read) x.1 x.2.1 x.2.2.1 x.2.2.2.1).trans ?_
  kernel_rfl
theorem named : Named Try.prog 104 := named_of Try.func104 (by kernel_rfl) (by kernel_rfl)
end Go.Bx.field_bits_s1
namespace Go.Bx.basculeref_power
open Go Go.Proofs Go.Bx
set_option maxRecDepth 100000
set_option linter.unusedVariables false
def Js : List Nat := [11, 12, 13]
def C : Ctx := ⟨[(24, (.arr 4 (.int .u64))), (97, (.sl (.int .u64)))], [], fnL [(101, Go.Bx.basculeref_product.F), (141, Go.Bx.basculeref_rest.F)], noSh, [], noInv, [(2, [6]), (1, [6, 7]), (4, [3, 5, 6, 7, 14, 15]), (7, [3, 5, 6, 7, 14, 15]), (10, [3, 5, 6, 7, 9, 10, 14, 15]), (9, [3, 5, 6, 7, 14, 15]), (18, [3, 5, 6, 7, 9, 10, 14, 15]), (30, [3, 5, 6, 7, 9, 10, 14, 15]), (33, [3, 5, 6, 7, 14, 15]), (36, [6, 7])], [], [], 0, 0⟩
def St0 (x0 : List Int) (x1 : List Int) (x2 : List Int) : St := stL 37 [(0, .data (.arr 4 (.int .u64)) x0), (1, .data (.arr 4 (.int .u64)) x1), (2, .data (.arr 4 (.int .u64)) x2)] []
def St1 (x14 : List Int) (x15 : Int) (c3 : List Int) (c5 : List Int) (c6 : List Int) (c7 : List Int) : St := stL 37 [(3, .ref 3 0 []), (5, .ref 5 0 []), (6, .ref 6 0 []), (7, .ref 7 0 []), (14, .data (.arr 4 (.int .u64)) x14), (15, .data (.int .i64) x15)] [(3, .cell (.arr 4 (.int .u64)) (.data (.arr 4 (.int .u64)) c3) false), (5, .cell (.arr 4 (.int .u64)) (.data (.arr 4 (.int .u64)) c5) false), (6, .cell (.arr 4 (.int .u64)) (.data (.arr 4 (.int .u64)) c6) false), (7, .cell (.arr 4 (.int .u64)) (.data (.arr 4 (.int .u64)) c7) false)]
noncomputable def cd0 : Code := cL (cL (cR (cL (cR (cR (cB Try.f106))))))
def St2 (x9 : Int) (x10 : Int) (x14 : List Int) (x15 : Int) (c3 : List Int) (c5 : List Int) (c6 : List Int) (c7 : List Int) : St := stL 37 [(3, .ref 3 0 []), (5, .ref 5 0 []), (6, .ref 6 0 []), (7, .ref 7 0 []), (9, .data (.int .u64) x9), (10, .data (.int .i64) x10), (14, .data (.arr 4 (.int .u64)) x14), (15, .data (.int .i64) x15)] [(3, .cell (.arr 4 (.int .u64)) (.data (.arr 4 (.int .u64)) c3) false), (5, .cell (.arr 4 (.int .u64)) (.data (.arr 4 (.int .u64)) c5) false), (6, .cell (.arr 4 (.int .u64)) (.data (.arr 4 (.int .u64)) c6) false), (7, .cell (.arr 4 (.int .u64)) (.data (.arr 4 (.int .u64)) c7) false)]
noncomputable def cd1 : Code := cL (cL (cR (cR (cL (cL (cR (cR (cL (cL (cR (cL (cR (cR (cB Try.f106))))))))))))))
def St3 (x9 : Int) (x10 : Int) (x14 : List Int) (x15 : Int) (c3 : List Int) (c5 : List Int) (c6 : List Int) (c7 : List Int) : St := stL 37 [(3, .ref 3 0 []), (5, .ref 5 0 []), (6, .ref 6 0 []), (7, .ref 7 0 []), (9, .data (.int .u64) x9), (10, .data (.int .i64) x10), (14, .data (.arr 4 (.int .u64)) x14), (15, .data (.int .i64) x15)] [(3, .cell (.arr 4 (.int .u64)) (.data (.arr 4 (.int .u64)) c3) false), (5, .cell (.arr 4 (.int .u64)) (.data (.arr 4 (.int .u64)) c5) false), (6, .cell (.arr 4 (.int .u64)) (.data (.arr 4 (.int .u64)) c6) false), (7, .cell (.arr 4 (.int .u64)) (.data (.arr 4 (.int .u64)) c7) false)]
noncomputable def cd2 : Code := cR (cR (cL (cL (cR (cR (cL (cL (cR (cR (cL (cL (cR (cL (cR (cR (cB Try.f106))))))))))))))))
noncomputable def cd3 : Code := cR (cL (cL (cR (cL (cL (cR (cR (cL (cL (cR (cR (cL (cL (cR (cL (cR (cR (cB Try.f106))))))))))))))))))
def j0 {α : Type} (Nx : Int → Int → (List Int) → Int → (List Int) → (List Int) → (List Int) → (List Int) → Option α) (x9 : Int) (x10 : Int) (x14 : List Int) (x15 : Int) (c3 : List Int) (c5 : List Int) (c6 : List Int) (c7 : List Int) : Option α :=
  (Go.Bx.basculeref_product.run c3 c3 c5).bind fun y3 =>
  Nx x9 (IntKind.i64.wrap (x10 + 1)) x14 x15 y3 c5 c6 c7
theorem j0_eq {α : Type} (k : Nat) (next : St → Option α) (Q : Ex → St → Option α) (x9 : Int) (x10 : Int) (x14 : List Int) (x15 : Int) (c3 : List Int) (c5 : List Int) (c6 : List Int) (c7 : List Int) :
    (den C k) cd3 (blkQ C 3 (sq (den C k) (lp C k) Js C cd2 (lq C 18 next Q))) (St3 x9 x10 x14 x15 c3 c5 c6 c7) = j0 (fun (x9 : Int) (x10 : Int) (x14 : List Int) (x15 : Int) (c3 : List Int) (c5 : List Int) (c6 : List Int) (c7 : List Int) => next (St2 x9 x10 x14 x15 c3 c5 c6 c7)) x9 x10 x14 x15 c3 c5 c6 c7 := by
  have h : ∀ (D L : DT α), denJ D L Js C cd3 (blkQ C 3 (sq D L Js C cd2 (lq C 18 next Q))) (St3 x9 x10 x14 x15 c3 c5 c6 c7) =
        (Go.Bx.basculeref_product.run c3 c3 c5).bind fun y3 =>
        next (St2 x9 (IntKind.i64.wrap (x10 + 1)) x14 x15 y3 c5 c6 c7) := by
    intro D L; kernel_rfl
  refine (show (den C k) cd3 (blkQ C 3 (sq (den C k) (lp C k) Js C cd2 (lq C 18 next Q))) (St3 x9 x10 x14 x15 c3 c5 c6 c7) = denJ (den C k) (lp C k) Js C cd3 (blkQ C 3 (sq (den C k) (lp C k) Js C cd2 (lq C 18 next Q))) (St3 x9 x10 x14 x15 c3 c5 c6 c7) from (denJ_den _ _ _ _ _ _).symm).trans ((h (den C k) (lp C k)).trans ?_)
  first | rfl | kernel_rfl
def St4 (x14 : List Int) (x15 : Int) (c3 : List Int) (c5 : List Int) (c6 : List Int) (c7 : List Int) : St := stL 37 [(3, .ref 3 0 []), (5, .ref 5 0 []), (6, .ref 6 0 []), (7, .ref 7 0 []), (14, .data (.arr 4 (.int .u64)) x14), (15, .data (.int .i64) x15)] [(3, .cell (.arr 4 (.int .u64)) (.data (.arr 4 (.int .u64)) c3) false), (5, .cell (.arr 4 (.int .u64)) (.data (.arr 4 (.int .u64)) c5) false), (6, .cell (.arr 4 (.int .u64)) (.data (.arr 4 (.int .u64)) c6) false), (7, .cell (.arr 4 (.int .u64)) (.data (.arr 4 (.int .u64)) c7) false)]
def l1s {α : Type} (Nx : Int → Int → (List Int) → Int → (List Int) → (List Int) → (List Int) → (List Int) → Option α) (Xt2 : (List Int) → Int → (List Int) → (List Int) → (List Int) → (List Int) → Option α) (x9 : Int) (x10 : Int) (x14 : List Int) (x15 : Int) (c3 : List Int) (c5 : List Int) (c6 : List Int) (c7 : List Int) : Option α :=
  if (decide (x10 < 64)) = true then
    if 0 ≤ x10 then
      if ((band .u64 (shrI .u64 x9 x10) 1) == 1) = true then
        (Go.Bx.basculeref_product.run c7 c3 c5).bind fun y2 =>
        j0 Nx x9 x10 x14 x15 c3 c5 c6 y2
      else
        j0 Nx x9 x10 x14 x15 c3 c5 c6 c7
    else none
  else
    Xt2 x14 x15 c3 c5 c6 c7
theorem l1s_eq {α : Type} (k : Nat) (next : St → Option α) (Q : Ex → St → Option α) (x9 : Int) (x10 : Int) (x14 : List Int) (x15 : Int) (c3 : List Int) (c5 : List Int) (c6 : List Int) (c7 : List Int) :
    rnd C k cd1 18 Q next (St2 x9 x10 x14 x15 c3 c5 c6 c7) = l1s (fun (x9 : Int) (x10 : Int) (x14 : List Int) (x15 : Int) (c3 : List Int) (c5 : List Int) (c6 : List Int) (c7 : List Int) => next (St2 x9 x10 x14 x15 c3 c5 c6 c7)) (fun (x14 : List Int) (x15 : Int) (c3 : List Int) (c5 : List Int) (c6 : List Int) (c7 : List Int) => Q (.exit 2) (St4 x14 x15 c3 c5 c6 c7)) x9 x10 x14 x15 c3 c5 c6 c7 := by
  have h : ∀ (D L : DT α), denJ D L Js C cd1 (lq C 18 next Q) (St2 x9 x10 x14 x15 c3 c5 c6 c7) =
        if (decide (x10 < 64)) = true then
          if 0 ≤ x10 then
            if ((band .u64 (shrI .u64 x9 x10) 1) == 1) = true then
              (Go.Bx.basculeref_product.run c7 c3 c5).bind fun y2 =>
              D cd3 (blkQ C 3 (sq D L Js C cd2 (lq C 18 next Q))) (St3 x9 x10 x14 x15 c3 c5 c6 y2)
            else
              D cd3 (blkQ C 3 (sq D L Js C cd2 (lq C 18 next Q))) (St3 x9 x10 x14 x15 c3 c5 c6 c7)
          else none
        else
          Q (.exit 2) (St4 x14 x15 c3 c5 c6 c7) := by
    intro D L; kernel_rfl
  refine (show rnd C k cd1 18 Q next (St2 x9 x10 x14 x15 c3 c5 c6 c7) = denJ (den C k) (lp C k) Js C cd1 (lq C 18 next Q) (St2 x9 x10 x14 x15 c3 c5 c6 c7) from (denJ_den _ _ _ _ _ _).symm).trans ((h (den C k) (lp C k)).trans ?_)
  simp only [j0_eq]
  first | rfl | kernel_rfl
def l1 {α : Type} (k : Nat) (Xt2 : (List Int) → Int → (List Int) → (List Int) → (List Int) → (List Int) → Option α) : Nat → Int → Int → (List Int) → Int → (List Int) → (List Int) → (List Int) → (List Int) → Option α
  | 0, _, _, _, _, _, _, _, _ => none
  | n + 1, x9, x10, x14, x15, c3, c5, c6, c7 => l1s (l1 k Xt2 n) Xt2 x9 x10 x14 x15 c3 c5 c6 c7
theorem l1_eq {α : Type} (k : Nat) (Q : Ex → St → Option α) : ∀ (n : Nat) (x9 : Int) (x10 : Int) (x14 : List Int) (x15 : Int) (c3 : List Int) (c5 : List Int) (c6 : List Int) (c7 : List Int), iter (rnd C k cd1 18 Q) n (St2 x9 x10 x14 x15 c3 c5 c6 c7) = l1 k (fun (x14 : List Int) (x15 : Int) (c3 : List Int) (c5 : List Int) (c6 : List Int) (c7 : List Int) => Q (.exit 2) (St4 x14 x15 c3 c5 c6 c7)) n x9 x10 x14 x15 c3 c5 c6 c7
  | 0, _, _, _, _, _, _, _, _ => rfl
  | n + 1, x9, x10, x14, x15, c3, c5, c6, c7 => (iter_succ _ _ _).trans ((l1s_eq k (iter (rnd C k cd1 18 Q) n) Q x9 x10 x14 x15 c3 c5 c6 c7).trans (congrArg (fun N => l1s N (fun (x14 : List Int) (x15 : Int) (c3 : List Int) (c5 : List Int) (c6 : List Int) (c7 : List Int) => Q (.exit 2) (St4 x14 x15 c3 c5 c6 c7)) x9 x10 x14 x15 c3 c5 c6 c7) (funext fun x9 => funext fun x10 => funext fun x14 => funext fun x15 => funext fun c3 => funext fun c5 => funext fun c6 => funext fun c7 => l1_eq k Q n x9 x10 x14 x15 c3 c5 c6 c7)))
theorem l1_congr {α : Type} (k : Nat) (Xt2 : (List Int) → Int → (List Int) → (List Int) → (List Int) → (List Int) → Option α) (Xt2q : (List Int) → Int → (List Int) → (List Int) → (List Int) → (List Int) → Option α) (hXt2 : ∀ (x14 : List Int) (x15 : Int) (c3 : List Int) (c5 : List Int) (c6 : List Int) (c7 : List Int), Xt2 x14 x15 c3 c5 c6 c7 = Xt2q x14 x15 c3 c5 c6 c7) (n : Nat) (x9 : Int) (x10 : Int) (x14 : List Int) (x15 : Int) (c3 : List Int) (c5 : List Int) (c6 : List Int) (c7 : List Int) : l1 k Xt2 n x9 x10 x14 x15 c3 c5 c6 c7 = l1 k Xt2q n x9 x10 x14 x15 c3 c5 c6 c7 := by
  obtain rfl : Xt2 = Xt2q := by funext x14; funext x15; funext c3; funext c5; funext c6; funext c7; exact hXt2 x14 x15 c3 c5 c6 c7
  rfl
noncomputable def cd4 : Code := cR (cR (cR (cL (cL (cR (cL (cR (cR (cB Try.f106)))))))))
def St5 (x14 : List Int) (x15 : Int) (c3 : List Int) (c5 : List Int) (c6 : List Int) (c7 : List Int) : St := stL 37 [(3, .ref 3 0 []), (5, .ref 5 0 []), (6, .ref 6 0 []), (7, .ref 7 0 []), (14, .data (.arr 4 (.int .u64)) x14), (15, .data (.int .i64) x15)] [(3, .cell (.arr 4 (.int .u64)) (.data (.arr 4 (.int .u64)) c3) false), (5, .cell (.arr 4 (.int .u64)) (.data (.arr 4 (.int .u64)) c5) false), (6, .cell (.arr 4 (.int .u64)) (.data (.arr 4 (.int .u64)) c6) false), (7, .cell (.arr 4 (.int .u64)) (.data (.arr 4 (.int .u64)) c7) false)]
def j1 {α : Type} (Nx : (List Int) → Int → (List Int) → (List Int) → (List Int) → (List Int) → Option α) (x14 : List Int) (x15 : Int) (c3 : List Int) (c5 : List Int) (c6 : List Int) (c7 : List Int) : Option α :=
  Nx x14 (IntKind.i64.wrap (x15 + 1)) c3 c5 c6 c7
theorem j1_eq {α : Type} (k : Nat) (next : St → Option α) (Q : Ex → St → Option α) (x14 : List Int) (x15 : Int) (c3 : List Int) (c5 : List Int) (c6 : List Int) (c7 : List Int) :
    (den C k) cd4 (lq C 9 next Q) (St5 x14 x15 c3 c5 c6 c7) = j1 (fun (x14 : List Int) (x15 : Int) (c3 : List Int) (c5 : List Int) (c6 : List Int) (c7 : List Int) => next (St1 x14 x15 c3 c5 c6 c7)) x14 x15 c3 c5 c6 c7 := by
  have h : ∀ (D L : DT α), denJ D L Js C cd4 (lq C 9 next Q) (St5 x14 x15 c3 c5 c6 c7) =
        next (St1 x14 (IntKind.i64.wrap (x15 + 1)) c3 c5 c6 c7) := by
    intro D L; kernel_rfl
  refine (show (den C k) cd4 (lq C 9 next Q) (St5 x14 x15 c3 c5 c6 c7) = denJ (den C k) (lp C k) Js C cd4 (lq C 9 next Q) (St5 x14 x15 c3 c5 c6 c7) from (denJ_den _ _ _ _ _ _).symm).trans ((h (den C k) (lp C k)).trans ?_)
  first | rfl | kernel_rfl
theorem a0 {α : Type} (k : Nat) (next : St → Option α) (Q : Ex → St → Option α) (x9 : Int) (x10 : Int) (x14 : List Int) (x15 : Int) (c3 : List Int) (c5 : List Int) (c6 : List Int) (c7 : List Int) :
    (lp C k) cd1 (blkQ C 2 (blkQ C 1 (sq (den C k) (lp C k) Js C cd4 (lq C 9 next Q)))) (St2 x9 x10 x14 x15 c3 c5 c6 c7) = l1 k (fun (x14 : List Int) (x15 : Int) (c3 : List Int) (c5 : List Int) (c6 : List Int) (c7 : List Int) => j1 (fun (x14 : List Int) (x15 : Int) (c3 : List Int) (c5 : List Int) (c6 : List Int) (c7 : List Int) => next (St1 x14 x15 c3 c5 c6 c7)) x14 x15 c3 c5 c6 c7) k x9 x10 x14 x15 c3 c5 c6 c7 :=
  (show (lp C k) cd1 (blkQ C 2 (blkQ C 1 (sq (den C k) (lp C k) Js C cd4 (lq C 9 next Q)))) (St2 x9 x10 x14 x15 c3 c5 c6 c7) = iter (rnd C k cd1 18 (blkQ C 2 (blkQ C 1 (sq (den C k) (lp C k) Js C cd4 (lq C 9 next Q))))) k (St2 x9 x10 x14 x15 c3 c5 c6 c7) by kernel_rfl).trans ((l1_eq k (blkQ C 2 (blkQ C 1 (sq (den C k) (lp C k) Js C cd4 (lq C 9 next Q)))) k x9 x10 x14 x15 c3 c5 c6 c7).trans (l1_congr k _ _ (fun x14 x15 c3 c5 c6 c7 => ((show (blkQ C 2 (blkQ C 1 (sq (den C k) (lp C k) Js C cd4 (lq C 9 next Q)))) (.exit 2) (St4 x14 x15 c3 c5 c6 c7) = (den C k) cd4 (lq C 9 next Q) (St5 x14 x15 c3 c5 c6 c7) by kernel_rfl).trans (by simp only [j1_eq]))) k x9 x10 x14 x15 c3 c5 c6 c7))
def St6 (c6 : List Int) (c7 : List Int) : St := stL 37 [(6, .ref 6 0 []), (7, .ref 7 0 [])] [(6, .cell (.arr 4 (.int .u64)) (.data (.arr 4 (.int .u64)) c6) false), (7, .cell (.arr 4 (.int .u64)) (.data (.arr 4 (.int .u64)) c7) false)]
def l0s {α : Type} (k : Nat) (Nx : (List Int) → Int → (List Int) → (List Int) → (List Int) → (List Int) → Option α) (Xt0 : (List Int) → (List Int) → Option α) (x14 : List Int) (x15 : Int) (c3 : List Int) (c5 : List Int) (c6 : List Int) (c7 : List Int) : Option α :=
  if (decide (x15 < 4)) = true then
    if 0 ≤ x15 ∧ x15 < (4 : Int) then
      l1 k (fun (x14 : List Int) (x15 : Int) (c3 : List Int) (c5 : List Int) (c6 : List Int) (c7 : List Int) => j1 Nx x14 x15 c3 c5 c6 c7) k (List.getD x14 (Int.toNat x15) 0) 0 x14 x15 c3 c5 c6 c7
    else none
  else
    Xt0 c6 c7
theorem l0s_eq {α : Type} (k : Nat) (next : St → Option α) (Q : Ex → St → Option α) (x14 : List Int) (x15 : Int) (c3 : List Int) (c5 : List Int) (c6 : List Int) (c7 : List Int) :
    rnd C k cd0 9 Q next (St1 x14 x15 c3 c5 c6 c7) = l0s k (fun (x14 : List Int) (x15 : Int) (c3 : List Int) (c5 : List Int) (c6 : List Int) (c7 : List Int) => next (St1 x14 x15 c3 c5 c6 c7)) (fun (c6 : List Int) (c7 : List Int) => Q (.exit 0) (St6 c6 c7)) x14 x15 c3 c5 c6 c7 := by
  have h : ∀ (D L : DT α), denJ D L Js C cd0 (lq C 9 next Q) (St1 x14 x15 c3 c5 c6 c7) =
        if (decide (x15 < 4)) = true then
          if 0 ≤ x15 ∧ x15 < (4 : Int) then
            L cd1 (blkQ C 2 (blkQ C 1 (sq D L Js C cd4 (lq C 9 next Q)))) (St2 (List.getD x14 (Int.toNat x15) 0) 0 x14 x15 c3 c5 c6 c7)
          else none
        else
          Q (.exit 0) (St6 c6 c7) := by
    intro D L; kernel_rfl
  refine (show rnd C k cd0 9 Q next (St1 x14 x15 c3 c5 c6 c7) = denJ (den C k) (lp C k) Js C cd0 (lq C 9 next Q) (St1 x14 x15 c3 c5 c6 c7) from (denJ_den _ _ _ _ _ _).symm).trans ((h (den C k) (lp C k)).trans ?_)
  simp only [a0]
  first | rfl | kernel_rfl
def l0 {α : Type} (k : Nat) (Xt0 : (List Int) → (List Int) → Option α) : Nat → (List Int) → Int → (List Int) → (List Int) → (List Int) → (List Int) → Option α
  | 0, _, _, _, _, _, _ => none
  | n + 1, x14, x15, c3, c5, c6, c7 => l0s k (l0 k Xt0 n) Xt0 x14 x15 c3 c5 c6 c7
theorem l0_eq {α : Type} (k : Nat) (Q : Ex → St → Option α) : ∀ (n : Nat) (x14 : List Int) (x15 : Int) (c3 : List Int) (c5 : List Int) (c6 : List Int) (c7 : List Int), iter (rnd C k cd0 9 Q) n (St1 x14 x15 c3 c5 c6 c7) = l0 k (fun (c6 : List Int) (c7 : List Int) => Q (.exit 0) (St6 c6 c7)) n x14 x15 c3 c5 c6 c7
  | 0, _, _, _, _, _, _ => rfl
  | n + 1, x14, x15, c3, c5, c6, c7 => (iter_succ _ _ _).trans ((l0s_eq k (iter (rnd C k cd0 9 Q) n) Q x14 x15 c3 c5 c6 c7).trans (congrArg (fun N => l0s k N (fun (c6 : List Int) (c7 : List Int) => Q (.exit 0) (St6 c6 c7)) x14 x15 c3 c5 c6 c7) (funext fun x14 => funext fun x15 => funext fun c3 => funext fun c5 => funext fun c6 => funext fun c7 => l0_eq k Q n x14 x15 c3 c5 c6 c7)))
theorem l0_congr {α : Type} (k : Nat) (Xt0 : (List Int) → (List Int) → Option α) (Xt0q : (List Int) → (List Int) → Option α) (hXt0 : ∀ (c6 : List Int) (c7 : List Int), Xt0 c6 c7 = Xt0q c6 c7) (n : Nat) (x14 : List Int) (x15 : Int) (c3 : List Int) (c5 : List Int) (c6 : List Int) (c7 : List Int) : l0 k Xt0 n x14 x15 c3 c5 c6 c7 = l0 k Xt0q n x14 x15 c3 c5 c6 c7 := by
  obtain rfl : Xt0 = Xt0q := by funext c6; funext c7; exact hXt0 c6 c7
  rfl
noncomputable def cd5 : Code := cR (cR (cR (cB Try.f106)))
def St7 (c6 : List Int) (c7 : List Int) : St := stL 37 [(6, .ref 6 0 []), (7, .ref 7 0 [])] [(6, .cell (.arr 4 (.int .u64)) (.data (.arr 4 (.int .u64)) c6) false), (7, .cell (.arr 4 (.int .u64)) (.data (.arr 4 (.int .u64)) c7) false)]
def St8 (c6 : List Int) : St := stL 37 [(6, .ref 6 0 [])] [(6, .cell (.arr 4 (.int .u64)) (.data (.arr 4 (.int .u64)) c6) false)]
def j2 {α : Type} (Rt : (List Int) → Option α) (c6 : List Int) (c7 : List Int) : Option α :=
  Rt c7
theorem j2_eq {α : Type} (k : Nat) (Q : Ex → St → Option α) (c6 : List Int) (c7 : List Int) :
    (den C k) cd5 Q (St7 c6 c7) = j2 (fun (c6 : List Int) => Q .ret (St8 c6)) c6 c7 := by
  have h : ∀ (D L : DT α), denJ D L Js C cd5 Q (St7 c6 c7) =
        Q .ret (St8 c7) := by
    intro D L; kernel_rfl
  refine (show (den C k) cd5 Q (St7 c6 c7) = denJ (den C k) (lp C k) Js C cd5 Q (St7 c6 c7) from (denJ_den _ _ _ _ _ _).symm).trans ((h (den C k) (lp C k)).trans ?_)
  first | rfl | kernel_rfl
theorem a1 {α : Type} (k : Nat) (Q : Ex → St → Option α) (x14 : List Int) (x15 : Int) (c3 : List Int) (c5 : List Int) (c6 : List Int) (c7 : List Int) :
    (lp C k) cd0 (blkQ C 0 (sq (den C k) (lp C k) Js C cd5 Q)) (St1 x14 x15 c3 c5 c6 c7) = l0 k (fun (c6 : List Int) (c7 : List Int) => j2 (fun (c6 : List Int) => Q .ret (St8 c6)) c6 c7) k x14 x15 c3 c5 c6 c7 :=
  (show (lp C k) cd0 (blkQ C 0 (sq (den C k) (lp C k) Js C cd5 Q)) (St1 x14 x15 c3 c5 c6 c7) = iter (rnd C k cd0 9 (blkQ C 0 (sq (den C k) (lp C k) Js C cd5 Q))) k (St1 x14 x15 c3 c5 c6 c7) by kernel_rfl).trans ((l0_eq k (blkQ C 0 (sq (den C k) (lp C k) Js C cd5 Q)) k x14 x15 c3 c5 c6 c7).trans (l0_congr k _ _ (fun c6 c7 => ((show (blkQ C 0 (sq (den C k) (lp C k) Js C cd5 Q)) (.exit 0) (St6 c6 c7) = (den C k) cd5 Q (St7 c6 c7) by kernel_rfl).trans (by simp only [j2_eq]))) k x14 x15 c3 c5 c6 c7))
def top {α : Type} (k : Nat) (Rt : (List Int) → Option α) (x0 : List Int) (x1 : List Int) (x2 : List Int) : Option α :=
  (Go.Bx.basculeref_rest.run [1] x2).bind fun y1 =>
  l0 k (fun (c6 : List Int) (c7 : List Int) => j2 Rt c6 c7) k x1 0 x0 x2 [0, 0, 0, 0] y1
theorem top_eq {α : Type} (k : Nat) (Q : Ex → St → Option α) (x0 : List Int) (x1 : List Int) (x2 : List Int) :
    (den C k) (cB Try.f106) Q (St0 x0 x1 x2) = top k (fun (c6 : List Int) => Q .ret (St8 c6)) x0 x1 x2 := by
  have h : ∀ (D L : DT α), denJ D L Js C (cB Try.f106) Q (St0 x0 x1 x2) =
        (Go.Bx.basculeref_rest.run [1] x2).bind fun y1 =>
        L cd0 (blkQ C 0 (sq D L Js C cd5 Q)) (St1 x1 0 x0 x2 [0, 0, 0, 0] y1) := by
    intro D L; kernel_rfl
  refine (show (den C k) (cB Try.f106) Q (St0 x0 x1 x2) = denJ (den C k) (lp C k) Js C (cB Try.f106) Q (St0 x0 x1 x2) from (denJ_den _ _ _ _ _ _).symm).trans ((h (den C k) (lp C k)).trans ?_)
  simp only [a1]
  first | rfl | kernel_rfl
def run (x0 : List Int) (x1 : List Int) (x2 : List Int) : Option (List Int) := top (α := List Int) fuel (fun (c6 : List Int) => some c6) x0 x1 x2
def F : Fn := ⟨(.pair (.arr 4 (.int .u64)) (.pair (.arr 4 (.int .u64)) (.pair (.arr 4 (.int .u64)) .unit))), (.arr 4 (.int .u64)), false, fun x => run x.1 x.2.1 x.2.2.1⟩
set_option maxRecDepth 100000 in
theorem con : Con Try.prog 106 F := by
  refine con_of_den (C := C) (ctx_ok (by kernel_rfl) (by kernel_rfl) ⟨.inl ⟨Go.Bx.basculeref_product.con, Go.Bx.basculeref_product.named⟩, ⟨.inl ⟨Go.Bx.basculeref_rest.con, Go.Bx.basculeref_rest.named⟩, trivial⟩⟩) (by kernel_rfl) Try.func106 (c := cB Try.f106) (by kernel_rfl) (by kernel_rfl) F fuel (fun x => by simp [F, spread, Try.ntmps106]) ?_
  intro x r h
  rw [← h]
  have h1 : start F Try.f106.ntmps x = (St0 x.1 x.2.1 x.2.2.1) := by kernel_rfl
  rw [h1]
  refine (top_eq fuel (fin C Try.f106.results.toList F.rs F.multi) x.1 x.2.1 x.2.2.1).trans ?_
  kernel_rfl
theorem named : Named Try.prog 106 := named_of Try.func106 (by kernel_rfl) (by kernel_rfl)
end Go.Bx.basculeref_power
namespace Go.Bx.field_Pow
open Go Go.Proofs Go.Bx
set_option maxRecDepth 100000
set_option linter.unusedVariables false
def Js : List Nat := []
def C : Ctx := ⟨[(24, (.arr 4 (.int .u64))), (25, (.int .i64)), (154, (.sl (.arr 4 (.int .u64))))], [], fnL [(29, Go.Bx.wide_DivMod.F), (103, Go.Bx.field_fault.F)], shL [(104, [Go.Bx.field_bits_s1.Sp])], [(29, 32)], noInv, [(2, [6, 7])], [], [], 0, 0⟩
def St0 (x0 : List Int) (x1 : List Int) (x2 : List Int) : St := stL 31 [(0, .data (.arr 4 (.int .u64)) x0), (1, .data (.arr 4 (.int .u64)) x1), (2, .data (.arr 4 (.int .u64)) x2)] []
def St1 (x7 : Int) (c6 : List Int) : St := stL 31 [(6, .ref 6 0 []), (7, .data (.int .i64) x7)] [(6, .cell (.arr 4 (.int .u64)) (.data (.arr 4 (.int .u64)) c6) false)]
def top {α : Type} (Rt : Int → (List Int) → Option α) (x0 : List Int) (x1 : List Int) (x2 : List Int) : Option α :=
  (Go.Bx.field_fault.run x2 [x0]).bind fun y1 =>
  if (y1 != 0) = true then
    Rt y1 [0, 0, 0, 0]
  else
    (Go.Bx.wide_DivMod.run [1, 0, 0, 0] x2).bind fun y2 =>
    (Go.Bx.field_bits_s1.run x1 y2.2.1 x2 x0).bind fun y3 =>
    Rt 0 y3.1
theorem top_eq {α : Type} (k : Nat) (Q : Ex → St → Option α) (x0 : List Int) (x1 : List Int) (x2 : List Int) :
    (den C k) (cB Try.f48) Q (St0 x0 x1 x2) = top (fun (x7 : Int) (c6 : List Int) => Q .ret (St1 x7 c6)) x0 x1 x2 := by
  have h : ∀ (D L : DT α), denJ D L Js C (cB Try.f48) Q (St0 x0 x1 x2) =
        (Go.Bx.field_fault.run x2 [x0]).bind fun y1 =>
        if (y1 != 0) = true then
          Q .ret (St1 y1 [0, 0, 0, 0])
        else
          (Go.Bx.wide_DivMod.run [1, 0, 0, 0] x2).bind fun y2 =>
          (Go.Bx.field_bits_s1.run x1 y2.2.1 x2 x0).bind fun y3 =>
          Q .ret (St1 0 y3.1) := by
    intro D L; kernel_rfl
  refine (show (den C k) (cB Try.f48) Q (St0 x0 x1 x2) = denJ (den C k) (lp C k) Js C (cB Try.f48) Q (St0 x0 x1 x2) from (denJ_den _ _ _ _ _ _).symm).trans ((h (den C k) (lp C k)).trans ?_)
  first | rfl | kernel_rfl
def run (x0 : List Int) (x1 : List Int) (x2 : List Int) : Option (List Int × Int × Unit) := top (α := List Int × Int × Unit) (fun (x7 : Int) (c6 : List Int) => some (c6, x7, ())) x0 x1 x2
def F : Fn := ⟨(.pair (.arr 4 (.int .u64)) (.pair (.arr 4 (.int .u64)) (.pair (.arr 4 (.int .u64)) .unit))), (.pair (.arr 4 (.int .u64)) (.pair (.int .i64) .unit)), true, fun x => run x.1 x.2.1 x.2.2.1⟩
set_option maxRecDepth 100000 in
theorem con : Con Try.prog 48 F := by
  refine con_of_den (C := C) (ctx_ok_sh (by kernel_rfl) (by kernel_rfl) ⟨.inl ⟨Go.Bx.wide_DivMod.con, Go.Bx.wide_DivMod.named⟩, ⟨.inl ⟨Go.Bx.field_fault.con, Go.Bx.field_fault.named⟩, trivial⟩⟩ ⟨⟨⟨Go.Bx.field_bits_s1.sok, trivial⟩, Go.Bx.field_bits_s1.named⟩, trivial⟩) (by kernel_rfl) Try.func48 (c := cB Try.f48) (by kernel_rfl) (by kernel_rfl) F fuel (fun x => by simp [F, spread, Try.ntmps48]) ?_
  intro x r h
  rw [← h]
  have h1 : start F Try.f48.ntmps x = (St0 x.1 x.2.1 x.2.2.1) := by kernel_rfl
  rw [h1]
  refine (top_eq fuel (fin C Try.f48.results.toList F.rs F.multi) x.1 x.2.1 x.2.2.1).trans ?_
  kernel_rfl
theorem named : Named Try.prog 48 := named_of Try.func48 (by kernel_rfl) (by kernel_rfl)
end Go.Bx.field_Pow
namespace Go.Bx.basculeref_Power
open Go Go.Proofs Go.Bx
set_option maxRecDepth 100000
set_option linter.unusedVariables false
def Js : List Nat := []
def C : Ctx := ⟨[(24, (.arr 4 (.int .u64))), (25, (.int .i64)), (154, (.sl (.arr 4 (.int .u64))))], [], fnL [(98, Go.Bx.basculeref_modulus.F), (106, Go.Bx.basculeref_power.F)], noSh, [], noInv, [(2, [6, 7])], [], [], 0, 0⟩
def St0 (x0 : List Int) (x1 : List Int) (x2 : List Int) : St := stL 21 [(0, .data (.arr 4 (.int .u64)) x0), (1, .data (.arr 4 (.int .u64)) x1), (2, .data (.arr 4 (.int .u64)) x2)] []
def St1 (x7 : Int) (c6 : List Int) : St := stL 21 [(6, .ref 6 0 []), (7, .data (.int .i64) x7)] [(6, .cell (.arr 4 (.int .u64)) (.data (.arr 4 (.int .u64)) c6) false)]
def top {α : Type} (Rt : Int → (List Int) → Option α) (x0 : List Int) (x1 : List Int) (x2 : List Int) : Option α :=
  (Go.Bx.basculeref_modulus.run x2 [x0]).bind fun y1 =>
  if (y1 != 0) = true then
    Rt y1 [0, 0, 0, 0]
  else
    (Go.Bx.basculeref_power.run x0 x1 x2).bind fun y2 =>
    Rt 0 y2
theorem top_eq {α : Type} (k : Nat) (Q : Ex → St → Option α) (x0 : List Int) (x1 : List Int) (x2 : List Int) :
    (den C k) (cB Try.f49) Q (St0 x0 x1 x2) = top (fun (x7 : Int) (c6 : List Int) => Q .ret (St1 x7 c6)) x0 x1 x2 := by
  have h : ∀ (D L : DT α), denJ D L Js C (cB Try.f49) Q (St0 x0 x1 x2) =
        (Go.Bx.basculeref_modulus.run x2 [x0]).bind fun y1 =>
        if (y1 != 0) = true then
          Q .ret (St1 y1 [0, 0, 0, 0])
        else
          (Go.Bx.basculeref_power.run x0 x1 x2).bind fun y2 =>
          Q .ret (St1 0 y2) := by
    intro D L; kernel_rfl
  refine (show (den C k) (cB Try.f49) Q (St0 x0 x1 x2) = denJ (den C k) (lp C k) Js C (cB Try.f49) Q (St0 x0 x1 x2) from (denJ_den _ _ _ _ _ _).symm).trans ((h (den C k) (lp C k)).trans ?_)
  first | rfl | kernel_rfl
def run (x0 : List Int) (x1 : List Int) (x2 : List Int) : Option (List Int × Int × Unit) := top (α := List Int × Int × Unit) (fun (x7 : Int) (c6 : List Int) => some (c6, x7, ())) x0 x1 x2
def F : Fn := ⟨(.pair (.arr 4 (.int .u64)) (.pair (.arr 4 (.int .u64)) (.pair (.arr 4 (.int .u64)) .unit))), (.pair (.arr 4 (.int .u64)) (.pair (.int .i64) .unit)), true, fun x => run x.1 x.2.1 x.2.2.1⟩
set_option maxRecDepth 100000 in
theorem con : Con Try.prog 49 F := by
  refine con_of_den (C := C) (ctx_ok (by kernel_rfl) (by kernel_rfl) ⟨.inl ⟨Go.Bx.basculeref_modulus.con, Go.Bx.basculeref_modulus.named⟩, ⟨.inl ⟨Go.Bx.basculeref_power.con, Go.Bx.basculeref_power.named⟩, trivial⟩⟩) (by kernel_rfl) Try.func49 (c := cB Try.f49) (by kernel_rfl) (by kernel_rfl) F fuel (fun x => by simp [F, spread, Try.ntmps49]) ?_
  intro x r h
  rw [← h]
  have h1 : start F Try.f49.ntmps x = (St0 x.1 x.2.1 x.2.2.1) := by kernel_rfl
  rw [h1]
  refine (top_eq fuel (fin C Try.f49.results.toList F.rs F.multi) x.1 x.2.1 x.2.2.1).trans ?_
  kernel_rfl
theorem named : Named Try.prog 49 := named_of Try.func49 (by kernel_rfl) (by kernel_rfl)
end Go.Bx.basculeref_Power
namespace Go.Bx.basculelaw_FieldPowers
open Go Go.Proofs Go.Bx
set_option maxRecDepth 100000
set_option linter.unusedVariables false
def Js : List Nat := []
def C : Ctx := ⟨[(4, .bool), (24, (.arr 4 (.int .u64)))], [], fnL [(48, Go.Bx.field_Pow.F), (49, Go.Bx.basculeref_Power.F)], noSh, [], noInv, [(2, [6])], [], [], 0, 0⟩
def St0 (x0 : List Int) (x1 : List Int) (x2 : List Int) : St := stL 33 [(0, .data (.arr 4 (.int .u64)) x0), (1, .data (.arr 4 (.int .u64)) x1), (2, .data (.arr 4 (.int .u64)) x2)] []
def St1 (x6 : Bool) : St := stL 33 [(6, .data .bool x6)] []
def top {α : Type} (Rt : Bool → Option α) (x0 : List Int) (x1 : List Int) (x2 : List Int) : Option α :=
  (Go.Bx.field_Pow.run x0 x1 x2).bind fun y1 =>
  (Go.Bx.basculeref_Power.run x0 x1 x2).bind fun y2 =>
  Rt (cond (beqD (.arr 4 (.int .u64)) y1.1 y2.1) (y1.2.1 == y2.2.1) false)
theorem top_eq {α : Type} (k : Nat) (Q : Ex → St → Option α) (x0 : List Int) (x1 : List Int) (x2 : List Int) :
    (den C k) (cB Try.f15) Q (St0 x0 x1 x2) = top (fun (x6 : Bool) => Q .ret (St1 x6)) x0 x1 x2 := by
  have h : ∀ (D L : DT α), denJ D L Js C (cB Try.f15) Q (St0 x0 x1 x2) =
        (Go.Bx.field_Pow.run x0 x1 x2).bind fun y1 =>
        (Go.Bx.basculeref_Power.run x0 x1 x2).bind fun y2 =>
        Q .ret (St1 (cond (beqD (.arr 4 (.int .u64)) y1.1 y2.1) (y1.2.1 == y2.2.1) false)) := by
    intro D L; kernel_rfl
  refine (show (den C k) (cB Try.f15) Q (St0 x0 x1 x2) = denJ (den C k) (lp C k) Js C (cB Try.f15) Q (St0 x0 x1 x2) from (denJ_den _ _ _ _ _ _).symm).trans ((h (den C k) (lp C k)).trans ?_)
  first | rfl | kernel_rfl
def run (x0 : List Int) (x1 : List Int) (x2 : List Int) : Option (Bool) := top (α := Bool) (fun (x6 : Bool) => some x6) x0 x1 x2
def F : Fn := ⟨(.pair (.arr 4 (.int .u64)) (.pair (.arr 4 (.int .u64)) (.pair (.arr 4 (.int .u64)) .unit))), .bool, false, fun x => run x.1 x.2.1 x.2.2.1⟩
set_option maxRecDepth 100000 in
theorem con : Con Try.prog 15 F := by
  refine con_of_den (C := C) (ctx_ok (by kernel_rfl) (by kernel_rfl) ⟨.inl ⟨Go.Bx.field_Pow.con, Go.Bx.field_Pow.named⟩, ⟨.inl ⟨Go.Bx.basculeref_Power.con, Go.Bx.basculeref_Power.named⟩, trivial⟩⟩) (by kernel_rfl) Try.func15 (c := cB Try.f15) (by kernel_rfl) (by kernel_rfl) F fuel (fun x => by simp [F, spread, Try.ntmps15]) ?_
  intro x r h
  rw [← h]
  have h1 : start F Try.f15.ntmps x = (St0 x.1 x.2.1 x.2.2.1) := by kernel_rfl
  rw [h1]
  refine (top_eq fuel (fin C Try.f15.results.toList F.rs F.multi) x.1 x.2.1 x.2.2.1).trans ?_
  kernel_rfl
theorem named : Named Try.prog 15 := named_of Try.func15 (by kernel_rfl) (by kernel_rfl)
end Go.Bx.basculelaw_FieldPowers
