/- Go functions of this seat in their own words of Lean, each tied to its code by a contract. -/
import Derived.Test.YtbkkahkikjifkaaGreatDoorGBase
import Derived.Test.YtbkkahkikjifkaaGreatDoorFnQuorumChecks0
open Go Go.Proofs Go.Bx
set_option maxRecDepth 100000
set_option linter.unusedVariables false
variable {α : Type}
namespace Go.Bx.basculeref_often
def Js : List Nat := [5, 12, 15]
def C : Ctx := ⟨[(4, .bool), (22, T18), (24, T28), (26, T45), (28, T43)], [], [], fnL [(83, basculeref_together.F)], noSh, [], invL [], [(2, [6, 7]), (1, [6, 8]), (4, [3, 4, 5, 6, 8, 9]), (7, [3, 4, 5, 6, 8, 9]), (10, [3, 4, 5, 6, 8, 9, 10]), (9, [3, 4, 5, 6, 8, 9]), (12, [3, 4, 5, 6, 8, 9]), (18, [3, 4, 5, 6, 8, 9, 10]), (33, [3, 4, 5, 6, 8, 9, 10, 11, 12]), (42, [6, 8])], [], [], 0, 0⟩
def St0 (x0 : D12) (x1 : D1) (x2 : D13) : St := stL 51 [(0, .data T43 x0), (1, .data T28 x1), (2, .data T45 x2)] []
def St1 (x9 : Int) (c3 : D12) (c4 : D1) (c5 c6 c8 : D13) : St := stL 51 [(3, .ref 3 0 []), (4, .ref 4 0 []), (5, .ref 5 0 []), (6, .ref 6 0 []), (8, .ref 8 0 []), (9, .data T1 x9)] [(3, .cell T43 (.data T43 c3) false), (4, .cell T28 (.data T28 c4) false), (5, .cell T45 (.data T45 c5) false), (6, .cell T45 (.data T45 c6) false), (8, .cell T45 (.data T45 c8) false)]
noncomputable def cd0 : Code := cL (cL (cR (cL (cR (cR (cB Tryz.f40))))))
def St2 (x9 x10 : Int) (c3 : D12) (c4 : D1) (c5 c6 c8 : D13) : St := stL 51 [(3, .ref 3 0 []), (4, .ref 4 0 []), (5, .ref 5 0 []), (6, .ref 6 0 []), (8, .ref 8 0 []), (9, .data T1 x9), (10, .data T1 x10)] [(3, .cell T43 (.data T43 c3) false), (4, .cell T28 (.data T28 c4) false), (5, .cell T45 (.data T45 c5) false), (6, .cell T45 (.data T45 c6) false), (8, .cell T45 (.data T45 c8) false)]
noncomputable def cd1 : Code := cL (cL (cR (cL (cL (cR (cL (cL (cR (cL (cR (cR (cB Tryz.f40))))))))))))
def St3 (x9 x10 : Int) (x12 : Bool) (c3 : D12) (c4 : D1) (c5 c6 : D13) (c8 c11 : D13) : St := stL 51 [(3, .ref 3 0 []), (4, .ref 4 0 []), (5, .ref 5 0 []), (6, .ref 6 0 []), (8, .ref 8 0 []), (9, .data T1 x9), (10, .data T1 x10), (11, .ref 11 0 []), (12, .data .bool x12)] [(3, .cell T43 (.data T43 c3) false), (4, .cell T28 (.data T28 c4) false), (5, .cell T45 (.data T45 c5) false), (6, .cell T45 (.data T45 c6) false), (8, .cell T45 (.data T45 c8) false), (11, .cell T45 (.data T45 c11) false)]
noncomputable def cd2 : Code := cR (cR (cL (cL (cR (cL (cL (cR (cL (cL (cR (cL (cR (cR (cB Tryz.f40))))))))))))))
noncomputable def cd3 : Code := cR (cR (cL (cL (cR (cL (cL (cR (cL (cL (cR (cL (cL (cR (cL (cR (cR (cB Tryz.f40)))))))))))))))))
def St4 (x7 : Bool) (c6 : D13) : St := stL 51 [(6, .ref 6 0 []), (7, .data .bool x7)] [(6, .cell T45 (.data T45 c6) false)]
def j0 (Nx : Int -> Int -> D12 -> D1 -> D13 -> D13 -> D13 -> Option α) (Rt : Bool -> D13 -> Option α) (x9 x10 : Int) (x12 : Bool) (c3 : D12) (c4 : D1) (c5 c6 : D13) (c8 c11 : D13) : Option α :=
 if (not x12) = true then
  Rt false ([0, 0, 0, 0], [0, 0, 0, 0], false, ())
 else
  Nx x9 (IntKind.i64.wrap (x10 - 1)) c3 c4 c5 c6 c11
theorem j0_eq (k : Nat) (next : St -> Option α) (Q : Ex -> St -> Option α) (x9 x10 : Int) (x12 : Bool) (c3 : D12) (c4 : D1) (c5 c6 : D13) (c8 c11 : D13) :
  (den C k) cd3 (blkQ C 3 (sq (den C k) (lp C k) Js C cd2 (lq C 18 next Q))) (St3 x9 x10 x12 c3 c4 c5 c6 c8 c11) = j0 (fun x9 x10 c3 c4 c5 c6 c8 => next (St2 x9 x10 c3 c4 c5 c6 c8)) (fun x7 c6 => Q .ret (St4 x7 c6)) x9 x10 x12 c3 c4 c5 c6 c8 c11 := plainly Js (by kernel_rfl)
def St5 (x9 : Int) (c3 : D12) (c4 : D1) (c5 c6 c8 : D13) : St := stL 51 [(3, .ref 3 0 []), (4, .ref 4 0 []), (5, .ref 5 0 []), (6, .ref 6 0 []), (8, .ref 8 0 []), (9, .data T1 x9)] [(3, .cell T43 (.data T43 c3) false), (4, .cell T28 (.data T28 c4) false), (5, .cell T45 (.data T45 c5) false), (6, .cell T45 (.data T45 c6) false), (8, .cell T45 (.data T45 c8) false)]
def l1s (Nx : Int -> Int -> D12 -> D1 -> D13 -> D13 -> D13 -> Option α) (Rt : Bool -> D13 -> Option α) (Xt2 : Int -> D12 -> D1 -> D13 -> D13 -> D13 -> Option α) (x9 x10 : Int) (c3 : D12) (c4 : D1) (c5 c6 c8 : D13) : Option α :=
 if (decide (x10 >= 0)) = true then
  (basculeref_together.run c3 c8 c8).bind fun y1 =>
  cond (decide (0 <= x9 /\ x9 < (4 : Int)) || !(y1.2.1 == true)) (
   cond (decide (0 <= x10) || !(y1.2.1 == true)) (
    if (cond y1.2.1 ((band .u64 (List.getD c4 (Int.toNat x9) 0) (shlI .u64 1 x10)) != 0) false) = true then
     (basculeref_together.run c3 y1.1 c5).bind fun y2 =>
     j0 Nx Rt x9 x10 y2.2.1 c3 c4 c5 c6 c8 y2.1
    else
     j0 Nx Rt x9 x10 y1.2.1 c3 c4 c5 c6 c8 y1.1) none) none
 else
  Xt2 x9 c3 c4 c5 c6 c8
theorem l1s_eq (k : Nat) (next : St -> Option α) (Q : Ex -> St -> Option α) (x9 x10 : Int) (c3 : D12) (c4 : D1) (c5 c6 c8 : D13) :
  rnd C k cd1 18 Q next (St2 x9 x10 c3 c4 c5 c6 c8) = l1s (fun x9 x10 c3 c4 c5 c6 c8 => next (St2 x9 x10 c3 c4 c5 c6 c8)) (fun x7 c6 => Q .ret (St4 x7 c6)) (fun x9 c3 c4 c5 c6 c8 => Q (.exit 2) (St5 x9 c3 c4 c5 c6 c8)) x9 x10 c3 c4 c5 c6 c8 := by
 have h : ∀ (D L : DT α), denJ D L Js C cd1 (lq C 18 next Q) (St2 x9 x10 c3 c4 c5 c6 c8) =
    if (decide (x10 >= 0)) = true then
     (basculeref_together.run c3 c8 c8).bind fun y1 =>
     cond (decide (0 <= x9 /\ x9 < (4 : Int)) || !(y1.2.1 == true)) (
      cond (decide (0 <= x10) || !(y1.2.1 == true)) (
       if (cond y1.2.1 ((band .u64 (List.getD c4 (Int.toNat x9) 0) (shlI .u64 1 x10)) != 0) false) = true then
        (basculeref_together.run c3 y1.1 c5).bind fun y2 =>
        D cd3 (blkQ C 3 (sq D L Js C cd2 (lq C 18 next Q))) (St3 x9 x10 y2.2.1 c3 c4 c5 c6 c8 y2.1)
       else
        D cd3 (blkQ C 3 (sq D L Js C cd2 (lq C 18 next Q))) (St3 x9 x10 y1.2.1 c3 c4 c5 c6 c8 y1.1)) none) none
    else
     Q (.exit 2) (St5 x9 c3 c4 c5 c6 c8) := by
  intro D L; kernel_rfl
 have h2 := via (k := k) h
 refine h2.trans ?_
 simp only [j0_eq]
 first | rfl | kernel_rfl
def l1 (k : Nat) (Rt : Bool -> D13 -> Option α) (Xt2 : Int -> D12 -> D1 -> D13 -> D13 -> D13 -> Option α) : Nat -> Int -> Int -> D12 -> D1 -> D13 -> D13 -> D13 -> Option α
 | 0, _, _, _, _, _, _, _ => none
 | n + 1, x9, x10, c3, c4, c5, c6, c8 => l1s (l1 k Rt Xt2 n) Rt Xt2 x9 x10 c3 c4 c5 c6 c8
theorem l1_eq (k : Nat) (Q : Ex -> St -> Option α) : ∀ (n : Nat) (x9 x10 : Int) (c3 : D12) (c4 : D1) (c5 c6 c8 : D13), iter (rnd C k cd1 18 Q) n (St2 x9 x10 c3 c4 c5 c6 c8) = l1 k (fun x7 c6 => Q .ret (St4 x7 c6)) (fun x9 c3 c4 c5 c6 c8 => Q (.exit 2) (St5 x9 c3 c4 c5 c6 c8)) n x9 x10 c3 c4 c5 c6 c8
 | 0, _, _, _, _, _, _, _ => rfl
 | n + 1, x9, x10, c3, c4, c5, c6, c8 => (iter_succ _ _ _).trans ((l1s_eq k _ Q x9 x10 c3 c4 c5 c6 c8).trans (congrArg (fun N => l1s N (fun x7 c6 => Q .ret (St4 x7 c6)) (fun x9 c3 c4 c5 c6 c8 => Q (.exit 2) (St5 x9 c3 c4 c5 c6 c8)) x9 x10 c3 c4 c5 c6 c8) (by funext; exact l1_eq k Q n _ _ _ _ _ _ _)))
theorem l1_congr (k : Nat) (Rt : Bool -> D13 -> Option α) (Xt2 : Int -> D12 -> D1 -> D13 -> D13 -> D13 -> Option α) (Rtq : Bool -> D13 -> Option α) (Xt2q : Int -> D12 -> D1 -> D13 -> D13 -> D13 -> Option α) (hRt : ∀ (x7 : Bool) (c6 : D13), Rt x7 c6 = Rtq x7 c6) (hXt2 : ∀ (x9 : Int) (c3 : D12) (c4 : D1) (c5 c6 c8 : D13), Xt2 x9 c3 c4 c5 c6 c8 = Xt2q x9 c3 c4 c5 c6 c8) (n : Nat) (x9 x10 : Int) (c3 : D12) (c4 : D1) (c5 c6 c8 : D13) : l1 k Rt Xt2 n x9 x10 c3 c4 c5 c6 c8 = l1 k Rtq Xt2q n x9 x10 c3 c4 c5 c6 c8 := by
 obtain rfl : Rt = Rtq := by funext x7; funext c6; exact hRt x7 c6
 obtain rfl : Xt2 = Xt2q := by funext x9; funext c3; funext c4; funext c5; funext c6; funext c8; exact hXt2 x9 c3 c4 c5 c6 c8
 rfl
noncomputable def cd4 : Code := cR (cR (cL (cL (cR (cL (cR (cR (cB Tryz.f40))))))))
def St6 (x9 : Int) (c3 : D12) (c4 : D1) (c5 c6 c8 : D13) : St := stL 51 [(3, .ref 3 0 []), (4, .ref 4 0 []), (5, .ref 5 0 []), (6, .ref 6 0 []), (8, .ref 8 0 []), (9, .data T1 x9)] [(3, .cell T43 (.data T43 c3) false), (4, .cell T28 (.data T28 c4) false), (5, .cell T45 (.data T45 c5) false), (6, .cell T45 (.data T45 c6) false), (8, .cell T45 (.data T45 c8) false)]
def j1 (Nx : Int -> D12 -> D1 -> D13 -> D13 -> D13 -> Option α) (x9 : Int) (c3 : D12) (c4 : D1) (c5 c6 c8 : D13) : Option α :=
 Nx (IntKind.i64.wrap (x9 - 1)) c3 c4 c5 c6 c8
theorem j1_eq (k : Nat) (next : St -> Option α) (Q : Ex -> St -> Option α) (x9 : Int) (c3 : D12) (c4 : D1) (c5 c6 c8 : D13) :
  (den C k) cd4 (lq C 9 next Q) (St6 x9 c3 c4 c5 c6 c8) = j1 (fun x9 c3 c4 c5 c6 c8 => next (St1 x9 c3 c4 c5 c6 c8)) x9 c3 c4 c5 c6 c8 := plainly Js (by kernel_rfl)
theorem a0 (k : Nat) (next : St -> Option α) (Q : Ex -> St -> Option α) (x9 x10 : Int) (c3 : D12) (c4 : D1) (c5 c6 c8 : D13) :
  (lp C k) cd1 (blkQ C 2 (blkQ C 1 (sq (den C k) (lp C k) Js C cd4 (lq C 9 next Q)))) (St2 x9 x10 c3 c4 c5 c6 c8) = l1 k (fun x7 c6 => (fun x7 c6 => Q .ret (St4 x7 c6)) x7 c6) (fun x9 c3 c4 c5 c6 c8 => j1 (fun x9 c3 c4 c5 c6 c8 => next (St1 x9 c3 c4 c5 c6 c8)) x9 c3 c4 c5 c6 c8) k x9 x10 c3 c4 c5 c6 c8 :=
 (lp_iter 18 (by kernel_rfl)).trans ((l1_eq k _ k x9 x10 c3 c4 c5 c6 c8).trans (l1_congr k _ _ _ _ (fun x7 c6 => (by kernel_rfl)) (fun x9 c3 c4 c5 c6 c8 => (Eq.trans (b := (den C k) cd4 (lq C 9 next Q) (St6 x9 c3 c4 c5 c6 c8)) (by kernel_rfl) (by simp only [j1_eq]))) k x9 x10 c3 c4 c5 c6 c8))
def St7 (c6 c8 : D13) : St := stL 51 [(6, .ref 6 0 []), (8, .ref 8 0 [])] [(6, .cell T45 (.data T45 c6) false), (8, .cell T45 (.data T45 c8) false)]
def l0s (k : Nat) (Nx : Int -> D12 -> D1 -> D13 -> D13 -> D13 -> Option α) (Rt : Bool -> D13 -> Option α) (Xt0 : D13 -> D13 -> Option α) (x9 : Int) (c3 : D12) (c4 : D1) (c5 c6 c8 : D13) : Option α :=
 if (decide (x9 >= 0)) = true then
  l1 k (fun x7 c6 => Rt x7 c6) (fun x9 c3 c4 c5 c6 c8 => j1 Nx x9 c3 c4 c5 c6 c8) k x9 63 c3 c4 c5 c6 c8
 else
  Xt0 c6 c8
theorem l0s_eq (k : Nat) (next : St -> Option α) (Q : Ex -> St -> Option α) (x9 : Int) (c3 : D12) (c4 : D1) (c5 c6 c8 : D13) :
  rnd C k cd0 9 Q next (St1 x9 c3 c4 c5 c6 c8) = l0s k (fun x9 c3 c4 c5 c6 c8 => next (St1 x9 c3 c4 c5 c6 c8)) (fun x7 c6 => Q .ret (St4 x7 c6)) (fun c6 c8 => Q (.exit 0) (St7 c6 c8)) x9 c3 c4 c5 c6 c8 := by
 have h : ∀ (D L : DT α), denJ D L Js C cd0 (lq C 9 next Q) (St1 x9 c3 c4 c5 c6 c8) =
    if (decide (x9 >= 0)) = true then
     L cd1 (blkQ C 2 (blkQ C 1 (sq D L Js C cd4 (lq C 9 next Q)))) (St2 x9 63 c3 c4 c5 c6 c8)
    else
     Q (.exit 0) (St7 c6 c8) := by
  intro D L; kernel_rfl
 have h2 := via (k := k) h
 refine h2.trans ?_
 simp only [a0]
 first | rfl | kernel_rfl
def l0 (k : Nat) (Rt : Bool -> D13 -> Option α) (Xt0 : D13 -> D13 -> Option α) : Nat -> Int -> D12 -> D1 -> D13 -> D13 -> D13 -> Option α
 | 0, _, _, _, _, _, _ => none
 | n + 1, x9, c3, c4, c5, c6, c8 => l0s k (l0 k Rt Xt0 n) Rt Xt0 x9 c3 c4 c5 c6 c8
theorem l0_eq (k : Nat) (Q : Ex -> St -> Option α) : ∀ (n : Nat) (x9 : Int) (c3 : D12) (c4 : D1) (c5 c6 c8 : D13), iter (rnd C k cd0 9 Q) n (St1 x9 c3 c4 c5 c6 c8) = l0 k (fun x7 c6 => Q .ret (St4 x7 c6)) (fun c6 c8 => Q (.exit 0) (St7 c6 c8)) n x9 c3 c4 c5 c6 c8
 | 0, _, _, _, _, _, _ => rfl
 | n + 1, x9, c3, c4, c5, c6, c8 => (iter_succ _ _ _).trans ((l0s_eq k _ Q x9 c3 c4 c5 c6 c8).trans (congrArg (fun N => l0s k N (fun x7 c6 => Q .ret (St4 x7 c6)) (fun c6 c8 => Q (.exit 0) (St7 c6 c8)) x9 c3 c4 c5 c6 c8) (by funext; exact l0_eq k Q n _ _ _ _ _ _)))
theorem l0_congr (k : Nat) (Rt : Bool -> D13 -> Option α) (Xt0 : D13 -> D13 -> Option α) (Rtq : Bool -> D13 -> Option α) (Xt0q : D13 -> D13 -> Option α) (hRt : ∀ (x7 : Bool) (c6 : D13), Rt x7 c6 = Rtq x7 c6) (hXt0 : ∀ (c6 c8 : D13), Xt0 c6 c8 = Xt0q c6 c8) (n : Nat) (x9 : Int) (c3 : D12) (c4 : D1) (c5 c6 c8 : D13) : l0 k Rt Xt0 n x9 c3 c4 c5 c6 c8 = l0 k Rtq Xt0q n x9 c3 c4 c5 c6 c8 := by
 obtain rfl : Rt = Rtq := by funext x7; funext c6; exact hRt x7 c6
 obtain rfl : Xt0 = Xt0q := by funext c6; funext c8; exact hXt0 c6 c8
 rfl
noncomputable def cd5 : Code := cR (cR (cR (cB Tryz.f40)))
def St8 (c6 c8 : D13) : St := stL 51 [(6, .ref 6 0 []), (8, .ref 8 0 [])] [(6, .cell T45 (.data T45 c6) false), (8, .cell T45 (.data T45 c8) false)]
def j2 (Rt : Bool -> D13 -> Option α) (c6 c8 : D13) : Option α :=
 Rt true c8
theorem j2_eq (k : Nat) (Q : Ex -> St -> Option α) (c6 c8 : D13) :
  (den C k) cd5 Q (St8 c6 c8) = j2 (fun x7 c6 => Q .ret (St4 x7 c6)) c6 c8 := plainly Js (by kernel_rfl)
theorem a1 (k : Nat) (Q : Ex -> St -> Option α) (x9 : Int) (c3 : D12) (c4 : D1) (c5 c6 c8 : D13) :
  (lp C k) cd0 (blkQ C 0 (sq (den C k) (lp C k) Js C cd5 Q)) (St1 x9 c3 c4 c5 c6 c8) = l0 k (fun x7 c6 => (fun x7 c6 => Q .ret (St4 x7 c6)) x7 c6) (fun c6 c8 => j2 (fun x7 c6 => Q .ret (St4 x7 c6)) c6 c8) k x9 c3 c4 c5 c6 c8 :=
 (lp_iter 9 (by kernel_rfl)).trans ((l0_eq k _ k x9 c3 c4 c5 c6 c8).trans (l0_congr k _ _ _ _ (fun x7 c6 => (by kernel_rfl)) (fun c6 c8 => (Eq.trans (b := (den C k) cd5 Q (St8 c6 c8)) (by kernel_rfl) (by simp only [j2_eq]))) k x9 c3 c4 c5 c6 c8))
def top (k : Nat) (Rt : Bool -> D13 -> Option α) (x0 : D12) (x1 : D1) (x2 : D13) : Option α :=
 l0 k (fun x7 c6 => Rt x7 c6) (fun c6 c8 => j2 Rt c6 c8) k 3 x0 x1 x2 ([0, 0, 0, 0], [0, 0, 0, 0], false, ()) ([0, 0, 0, 0], [0, 0, 0, 0], true, ())
theorem top_eq (k : Nat) (Q : Ex -> St -> Option α) (x0 : D12) (x1 : D1) (x2 : D13) :
  (den C k) (cB Tryz.f40) Q (St0 x0 x1 x2) = top k (fun x7 c6 => Q .ret (St4 x7 c6)) x0 x1 x2 := by
 have h : ∀ (D L : DT α), denJ D L Js C (cB Tryz.f40) Q (St0 x0 x1 x2) =
    L cd0 (blkQ C 0 (sq D L Js C cd5 Q)) (St1 3 x0 x1 x2 ([0, 0, 0, 0], [0, 0, 0, 0], false, ()) ([0, 0, 0, 0], [0, 0, 0, 0], true, ())) := by
  intro D L; kernel_rfl
 have h2 := via (k := k) h
 refine h2.trans ?_
 simp only [a1]
 first | rfl | kernel_rfl
def run (x0 : D12) (x1 : D1) (x2 : D13) : Option D16 := top (α := D13 × Bool × Unit) fuel (fun x7 c6 => some (c6, x7, ())) x0 x1 x2
def F : Fn := ⟨T58, T57, true, fun x => run x.1 x.2.1 x.2.2.1⟩
theorem con : Con Tryz.prog 40 F /\ Named Tryz.prog 40 :=
 con_of2 (C := C) (ctx_ok (by kernel_rfl) (by kernel_rfl) (by kernel_rfl) (by kernel_rfl) ⟨.inl basculeref_together.con, trivial⟩) (by kernel_rfl) Tryz.func40 (by kernel_rfl) (c := cB Tryz.f40) (by kernel_rfl) (by kernel_rfl) F (fun x => by simp [F, spread, Tryz.ntmps40]) (fun x => (St0 x.1 x.2.1 x.2.2.1)) (fun x => by kernel_rfl) fun x => (top_eq fuel _ x.1 x.2.1 x.2.2.1).trans (by kernel_rfl)
end Go.Bx.basculeref_often
namespace Go.Bx.curve_Add
def Js : List Nat := []
def C : Ctx := ⟨[(26, T45), (28, T43), (44, T1), (159, T54)], [], [], fnL [(105, curve_fault.F), (106, curve_add.F)], noSh, [], invL [], [(2, [6, 7])], [], [], 0, 0⟩
def St0 (x0 : D12) (x1 x2 : D13) : St := stL 31 [(0, .data T43 x0), (1, .data T45 x1), (2, .data T45 x2)] []
def St1 (x7 : Int) (c6 : D13) : St := stL 31 [(6, .ref 6 0 []), (7, .data T1 x7)] [(6, .cell T45 (.data T45 c6) false)]
def top (Rt : Int -> D13 -> Option α) (x0 : D12) (x1 x2 : D13) : Option α :=
 (curve_fault.run x0 [x1, x2]).bind fun y1 =>
 if (y1 != 0) = true then
  Rt y1 ([0, 0, 0, 0], [0, 0, 0, 0], false, ())
 else
  (curve_add.run x0 x1 x2).bind fun y2 =>
  if (not y2.2.1) = true then
   Rt 16 ([0, 0, 0, 0], [0, 0, 0, 0], false, ())
  else
   Rt 0 y2.1
theorem top_eq (k : Nat) (Q : Ex -> St -> Option α) (x0 : D12) (x1 x2 : D13) :
  (den C k) (cB Tryz.f96) Q (St0 x0 x1 x2) = top (fun x7 c6 => Q .ret (St1 x7 c6)) x0 x1 x2 := plainly Js (by kernel_rfl)
def run (x0 : D12) (x1 x2 : D13) : Option D17 := top (α := D13 × Int × Unit) (fun x7 c6 => some (c6, x7, ())) x0 x1 x2
def F : Fn := ⟨T56, T59, true, fun x => run x.1 x.2.1 x.2.2.1⟩
theorem con : Con Tryz.prog 96 F /\ Named Tryz.prog 96 :=
 con_of2 (C := C) (ctx_ok (by kernel_rfl) (by kernel_rfl) (by kernel_rfl) (by kernel_rfl) ⟨.inl curve_fault.con, ⟨.inl curve_add.con, trivial⟩⟩) (by kernel_rfl) Tryz.func96 (by kernel_rfl) (c := cB Tryz.f96) (by kernel_rfl) (by kernel_rfl) F (fun x => by simp [F, spread, Tryz.ntmps96]) (fun x => (St0 x.1 x.2.1 x.2.2.1)) (fun x => by kernel_rfl) fun x => (top_eq fuel _ x.1 x.2.1 x.2.2.1).trans (by kernel_rfl)
end Go.Bx.curve_Add
namespace Go.Bx.sign_sum2
def Js : List Nat := []
def C : Ctx := ⟨[(24, T28), (26, T45), (28, T43), (44, T1)], [], [], fnL [(74, curve_Mult.F), (96, curve_Add.F)], noSh, [], invL [], [(2, [10, 11])], [], [], 0, 0⟩
def St0 (x0 : D12) (x1 : D1) (x2 : D13) (x3 : D1) (x4 : D13) : St := stL 43 [(0, .data T43 x0), (1, .data T28 x1), (2, .data T45 x2), (3, .data T28 x3), (4, .data T45 x4)] []
def St1 (x11 : Int) (c10 : D13) : St := stL 43 [(10, .ref 10 0 []), (11, .data T1 x11)] [(10, .cell T45 (.data T45 c10) false)]
def top (Rt : Int -> D13 -> Option α) (x0 : D12) (x1 : D1) (x2 : D13) (x3 : D1) (x4 : D13) : Option α :=
 (curve_Mult.run x0 x1 x2).bind fun y1 =>
 if (y1.2.1 != 0) = true then
  Rt y1.2.1 ([0, 0, 0, 0], [0, 0, 0, 0], false, ())
 else
  (curve_Mult.run x0 x3 x4).bind fun y2 =>
  if (y2.2.1 != 0) = true then
   Rt y2.2.1 ([0, 0, 0, 0], [0, 0, 0, 0], false, ())
  else
   (curve_Add.run x0 y1.1 y2.1).bind fun y3 =>
   Rt y3.2.1 y3.1
theorem top_eq (k : Nat) (Q : Ex -> St -> Option α) (x0 : D12) (x1 : D1) (x2 : D13) (x3 : D1) (x4 : D13) :
  (den C k) (cB Tryz.f58) Q (St0 x0 x1 x2 x3 x4) = top (fun x11 c10 => Q .ret (St1 x11 c10)) x0 x1 x2 x3 x4 := plainly Js (by kernel_rfl)
def run (x0 : D12) (x1 : D1) (x2 : D13) (x3 : D1) (x4 : D13) : Option D17 := top (α := D13 × Int × Unit) (fun x11 c10 => some (c10, x11, ())) x0 x1 x2 x3 x4
def F : Fn := ⟨T81, T59, true, fun x => run x.1 x.2.1 x.2.2.1 x.2.2.2.1 x.2.2.2.2.1⟩
theorem con : Con Tryz.prog 58 F /\ Named Tryz.prog 58 :=
 con_of2 (C := C) (ctx_ok (by kernel_rfl) (by kernel_rfl) (by kernel_rfl) (by kernel_rfl) ⟨.inl curve_Mult.con, ⟨.inl curve_Add.con, trivial⟩⟩) (by kernel_rfl) Tryz.func58 (by kernel_rfl) (c := cB Tryz.f58) (by kernel_rfl) (by kernel_rfl) F (fun x => by simp [F, spread, Tryz.ntmps58]) (fun x => (St0 x.1 x.2.1 x.2.2.1 x.2.2.2.1 x.2.2.2.2.1)) (fun x => by kernel_rfl) fun x => (top_eq fuel _ x.1 x.2.1 x.2.2.1 x.2.2.2.1 x.2.2.2.2.1).trans (by kernel_rfl)
end Go.Bx.sign_sum2
namespace Go.Bx.basculeref_both
def Js : List Nat := []
def C : Ctx := ⟨[(4, .bool), (24, T28), (26, T45), (28, T43)], [], [], fnL [(40, basculeref_often.F), (83, basculeref_together.F)], noSh, [], invL [], [(2, [10, 11])], [], [], 0, 0⟩
def St0 (x0 : D12) (x1 : D1) (x2 : D13) (x3 : D1) (x4 : D13) : St := stL 43 [(0, .data T43 x0), (1, .data T28 x1), (2, .data T45 x2), (3, .data T28 x3), (4, .data T45 x4)] []
def St1 (x11 : Bool) (c10 : D13) : St := stL 43 [(10, .ref 10 0 []), (11, .data .bool x11)] [(10, .cell T45 (.data T45 c10) false)]
def top (Rt : Bool -> D13 -> Option α) (x0 : D12) (x1 : D1) (x2 : D13) (x3 : D1) (x4 : D13) : Option α :=
 (basculeref_often.run x0 x1 x2).bind fun y1 =>
 (basculeref_often.run x0 x3 x4).bind fun y2 =>
 if (cond (not y1.2.1) true (not y2.2.1)) = true then
  Rt false ([0, 0, 0, 0], [0, 0, 0, 0], false, ())
 else
  (basculeref_together.run x0 y1.1 y2.1).bind fun y3 =>
  Rt y3.2.1 y3.1
theorem top_eq (k : Nat) (Q : Ex -> St -> Option α) (x0 : D12) (x1 : D1) (x2 : D13) (x3 : D1) (x4 : D13) :
  (den C k) (cB Tryz.f67) Q (St0 x0 x1 x2 x3 x4) = top (fun x11 c10 => Q .ret (St1 x11 c10)) x0 x1 x2 x3 x4 := plainly Js (by kernel_rfl)
def run (x0 : D12) (x1 : D1) (x2 : D13) (x3 : D1) (x4 : D13) : Option D16 := top (α := D13 × Bool × Unit) (fun x11 c10 => some (c10, x11, ())) x0 x1 x2 x3 x4
def F : Fn := ⟨T81, T57, true, fun x => run x.1 x.2.1 x.2.2.1 x.2.2.2.1 x.2.2.2.2.1⟩
theorem con : Con Tryz.prog 67 F /\ Named Tryz.prog 67 :=
 con_of2 (C := C) (ctx_ok (by kernel_rfl) (by kernel_rfl) (by kernel_rfl) (by kernel_rfl) ⟨.inl basculeref_often.con, ⟨.inl basculeref_together.con, trivial⟩⟩) (by kernel_rfl) Tryz.func67 (by kernel_rfl) (c := cB Tryz.f67) (by kernel_rfl) (by kernel_rfl) F (fun x => by simp [F, spread, Tryz.ntmps67]) (fun x => (St0 x.1 x.2.1 x.2.2.1 x.2.2.2.1 x.2.2.2.2.1)) (fun x => by kernel_rfl) fun x => (top_eq fuel _ x.1 x.2.1 x.2.2.1 x.2.2.2.1 x.2.2.2.2.1).trans (by kernel_rfl)
end Go.Bx.basculeref_both
namespace Go.Bx.field_Pow_1_s0
def Js : List Nat := []
def C : Ctx := ⟨[(24, T28)], [], [], fnL [(94, field_mul.F)], noSh, [], invL [], [(2, [])], [], [], 3, 0⟩
def St0 (x0 : Bool) (c0 c1 c2 : D1) : St := stL 14 [(0, .data .bool x0), (1, .ref 0 0 []), (2, .ref 1 0 []), (3, .ref 2 0 [])] [(0, .cell T28 (.data T28 c0) false), (1, .cell T28 (.data T28 c1) false), (2, .cell T28 (.data T28 c2) false)]
def St1 (c0 c1 c2 : D1) : St := stL 14 [] [(0, .cell T28 (.data T28 c0) false), (1, .cell T28 (.data T28 c1) false), (2, .cell T28 (.data T28 c2) false)]
def top (Rt : D1 -> D1 -> D1 -> Option α) (x0 : Bool) (c0 c1 c2 : D1) : Option α :=
 (field_mul.run c0 c0 c1).bind fun y1 =>
 if x0 = true then
  (field_mul.run y1 c2 c1).bind fun y2 =>
  Rt y2 c1 c2
 else
  Rt y1 c1 c2
theorem top_eq (k : Nat) (Q : Ex -> St -> Option α) (x0 : Bool) (c0 c1 c2 : D1) :
  (den C k) (cB Tryz.f114) (endQ C Q) (St0 x0 c0 c1 c2) = top (fun c0 c1 c2 => Q .ret (St1 c0 c1 c2)) x0 c0 c1 c2 := plainly Js (by kernel_rfl)
def run (x0 : Bool) (c0 c1 c2 : D1) : Option D8 := top (α := List Int × List Int × List Int × Unit) (fun c0 c1 c2 => some (c0, c1, c2, ())) x0 c0 c1 c2
def Sp : Spec := ⟨[hD .bool, .ref 0 0 [], .ref 1 0 [], .ref 2 0 []], [(0, hC T28 (hD T28) false), (1, hC T28 (hD T28) false), (2, hC T28 (hD T28) false)], T32, .tup [], [(0, hC T28 (hD T28) false), (1, hC T28 (hD T28) false), (2, hC T28 (hD T28) false)], T31, fun x => run x.1 x.2.1 x.2.2.1 x.2.2.2.1⟩
set_option maxRecDepth 100000 in
theorem sok : SOk Tryz.prog 114 Sp.h := by
 refine sok_of_den (C := C) (ctx_ok (by kernel_rfl) (by kernel_rfl) (by kernel_rfl) (by kernel_rfl) ⟨.inl field_mul.con, trivial⟩) (by kernel_rfl) Tryz.func114 (c := cB Tryz.f114) (by kernel_rfl) (by kernel_rfl) Sp fuel (by kernel_rfl) (by kernel_rfl) ?_
 intro x r h
 rw [<- h]
 have h1 : Sp.start x Tryz.f114.ntmps = (St0 x.1 x.2.1 x.2.2.1 x.2.2.2.1) := by kernel_rfl
 rw [h1]
 refine (top_eq fuel (finS C Tryz.f114.results.toList Sp.read) x.1 x.2.1 x.2.2.1 x.2.2.2.1).trans ?_
 kernel_rfl
theorem named : Named Tryz.prog 114 := named_of Tryz.func114 (by kernel_rfl) (by kernel_rfl)
end Go.Bx.field_Pow_1_s0
namespace Go.Bx.field_bits_s1
def Js : List Nat := [5, 9]
def C : Ctx := ⟨[(22, T18), (24, T28)], [], [], fnL [], shL [(114, [.one field_Pow_1_s0.Sp])], [(38, 40)], invL [], [(2, []), (1, []), (4, [1, 2, 4, 5]), (7, [1, 2, 4, 5]), (10, [1, 2, 4, 5, 6]), (9, [1, 2, 4, 5]), (12, [1, 2, 4, 5]), (21, [1, 2, 4, 5, 6]), (24, [1, 2, 4, 5, 6])], [], [], 3, 0⟩
def St0 (x0 c0 : D1) (c1 c2 : D1) : St := stL 39 [(0, .data T28 x0), (1, .fn 114 [] [.ref 0 0 [], .ref 1 0 [], .ref 2 0 []])] [(0, .cell T28 (.data T28 c0) false), (1, .cell T28 (.data T28 c1) false), (2, .cell T28 (.data T28 c2) false)]
def St1 (x4 : Bool) (x5 : Int) (c0 c1 : D1) (c2 c5 : D1) : St := stL 39 [(1, .fn 114 [] [.ref 0 0 [], .ref 1 0 [], .ref 2 0 []]), (2, .ref 5 0 []), (4, .data .bool x4), (5, .data T1 x5)] [(0, .cell T28 (.data T28 c0) false), (1, .cell T28 (.data T28 c1) false), (2, .cell T28 (.data T28 c2) false), (5, .cell T28 (.data T28 c5) false)]
noncomputable def cd0 : Code := cL (cL (cR (cR (cR (cB Tryz.f113)))))
def St2 (x4 : Bool) (x5 : Int) (c0 c1 : D1) (c2 c5 : D1) : St := stL 39 [(1, .fn 114 [] [.ref 0 0 [], .ref 1 0 [], .ref 2 0 []]), (2, .ref 5 0 []), (4, .data .bool x4), (5, .data T1 x5)] [(0, .cell T28 (.data T28 c0) false), (1, .cell T28 (.data T28 c1) false), (2, .cell T28 (.data T28 c2) false), (5, .cell T28 (.data T28 c5) false)]
noncomputable def cd1 : Code := cR (cR (cL (cL (cR (cR (cR (cB Tryz.f113)))))))
def j0 (Nx : Bool -> Int -> D1 -> D1 -> D1 -> D1 -> Option α) (x4 : Bool) (x5 : Int) (c0 c1 : D1) (c2 c5 : D1) : Option α :=
 Nx x4 (IntKind.i64.wrap (x5 - 1)) c0 c1 c2 c5
theorem j0_eq (k : Nat) (next : St -> Option α) (Q : Ex -> St -> Option α) (x4 : Bool) (x5 : Int) (c0 c1 : D1) (c2 c5 : D1) :
  (den C k) cd1 (lq C 9 next Q) (St2 x4 x5 c0 c1 c2 c5) = j0 (fun x4 x5 c0 c1 c2 c5 => next (St1 x4 x5 c0 c1 c2 c5)) x4 x5 c0 c1 c2 c5 := plainly Js (by kernel_rfl)
def St3 (x4 : Bool) (x5 x6 : Int) (c0 c1 : D1) (c2 c5 : D1) : St := stL 39 [(1, .fn 114 [] [.ref 0 0 [], .ref 1 0 [], .ref 2 0 []]), (2, .ref 5 0 []), (4, .data .bool x4), (5, .data T1 x5), (6, .data T1 x6)] [(0, .cell T28 (.data T28 c0) false), (1, .cell T28 (.data T28 c1) false), (2, .cell T28 (.data T28 c2) false), (5, .cell T28 (.data T28 c5) false)]
noncomputable def cd2 : Code := cL (cL (cR (cR (cL (cL (cR (cL (cL (cR (cR (cR (cB Tryz.f113))))))))))))
def St4 (x4 : Bool) (x5 x6 : Int) (c0 c1 : D1) (c2 c5 : D1) : St := stL 39 [(1, .fn 114 [] [.ref 0 0 [], .ref 1 0 [], .ref 2 0 []]), (2, .ref 5 0 []), (4, .data .bool x4), (5, .data T1 x5), (6, .data T1 x6)] [(0, .cell T28 (.data T28 c0) false), (1, .cell T28 (.data T28 c1) false), (2, .cell T28 (.data T28 c2) false), (5, .cell T28 (.data T28 c5) false)]
noncomputable def cd3 : Code := cR (cR (cL (cL (cR (cR (cL (cL (cR (cL (cL (cR (cR (cR (cB Tryz.f113))))))))))))))
def j1 (Nx : Bool -> Int -> Int -> D1 -> D1 -> D1 -> D1 -> Option α) (x4 : Bool) (x5 x6 : Int) (c0 c1 : D1) (c2 c5 : D1) : Option α :=
 Nx x4 x5 (IntKind.i64.wrap (x6 - 1)) c0 c1 c2 c5
theorem j1_eq (k : Nat) (next : St -> Option α) (Q : Ex -> St -> Option α) (x4 : Bool) (x5 x6 : Int) (c0 c1 : D1) (c2 c5 : D1) :
  (den C k) cd3 (lq C 21 next Q) (St4 x4 x5 x6 c0 c1 c2 c5) = j1 (fun x4 x5 x6 c0 c1 c2 c5 => next (St3 x4 x5 x6 c0 c1 c2 c5)) x4 x5 x6 c0 c1 c2 c5 := plainly Js (by kernel_rfl)
def St5 (x4 : Bool) (x5 : Int) (c0 c1 : D1) (c2 c5 : D1) : St := stL 39 [(1, .fn 114 [] [.ref 0 0 [], .ref 1 0 [], .ref 2 0 []]), (2, .ref 5 0 []), (4, .data .bool x4), (5, .data T1 x5)] [(0, .cell T28 (.data T28 c0) false), (1, .cell T28 (.data T28 c1) false), (2, .cell T28 (.data T28 c2) false), (5, .cell T28 (.data T28 c5) false)]
def l1s (Nx : Bool -> Int -> Int -> D1 -> D1 -> D1 -> D1 -> Option α) (Xt2 : Bool -> Int -> D1 -> D1 -> D1 -> D1 -> Option α) (x4 : Bool) (x5 x6 : Int) (c0 c1 : D1) (c2 c5 : D1) : Option α :=
 if (decide (x6 >= 0)) = true then
  if 0 <= x5 /\ x5 < (4 : Int) then
   if 0 <= x6 then
    if (cond x4 true ((band .u64 (shrI .u64 (List.getD c5 (Int.toNat x5) 0) x6) 1) == 1)) = true then
     (field_Pow_1_s0.run ((band .u64 (shrI .u64 (List.getD c5 (Int.toNat x5) 0) x6) 1) == 1) c0 c1 c2).bind fun y1 =>
     j1 Nx (cond x4 true ((band .u64 (shrI .u64 (List.getD c5 (Int.toNat x5) 0) x6) 1) == 1)) x5 x6 y1.1 y1.2.1 y1.2.2.1 c5
    else
     j1 Nx (cond x4 true ((band .u64 (shrI .u64 (List.getD c5 (Int.toNat x5) 0) x6) 1) == 1)) x5 x6 c0 c1 c2 c5
   else none
  else none
 else
  Xt2 x4 x5 c0 c1 c2 c5
theorem l1s_eq (k : Nat) (next : St -> Option α) (Q : Ex -> St -> Option α) (x4 : Bool) (x5 x6 : Int) (c0 c1 : D1) (c2 c5 : D1) :
  rnd C k cd2 21 Q next (St3 x4 x5 x6 c0 c1 c2 c5) = l1s (fun x4 x5 x6 c0 c1 c2 c5 => next (St3 x4 x5 x6 c0 c1 c2 c5)) (fun x4 x5 c0 c1 c2 c5 => Q (.exit 2) (St5 x4 x5 c0 c1 c2 c5)) x4 x5 x6 c0 c1 c2 c5 := by
 have h : ∀ (D L : DT α), denJ D L Js C cd2 (lq C 21 next Q) (St3 x4 x5 x6 c0 c1 c2 c5) =
    if (decide (x6 >= 0)) = true then
     if 0 <= x5 /\ x5 < (4 : Int) then
      if 0 <= x6 then
       if (cond x4 true ((band .u64 (shrI .u64 (List.getD c5 (Int.toNat x5) 0) x6) 1) == 1)) = true then
        (field_Pow_1_s0.run ((band .u64 (shrI .u64 (List.getD c5 (Int.toNat x5) 0) x6) 1) == 1) c0 c1 c2).bind fun y1 =>
        D cd3 (lq C 21 next Q) (St4 (cond x4 true ((band .u64 (shrI .u64 (List.getD c5 (Int.toNat x5) 0) x6) 1) == 1)) x5 x6 y1.1 y1.2.1 y1.2.2.1 c5)
       else
        D cd3 (lq C 21 next Q) (St4 (cond x4 true ((band .u64 (shrI .u64 (List.getD c5 (Int.toNat x5) 0) x6) 1) == 1)) x5 x6 c0 c1 c2 c5)
      else none
     else none
    else
     Q (.exit 2) (St5 x4 x5 c0 c1 c2 c5) := by
  intro D L; kernel_rfl
 have h2 := via (k := k) h
 refine h2.trans ?_
 simp only [j1_eq]
 first | rfl | kernel_rfl
def l1 (k : Nat) (Xt2 : Bool -> Int -> D1 -> D1 -> D1 -> D1 -> Option α) : Nat -> Bool -> Int -> Int -> D1 -> D1 -> D1 -> D1 -> Option α
 | 0, _, _, _, _, _, _, _ => none
 | n + 1, x4, x5, x6, c0, c1, c2, c5 => l1s (l1 k Xt2 n) Xt2 x4 x5 x6 c0 c1 c2 c5
theorem l1_eq (k : Nat) (Q : Ex -> St -> Option α) : ∀ (n : Nat) (x4 : Bool) (x5 x6 : Int) (c0 c1 : D1) (c2 c5 : D1), iter (rnd C k cd2 21 Q) n (St3 x4 x5 x6 c0 c1 c2 c5) = l1 k (fun x4 x5 c0 c1 c2 c5 => Q (.exit 2) (St5 x4 x5 c0 c1 c2 c5)) n x4 x5 x6 c0 c1 c2 c5
 | 0, _, _, _, _, _, _, _ => rfl
 | n + 1, x4, x5, x6, c0, c1, c2, c5 => (iter_succ _ _ _).trans ((l1s_eq k _ Q x4 x5 x6 c0 c1 c2 c5).trans (congrArg (fun N => l1s N (fun x4 x5 c0 c1 c2 c5 => Q (.exit 2) (St5 x4 x5 c0 c1 c2 c5)) x4 x5 x6 c0 c1 c2 c5) (by funext; exact l1_eq k Q n _ _ _ _ _ _ _)))
theorem a0 (k : Nat) (next : St -> Option α) (Q : Ex -> St -> Option α) (x4 : Bool) (x5 x6 : Int) (c0 c1 : D1) (c2 c5 : D1) :
  (lp C k) cd2 (blkQ C 2 (blkQ C 1 (sq (den C k) (lp C k) Js C cd1 (lq C 9 next Q)))) (St3 x4 x5 x6 c0 c1 c2 c5) = l1 k (fun x4 x5 c0 c1 c2 c5 => j0 (fun x4 x5 c0 c1 c2 c5 => next (St1 x4 x5 c0 c1 c2 c5)) x4 x5 c0 c1 c2 c5) k x4 x5 x6 c0 c1 c2 c5 :=
 (lp_iter 21 (by kernel_rfl)).trans ((l1_eq k _ k x4 x5 x6 c0 c1 c2 c5).trans (congrArg (fun X => l1 k X k x4 x5 x6 c0 c1 c2 c5) (funext fun x4 => funext fun x5 => funext fun c0 => funext fun c1 => funext fun c2 => funext fun c5 => (Eq.trans (b := (den C k) cd1 (lq C 9 next Q) (St2 x4 x5 c0 c1 c2 c5)) (by kernel_rfl) (by simp only [j0_eq])))))
def St6 (c0 c1 c2 : D1) : St := stL 39 [] [(0, .cell T28 (.data T28 c0) false), (1, .cell T28 (.data T28 c1) false), (2, .cell T28 (.data T28 c2) false)]
def l0s (k : Nat) (Nx : Bool -> Int -> D1 -> D1 -> D1 -> D1 -> Option α) (Xt0 : D1 -> D1 -> D1 -> Option α) (x4 : Bool) (x5 : Int) (c0 c1 : D1) (c2 c5 : D1) : Option α :=
 if (decide (x5 >= 0)) = true then
  if 0 <= x5 /\ x5 < (4 : Int) then
   if (cond ((List.getD c5 (Int.toNat x5) 0) == 0) (not x4) false) = true then
    j0 Nx x4 x5 c0 c1 c2 c5
   else
    l1 k (fun x4 x5 c0 c1 c2 c5 => j0 Nx x4 x5 c0 c1 c2 c5) k x4 x5 63 c0 c1 c2 c5
  else none
 else
  Xt0 c0 c1 c2
theorem l0s_eq (k : Nat) (next : St -> Option α) (Q : Ex -> St -> Option α) (x4 : Bool) (x5 : Int) (c0 c1 : D1) (c2 c5 : D1) :
  rnd C k cd0 9 Q next (St1 x4 x5 c0 c1 c2 c5) = l0s k (fun x4 x5 c0 c1 c2 c5 => next (St1 x4 x5 c0 c1 c2 c5)) (fun c0 c1 c2 => Q (.exit 0) (St6 c0 c1 c2)) x4 x5 c0 c1 c2 c5 := by
 have h : ∀ (D L : DT α), denJ D L Js C cd0 (lq C 9 next Q) (St1 x4 x5 c0 c1 c2 c5) =
    if (decide (x5 >= 0)) = true then
     if 0 <= x5 /\ x5 < (4 : Int) then
      if (cond ((List.getD c5 (Int.toNat x5) 0) == 0) (not x4) false) = true then
       D cd1 (lq C 9 next Q) (St2 x4 x5 c0 c1 c2 c5)
      else
       L cd2 (blkQ C 2 (blkQ C 1 (sq D L Js C cd1 (lq C 9 next Q)))) (St3 x4 x5 63 c0 c1 c2 c5)
     else none
    else
     Q (.exit 0) (St6 c0 c1 c2) := by
  intro D L; kernel_rfl
 have h2 := via (k := k) h
 refine h2.trans ?_
 simp only [j0_eq, a0]
 first | rfl | kernel_rfl
def l0 (k : Nat) (Xt0 : D1 -> D1 -> D1 -> Option α) : Nat -> Bool -> Int -> D1 -> D1 -> D1 -> D1 -> Option α
 | 0, _, _, _, _, _, _ => none
 | n + 1, x4, x5, c0, c1, c2, c5 => l0s k (l0 k Xt0 n) Xt0 x4 x5 c0 c1 c2 c5
theorem l0_eq (k : Nat) (Q : Ex -> St -> Option α) : ∀ (n : Nat) (x4 : Bool) (x5 : Int) (c0 c1 : D1) (c2 c5 : D1), iter (rnd C k cd0 9 Q) n (St1 x4 x5 c0 c1 c2 c5) = l0 k (fun c0 c1 c2 => Q (.exit 0) (St6 c0 c1 c2)) n x4 x5 c0 c1 c2 c5
 | 0, _, _, _, _, _, _ => rfl
 | n + 1, x4, x5, c0, c1, c2, c5 => (iter_succ _ _ _).trans ((l0s_eq k _ Q x4 x5 c0 c1 c2 c5).trans (congrArg (fun N => l0s k N (fun c0 c1 c2 => Q (.exit 0) (St6 c0 c1 c2)) x4 x5 c0 c1 c2 c5) (by funext; exact l0_eq k Q n _ _ _ _ _ _)))
def St7 (c0 c1 c2 : D1) : St := stL 39 [] [(0, .cell T28 (.data T28 c0) false), (1, .cell T28 (.data T28 c1) false), (2, .cell T28 (.data T28 c2) false)]
theorem a1 (k : Nat) (Q : Ex -> St -> Option α) (x4 : Bool) (x5 : Int) (c0 c1 : D1) (c2 c5 : D1) :
  (lp C k) cd0 (blkQ C 0 (endQ C Q)) (St1 x4 x5 c0 c1 c2 c5) = l0 k (fun c0 c1 c2 => (fun c0 c1 c2 => Q .ret (St7 c0 c1 c2)) c0 c1 c2) k x4 x5 c0 c1 c2 c5 :=
 (lp_iter 9 (by kernel_rfl)).trans ((l0_eq k _ k x4 x5 c0 c1 c2 c5).trans (congrArg (fun X => l0 k X k x4 x5 c0 c1 c2 c5) (funext fun c0 => funext fun c1 => funext fun c2 => (by kernel_rfl))))
def top (k : Nat) (Rt : D1 -> D1 -> D1 -> Option α) (x0 c0 : D1) (c1 c2 : D1) : Option α :=
 l0 k (fun c0 c1 c2 => Rt c0 c1 c2) k false 3 c0 c1 c2 x0
theorem top_eq (k : Nat) (Q : Ex -> St -> Option α) (x0 c0 : D1) (c1 c2 : D1) :
  (den C k) (cB Tryz.f113) (endQ C Q) (St0 x0 c0 c1 c2) = top k (fun c0 c1 c2 => Q .ret (St7 c0 c1 c2)) x0 c0 c1 c2 := by
 have h : ∀ (D L : DT α), denJ D L Js C (cB Tryz.f113) (endQ C Q) (St0 x0 c0 c1 c2) =
    L cd0 (blkQ C 0 (endQ C Q)) (St1 false 3 c0 c1 c2 x0) := by
  intro D L; kernel_rfl
 have h2 := via (k := k) h
 refine h2.trans ?_
 simp only [a1]
 first | rfl | kernel_rfl
def run (x0 c0 : D1) (c1 c2 : D1) : Option D8 := top (α := List Int × List Int × List Int × Unit) fuel (fun c0 c1 c2 => some (c0, c1, c2, ())) x0 c0 c1 c2
def Sp : Spec := ⟨[hD T28, .fn 114 [] [.ref 0 0 [], .ref 1 0 [], .ref 2 0 []]], [(0, hC T28 (hD T28) false), (1, hC T28 (hD T28) false), (2, hC T28 (hD T28) false)], T33, .tup [], [(0, hC T28 (hD T28) false), (1, hC T28 (hD T28) false), (2, hC T28 (hD T28) false)], T31, fun x => run x.1 x.2.1 x.2.2.1 x.2.2.2.1⟩
set_option maxRecDepth 100000 in
theorem sok : SOk Tryz.prog 113 Sp.h := by
 refine sok_of_den (C := C) (ctx_ok_sh (by kernel_rfl) (by kernel_rfl) (by kernel_rfl) (by kernel_rfl) trivial ⟨⟨⟨field_Pow_1_s0.sok, trivial⟩, field_Pow_1_s0.named⟩, trivial⟩) (by kernel_rfl) Tryz.func113 (c := cB Tryz.f113) (by kernel_rfl) (by kernel_rfl) Sp fuel (by kernel_rfl) (by kernel_rfl) ?_
 intro x r h
 rw [<- h]
 have h1 : Sp.start x Tryz.f113.ntmps = (St0 x.1 x.2.1 x.2.2.1 x.2.2.2.1) := by kernel_rfl
 rw [h1]
 refine (top_eq fuel (finS C Tryz.f113.results.toList Sp.read) x.1 x.2.1 x.2.2.1 x.2.2.2.1).trans ?_
 kernel_rfl
theorem named : Named Tryz.prog 113 := named_of Tryz.func113 (by kernel_rfl) (by kernel_rfl)
end Go.Bx.field_bits_s1
namespace Go.Bx.field_Pow
def Js : List Nat := []
def C : Ctx := ⟨[(24, T28), (44, T1), (156, T34)], [], [], fnL [(73, wide_DivMod.F), (92, field_fault.F)], shL [(113, [.one field_bits_s1.Sp])], [(29, 32)], invL [], [(2, [6, 7])], [], [], 0, 0⟩
def St0 (x0 x1 x2 : D1) : St := stL 31 [(0, .data T28 x0), (1, .data T28 x1), (2, .data T28 x2)] []
def St1 (x7 : Int) (c6 : D1) : St := stL 31 [(6, .ref 6 0 []), (7, .data T1 x7)] [(6, .cell T28 (.data T28 c6) false)]
def top (Rt : Int -> D1 -> Option α) (x0 x1 x2 : D1) : Option α :=
 (field_fault.run x2 [x0]).bind fun y1 =>
 if (y1 != 0) = true then
  Rt y1 [0, 0, 0, 0]
 else
  (wide_DivMod.run [1, 0, 0, 0] x2).bind fun y2 =>
  (field_bits_s1.run x1 y2.2.1 x2 x0).bind fun y3 =>
  Rt 0 y3.1
theorem top_eq (k : Nat) (Q : Ex -> St -> Option α) (x0 x1 x2 : D1) :
  (den C k) (cB Tryz.f91) Q (St0 x0 x1 x2) = top (fun x7 c6 => Q .ret (St1 x7 c6)) x0 x1 x2 := plainly Js (by kernel_rfl)
def run (x0 x1 x2 : D1) : Option D4 := top (α := List Int × Int × Unit) (fun x7 c6 => some (c6, x7, ())) x0 x1 x2
def F : Fn := ⟨T31, T37, true, fun x => run x.1 x.2.1 x.2.2.1⟩
theorem con : Con Tryz.prog 91 F /\ Named Tryz.prog 91 :=
 con_of2 (C := C) (ctx_ok_sh (by kernel_rfl) (by kernel_rfl) (by kernel_rfl) (by kernel_rfl) ⟨.inl wide_DivMod.con, ⟨.inl field_fault.con, trivial⟩⟩ ⟨⟨⟨field_bits_s1.sok, trivial⟩, field_bits_s1.named⟩, trivial⟩) (by kernel_rfl) Tryz.func91 (by kernel_rfl) (c := cB Tryz.f91) (by kernel_rfl) (by kernel_rfl) F (fun x => by simp [F, spread, Tryz.ntmps91]) (fun x => (St0 x.1 x.2.1 x.2.2.1)) (fun x => by kernel_rfl) fun x => (top_eq fuel _ x.1 x.2.1 x.2.2.1).trans (by kernel_rfl)
end Go.Bx.field_Pow
namespace Go.Bx.curve_Lift
def Js : List Nat := [14]
def C : Ctx := ⟨[(4, .bool), (22, T18), (24, T28), (26, T45), (28, T43), (44, T1), (95, T41)], [], [], fnL [(15, curve_Check.F), (46, wide_Cmp.F), (51, curve_on.F), (53, wide_Add.F), (73, wide_DivMod.F), (77, wide_Sub.F), (91, field_Pow.F)], shL [(47, [.one curve_ringOf_s0.Sp]), (88, [.one curve_ring__take_s1.Sp]), (89, [.one curve_side_s0.Sp])], [(28, 89), (47, 91), (54, 92)], invL [], [(2, [6, 7]), (39, [2, 3, 4, 6, 13])], [], [], 0, 0⟩
def St0 (x0 : D12) (x1 : D1) (x2 : Bool) : St := stL 88 [(0, .data T43 x0), (1, .data T28 x1), (2, .data .bool x2)] []
def St1 (x7 : Int) (c6 : D13) : St := stL 88 [(6, .ref 6 0 []), (7, .data T1 x7)] [(6, .cell T45 (.data T45 c6) false)]
def St2 (x2 : Bool) (c3 : D12) (c4 : D1) (c6 : D13) (c13 : D1) : St := stL 88 [(2, .data .bool x2), (3, .ref 3 0 []), (4, .ref 4 0 []), (6, .ref 6 0 []), (13, .ref 13 0 [])] [(3, .cell T43 (.data T43 c3) false), (4, .cell T28 (.data T28 c4) false), (6, .cell T45 (.data T45 c6) false), (13, .cell T28 (.data T28 c13) false)]
noncomputable def cd0 : Code := cR (cR (cR (cR (cR (cR (cR (cR (cB Tryz.f54))))))))
def j0 (Rt : Int -> D13 -> Option α) (x2 : Bool) (c3 : D12) (c4 : D1) (c6 : D13) (c13 : D1) : Option α :=
 (if ((not (beqD .bool ((Int.tmod (List.getD c13 0 0) 2) == 1) x2)) == false) = true then curve_on.run c3 (c4, c13, false, ()) else some false).bind fun y10 =>
 if (cond (not (beqD .bool ((Int.tmod (List.getD c13 0 0) 2) == 1) x2)) true (not y10)) = true then
  Rt 16 ([0, 0, 0, 0], [0, 0, 0, 0], false, ())
 else
  Rt 0 (c4, c13, false, ())
theorem j0_eq (k : Nat) (Q : Ex -> St -> Option α) (x2 : Bool) (c3 : D12) (c4 : D1) (c6 : D13) (c13 : D1) :
  (den C k) cd0 Q (St2 x2 c3 c4 c6 c13) = j0 (fun x7 c6 => Q .ret (St1 x7 c6)) x2 c3 c4 c6 c13 := plainly Js (by kernel_rfl)
def top (Rt : Int -> D13 -> Option α) (x0 : D12) (x1 : D1) (x2 : Bool) : Option α :=
 (curve_Check.run x0).bind fun y1 =>
 if (y1 != 0) = true then
  Rt y1 ([0, 0, 0, 0], [0, 0, 0, 0], false, ())
 else
  (wide_Cmp.run x1 x0.1).bind fun y2 =>
  if (decide (y2 >= 0)) = true then
   Rt 6 ([0, 0, 0, 0], [0, 0, 0, 0], false, ())
  else
   (curve_ringOf_s0.run x0).bind fun y3 =>
   (wide_DivMod.run x0.1 [4, 0, 0, 0]).bind fun y4 =>
   (wide_Add.run y4.1 [1, 0, 0, 0]).bind fun y5 =>
   (curve_side_s0.run x0 y3.1 x1 y3.2.2.1).bind fun y6 =>
   (field_Pow.run y6.1 y5.1 x0.1).bind fun y7 =>
   (curve_ring__take_s1.run y3.1 y7.1 y7.2.1 y6.2.1).bind fun y8 =>
   if (not (beqD .bool ((Int.tmod (List.getD y8.1 0 0) 2) == 1) x2)) = true then
    if (not (beqD T28 y8.1 [0, 0, 0, 0])) = true then
     (wide_Sub.run x0.1 y8.1).bind fun y9 =>
     j0 Rt x2 x0 x1 ([0, 0, 0, 0], [0, 0, 0, 0], false, ()) y9.1
    else
     j0 Rt x2 x0 x1 ([0, 0, 0, 0], [0, 0, 0, 0], false, ()) y8.1
   else
    j0 Rt x2 x0 x1 ([0, 0, 0, 0], [0, 0, 0, 0], false, ()) y8.1
theorem top_eq (k : Nat) (Q : Ex -> St -> Option α) (x0 : D12) (x1 : D1) (x2 : Bool) :
  (den C k) (cB Tryz.f54) Q (St0 x0 x1 x2) = top (fun x7 c6 => Q .ret (St1 x7 c6)) x0 x1 x2 := by
 have h : ∀ (D L : DT α), denJ D L Js C (cB Tryz.f54) Q (St0 x0 x1 x2) =
    (curve_Check.run x0).bind fun y1 =>
    if (y1 != 0) = true then
     Q .ret (St1 y1 ([0, 0, 0, 0], [0, 0, 0, 0], false, ()))
    else
     (wide_Cmp.run x1 x0.1).bind fun y2 =>
     if (decide (y2 >= 0)) = true then
      Q .ret (St1 6 ([0, 0, 0, 0], [0, 0, 0, 0], false, ()))
     else
      (curve_ringOf_s0.run x0).bind fun y3 =>
      (wide_DivMod.run x0.1 [4, 0, 0, 0]).bind fun y4 =>
      (wide_Add.run y4.1 [1, 0, 0, 0]).bind fun y5 =>
      (curve_side_s0.run x0 y3.1 x1 y3.2.2.1).bind fun y6 =>
      (field_Pow.run y6.1 y5.1 x0.1).bind fun y7 =>
      (curve_ring__take_s1.run y3.1 y7.1 y7.2.1 y6.2.1).bind fun y8 =>
      if (not (beqD .bool ((Int.tmod (List.getD y8.1 0 0) 2) == 1) x2)) = true then
       if (not (beqD T28 y8.1 [0, 0, 0, 0])) = true then
        (wide_Sub.run x0.1 y8.1).bind fun y9 =>
        D cd0 Q (St2 x2 x0 x1 ([0, 0, 0, 0], [0, 0, 0, 0], false, ()) y9.1)
       else
        D cd0 Q (St2 x2 x0 x1 ([0, 0, 0, 0], [0, 0, 0, 0], false, ()) y8.1)
      else
       D cd0 Q (St2 x2 x0 x1 ([0, 0, 0, 0], [0, 0, 0, 0], false, ()) y8.1) := by
  intro D L; kernel_rfl
 have h2 := via (k := k) h
 refine h2.trans ?_
 simp only [j0_eq]
 first | rfl | kernel_rfl
def run (x0 : D12) (x1 : D1) (x2 : Bool) : Option D17 := top (α := D13 × Int × Unit) (fun x7 c6 => some (c6, x7, ())) x0 x1 x2
def F : Fn := ⟨T80, T59, true, fun x => run x.1 x.2.1 x.2.2.1⟩
theorem con : Con Tryz.prog 54 F /\ Named Tryz.prog 54 :=
 con_of2 (C := C) (ctx_ok_sh (by kernel_rfl) (by kernel_rfl) (by kernel_rfl) (by kernel_rfl) ⟨.inl curve_Check.con, ⟨.inl wide_Cmp.con, ⟨.inl curve_on.con, ⟨.inl wide_Add.con, ⟨.inl wide_DivMod.con, ⟨.inl wide_Sub.con, ⟨.inl field_Pow.con, trivial⟩⟩⟩⟩⟩⟩⟩ ⟨⟨⟨curve_ringOf_s0.sok, trivial⟩, curve_ringOf_s0.named⟩, ⟨⟨⟨curve_ring__take_s1.sok, trivial⟩, curve_ring__take_s1.named⟩, ⟨⟨⟨curve_side_s0.sok, trivial⟩, curve_side_s0.named⟩, trivial⟩⟩⟩) (by kernel_rfl) Tryz.func54 (by kernel_rfl) (c := cB Tryz.f54) (by kernel_rfl) (by kernel_rfl) F (fun x => by simp [F, spread, Tryz.ntmps54]) (fun x => (St0 x.1 x.2.1 x.2.2.1)) (fun x => by kernel_rfl) fun x => (top_eq fuel _ x.1 x.2.1 x.2.2.1).trans (by kernel_rfl)
end Go.Bx.curve_Lift
namespace Go.Bx.basculeref_Lifted
def Js : List Nat := [12, 20]
def C : Ctx := ⟨[(4, .bool), (22, T18), (24, T28), (26, T45), (28, T43), (44, T1), (82, T73)], [], [], fnL [(19, basculeref_CurveFault.F), (35, basculeref_of.F), (44, basculeref_opposite.F), (45, basculeref_Order.F), (61, basculeref_power.F), (62, basculeref_isOn.F), (64, basculeref_plus.F), (65, basculeref_wide.F), (84, basculeref_Quotient.F), (97, basculeref_right.F)], noSh, [], invL [], [(2, [6, 7]), (1, [6]), (4, [2, 3, 4, 6, 15, 59]), (33, [2, 3, 4, 6, 12]), (39, [2, 3, 4, 6, 15, 59]), (57, [6])], [], [], 0, 0⟩
def St0 (x0 : D12) (x1 : D1) (x2 : Bool) : St := stL 82 [(0, .data T43 x0), (1, .data T28 x1), (2, .data .bool x2)] []
def St1 (x7 : Int) (c6 : D13) : St := stL 82 [(6, .ref 6 0 []), (7, .data T1 x7)] [(6, .cell T45 (.data T45 c6) false)]
def St2 (x2 : Bool) (c3 : D12) (c4 : D1) (c6 : D13) (c12 : D1) : St := stL 82 [(2, .data .bool x2), (3, .ref 3 0 []), (4, .ref 4 0 []), (6, .ref 6 0 []), (12, .ref 12 0 [])] [(3, .cell T43 (.data T43 c3) false), (4, .cell T28 (.data T28 c4) false), (6, .cell T45 (.data T45 c6) false), (12, .cell T28 (.data T28 c12) false)]
noncomputable def cd0 : Code := cR (cR (cR (cR (cR (cR (cR (cB Tryz.f66)))))))
def St3 (x2 : Bool) (x59 : Int) (c3 : D12) (c4 : D1) (c6 : D13) (c15 : D1) : St := stL 82 [(2, .data .bool x2), (3, .ref 3 0 []), (4, .ref 4 0 []), (6, .ref 6 0 []), (15, .ref 15 0 []), (59, .data T1 x59)] [(3, .cell T43 (.data T43 c3) false), (4, .cell T28 (.data T28 c4) false), (6, .cell T45 (.data T45 c6) false), (15, .cell T28 (.data T28 c15) false)]
noncomputable def cd1 : Code := cL (cL (cR (cL (cR (cR (cR (cR (cR (cR (cR (cR (cB Tryz.f66))))))))))))
def St4 (c6 : D13) : St := stL 82 [(6, .ref 6 0 [])] [(6, .cell T45 (.data T45 c6) false)]
def l0s (Nx : Bool -> Int -> D12 -> D1 -> D13 -> D1 -> Option α) (Rt : Int -> D13 -> Option α) (Xt0 : D13 -> Option α) (x2 : Bool) (x59 : Int) (c3 : D12) (c4 : D1) (c6 : D13) (c15 : D1) : Option α :=
 if (decide (x59 < 2)) = true then
  (if ((beqD .bool ((band .u64 (List.getD c15 0 0) 1) == 1) x2) == true) = true then basculeref_isOn.run c3 (c4, c15, false, ()) else some false).bind fun y10 =>
  if (cond (beqD .bool ((band .u64 (List.getD c15 0 0) 1) == 1) x2) y10 false) = true then
   Rt 0 (c4, c15, false, ())
  else
   (basculeref_opposite.run c15 c3.1).bind fun y11 =>
   Nx x2 (IntKind.i64.wrap (x59 + 1)) c3 c4 c6 y11
 else
  Xt0 c6
theorem l0s_eq (k : Nat) (next : St -> Option α) (Q : Ex -> St -> Option α) (x2 : Bool) (x59 : Int) (c3 : D12) (c4 : D1) (c6 : D13) (c15 : D1) :
  rnd C k cd1 39 Q next (St3 x2 x59 c3 c4 c6 c15) = l0s (fun x2 x59 c3 c4 c6 c15 => next (St3 x2 x59 c3 c4 c6 c15)) (fun x7 c6 => Q .ret (St1 x7 c6)) (fun c6 => Q (.exit 0) (St4 c6)) x2 x59 c3 c4 c6 c15 := plainly Js (by kernel_rfl)
def l0 (k : Nat) (Rt : Int -> D13 -> Option α) (Xt0 : D13 -> Option α) : Nat -> Bool -> Int -> D12 -> D1 -> D13 -> D1 -> Option α
 | 0, _, _, _, _, _, _ => none
 | n + 1, x2, x59, c3, c4, c6, c15 => l0s (l0 k Rt Xt0 n) Rt Xt0 x2 x59 c3 c4 c6 c15
theorem l0_eq (k : Nat) (Q : Ex -> St -> Option α) : ∀ (n : Nat) (x2 : Bool) (x59 : Int) (c3 : D12) (c4 : D1) (c6 : D13) (c15 : D1), iter (rnd C k cd1 39 Q) n (St3 x2 x59 c3 c4 c6 c15) = l0 k (fun x7 c6 => Q .ret (St1 x7 c6)) (fun c6 => Q (.exit 0) (St4 c6)) n x2 x59 c3 c4 c6 c15
 | 0, _, _, _, _, _, _ => rfl
 | n + 1, x2, x59, c3, c4, c6, c15 => (iter_succ _ _ _).trans ((l0s_eq k _ Q x2 x59 c3 c4 c6 c15).trans (congrArg (fun N => l0s N (fun x7 c6 => Q .ret (St1 x7 c6)) (fun c6 => Q (.exit 0) (St4 c6)) x2 x59 c3 c4 c6 c15) (by funext; exact l0_eq k Q n _ _ _ _ _ _)))
theorem l0_congr (k : Nat) (Rt : Int -> D13 -> Option α) (Xt0 : D13 -> Option α) (Rtq : Int -> D13 -> Option α) (Xt0q : D13 -> Option α) (hRt : ∀ (x7 : Int) (c6 : D13), Rt x7 c6 = Rtq x7 c6) (hXt0 : ∀ (c6 : D13), Xt0 c6 = Xt0q c6) (n : Nat) (x2 : Bool) (x59 : Int) (c3 : D12) (c4 : D1) (c6 : D13) (c15 : D1) : l0 k Rt Xt0 n x2 x59 c3 c4 c6 c15 = l0 k Rtq Xt0q n x2 x59 c3 c4 c6 c15 := by
 obtain rfl : Rt = Rtq := by funext x7; funext c6; exact hRt x7 c6
 obtain rfl : Xt0 = Xt0q := by funext c6; exact hXt0 c6
 rfl
noncomputable def cd2 : Code := cR (cR (cR (cR (cR (cR (cR (cR (cR (cB Tryz.f66)))))))))
def St5 (c6 : D13) : St := stL 82 [(6, .ref 6 0 [])] [(6, .cell T45 (.data T45 c6) false)]
def j1 (Rt : Int -> D13 -> Option α) (c6 : D13) : Option α :=
 Rt 16 ([0, 0, 0, 0], [0, 0, 0, 0], false, ())
theorem j1_eq (k : Nat) (Q : Ex -> St -> Option α) (c6 : D13) :
  (den C k) cd2 Q (St5 c6) = j1 (fun x7 c6 => Q .ret (St1 x7 c6)) c6 := plainly Js (by kernel_rfl)
theorem a0 (k : Nat) (Q : Ex -> St -> Option α) (x2 : Bool) (x59 : Int) (c3 : D12) (c4 : D1) (c6 : D13) (c15 : D1) :
  (lp C k) cd1 (blkQ C 0 (sq (den C k) (lp C k) Js C cd2 Q)) (St3 x2 x59 c3 c4 c6 c15) = l0 k (fun x7 c6 => (fun x7 c6 => Q .ret (St1 x7 c6)) x7 c6) (fun c6 => j1 (fun x7 c6 => Q .ret (St1 x7 c6)) c6) k x2 x59 c3 c4 c6 c15 :=
 (lp_iter 39 (by kernel_rfl)).trans ((l0_eq k _ k x2 x59 c3 c4 c6 c15).trans (l0_congr k _ _ _ _ (fun x7 c6 => (by kernel_rfl)) (fun c6 => (Eq.trans (b := (den C k) cd2 Q (St5 c6)) (by kernel_rfl) (by simp only [j1_eq]))) k x2 x59 c3 c4 c6 c15))
def j0 (k : Nat) (Rt : Int -> D13 -> Option α) (x2 : Bool) (c3 : D12) (c4 : D1) (c6 : D13) (c12 : D1) : Option α :=
 (basculeref_right.run c3 c4).bind fun y8 =>
 (basculeref_power.run y8 c12 c3.1).bind fun y9 =>
 l0 k (fun x7 c6 => Rt x7 c6) (fun c6 => j1 Rt c6) k x2 0 c3 c4 c6 y9
theorem j0_eq (k : Nat) (Q : Ex -> St -> Option α) (x2 : Bool) (c3 : D12) (c4 : D1) (c6 : D13) (c12 : D1) :
  (den C k) cd0 Q (St2 x2 c3 c4 c6 c12) = j0 k (fun x7 c6 => Q .ret (St1 x7 c6)) x2 c3 c4 c6 c12 := by
 have h : ∀ (D L : DT α), denJ D L Js C cd0 Q (St2 x2 c3 c4 c6 c12) =
    (basculeref_right.run c3 c4).bind fun y8 =>
    (basculeref_power.run y8 c12 c3.1).bind fun y9 =>
    L cd1 (blkQ C 0 (sq D L Js C cd2 Q)) (St3 x2 0 c3 c4 c6 y9) := by
  intro D L; kernel_rfl
 have h2 := via (k := k) h
 refine h2.trans ?_
 simp only [a0]
 first | rfl | kernel_rfl
def top (k : Nat) (Rt : Int -> D13 -> Option α) (x0 : D12) (x1 : D1) (x2 : Bool) : Option α :=
 (basculeref_CurveFault.run x0).bind fun y1 =>
 if (y1 != 0) = true then
  Rt y1 ([0, 0, 0, 0], [0, 0, 0, 0], false, ())
 else
  (basculeref_Order.run x1 x0.1).bind fun y2 =>
  if (decide (y2 >= 0)) = true then
   Rt 6 ([0, 0, 0, 0], [0, 0, 0, 0], false, ())
  else
   (basculeref_of.run x0.1).bind fun y3 =>
   (basculeref_plus.run y3 [1]).bind fun y4 =>
   (basculeref_wide.run y4).bind fun y5 =>
   (basculeref_Order.run y5.1 x0.1).bind fun y6 =>
   (basculeref_Quotient.run y5.1 [4, 0, 0, 0]).bind fun y7 =>
   if (decide (y6 < 0)) = true then
    j0 k Rt x2 x0 x1 ([0, 0, 0, 0], [0, 0, 0, 0], false, ()) [0, 0, 0, 4611686018427387904]
   else
    j0 k Rt x2 x0 x1 ([0, 0, 0, 0], [0, 0, 0, 0], false, ()) y7.1
theorem top_eq (k : Nat) (Q : Ex -> St -> Option α) (x0 : D12) (x1 : D1) (x2 : Bool) :
  (den C k) (cB Tryz.f66) Q (St0 x0 x1 x2) = top k (fun x7 c6 => Q .ret (St1 x7 c6)) x0 x1 x2 := by
 have h : ∀ (D L : DT α), denJ D L Js C (cB Tryz.f66) Q (St0 x0 x1 x2) =
    (basculeref_CurveFault.run x0).bind fun y1 =>
    if (y1 != 0) = true then
     Q .ret (St1 y1 ([0, 0, 0, 0], [0, 0, 0, 0], false, ()))
    else
     (basculeref_Order.run x1 x0.1).bind fun y2 =>
     if (decide (y2 >= 0)) = true then
      Q .ret (St1 6 ([0, 0, 0, 0], [0, 0, 0, 0], false, ()))
     else
      (basculeref_of.run x0.1).bind fun y3 =>
      (basculeref_plus.run y3 [1]).bind fun y4 =>
      (basculeref_wide.run y4).bind fun y5 =>
      (basculeref_Order.run y5.1 x0.1).bind fun y6 =>
      (basculeref_Quotient.run y5.1 [4, 0, 0, 0]).bind fun y7 =>
      if (decide (y6 < 0)) = true then
       D cd0 Q (St2 x2 x0 x1 ([0, 0, 0, 0], [0, 0, 0, 0], false, ()) [0, 0, 0, 4611686018427387904])
      else
       D cd0 Q (St2 x2 x0 x1 ([0, 0, 0, 0], [0, 0, 0, 0], false, ()) y7.1) := by
  intro D L; kernel_rfl
 have h2 := via (k := k) h
 refine h2.trans ?_
 simp only [j0_eq]
 first | rfl | kernel_rfl
def run (x0 : D12) (x1 : D1) (x2 : Bool) : Option D17 := top (α := D13 × Int × Unit) fuel (fun x7 c6 => some (c6, x7, ())) x0 x1 x2
def F : Fn := ⟨T80, T59, true, fun x => run x.1 x.2.1 x.2.2.1⟩
theorem con : Con Tryz.prog 66 F /\ Named Tryz.prog 66 :=
 con_of2 (C := C) (ctx_ok (by kernel_rfl) (by kernel_rfl) (by kernel_rfl) (by kernel_rfl) ⟨.inl basculeref_CurveFault.con, ⟨.inl basculeref_of.con, ⟨.inl basculeref_opposite.con, ⟨.inl basculeref_Order.con, ⟨.inl basculeref_power.con, ⟨.inl basculeref_isOn.con, ⟨.inl basculeref_plus.con, ⟨.inl basculeref_wide.con, ⟨.inl basculeref_Quotient.con, ⟨.inl basculeref_right.con, trivial⟩⟩⟩⟩⟩⟩⟩⟩⟩⟩) (by kernel_rfl) Tryz.func66 (by kernel_rfl) (c := cB Tryz.f66) (by kernel_rfl) (by kernel_rfl) F (fun x => by simp [F, spread, Tryz.ntmps66]) (fun x => (St0 x.1 x.2.1 x.2.2.1)) (fun x => by kernel_rfl) fun x => (top_eq fuel _ x.1 x.2.1 x.2.2.1).trans (by kernel_rfl)
end Go.Bx.basculeref_Lifted
namespace Go.Bx.sign_secret
def Js : List Nat := []
def C : Ctx := ⟨[(4, .bool), (24, T28), (28, T43)], [], [], fnL [(46, wide_Cmp.F)], noSh, [], invL [], [(2, [4])], [], [], 0, 0⟩
def St0 (x0 : D12) (x1 : D1) : St := stL 15 [(0, .data T43 x0), (1, .data T28 x1)] []
def St1 (x4 : Bool) : St := stL 15 [(4, .data .bool x4)] []
def top (Rt : Bool -> Option α) (x0 : D12) (x1 : D1) : Option α :=
 (if ((not (beqD T28 x1 [0, 0, 0, 0])) == true) = true then wide_Cmp.run x1 x0.2.2.2.1 else some 0).bind fun y1 =>
 Rt (cond (not (beqD T28 x1 [0, 0, 0, 0])) (decide (y1 < 0)) false)
theorem top_eq (k : Nat) (Q : Ex -> St -> Option α) (x0 : D12) (x1 : D1) :
  (den C k) (cB Tryz.f25) Q (St0 x0 x1) = top (fun x4 => Q .ret (St1 x4)) x0 x1 := plainly Js (by kernel_rfl)
def run (x0 : D12) (x1 : D1) : Option (Bool) := top (α := Bool) (fun x4 => some x4) x0 x1
def F : Fn := ⟨T52, .bool, false, fun x => run x.1 x.2.1⟩
theorem con : Con Tryz.prog 25 F /\ Named Tryz.prog 25 :=
 con_of2 (C := C) (ctx_ok (by kernel_rfl) (by kernel_rfl) (by kernel_rfl) (by kernel_rfl) ⟨.inl wide_Cmp.con, trivial⟩) (by kernel_rfl) Tryz.func25 (by kernel_rfl) (c := cB Tryz.f25) (by kernel_rfl) (by kernel_rfl) F (fun x => by simp [F, spread, Tryz.ntmps25]) (fun x => (St0 x.1 x.2.1)) (fun x => by kernel_rfl) fun x => (top_eq fuel _ x.1 x.2.1).trans (by kernel_rfl)
end Go.Bx.sign_secret
namespace Go.Bx.basculeref_mayBeSecret
def Js : List Nat := []
def C : Ctx := ⟨[(4, .bool), (24, T28), (28, T43)], [], [], fnL [(39, basculeref_isZero.F), (45, basculeref_Order.F)], noSh, [], invL [], [(2, [4])], [], [], 0, 0⟩
def St0 (x0 : D12) (x1 : D1) : St := stL 15 [(0, .data T43 x0), (1, .data T28 x1)] []
def St1 (x4 : Bool) : St := stL 15 [(4, .data .bool x4)] []
def top (Rt : Bool -> Option α) (x0 : D12) (x1 : D1) : Option α :=
 (basculeref_isZero.run x1).bind fun y1 =>
 (if ((not y1) == true) = true then basculeref_Order.run x1 x0.2.2.2.1 else some 0).bind fun y2 =>
 Rt (cond (not y1) (decide (y2 < 0)) false)
theorem top_eq (k : Nat) (Q : Ex -> St -> Option α) (x0 : D12) (x1 : D1) :
  (den C k) (cB Tryz.f33) Q (St0 x0 x1) = top (fun x4 => Q .ret (St1 x4)) x0 x1 := plainly Js (by kernel_rfl)
def run (x0 : D12) (x1 : D1) : Option (Bool) := top (α := Bool) (fun x4 => some x4) x0 x1
def F : Fn := ⟨T52, .bool, false, fun x => run x.1 x.2.1⟩
theorem con : Con Tryz.prog 33 F /\ Named Tryz.prog 33 :=
 con_of2 (C := C) (ctx_ok (by kernel_rfl) (by kernel_rfl) (by kernel_rfl) (by kernel_rfl) ⟨.inl basculeref_isZero.con, ⟨.inl basculeref_Order.con, trivial⟩⟩) (by kernel_rfl) Tryz.func33 (by kernel_rfl) (c := cB Tryz.f33) (by kernel_rfl) (by kernel_rfl) F (fun x => by simp [F, spread, Tryz.ntmps33]) (fun x => (St0 x.1 x.2.1)) (fun x => by kernel_rfl) fun x => (top_eq fuel _ x.1 x.2.1).trans (by kernel_rfl)
end Go.Bx.basculeref_mayBeSecret
namespace Go.Bx.sign_rest
def Js : List Nat := []
def C : Ctx := ⟨[(24, T28)], [], [], fnL [(73, wide_DivMod.F)], noSh, [], invL [], [(2, [4])], [], [], 0, 0⟩
def St0 (x0 x1 : D1) : St := stL 16 [(0, .data T28 x0), (1, .data T28 x1)] []
def St1 (c4 : D1) : St := stL 16 [(4, .ref 4 0 [])] [(4, .cell T28 (.data T28 c4) false)]
def top (Rt : D1 -> Option α) (x0 x1 : D1) : Option α :=
 (wide_DivMod.run x0 x1).bind fun y1 =>
 Rt y1.2.1
theorem top_eq (k : Nat) (Q : Ex -> St -> Option α) (x0 x1 : D1) :
  (den C k) (cB Tryz.f26) Q (St0 x0 x1) = top (fun c4 => Q .ret (St1 c4)) x0 x1 := plainly Js (by kernel_rfl)
def run (x0 x1 : D1) : Option D1 := top (α := List Int) (fun c4 => some c4) x0 x1
def F : Fn := ⟨T29, T28, false, fun x => run x.1 x.2.1⟩
theorem con : Con Tryz.prog 26 F /\ Named Tryz.prog 26 :=
 con_of2 (C := C) (ctx_ok (by kernel_rfl) (by kernel_rfl) (by kernel_rfl) (by kernel_rfl) ⟨.inl wide_DivMod.con, trivial⟩) (by kernel_rfl) Tryz.func26 (by kernel_rfl) (c := cB Tryz.f26) (by kernel_rfl) (by kernel_rfl) F (fun x => by simp [F, spread, Tryz.ntmps26]) (fun x => (St0 x.1 x.2.1)) (fun x => by kernel_rfl) fun x => (top_eq fuel _ x.1 x.2.1).trans (by kernel_rfl)
end Go.Bx.sign_rest
namespace Go.Bx.sign_low
def Js : List Nat := []
def C : Ctx := ⟨[(4, .bool), (24, T28), (28, T43)], [], [], fnL [(46, wide_Cmp.F), (73, wide_DivMod.F)], noSh, [], invL [], [(2, [4])], [], [], 0, 0⟩
def St0 (x0 : D12) (x1 : D1) : St := stL 20 [(0, .data T43 x0), (1, .data T28 x1)] []
def St1 (x4 : Bool) : St := stL 20 [(4, .data .bool x4)] []
def top (Rt : Bool -> Option α) (x0 : D12) (x1 : D1) : Option α :=
 (wide_DivMod.run x0.2.2.2.1 [2, 0, 0, 0]).bind fun y1 =>
 (wide_Cmp.run x1 y1.1).bind fun y2 =>
 Rt (decide (y2 <= 0))
theorem top_eq (k : Nat) (Q : Ex -> St -> Option α) (x0 : D12) (x1 : D1) :
  (den C k) (cB Tryz.f76) Q (St0 x0 x1) = top (fun x4 => Q .ret (St1 x4)) x0 x1 := plainly Js (by kernel_rfl)
def run (x0 : D12) (x1 : D1) : Option (Bool) := top (α := Bool) (fun x4 => some x4) x0 x1
def F : Fn := ⟨T52, .bool, false, fun x => run x.1 x.2.1⟩
theorem con : Con Tryz.prog 76 F /\ Named Tryz.prog 76 :=
 con_of2 (C := C) (ctx_ok (by kernel_rfl) (by kernel_rfl) (by kernel_rfl) (by kernel_rfl) ⟨.inl wide_Cmp.con, ⟨.inl wide_DivMod.con, trivial⟩⟩) (by kernel_rfl) Tryz.func76 (by kernel_rfl) (c := cB Tryz.f76) (by kernel_rfl) (by kernel_rfl) F (fun x => by simp [F, spread, Tryz.ntmps76]) (fun x => (St0 x.1 x.2.1)) (fun x => by kernel_rfl) fun x => (top_eq fuel _ x.1 x.2.1).trans (by kernel_rfl)
end Go.Bx.sign_low
namespace Go.Bx.sign_formed
def Js : List Nat := []
def C : Ctx := ⟨[(3, T1), (4, .bool), (24, T28), (28, T43), (43, T40)], [], [], fnL [(25, sign_secret.F), (76, sign_low.F)], noSh, [], invL [], [(2, [4])], [], [], 0, 0⟩
def St0 (x0 : D12) (x1 : D5) : St := stL 31 [(0, .data T43 x0), (1, .data T40 x1)] []
def St1 (x4 : Bool) : St := stL 31 [(4, .data .bool x4)] []
def top (Rt : Bool -> Option α) (x0 : D12) (x1 : D5) : Option α :=
 (sign_secret.run x0 x1.1).bind fun y1 =>
 (if (y1 == true) = true then sign_secret.run x0 x1.2.1 else some false).bind fun y2 =>
 (if ((cond y1 y2 false) == true) = true then sign_low.run x0 x1.2.1 else some false).bind fun y3 =>
 Rt (cond (cond (cond (cond y1 y2 false) y3 false) (decide (x1.2.2.1 >= 0)) false) (decide (x1.2.2.1 <= 3)) false)
theorem top_eq (k : Nat) (Q : Ex -> St -> Option α) (x0 : D12) (x1 : D5) :
  (den C k) (cB Tryz.f52) Q (St0 x0 x1) = top (fun x4 => Q .ret (St1 x4)) x0 x1 := plainly Js (by kernel_rfl)
def run (x0 : D12) (x1 : D5) : Option (Bool) := top (α := Bool) (fun x4 => some x4) x0 x1
def F : Fn := ⟨T79, .bool, false, fun x => run x.1 x.2.1⟩
theorem con : Con Tryz.prog 52 F /\ Named Tryz.prog 52 :=
 con_of2 (C := C) (ctx_ok (by kernel_rfl) (by kernel_rfl) (by kernel_rfl) (by kernel_rfl) ⟨.inl sign_secret.con, ⟨.inl sign_low.con, trivial⟩⟩) (by kernel_rfl) Tryz.func52 (by kernel_rfl) (c := cB Tryz.f52) (by kernel_rfl) (by kernel_rfl) F (fun x => by simp [F, spread, Tryz.ntmps52]) (fun x => (St0 x.1 x.2.1)) (fun x => by kernel_rfl) fun x => (top_eq fuel _ x.1 x.2.1).trans (by kernel_rfl)
end Go.Bx.sign_formed
namespace Go.Bx.basculeref_mayBeSign
def Js : List Nat := []
def C : Ctx := ⟨[(3, T1), (4, .bool), (24, T28), (28, T43), (43, T40)], [], [], fnL [(33, basculeref_mayBeSecret.F), (44, basculeref_opposite.F), (45, basculeref_Order.F)], noSh, [], invL [], [(2, [4])], [], [], 0, 0⟩
def St0 (x0 : D12) (x1 : D5) : St := stL 36 [(0, .data T43 x0), (1, .data T40 x1)] []
def St1 (x4 : Bool) : St := stL 36 [(4, .data .bool x4)] []
def top (Rt : Bool -> Option α) (x0 : D12) (x1 : D5) : Option α :=
 (basculeref_mayBeSecret.run x0 x1.1).bind fun y1 =>
 (if (y1 == true) = true then basculeref_mayBeSecret.run x0 x1.2.1 else some false).bind fun y2 =>
 (if ((cond y1 y2 false) == true) = true then basculeref_opposite.run x1.2.1 x0.2.2.2.1 else some [0, 0, 0, 0]).bind fun y3 =>
 (if ((cond y1 y2 false) == true) = true then basculeref_Order.run x1.2.1 y3 else some 0).bind fun y4 =>
 Rt (cond (cond (cond (cond y1 y2 false) (decide (y4 <= 0)) false) (decide (x1.2.2.1 >= 0)) false) (decide (x1.2.2.1 < 4)) false)
theorem top_eq (k : Nat) (Q : Ex -> St -> Option α) (x0 : D12) (x1 : D5) :
  (den C k) (cB Tryz.f63) Q (St0 x0 x1) = top (fun x4 => Q .ret (St1 x4)) x0 x1 := plainly Js (by kernel_rfl)
def run (x0 : D12) (x1 : D5) : Option (Bool) := top (α := Bool) (fun x4 => some x4) x0 x1
def F : Fn := ⟨T79, .bool, false, fun x => run x.1 x.2.1⟩
theorem con : Con Tryz.prog 63 F /\ Named Tryz.prog 63 :=
 con_of2 (C := C) (ctx_ok (by kernel_rfl) (by kernel_rfl) (by kernel_rfl) (by kernel_rfl) ⟨.inl basculeref_mayBeSecret.con, ⟨.inl basculeref_opposite.con, ⟨.inl basculeref_Order.con, trivial⟩⟩⟩) (by kernel_rfl) Tryz.func63 (by kernel_rfl) (c := cB Tryz.f63) (by kernel_rfl) (by kernel_rfl) F (fun x => by simp [F, spread, Tryz.ntmps63]) (fun x => (St0 x.1 x.2.1)) (fun x => by kernel_rfl) fun x => (top_eq fuel _ x.1 x.2.1).trans (by kernel_rfl)
end Go.Bx.basculeref_mayBeSign
namespace Go.Bx.basculeref_big
def Js : List Nat := [8]
def C : Ctx := ⟨[(3, T1), (5, T8), (9, .str), (22, T18), (33, T2)], [], [], fnL [], noSh, [], invL [], [(2, [4]), (1, [5]), (4, [0, 5, 6, 7]), (9, [0, 5, 6, 7]), (21, [5])], [], [], 0, 0⟩
def St0 (x0 x1 : Int) : St := stL 19 [(0, .data T18 x0), (1, .data T1 x1)] []
def St1 (x0 : Int) (x5 : D1) (x6 x7 : Int) : St := stL 19 [(0, .data T18 x0), (5, .data .str x5), (6, .data T1 x6), (7, .data T1 x7)] []
noncomputable def cd0 : Code := cL (cL (cR (cL (cR (cR (cB Tryz.f38))))))
def St2 (x5 : D1) : St := stL 19 [(5, .data .str x5)] []
def l0s (Nx : Int -> D1 -> Int -> Int -> Option α) (Xt0 : D1 -> Option α) (x0 : Int) (x5 : D1) (x6 x7 : Int) : Option α :=
 if (decide (x7 < x6)) = true then
  if Nat.ble (1 + x5.length) 9223372036854775807 = true then
   Nx (shrI .u64 x0 8) ([(IntKind.u8.wrap x0)] ++ x5) x6 (IntKind.i64.wrap (x7 + 1))
  else none
 else
  Xt0 x5
theorem l0s_eq (k : Nat) (next : St -> Option α) (Q : Ex -> St -> Option α) (x0 : Int) (x5 : D1) (x6 x7 : Int) :
  rnd C k cd0 9 Q next (St1 x0 x5 x6 x7) = l0s (fun x0 x5 x6 x7 => next (St1 x0 x5 x6 x7)) (fun x5 => Q (.exit 0) (St2 x5)) x0 x5 x6 x7 := plainly Js (by kernel_rfl)
def l0 (k : Nat) (Xt0 : D1 -> Option α) : Nat -> Int -> D1 -> Int -> Int -> Option α
 | 0, _, _, _, _ => none
 | n + 1, x0, x5, x6, x7 => l0s (l0 k Xt0 n) Xt0 x0 x5 x6 x7
theorem l0_eq (k : Nat) (Q : Ex -> St -> Option α) : ∀ (n : Nat) (x0 : Int) (x5 : D1) (x6 x7 : Int), iter (rnd C k cd0 9 Q) n (St1 x0 x5 x6 x7) = l0 k (fun x5 => Q (.exit 0) (St2 x5)) n x0 x5 x6 x7
 | 0, _, _, _, _ => rfl
 | n + 1, x0, x5, x6, x7 => (iter_succ _ _ _).trans ((l0s_eq k _ Q x0 x5 x6 x7).trans (congrArg (fun N => l0s N (fun x5 => Q (.exit 0) (St2 x5)) x0 x5 x6 x7) (by funext; exact l0_eq k Q n _ _ _ _)))
noncomputable def cd1 : Code := cR (cR (cR (cB Tryz.f38)))
def St3 (x5 : D1) : St := stL 19 [(5, .data .str x5)] []
def St4 (x4 : D1) : St := stL 19 [(4, .data .str x4)] []
def j0 (Rt : D1 -> Option α) (x5 : D1) : Option α :=
 Rt x5
theorem j0_eq (k : Nat) (Q : Ex -> St -> Option α) (x5 : D1) :
  (den C k) cd1 Q (St3 x5) = j0 (fun x4 => Q .ret (St4 x4)) x5 := plainly Js (by kernel_rfl)
theorem a0 (k : Nat) (Q : Ex -> St -> Option α) (x0 : Int) (x5 : D1) (x6 x7 : Int) :
  (lp C k) cd0 (blkQ C 0 (sq (den C k) (lp C k) Js C cd1 Q)) (St1 x0 x5 x6 x7) = l0 k (fun x5 => j0 (fun x4 => Q .ret (St4 x4)) x5) k x0 x5 x6 x7 :=
 (lp_iter 9 (by kernel_rfl)).trans ((l0_eq k _ k x0 x5 x6 x7).trans (congrArg (fun X => l0 k X k x0 x5 x6 x7) (funext fun x5 => (Eq.trans (b := (den C k) cd1 Q (St3 x5)) (by kernel_rfl) (by simp only [j0_eq])))))
def top (k : Nat) (Rt : D1 -> Option α) (x0 x1 : Int) : Option α :=
 l0 k (fun x5 => j0 Rt x5) k x0 [] x1 0
theorem top_eq (k : Nat) (Q : Ex -> St -> Option α) (x0 x1 : Int) :
  (den C k) (cB Tryz.f38) Q (St0 x0 x1) = top k (fun x4 => Q .ret (St4 x4)) x0 x1 := by
 have h : ∀ (D L : DT α), denJ D L Js C (cB Tryz.f38) Q (St0 x0 x1) =
    L cd0 (blkQ C 0 (sq D L Js C cd1 Q)) (St1 x0 [] x1 0) := by
  intro D L; kernel_rfl
 have h2 := via (k := k) h
 refine h2.trans ?_
 simp only [a0]
 first | rfl | kernel_rfl
def run (x0 x1 : Int) : Option D1 := top (α := List Int) fuel (fun x4 => some x4) x0 x1
def F : Fn := ⟨T19, .str, false, fun x => run x.1 x.2.1⟩
theorem con : Con Tryz.prog 38 F /\ Named Tryz.prog 38 :=
 con_of2 (C := C) (ctx_ok (by kernel_rfl) (by kernel_rfl) (by kernel_rfl) (by kernel_rfl) trivial) (by kernel_rfl) Tryz.func38 (by kernel_rfl) (c := cB Tryz.f38) (by kernel_rfl) (by kernel_rfl) F (fun x => by simp [F, spread, Tryz.ntmps38]) (fun x => (St0 x.1 x.2.1)) (fun x => by kernel_rfl) fun x => (top_eq fuel _ x.1 x.2.1).trans (by kernel_rfl)
end Go.Bx.basculeref_big
namespace Go.Bx.wide_From
def Js : List Nat := [9]
def C : Ctx := ⟨[(5, T8), (22, T18), (24, T28), (39, T3)], [], [], fnL [], noSh, [], invL [], [(2, [2]), (1, [2, 3]), (4, [2, 3, 7, 8]), (9, [2, 3, 7, 8]), (24, [2, 3])], [], [], 0, 0⟩
def St0 (x0 : D1) : St := stL 28 [(0, .data T3 x0)] []
def St1 (x7 : D1) (x8 : Int) (c2 c3 : D1) : St := stL 28 [(2, .ref 2 0 []), (3, .ref 3 0 []), (7, .data T3 x7), (8, .data T1 x8)] [(2, .cell T28 (.data T28 c2) false), (3, .cell T28 (.data T28 c3) false)]
noncomputable def cd0 : Code := cL (cL (cR (cL (cR (cR (cB Tryz.f27))))))
def St2 (c2 c3 : D1) : St := stL 28 [(2, .ref 2 0 []), (3, .ref 3 0 [])] [(2, .cell T28 (.data T28 c2) false), (3, .cell T28 (.data T28 c3) false)]
def l0s (Nx : D1 -> Int -> D1 -> D1 -> Option α) (Xt0 : D1 -> D1 -> Option α) (x7 : D1) (x8 : Int) (c2 c3 : D1) : Option α :=
 if (decide (x8 < 32)) = true then
  if 0 <= x8 /\ x8 < (32 : Int) then
   if 0 <= (IntKind.i64.wrap (Int.tdiv (IntKind.i64.wrap (31 - x8)) 8)) /\ (IntKind.i64.wrap (Int.tdiv (IntKind.i64.wrap (31 - x8)) 8)) < (4 : Int) then
    if 0 <= (IntKind.i64.wrap (8 * (Int.tmod (IntKind.i64.wrap (31 - x8)) 8))) then
     if 0 <= (IntKind.i64.wrap (Int.tdiv (IntKind.i64.wrap (31 - x8)) 8)) /\ (IntKind.i64.wrap (Int.tdiv (IntKind.i64.wrap (31 - x8)) 8)) < (4 : Int) then
      Nx x7 (IntKind.i64.wrap (x8 + 1)) c2 (List.set c3 (Int.toNat (IntKind.i64.wrap (Int.tdiv (IntKind.i64.wrap (31 - x8)) 8))) (bor .u64 (List.getD c3 (Int.toNat (IntKind.i64.wrap (Int.tdiv (IntKind.i64.wrap (31 - x8)) 8))) 0) (shlI .u64 (IntKind.u64.wrap (List.getD x7 (Int.toNat x8) 0)) (IntKind.i64.wrap (8 * (Int.tmod (IntKind.i64.wrap (31 - x8)) 8))))))
     else none
    else none
   else none
  else none
 else
  Xt0 c2 c3
theorem l0s_eq (k : Nat) (next : St -> Option α) (Q : Ex -> St -> Option α) (x7 : D1) (x8 : Int) (c2 c3 : D1) :
  rnd C k cd0 9 Q next (St1 x7 x8 c2 c3) = l0s (fun x7 x8 c2 c3 => next (St1 x7 x8 c2 c3)) (fun c2 c3 => Q (.exit 0) (St2 c2 c3)) x7 x8 c2 c3 := plainly Js (by kernel_rfl)
def l0 (k : Nat) (Xt0 : D1 -> D1 -> Option α) : Nat -> D1 -> Int -> D1 -> D1 -> Option α
 | 0, _, _, _, _ => none
 | n + 1, x7, x8, c2, c3 => l0s (l0 k Xt0 n) Xt0 x7 x8 c2 c3
theorem l0_eq (k : Nat) (Q : Ex -> St -> Option α) : ∀ (n : Nat) (x7 : D1) (x8 : Int) (c2 c3 : D1), iter (rnd C k cd0 9 Q) n (St1 x7 x8 c2 c3) = l0 k (fun c2 c3 => Q (.exit 0) (St2 c2 c3)) n x7 x8 c2 c3
 | 0, _, _, _, _ => rfl
 | n + 1, x7, x8, c2, c3 => (iter_succ _ _ _).trans ((l0s_eq k _ Q x7 x8 c2 c3).trans (congrArg (fun N => l0s N (fun c2 c3 => Q (.exit 0) (St2 c2 c3)) x7 x8 c2 c3) (by funext; exact l0_eq k Q n _ _ _ _)))
noncomputable def cd1 : Code := cR (cR (cR (cB Tryz.f27)))
def St3 (c2 c3 : D1) : St := stL 28 [(2, .ref 2 0 []), (3, .ref 3 0 [])] [(2, .cell T28 (.data T28 c2) false), (3, .cell T28 (.data T28 c3) false)]
def St4 (c2 : D1) : St := stL 28 [(2, .ref 2 0 [])] [(2, .cell T28 (.data T28 c2) false)]
def j0 (Rt : D1 -> Option α) (c2 c3 : D1) : Option α :=
 Rt c3
theorem j0_eq (k : Nat) (Q : Ex -> St -> Option α) (c2 c3 : D1) :
  (den C k) cd1 Q (St3 c2 c3) = j0 (fun c2 => Q .ret (St4 c2)) c2 c3 := plainly Js (by kernel_rfl)
theorem a0 (k : Nat) (Q : Ex -> St -> Option α) (x7 : D1) (x8 : Int) (c2 c3 : D1) :
  (lp C k) cd0 (blkQ C 0 (sq (den C k) (lp C k) Js C cd1 Q)) (St1 x7 x8 c2 c3) = l0 k (fun c2 c3 => j0 (fun c2 => Q .ret (St4 c2)) c2 c3) k x7 x8 c2 c3 :=
 (lp_iter 9 (by kernel_rfl)).trans ((l0_eq k _ k x7 x8 c2 c3).trans (congrArg (fun X => l0 k X k x7 x8 c2 c3) (funext fun c2 => funext fun c3 => (Eq.trans (b := (den C k) cd1 Q (St3 c2 c3)) (by kernel_rfl) (by simp only [j0_eq])))))
def top (k : Nat) (Rt : D1 -> Option α) (x0 : D1) : Option α :=
 l0 k (fun c2 c3 => j0 Rt c2 c3) k x0 0 [0, 0, 0, 0] [0, 0, 0, 0]
theorem top_eq (k : Nat) (Q : Ex -> St -> Option α) (x0 : D1) :
  (den C k) (cB Tryz.f27) Q (St0 x0) = top k (fun c2 => Q .ret (St4 c2)) x0 := by
 have h : ∀ (D L : DT α), denJ D L Js C (cB Tryz.f27) Q (St0 x0) =
    L cd0 (blkQ C 0 (sq D L Js C cd1 Q)) (St1 x0 0 [0, 0, 0, 0] [0, 0, 0, 0]) := by
  intro D L; kernel_rfl
 have h2 := via (k := k) h
 refine h2.trans ?_
 simp only [a0]
 first | rfl | kernel_rfl
def run (x0 : D1) : Option D1 := top (α := List Int) fuel (fun c2 => some c2) x0
def F : Fn := ⟨T53, T28, false, fun x => run x.1⟩
theorem con : Con Tryz.prog 27 F /\ Named Tryz.prog 27 :=
 con_of2 (C := C) (ctx_ok (by kernel_rfl) (by kernel_rfl) (by kernel_rfl) (by kernel_rfl) trivial) (by kernel_rfl) Tryz.func27 (by kernel_rfl) (c := cB Tryz.f27) (by kernel_rfl) (by kernel_rfl) F (fun x => by simp [F, spread, Tryz.ntmps27]) (fun x => (St0 x.1)) (fun x => by kernel_rfl) fun x => (top_eq fuel _ x.1).trans (by kernel_rfl)
end Go.Bx.wide_From
namespace Go.Bx.basculeref_FromBytes
def Js : List Nat := [8]
def C : Ctx := ⟨[(5, T8), (22, T18), (24, T28), (39, T3)], [], [], fnL [], noSh, [], invL [], [(2, [2]), (1, [2, 3]), (4, [2, 3, 6, 7]), (9, [2, 3, 6, 7]), (21, [2, 3])], [], [], 0, 0⟩
def St0 (x0 : D1) : St := stL 26 [(0, .data T3 x0)] []
def St1 (x6 : D1) (x7 : Int) (c2 c3 : D1) : St := stL 26 [(2, .ref 2 0 []), (3, .ref 3 0 []), (6, .data T3 x6), (7, .data T1 x7)] [(2, .cell T28 (.data T28 c2) false), (3, .cell T28 (.data T28 c3) false)]
noncomputable def cd0 : Code := cL (cL (cR (cL (cR (cR (cB Tryz.f36))))))
def St2 (c2 c3 : D1) : St := stL 26 [(2, .ref 2 0 []), (3, .ref 3 0 [])] [(2, .cell T28 (.data T28 c2) false), (3, .cell T28 (.data T28 c3) false)]
def l0s (Nx : D1 -> Int -> D1 -> D1 -> Option α) (Xt0 : D1 -> D1 -> Option α) (x6 : D1) (x7 : Int) (c2 c3 : D1) : Option α :=
 if (decide (x7 < 32)) = true then
  if 0 <= x7 /\ x7 < (32 : Int) then
   if 0 <= (IntKind.i64.wrap (3 - (IntKind.i64.wrap (Int.tdiv x7 8)))) /\ (IntKind.i64.wrap (3 - (IntKind.i64.wrap (Int.tdiv x7 8)))) < (4 : Int) then
    if 0 <= (IntKind.i64.wrap (3 - (IntKind.i64.wrap (Int.tdiv x7 8)))) /\ (IntKind.i64.wrap (3 - (IntKind.i64.wrap (Int.tdiv x7 8)))) < (4 : Int) then
     Nx x6 (IntKind.i64.wrap (x7 + 1)) c2 (List.set c3 (Int.toNat (IntKind.i64.wrap (3 - (IntKind.i64.wrap (Int.tdiv x7 8))))) (IntKind.u64.wrap ((IntKind.u64.wrap ((List.getD c3 (Int.toNat (IntKind.i64.wrap (3 - (IntKind.i64.wrap (Int.tdiv x7 8))))) 0) * 256)) + (IntKind.u64.wrap (List.getD x6 (Int.toNat x7) 0)))))
    else none
   else none
  else none
 else
  Xt0 c2 c3
theorem l0s_eq (k : Nat) (next : St -> Option α) (Q : Ex -> St -> Option α) (x6 : D1) (x7 : Int) (c2 c3 : D1) :
  rnd C k cd0 9 Q next (St1 x6 x7 c2 c3) = l0s (fun x6 x7 c2 c3 => next (St1 x6 x7 c2 c3)) (fun c2 c3 => Q (.exit 0) (St2 c2 c3)) x6 x7 c2 c3 := plainly Js (by kernel_rfl)
def l0 (k : Nat) (Xt0 : D1 -> D1 -> Option α) : Nat -> D1 -> Int -> D1 -> D1 -> Option α
 | 0, _, _, _, _ => none
 | n + 1, x6, x7, c2, c3 => l0s (l0 k Xt0 n) Xt0 x6 x7 c2 c3
theorem l0_eq (k : Nat) (Q : Ex -> St -> Option α) : ∀ (n : Nat) (x6 : D1) (x7 : Int) (c2 c3 : D1), iter (rnd C k cd0 9 Q) n (St1 x6 x7 c2 c3) = l0 k (fun c2 c3 => Q (.exit 0) (St2 c2 c3)) n x6 x7 c2 c3
 | 0, _, _, _, _ => rfl
 | n + 1, x6, x7, c2, c3 => (iter_succ _ _ _).trans ((l0s_eq k _ Q x6 x7 c2 c3).trans (congrArg (fun N => l0s N (fun c2 c3 => Q (.exit 0) (St2 c2 c3)) x6 x7 c2 c3) (by funext; exact l0_eq k Q n _ _ _ _)))
noncomputable def cd1 : Code := cR (cR (cR (cB Tryz.f36)))
def St3 (c2 c3 : D1) : St := stL 26 [(2, .ref 2 0 []), (3, .ref 3 0 [])] [(2, .cell T28 (.data T28 c2) false), (3, .cell T28 (.data T28 c3) false)]
def St4 (c2 : D1) : St := stL 26 [(2, .ref 2 0 [])] [(2, .cell T28 (.data T28 c2) false)]
def j0 (Rt : D1 -> Option α) (c2 c3 : D1) : Option α :=
 Rt c3
theorem j0_eq (k : Nat) (Q : Ex -> St -> Option α) (c2 c3 : D1) :
  (den C k) cd1 Q (St3 c2 c3) = j0 (fun c2 => Q .ret (St4 c2)) c2 c3 := plainly Js (by kernel_rfl)
theorem a0 (k : Nat) (Q : Ex -> St -> Option α) (x6 : D1) (x7 : Int) (c2 c3 : D1) :
  (lp C k) cd0 (blkQ C 0 (sq (den C k) (lp C k) Js C cd1 Q)) (St1 x6 x7 c2 c3) = l0 k (fun c2 c3 => j0 (fun c2 => Q .ret (St4 c2)) c2 c3) k x6 x7 c2 c3 :=
 (lp_iter 9 (by kernel_rfl)).trans ((l0_eq k _ k x6 x7 c2 c3).trans (congrArg (fun X => l0 k X k x6 x7 c2 c3) (funext fun c2 => funext fun c3 => (Eq.trans (b := (den C k) cd1 Q (St3 c2 c3)) (by kernel_rfl) (by simp only [j0_eq])))))
def top (k : Nat) (Rt : D1 -> Option α) (x0 : D1) : Option α :=
 l0 k (fun c2 c3 => j0 Rt c2 c3) k x0 0 [0, 0, 0, 0] [0, 0, 0, 0]
theorem top_eq (k : Nat) (Q : Ex -> St -> Option α) (x0 : D1) :
  (den C k) (cB Tryz.f36) Q (St0 x0) = top k (fun c2 => Q .ret (St4 c2)) x0 := by
 have h : ∀ (D L : DT α), denJ D L Js C (cB Tryz.f36) Q (St0 x0) =
    L cd0 (blkQ C 0 (sq D L Js C cd1 Q)) (St1 x0 0 [0, 0, 0, 0] [0, 0, 0, 0]) := by
  intro D L; kernel_rfl
 have h2 := via (k := k) h
 refine h2.trans ?_
 simp only [a0]
 first | rfl | kernel_rfl
def run (x0 : D1) : Option D1 := top (α := List Int) fuel (fun c2 => some c2) x0
def F : Fn := ⟨T53, T28, false, fun x => run x.1⟩
theorem con : Con Tryz.prog 36 F /\ Named Tryz.prog 36 :=
 con_of2 (C := C) (ctx_ok (by kernel_rfl) (by kernel_rfl) (by kernel_rfl) (by kernel_rfl) trivial) (by kernel_rfl) Tryz.func36 (by kernel_rfl) (c := cB Tryz.f36) (by kernel_rfl) (by kernel_rfl) F (fun x => by simp [F, spread, Tryz.ntmps36]) (fun x => (St0 x.1)) (fun x => by kernel_rfl) fun x => (top_eq fuel _ x.1).trans (by kernel_rfl)
end Go.Bx.basculeref_FromBytes
namespace Go.Bx.sign_Recover
def Js : List Nat := [10]
def C : Ctx := ⟨[(3, T1), (4, .bool), (24, T28), (26, T45), (28, T43), (39, T3), (43, T40), (44, T1)], [], [], fnL [(15, curve_Check.F), (26, sign_rest.F), (27, wide_From.F), (46, wide_Cmp.F), (52, sign_formed.F), (53, wide_Add.F), (54, curve_Lift.F), (55, field_Inv.F), (56, field_Mul.F), (57, field_Sub.F), (58, sign_sum2.F)], noSh, [], invL [], [(2, [6, 7]), (27, [3, 4, 5, 6, 9, 10])], [], [], 0, 0⟩
def St0 (x0 : D12) (x1 : D1) (x2 : D5) : St := stL 122 [(0, .data T43 x0), (1, .data T3 x1), (2, .data T40 x2)] []
def St1 (x7 : Int) (c6 : D13) : St := stL 122 [(6, .ref 6 0 []), (7, .data T1 x7)] [(6, .cell T45 (.data T45 c6) false)]
def St2 (x10 : Bool) (c3 : D12) (c4 : D1) (c5 : D5) (c6 : D13) (c9 : D1) : St := stL 122 [(3, .ref 3 0 []), (4, .ref 4 0 []), (5, .ref 5 0 []), (6, .ref 6 0 []), (9, .ref 9 0 []), (10, .data .bool x10)] [(3, .cell T43 (.data T43 c3) false), (4, .cell T3 (.data T3 c4) false), (5, .cell T40 (.data T40 c5) false), (6, .cell T45 (.data T45 c6) false), (9, .cell T28 (.data T28 c9) false)]
noncomputable def cd0 : Code := cR (cR (cR (cR (cR (cB Tryz.f17)))))
def j0 (Rt : Int -> D13 -> Option α) (x10 : Bool) (c3 : D12) (c4 : D1) (c5 : D5) (c6 : D13) (c9 : D1) : Option α :=
 (if (x10 == false) = true then wide_Cmp.run c9 c3.1 else some 0).bind fun y4 =>
 if (cond x10 true (decide (y4 >= 0))) = true then
  Rt 10 ([0, 0, 0, 0], [0, 0, 0, 0], false, ())
 else
  (curve_Lift.run c3 c9 ((Int.tmod c5.2.2.1 2) == 1)).bind fun y5 =>
  if (y5.2.1 != 0) = true then
   Rt 10 ([0, 0, 0, 0], [0, 0, 0, 0], false, ())
  else
   (field_Inv.run c5.1 c3.2.2.2.1).bind fun y6 =>
   if (y6.2.1 != 0) = true then
    Rt 16 ([0, 0, 0, 0], [0, 0, 0, 0], false, ())
   else
    (field_Mul.run c5.2.1 y6.1 c3.2.2.2.1).bind fun y7 =>
    (wide_From.run c4).bind fun y8 =>
    (sign_rest.run y8 c3.2.2.2.1).bind fun y9 =>
    (field_Mul.run y9 y6.1 c3.2.2.2.1).bind fun y10 =>
    (field_Sub.run [0, 0, 0, 0] y10.1 c3.2.2.2.1).bind fun y11 =>
    (sign_sum2.run c3 y7.1 y5.1 y11.1 c3.2.2.2.2.1).bind fun y12 =>
    if (y12.2.1 != 0) = true then
     Rt y12.2.1 ([0, 0, 0, 0], [0, 0, 0, 0], false, ())
    else
     if y12.1.2.2.1 = true then
      Rt 10 ([0, 0, 0, 0], [0, 0, 0, 0], false, ())
     else
      Rt 0 y12.1
theorem j0_eq (k : Nat) (Q : Ex -> St -> Option α) (x10 : Bool) (c3 : D12) (c4 : D1) (c5 : D5) (c6 : D13) (c9 : D1) :
  (den C k) cd0 Q (St2 x10 c3 c4 c5 c6 c9) = j0 (fun x7 c6 => Q .ret (St1 x7 c6)) x10 c3 c4 c5 c6 c9 := plainly Js (by kernel_rfl)
def top (Rt : Int -> D13 -> Option α) (x0 : D12) (x1 : D1) (x2 : D5) : Option α :=
 (curve_Check.run x0).bind fun y1 =>
 if (y1 != 0) = true then
  Rt y1 ([0, 0, 0, 0], [0, 0, 0, 0], false, ())
 else
  (sign_formed.run x0 x2).bind fun y2 =>
  if (not y2) = true then
   Rt 10 ([0, 0, 0, 0], [0, 0, 0, 0], false, ())
  else
   if (decide (x2.2.2.1 >= 2)) = true then
    (wide_Add.run x2.1 x0.2.2.2.1).bind fun y3 =>
    j0 Rt y3.2.1 x0 x1 x2 ([0, 0, 0, 0], [0, 0, 0, 0], false, ()) y3.1
   else
    j0 Rt false x0 x1 x2 ([0, 0, 0, 0], [0, 0, 0, 0], false, ()) x2.1
theorem top_eq (k : Nat) (Q : Ex -> St -> Option α) (x0 : D12) (x1 : D1) (x2 : D5) :
  (den C k) (cB Tryz.f17) Q (St0 x0 x1 x2) = top (fun x7 c6 => Q .ret (St1 x7 c6)) x0 x1 x2 := by
 have h : ∀ (D L : DT α), denJ D L Js C (cB Tryz.f17) Q (St0 x0 x1 x2) =
    (curve_Check.run x0).bind fun y1 =>
    if (y1 != 0) = true then
     Q .ret (St1 y1 ([0, 0, 0, 0], [0, 0, 0, 0], false, ()))
    else
     (sign_formed.run x0 x2).bind fun y2 =>
     if (not y2) = true then
      Q .ret (St1 10 ([0, 0, 0, 0], [0, 0, 0, 0], false, ()))
     else
      if (decide (x2.2.2.1 >= 2)) = true then
       (wide_Add.run x2.1 x0.2.2.2.1).bind fun y3 =>
       D cd0 Q (St2 y3.2.1 x0 x1 x2 ([0, 0, 0, 0], [0, 0, 0, 0], false, ()) y3.1)
      else
       D cd0 Q (St2 false x0 x1 x2 ([0, 0, 0, 0], [0, 0, 0, 0], false, ()) x2.1) := by
  intro D L; kernel_rfl
 have h2 := via (k := k) h
 refine h2.trans ?_
 simp only [j0_eq]
 first | rfl | kernel_rfl
def run (x0 : D12) (x1 : D1) (x2 : D5) : Option D17 := top (α := D13 × Int × Unit) (fun x7 c6 => some (c6, x7, ())) x0 x1 x2
def F : Fn := ⟨T82, T59, true, fun x => run x.1 x.2.1 x.2.2.1⟩
theorem con : Con Tryz.prog 17 F /\ Named Tryz.prog 17 :=
 con_of2 (C := C) (ctx_ok (by kernel_rfl) (by kernel_rfl) (by kernel_rfl) (by kernel_rfl) ⟨.inl curve_Check.con, ⟨.inl sign_rest.con, ⟨.inl wide_From.con, ⟨.inl wide_Cmp.con, ⟨.inl sign_formed.con, ⟨.inl wide_Add.con, ⟨.inl curve_Lift.con, ⟨.inl field_Inv.con, ⟨.inl field_Mul.con, ⟨.inl field_Sub.con, ⟨.inl sign_sum2.con, trivial⟩⟩⟩⟩⟩⟩⟩⟩⟩⟩⟩) (by kernel_rfl) Tryz.func17 (by kernel_rfl) (c := cB Tryz.f17) (by kernel_rfl) (by kernel_rfl) F (fun x => by simp [F, spread, Tryz.ntmps17]) (fun x => (St0 x.1 x.2.1 x.2.2.1)) (fun x => by kernel_rfl) fun x => (top_eq fuel _ x.1 x.2.1 x.2.2.1).trans (by kernel_rfl)
end Go.Bx.sign_Recover
namespace Go.Bx.basculeref_Recovered
def Js : List Nat := [10]
def C : Ctx := ⟨[(3, T1), (4, .bool), (24, T28), (26, T45), (28, T43), (39, T3), (43, T40), (44, T1)], [], [], fnL [(19, basculeref_CurveFault.F), (34, basculeref_rest.F), (35, basculeref_of.F), (36, basculeref_FromBytes.F), (41, basculeref_inverse.F), (42, basculeref_product.F), (44, basculeref_opposite.F), (45, basculeref_Order.F), (63, basculeref_mayBeSign.F), (64, basculeref_plus.F), (65, basculeref_wide.F), (66, basculeref_Lifted.F), (67, basculeref_both.F)], noSh, [], invL [], [(2, [6, 7]), (27, [3, 4, 5, 6, 9])], [], [], 0, 0⟩
def St0 (x0 : D12) (x1 : D1) (x2 : D5) : St := stL 111 [(0, .data T43 x0), (1, .data T3 x1), (2, .data T40 x2)] []
def St1 (x7 : Int) (c6 : D13) : St := stL 111 [(6, .ref 6 0 []), (7, .data T1 x7)] [(6, .cell T45 (.data T45 c6) false)]
def St2 (x9 : D1) (c3 : D12) (c4 : D1) (c5 : D5) (c6 : D13) : St := stL 111 [(3, .ref 3 0 []), (4, .ref 4 0 []), (5, .ref 5 0 []), (6, .ref 6 0 []), (9, .data T73 x9)] [(3, .cell T43 (.data T43 c3) false), (4, .cell T3 (.data T3 c4) false), (5, .cell T40 (.data T40 c5) false), (6, .cell T45 (.data T45 c6) false)]
noncomputable def cd0 : Code := cR (cR (cR (cR (cR (cB Tryz.f21)))))
def j0 (Rt : Int -> D13 -> Option α) (x9 : D1) (c3 : D12) (c4 : D1) (c5 : D5) (c6 : D13) : Option α :=
 (basculeref_wide.run x9).bind fun y6 =>
 (if (y6.2.1 == false) = true then basculeref_Order.run y6.1 c3.1 else some 0).bind fun y7 =>
 if (cond y6.2.1 true (decide (y7 >= 0))) = true then
  Rt 10 ([0, 0, 0, 0], [0, 0, 0, 0], false, ())
 else
  (basculeref_Lifted.run c3 y6.1 ((band .i64 c5.2.2.1 1) == 1)).bind fun y8 =>
  if (y8.2.1 != 0) = true then
   Rt 10 ([0, 0, 0, 0], [0, 0, 0, 0], false, ())
  else
   (basculeref_inverse.run c5.1 c3.2.2.2.1).bind fun y9 =>
   if (not y9.2.1) = true then
    Rt 16 ([0, 0, 0, 0], [0, 0, 0, 0], false, ())
   else
    (basculeref_product.run c5.2.1 y9.1 c3.2.2.2.1).bind fun y10 =>
    (basculeref_FromBytes.run c4).bind fun y11 =>
    (basculeref_of.run y11).bind fun y12 =>
    (basculeref_rest.run y12 c3.2.2.2.1).bind fun y13 =>
    (basculeref_product.run y13 y9.1 c3.2.2.2.1).bind fun y14 =>
    (basculeref_opposite.run y14 c3.2.2.2.1).bind fun y15 =>
    (basculeref_both.run c3 y10 y8.1 y15 c3.2.2.2.2.1).bind fun y16 =>
    if (not y16.2.1) = true then
     Rt 16 ([0, 0, 0, 0], [0, 0, 0, 0], false, ())
    else
     if y16.1.2.2.1 = true then
      Rt 10 ([0, 0, 0, 0], [0, 0, 0, 0], false, ())
     else
      Rt 0 y16.1
theorem j0_eq (k : Nat) (Q : Ex -> St -> Option α) (x9 : D1) (c3 : D12) (c4 : D1) (c5 : D5) (c6 : D13) :
  (den C k) cd0 Q (St2 x9 c3 c4 c5 c6) = j0 (fun x7 c6 => Q .ret (St1 x7 c6)) x9 c3 c4 c5 c6 := plainly Js (by kernel_rfl)
def top (Rt : Int -> D13 -> Option α) (x0 : D12) (x1 : D1) (x2 : D5) : Option α :=
 (basculeref_CurveFault.run x0).bind fun y1 =>
 if (y1 != 0) = true then
  Rt y1 ([0, 0, 0, 0], [0, 0, 0, 0], false, ())
 else
  (basculeref_mayBeSign.run x0 x2).bind fun y2 =>
  if (not y2) = true then
   Rt 10 ([0, 0, 0, 0], [0, 0, 0, 0], false, ())
  else
   (basculeref_of.run x2.1).bind fun y3 =>
   if (decide (x2.2.2.1 > 1)) = true then
    (basculeref_of.run x0.2.2.2.1).bind fun y4 =>
    (basculeref_plus.run y3 y4).bind fun y5 =>
    j0 Rt y5 x0 x1 x2 ([0, 0, 0, 0], [0, 0, 0, 0], false, ())
   else
    j0 Rt y3 x0 x1 x2 ([0, 0, 0, 0], [0, 0, 0, 0], false, ())
theorem top_eq (k : Nat) (Q : Ex -> St -> Option α) (x0 : D12) (x1 : D1) (x2 : D5) :
  (den C k) (cB Tryz.f21) Q (St0 x0 x1 x2) = top (fun x7 c6 => Q .ret (St1 x7 c6)) x0 x1 x2 := by
 have h : ∀ (D L : DT α), denJ D L Js C (cB Tryz.f21) Q (St0 x0 x1 x2) =
    (basculeref_CurveFault.run x0).bind fun y1 =>
    if (y1 != 0) = true then
     Q .ret (St1 y1 ([0, 0, 0, 0], [0, 0, 0, 0], false, ()))
    else
     (basculeref_mayBeSign.run x0 x2).bind fun y2 =>
     if (not y2) = true then
      Q .ret (St1 10 ([0, 0, 0, 0], [0, 0, 0, 0], false, ()))
     else
      (basculeref_of.run x2.1).bind fun y3 =>
      if (decide (x2.2.2.1 > 1)) = true then
       (basculeref_of.run x0.2.2.2.1).bind fun y4 =>
       (basculeref_plus.run y3 y4).bind fun y5 =>
       D cd0 Q (St2 y5 x0 x1 x2 ([0, 0, 0, 0], [0, 0, 0, 0], false, ()))
      else
       D cd0 Q (St2 y3 x0 x1 x2 ([0, 0, 0, 0], [0, 0, 0, 0], false, ())) := by
  intro D L; kernel_rfl
 have h2 := via (k := k) h
 refine h2.trans ?_
 simp only [j0_eq]
 first | rfl | kernel_rfl
def run (x0 : D12) (x1 : D1) (x2 : D5) : Option D17 := top (α := D13 × Int × Unit) (fun x7 c6 => some (c6, x7, ())) x0 x1 x2
def F : Fn := ⟨T82, T59, true, fun x => run x.1 x.2.1 x.2.2.1⟩
theorem con : Con Tryz.prog 21 F /\ Named Tryz.prog 21 :=
 con_of2 (C := C) (ctx_ok (by kernel_rfl) (by kernel_rfl) (by kernel_rfl) (by kernel_rfl) ⟨.inl basculeref_CurveFault.con, ⟨.inl basculeref_rest.con, ⟨.inl basculeref_of.con, ⟨.inl basculeref_FromBytes.con, ⟨.inl basculeref_inverse.con, ⟨.inl basculeref_product.con, ⟨.inl basculeref_opposite.con, ⟨.inl basculeref_Order.con, ⟨.inl basculeref_mayBeSign.con, ⟨.inl basculeref_plus.con, ⟨.inl basculeref_wide.con, ⟨.inl basculeref_Lifted.con, ⟨.inl basculeref_both.con, trivial⟩⟩⟩⟩⟩⟩⟩⟩⟩⟩⟩⟩⟩) (by kernel_rfl) Tryz.func21 (by kernel_rfl) (c := cB Tryz.f21) (by kernel_rfl) (by kernel_rfl) F (fun x => by simp [F, spread, Tryz.ntmps21]) (fun x => (St0 x.1 x.2.1 x.2.2.1)) (fun x => by kernel_rfl) fun x => (top_eq fuel _ x.1 x.2.1 x.2.2.1).trans (by kernel_rfl)
end Go.Bx.basculeref_Recovered
namespace Go.Bx.math_bits_RotateLeft64
def Js : List Nat := []
def C : Ctx := ⟨[(3, T1), (22, T18), (131, T18)], [], [], fnL [], noSh, [], invL [], [(2, [4])], [], [], 0, 0⟩
def St0 (x0 x1 : Int) : St := stL 17 [(0, .data T18 x0), (1, .data T1 x1)] []
def St1 (x4 : Int) : St := stL 17 [(4, .data T18 x4)] []
def top (Rt : Int -> Option α) (x0 x1 : Int) : Option α :=
 if 0 <= (band .u64 (IntKind.u64.wrap x1) 63) then
  if 0 <= (IntKind.u64.wrap (64 - (band .u64 (IntKind.u64.wrap x1) 63))) then
   Rt (bor .u64 (shlI .u64 x0 (band .u64 (IntKind.u64.wrap x1) 63)) (shrI .u64 x0 (IntKind.u64.wrap (64 - (band .u64 (IntKind.u64.wrap x1) 63)))))
  else none
 else none
theorem top_eq (k : Nat) (Q : Ex -> St -> Option α) (x0 x1 : Int) :
  (den C k) (cB Tryz.f121) Q (St0 x0 x1) = top (fun x4 => Q .ret (St1 x4)) x0 x1 := plainly Js (by kernel_rfl)
def run (x0 x1 : Int) : Option (Int) := top (α := Int) (fun x4 => some x4) x0 x1
def F : Fn := ⟨T19, T18, false, fun x => run x.1 x.2.1⟩
theorem con : Con Tryz.prog 121 F /\ Named Tryz.prog 121 :=
 con_of2 (C := C) (ctx_ok (by kernel_rfl) (by kernel_rfl) (by kernel_rfl) (by kernel_rfl) trivial) (by kernel_rfl) Tryz.func121 (by kernel_rfl) (c := cB Tryz.f121) (by kernel_rfl) (by kernel_rfl) F (fun x => by simp [F, spread, Tryz.ntmps121]) (fun x => (St0 x.1 x.2.1)) (fun x => by kernel_rfl) fun x => (top_eq fuel _ x.1 x.2.1).trans (by kernel_rfl)
end Go.Bx.math_bits_RotateLeft64
namespace Go.Bx.keccak_Turn
def Js : List Nat := [11, 19, 25, 26, 27]
def C : Ctx := ⟨[(3, T1), (22, T18), (114, T20), (161, T21), (162, T22), (164, T23)], [], [], fnL [(121, math_bits_RotateLeft64.F)], noSh, [], invL [], [(2, [2]), (1, [1, 2]), (4, [1, 2, 16, 17]), (19, [1, 2, 4, 16, 17]), (22, [1, 2, 4, 8, 16, 17, 72]), (13, [1, 2, 4, 8, 16, 17]), (16, [1, 2, 4, 5, 8, 16, 17, 33]), (7, [1, 2, 4, 5, 16, 17]), (10, [1, 2, 4, 5, 16, 17, 20, 21]), (6, [1, 2, 16, 17]), (18, [1, 2, 4, 5, 16, 17, 20, 21]), (30, [1, 2, 4, 5, 16, 17]), (36, [1, 2, 4, 5, 8, 16, 17, 33]), (54, [1, 2, 4, 8, 16, 17]), (57, [1, 2, 4, 8, 16, 17, 72]), (72, [1, 2, 4, 16, 17]), (75, [1, 2, 16, 17]), (78, [1, 2])], [], [], 0, 0⟩
def St0 (x0 : D1) : St := stL 111 [(0, .data T20 x0)] []
def St1 (x16 : D1) (x17 : Int) (c1 c2 : D1) : St := stL 111 [(1, .ref 1 0 []), (2, .ref 2 0 []), (16, .data T21 x16), (17, .data T1 x17)] [(1, .cell T20 (.data T20 c1) false), (2, .cell T20 (.data T20 c2) false)]
noncomputable def cd0 : Code := cL (cL (cR (cL (cR (cB Tryz.f116)))))
def St2 (x4 : Int) (x16 : D1) (x17 : Int) (x20 : D1) (x21 : Int) (c1 c2 c5 : D1) : St := stL 111 [(1, .ref 1 0 []), (2, .ref 2 0 []), (4, .data T18 x4), (5, .ref 5 0 []), (16, .data T21 x16), (17, .data T1 x17), (20, .data T20 x20), (21, .data T1 x21)] [(1, .cell T20 (.data T20 c1) false), (2, .cell T20 (.data T20 c2) false), (5, .cell T22 (.data T22 c5) false)]
noncomputable def cd1 : Code := cL (cL (cR (cL (cR (cR (cL (cL (cR (cR (cL (cL (cR (cL (cR (cB Tryz.f116)))))))))))))))
def St3 (x4 : Int) (x16 : D1) (x17 : Int) (c1 c2 c5 : D1) : St := stL 111 [(1, .ref 1 0 []), (2, .ref 2 0 []), (4, .data T18 x4), (5, .ref 5 0 []), (16, .data T21 x16), (17, .data T1 x17)] [(1, .cell T20 (.data T20 c1) false), (2, .cell T20 (.data T20 c2) false), (5, .cell T22 (.data T22 c5) false)]
def l1s (Nx : Int -> D1 -> Int -> D1 -> Int -> D1 -> D1 -> D1 -> Option α) (Xt2 : Int -> D1 -> Int -> D1 -> D1 -> D1 -> Option α) (x4 : Int) (x16 : D1) (x17 : Int) (x20 : D1) (x21 : Int) (c1 c2 c5 : D1) : Option α :=
 if (decide (x21 < 25)) = true then
  if 0 <= x21 /\ x21 < (25 : Int) then
   if 0 <= (Int.tmod x21 5) /\ (Int.tmod x21 5) < (5 : Int) then
    if 0 <= (Int.tmod x21 5) /\ (Int.tmod x21 5) < (5 : Int) then
     Nx x4 x16 x17 x20 (IntKind.i64.wrap (x21 + 1)) c1 c2 (List.set c5 (Int.toNat (Int.tmod x21 5)) (bxor .u64 (List.getD c5 (Int.toNat (Int.tmod x21 5)) 0) (List.getD x20 (Int.toNat x21) 0)))
    else none
   else none
  else none
 else
  Xt2 x4 x16 x17 c1 c2 c5
theorem l1s_eq (k : Nat) (next : St -> Option α) (Q : Ex -> St -> Option α) (x4 : Int) (x16 : D1) (x17 : Int) (x20 : D1) (x21 : Int) (c1 c2 c5 : D1) :
  rnd C k cd1 18 Q next (St2 x4 x16 x17 x20 x21 c1 c2 c5) = l1s (fun x4 x16 x17 x20 x21 c1 c2 c5 => next (St2 x4 x16 x17 x20 x21 c1 c2 c5)) (fun x4 x16 x17 c1 c2 c5 => Q (.exit 2) (St3 x4 x16 x17 c1 c2 c5)) x4 x16 x17 x20 x21 c1 c2 c5 := plainly Js (by kernel_rfl)
def l1 (k : Nat) (Xt2 : Int -> D1 -> Int -> D1 -> D1 -> D1 -> Option α) : Nat -> Int -> D1 -> Int -> D1 -> Int -> D1 -> D1 -> D1 -> Option α
 | 0, _, _, _, _, _, _, _, _ => none
 | n + 1, x4, x16, x17, x20, x21, c1, c2, c5 => l1s (l1 k Xt2 n) Xt2 x4 x16 x17 x20 x21 c1 c2 c5
theorem l1_eq (k : Nat) (Q : Ex -> St -> Option α) : ∀ (n : Nat) (x4 : Int) (x16 : D1) (x17 : Int) (x20 : D1) (x21 : Int) (c1 c2 c5 : D1), iter (rnd C k cd1 18 Q) n (St2 x4 x16 x17 x20 x21 c1 c2 c5) = l1 k (fun x4 x16 x17 c1 c2 c5 => Q (.exit 2) (St3 x4 x16 x17 c1 c2 c5)) n x4 x16 x17 x20 x21 c1 c2 c5
 | 0, _, _, _, _, _, _, _, _ => rfl
 | n + 1, x4, x16, x17, x20, x21, c1, c2, c5 => (iter_succ _ _ _).trans ((l1s_eq k _ Q x4 x16 x17 x20 x21 c1 c2 c5).trans (congrArg (fun N => l1s N (fun x4 x16 x17 c1 c2 c5 => Q (.exit 2) (St3 x4 x16 x17 c1 c2 c5)) x4 x16 x17 x20 x21 c1 c2 c5) (by funext; exact l1_eq k Q n _ _ _ _ _ _ _ _)))
noncomputable def cd2 : Code := cR (cR (cR (cL (cL (cR (cR (cL (cL (cR (cL (cR (cB Tryz.f116))))))))))))
noncomputable def cd3 : Code := cR (cR (cR (cL (cL (cR (cL (cR (cB Tryz.f116))))))))
def St4 (x4 : Int) (x16 : D1) (x17 : Int) (c1 c2 c5 : D1) : St := stL 111 [(1, .ref 1 0 []), (2, .ref 2 0 []), (4, .data T18 x4), (5, .ref 5 0 []), (16, .data T21 x16), (17, .data T1 x17)] [(1, .cell T20 (.data T20 c1) false), (2, .cell T20 (.data T20 c2) false), (5, .cell T22 (.data T22 c5) false)]
def St5 (x4 : Int) (x16 : D1) (x17 x33 : Int) (c1 c2 : D1) (c5 c8 : D1) : St := stL 111 [(1, .ref 1 0 []), (2, .ref 2 0 []), (4, .data T18 x4), (5, .ref 5 0 []), (8, .ref 8 0 []), (16, .data T21 x16), (17, .data T1 x17), (33, .data T1 x33)] [(1, .cell T20 (.data T20 c1) false), (2, .cell T20 (.data T20 c2) false), (5, .cell T22 (.data T22 c5) false), (8, .cell T20 (.data T20 c8) false)]
noncomputable def cd4 : Code := cL (cL (cR (cL (cR (cR (cR (cR (cL (cL (cR (cR (cL (cL (cR (cL (cR (cB Tryz.f116)))))))))))))))))
def St6 (x4 : Int) (x16 : D1) (x17 : Int) (c1 c2 c8 : D1) : St := stL 111 [(1, .ref 1 0 []), (2, .ref 2 0 []), (4, .data T18 x4), (8, .ref 8 0 []), (16, .data T21 x16), (17, .data T1 x17)] [(1, .cell T20 (.data T20 c1) false), (2, .cell T20 (.data T20 c2) false), (8, .cell T20 (.data T20 c8) false)]
def l2s (Nx : Int -> D1 -> Int -> Int -> D1 -> D1 -> D1 -> D1 -> Option α) (Xt4 : Int -> D1 -> Int -> D1 -> D1 -> D1 -> Option α) (x4 : Int) (x16 : D1) (x17 x33 : Int) (c1 c2 : D1) (c5 c8 : D1) : Option α :=
 if (decide (x33 < 25)) = true then
  if 0 <= x33 /\ x33 < (25 : Int) then
   if 0 <= (Int.tmod (IntKind.i64.wrap ((Int.tmod x33 5) + 4)) 5) /\ (Int.tmod (IntKind.i64.wrap ((Int.tmod x33 5) + 4)) 5) < (5 : Int) then
    if 0 <= (Int.tmod (IntKind.i64.wrap ((Int.tmod x33 5) + 1)) 5) /\ (Int.tmod (IntKind.i64.wrap ((Int.tmod x33 5) + 1)) 5) < (5 : Int) then
     (math_bits_RotateLeft64.run (List.getD c5 (Int.toNat (Int.tmod (IntKind.i64.wrap ((Int.tmod x33 5) + 1)) 5)) 0) 1).bind fun y1 =>
     if 0 <= x33 /\ x33 < (25 : Int) then
      (math_bits_RotateLeft64.run (bxor .u64 (bxor .u64 (List.getD c1 (Int.toNat x33) 0) (List.getD c5 (Int.toNat (Int.tmod (IntKind.i64.wrap ((Int.tmod x33 5) + 4)) 5)) 0)) y1) (List.getD gTurns (Int.toNat x33) 0)).bind fun y2 =>
      if 0 <= (IntKind.i64.wrap ((IntKind.i64.wrap (Int.tdiv x33 5)) + (IntKind.i64.wrap (5 * (Int.tmod (IntKind.i64.wrap ((IntKind.i64.wrap (2 * (Int.tmod x33 5))) + (IntKind.i64.wrap (3 * (IntKind.i64.wrap (Int.tdiv x33 5)))))) 5))))) /\ (IntKind.i64.wrap ((IntKind.i64.wrap (Int.tdiv x33 5)) + (IntKind.i64.wrap (5 * (Int.tmod (IntKind.i64.wrap ((IntKind.i64.wrap (2 * (Int.tmod x33 5))) + (IntKind.i64.wrap (3 * (IntKind.i64.wrap (Int.tdiv x33 5)))))) 5))))) < (25 : Int) then
       Nx x4 x16 x17 (IntKind.i64.wrap (x33 + 1)) c1 c2 c5 (List.set c8 (Int.toNat (IntKind.i64.wrap ((IntKind.i64.wrap (Int.tdiv x33 5)) + (IntKind.i64.wrap (5 * (Int.tmod (IntKind.i64.wrap ((IntKind.i64.wrap (2 * (Int.tmod x33 5))) + (IntKind.i64.wrap (3 * (IntKind.i64.wrap (Int.tdiv x33 5)))))) 5)))))) y2)
      else none
     else none
    else none
   else none
  else none
 else
  Xt4 x4 x16 x17 c1 c2 c8
theorem l2s_eq (k : Nat) (next : St -> Option α) (Q : Ex -> St -> Option α) (x4 : Int) (x16 : D1) (x17 x33 : Int) (c1 c2 : D1) (c5 c8 : D1) :
  rnd C k cd4 36 Q next (St5 x4 x16 x17 x33 c1 c2 c5 c8) = l2s (fun x4 x16 x17 x33 c1 c2 c5 c8 => next (St5 x4 x16 x17 x33 c1 c2 c5 c8)) (fun x4 x16 x17 c1 c2 c8 => Q (.exit 4) (St6 x4 x16 x17 c1 c2 c8)) x4 x16 x17 x33 c1 c2 c5 c8 := plainly Js (by kernel_rfl)
def l2 (k : Nat) (Xt4 : Int -> D1 -> Int -> D1 -> D1 -> D1 -> Option α) : Nat -> Int -> D1 -> Int -> Int -> D1 -> D1 -> D1 -> D1 -> Option α
 | 0, _, _, _, _, _, _, _, _ => none
 | n + 1, x4, x16, x17, x33, c1, c2, c5, c8 => l2s (l2 k Xt4 n) Xt4 x4 x16 x17 x33 c1 c2 c5 c8
theorem l2_eq (k : Nat) (Q : Ex -> St -> Option α) : ∀ (n : Nat) (x4 : Int) (x16 : D1) (x17 x33 : Int) (c1 c2 : D1) (c5 c8 : D1), iter (rnd C k cd4 36 Q) n (St5 x4 x16 x17 x33 c1 c2 c5 c8) = l2 k (fun x4 x16 x17 c1 c2 c8 => Q (.exit 4) (St6 x4 x16 x17 c1 c2 c8)) n x4 x16 x17 x33 c1 c2 c5 c8
 | 0, _, _, _, _, _, _, _, _ => rfl
 | n + 1, x4, x16, x17, x33, c1, c2, c5, c8 => (iter_succ _ _ _).trans ((l2s_eq k _ Q x4 x16 x17 x33 c1 c2 c5 c8).trans (congrArg (fun N => l2s N (fun x4 x16 x17 c1 c2 c8 => Q (.exit 4) (St6 x4 x16 x17 c1 c2 c8)) x4 x16 x17 x33 c1 c2 c5 c8) (by funext; exact l2_eq k Q n _ _ _ _ _ _ _ _)))
noncomputable def cd5 : Code := cR (cR (cR (cR (cR (cL (cL (cR (cR (cL (cL (cR (cL (cR (cB Tryz.f116))))))))))))))
def St7 (x4 : Int) (x16 : D1) (x17 : Int) (c1 c2 c8 : D1) : St := stL 111 [(1, .ref 1 0 []), (2, .ref 2 0 []), (4, .data T18 x4), (8, .ref 8 0 []), (16, .data T21 x16), (17, .data T1 x17)] [(1, .cell T20 (.data T20 c1) false), (2, .cell T20 (.data T20 c2) false), (8, .cell T20 (.data T20 c8) false)]
def St8 (x4 : Int) (x16 : D1) (x17 x72 : Int) (c1 c2 c8 : D1) : St := stL 111 [(1, .ref 1 0 []), (2, .ref 2 0 []), (4, .data T18 x4), (8, .ref 8 0 []), (16, .data T21 x16), (17, .data T1 x17), (72, .data T1 x72)] [(1, .cell T20 (.data T20 c1) false), (2, .cell T20 (.data T20 c2) false), (8, .cell T20 (.data T20 c8) false)]
noncomputable def cd6 : Code := cL (cL (cR (cL (cR (cR (cR (cR (cR (cL (cL (cR (cR (cL (cL (cR (cL (cR (cB Tryz.f116))))))))))))))))))
def St9 (x4 : Int) (x16 : D1) (x17 : Int) (c1 c2 : D1) : St := stL 111 [(1, .ref 1 0 []), (2, .ref 2 0 []), (4, .data T18 x4), (16, .data T21 x16), (17, .data T1 x17)] [(1, .cell T20 (.data T20 c1) false), (2, .cell T20 (.data T20 c2) false)]
def l3s (Nx : Int -> D1 -> Int -> Int -> D1 -> D1 -> D1 -> Option α) (Xt6 : Int -> D1 -> Int -> D1 -> D1 -> Option α) (x4 : Int) (x16 : D1) (x17 x72 : Int) (c1 c2 c8 : D1) : Option α :=
 if (decide (x72 < 25)) = true then
  if 0 <= x72 /\ x72 < (25 : Int) then
   if 0 <= (IntKind.i64.wrap ((Int.tmod (IntKind.i64.wrap ((Int.tmod x72 5) + 1)) 5) + (IntKind.i64.wrap (5 * (IntKind.i64.wrap (Int.tdiv x72 5)))))) /\ (IntKind.i64.wrap ((Int.tmod (IntKind.i64.wrap ((Int.tmod x72 5) + 1)) 5) + (IntKind.i64.wrap (5 * (IntKind.i64.wrap (Int.tdiv x72 5)))))) < (25 : Int) then
    if 0 <= (IntKind.i64.wrap ((Int.tmod (IntKind.i64.wrap ((Int.tmod x72 5) + 2)) 5) + (IntKind.i64.wrap (5 * (IntKind.i64.wrap (Int.tdiv x72 5)))))) /\ (IntKind.i64.wrap ((Int.tmod (IntKind.i64.wrap ((Int.tmod x72 5) + 2)) 5) + (IntKind.i64.wrap (5 * (IntKind.i64.wrap (Int.tdiv x72 5)))))) < (25 : Int) then
     if 0 <= x72 /\ x72 < (25 : Int) then
      Nx x4 x16 x17 (IntKind.i64.wrap (x72 + 1)) (List.set c1 (Int.toNat x72) (bxor .u64 (List.getD c8 (Int.toNat x72) 0) (band .u64 (bxor .u64 18446744073709551615 (List.getD c8 (Int.toNat (IntKind.i64.wrap ((Int.tmod (IntKind.i64.wrap ((Int.tmod x72 5) + 1)) 5) + (IntKind.i64.wrap (5 * (IntKind.i64.wrap (Int.tdiv x72 5))))))) 0)) (List.getD c8 (Int.toNat (IntKind.i64.wrap ((Int.tmod (IntKind.i64.wrap ((Int.tmod x72 5) + 2)) 5) + (IntKind.i64.wrap (5 * (IntKind.i64.wrap (Int.tdiv x72 5))))))) 0)))) c2 c8
     else none
    else none
   else none
  else none
 else
  Xt6 x4 x16 x17 c1 c2
theorem l3s_eq (k : Nat) (next : St -> Option α) (Q : Ex -> St -> Option α) (x4 : Int) (x16 : D1) (x17 x72 : Int) (c1 c2 c8 : D1) :
  rnd C k cd6 57 Q next (St8 x4 x16 x17 x72 c1 c2 c8) = l3s (fun x4 x16 x17 x72 c1 c2 c8 => next (St8 x4 x16 x17 x72 c1 c2 c8)) (fun x4 x16 x17 c1 c2 => Q (.exit 6) (St9 x4 x16 x17 c1 c2)) x4 x16 x17 x72 c1 c2 c8 := plainly Js (by kernel_rfl)
def l3 (k : Nat) (Xt6 : Int -> D1 -> Int -> D1 -> D1 -> Option α) : Nat -> Int -> D1 -> Int -> Int -> D1 -> D1 -> D1 -> Option α
 | 0, _, _, _, _, _, _, _ => none
 | n + 1, x4, x16, x17, x72, c1, c2, c8 => l3s (l3 k Xt6 n) Xt6 x4 x16 x17 x72 c1 c2 c8
theorem l3_eq (k : Nat) (Q : Ex -> St -> Option α) : ∀ (n : Nat) (x4 : Int) (x16 : D1) (x17 x72 : Int) (c1 c2 c8 : D1), iter (rnd C k cd6 57 Q) n (St8 x4 x16 x17 x72 c1 c2 c8) = l3 k (fun x4 x16 x17 c1 c2 => Q (.exit 6) (St9 x4 x16 x17 c1 c2)) n x4 x16 x17 x72 c1 c2 c8
 | 0, _, _, _, _, _, _, _ => rfl
 | n + 1, x4, x16, x17, x72, c1, c2, c8 => (iter_succ _ _ _).trans ((l3s_eq k _ Q x4 x16 x17 x72 c1 c2 c8).trans (congrArg (fun N => l3s N (fun x4 x16 x17 c1 c2 => Q (.exit 6) (St9 x4 x16 x17 c1 c2)) x4 x16 x17 x72 c1 c2 c8) (by funext; exact l3_eq k Q n _ _ _ _ _ _ _)))
noncomputable def cd7 : Code := cR (cR (cR (cR (cR (cR (cL (cL (cR (cR (cL (cL (cR (cL (cR (cB Tryz.f116)))))))))))))))
def St10 (x4 : Int) (x16 : D1) (x17 : Int) (c1 c2 : D1) : St := stL 111 [(1, .ref 1 0 []), (2, .ref 2 0 []), (4, .data T18 x4), (16, .data T21 x16), (17, .data T1 x17)] [(1, .cell T20 (.data T20 c1) false), (2, .cell T20 (.data T20 c2) false)]
def St11 (x16 : D1) (x17 : Int) (c1 c2 : D1) : St := stL 111 [(1, .ref 1 0 []), (2, .ref 2 0 []), (16, .data T21 x16), (17, .data T1 x17)] [(1, .cell T20 (.data T20 c1) false), (2, .cell T20 (.data T20 c2) false)]
def j3 (Nx : D1 -> Int -> D1 -> D1 -> Option α) (x16 : D1) (x17 : Int) (c1 c2 : D1) : Option α :=
 Nx x16 (IntKind.i64.wrap (x17 + 1)) c1 c2
theorem j3_eq (k : Nat) (next : St -> Option α) (Q : Ex -> St -> Option α) (x16 : D1) (x17 : Int) (c1 c2 : D1) :
  (den C k) cd3 (lq C 6 next Q) (St11 x16 x17 c1 c2) = j3 (fun x16 x17 c1 c2 => next (St1 x16 x17 c1 c2)) x16 x17 c1 c2 := plainly Js (by kernel_rfl)
def j2 (Nx : D1 -> Int -> D1 -> D1 -> Option α) (x4 : Int) (x16 : D1) (x17 : Int) (c1 c2 : D1) : Option α :=
 j3 Nx x16 x17 (List.set c1 0 (bxor .u64 (List.getD c1 0 0) x4)) c2
theorem j2_eq (k : Nat) (next : St -> Option α) (Q : Ex -> St -> Option α) (x4 : Int) (x16 : D1) (x17 : Int) (c1 c2 : D1) :
  (den C k) cd7 (blkQ C 1 (sq (den C k) (lp C k) Js C cd3 (lq C 6 next Q))) (St10 x4 x16 x17 c1 c2) = j2 (fun x16 x17 c1 c2 => next (St1 x16 x17 c1 c2)) x4 x16 x17 c1 c2 := by
 have h : ∀ (D L : DT α), denJ D L Js C cd7 (blkQ C 1 (sq D L Js C cd3 (lq C 6 next Q))) (St10 x4 x16 x17 c1 c2) =
    D cd3 (lq C 6 next Q) (St11 x16 x17 (List.set c1 0 (bxor .u64 (List.getD c1 0 0) x4)) c2) := by
  intro D L; kernel_rfl
 have h2 := via (k := k) h
 refine h2.trans ?_
 simp only [j3_eq]
 first | rfl | kernel_rfl
theorem a0 (k : Nat) (next : St -> Option α) (Q : Ex -> St -> Option α) (x4 : Int) (x16 : D1) (x17 x72 : Int) (c1 c2 c8 : D1) :
  (lp C k) cd6 (blkQ C 6 (sq (den C k) (lp C k) Js C cd7 (blkQ C 1 (sq (den C k) (lp C k) Js C cd3 (lq C 6 next Q))))) (St8 x4 x16 x17 x72 c1 c2 c8) = l3 k (fun x4 x16 x17 c1 c2 => j2 (fun x16 x17 c1 c2 => next (St1 x16 x17 c1 c2)) x4 x16 x17 c1 c2) k x4 x16 x17 x72 c1 c2 c8 :=
 (lp_iter 57 (by kernel_rfl)).trans ((l3_eq k _ k x4 x16 x17 x72 c1 c2 c8).trans (congrArg (fun X => l3 k X k x4 x16 x17 x72 c1 c2 c8) (funext fun x4 => funext fun x16 => funext fun x17 => funext fun c1 => funext fun c2 => (Eq.trans (b := (den C k) cd7 (blkQ C 1 (sq (den C k) (lp C k) Js C cd3 (lq C 6 next Q))) (St10 x4 x16 x17 c1 c2)) (by kernel_rfl) (by simp only [j2_eq])))))
def j1 (k : Nat) (Nx : D1 -> Int -> D1 -> D1 -> Option α) (x4 : Int) (x16 : D1) (x17 : Int) (c1 c2 c8 : D1) : Option α :=
 l3 k (fun x4 x16 x17 c1 c2 => j2 Nx x4 x16 x17 c1 c2) k x4 x16 x17 0 c1 c2 c8
theorem j1_eq (k : Nat) (next : St -> Option α) (Q : Ex -> St -> Option α) (x4 : Int) (x16 : D1) (x17 : Int) (c1 c2 c8 : D1) :
  (den C k) cd5 (blkQ C 1 (sq (den C k) (lp C k) Js C cd3 (lq C 6 next Q))) (St7 x4 x16 x17 c1 c2 c8) = j1 k (fun x16 x17 c1 c2 => next (St1 x16 x17 c1 c2)) x4 x16 x17 c1 c2 c8 := by
 have h : ∀ (D L : DT α), denJ D L Js C cd5 (blkQ C 1 (sq D L Js C cd3 (lq C 6 next Q))) (St7 x4 x16 x17 c1 c2 c8) =
    L cd6 (blkQ C 6 (sq D L Js C cd7 (blkQ C 1 (sq D L Js C cd3 (lq C 6 next Q))))) (St8 x4 x16 x17 0 c1 c2 c8) := by
  intro D L; kernel_rfl
 have h2 := via (k := k) h
 refine h2.trans ?_
 simp only [a0]
 first | rfl | kernel_rfl
theorem a1 (k : Nat) (next : St -> Option α) (Q : Ex -> St -> Option α) (x4 : Int) (x16 : D1) (x17 x33 : Int) (c1 c2 : D1) (c5 c8 : D1) :
  (lp C k) cd4 (blkQ C 4 (sq (den C k) (lp C k) Js C cd5 (blkQ C 1 (sq (den C k) (lp C k) Js C cd3 (lq C 6 next Q))))) (St5 x4 x16 x17 x33 c1 c2 c5 c8) = l2 k (fun x4 x16 x17 c1 c2 c8 => j1 k (fun x16 x17 c1 c2 => next (St1 x16 x17 c1 c2)) x4 x16 x17 c1 c2 c8) k x4 x16 x17 x33 c1 c2 c5 c8 :=
 (lp_iter 36 (by kernel_rfl)).trans ((l2_eq k _ k x4 x16 x17 x33 c1 c2 c5 c8).trans (congrArg (fun X => l2 k X k x4 x16 x17 x33 c1 c2 c5 c8) (funext fun x4 => funext fun x16 => funext fun x17 => funext fun c1 => funext fun c2 => funext fun c8 => (Eq.trans (b := (den C k) cd5 (blkQ C 1 (sq (den C k) (lp C k) Js C cd3 (lq C 6 next Q))) (St7 x4 x16 x17 c1 c2 c8)) (by kernel_rfl) (by simp only [j1_eq])))))
def j0 (k : Nat) (Nx : D1 -> Int -> D1 -> D1 -> Option α) (x4 : Int) (x16 : D1) (x17 : Int) (c1 c2 c5 : D1) : Option α :=
 l2 k (fun x4 x16 x17 c1 c2 c8 => j1 k Nx x4 x16 x17 c1 c2 c8) k x4 x16 x17 0 c1 c2 c5 (List.replicate 25 0)
theorem j0_eq (k : Nat) (next : St -> Option α) (Q : Ex -> St -> Option α) (x4 : Int) (x16 : D1) (x17 : Int) (c1 c2 c5 : D1) :
  (den C k) cd2 (blkQ C 1 (sq (den C k) (lp C k) Js C cd3 (lq C 6 next Q))) (St4 x4 x16 x17 c1 c2 c5) = j0 k (fun x16 x17 c1 c2 => next (St1 x16 x17 c1 c2)) x4 x16 x17 c1 c2 c5 := by
 have h : ∀ (D L : DT α), denJ D L Js C cd2 (blkQ C 1 (sq D L Js C cd3 (lq C 6 next Q))) (St4 x4 x16 x17 c1 c2 c5) =
    L cd4 (blkQ C 4 (sq D L Js C cd5 (blkQ C 1 (sq D L Js C cd3 (lq C 6 next Q))))) (St5 x4 x16 x17 0 c1 c2 c5 (List.replicate 25 0)) := by
  intro D L; kernel_rfl
 have h2 := via (k := k) h
 refine h2.trans ?_
 simp only [a1]
 first | rfl | kernel_rfl
theorem a2 (k : Nat) (next : St -> Option α) (Q : Ex -> St -> Option α) (x4 : Int) (x16 : D1) (x17 : Int) (x20 : D1) (x21 : Int) (c1 c2 c5 : D1) :
  (lp C k) cd1 (blkQ C 2 (sq (den C k) (lp C k) Js C cd2 (blkQ C 1 (sq (den C k) (lp C k) Js C cd3 (lq C 6 next Q))))) (St2 x4 x16 x17 x20 x21 c1 c2 c5) = l1 k (fun x4 x16 x17 c1 c2 c5 => j0 k (fun x16 x17 c1 c2 => next (St1 x16 x17 c1 c2)) x4 x16 x17 c1 c2 c5) k x4 x16 x17 x20 x21 c1 c2 c5 :=
 (lp_iter 18 (by kernel_rfl)).trans ((l1_eq k _ k x4 x16 x17 x20 x21 c1 c2 c5).trans (congrArg (fun X => l1 k X k x4 x16 x17 x20 x21 c1 c2 c5) (funext fun x4 => funext fun x16 => funext fun x17 => funext fun c1 => funext fun c2 => funext fun c5 => (Eq.trans (b := (den C k) cd2 (blkQ C 1 (sq (den C k) (lp C k) Js C cd3 (lq C 6 next Q))) (St4 x4 x16 x17 c1 c2 c5)) (by kernel_rfl) (by simp only [j0_eq])))))
def St12 (c1 c2 : D1) : St := stL 111 [(1, .ref 1 0 []), (2, .ref 2 0 [])] [(1, .cell T20 (.data T20 c1) false), (2, .cell T20 (.data T20 c2) false)]
def l0s (k : Nat) (Nx : D1 -> Int -> D1 -> D1 -> Option α) (Xt0 : D1 -> D1 -> Option α) (x16 : D1) (x17 : Int) (c1 c2 : D1) : Option α :=
 if (decide (x17 < 24)) = true then
  if 0 <= x17 /\ x17 < (24 : Int) then
   l1 k (fun x4 x16 x17 c1 c2 c5 => j0 k Nx x4 x16 x17 c1 c2 c5) k (List.getD x16 (Int.toNat x17) 0) x16 x17 c1 0 c1 c2 [0, 0, 0, 0, 0]
  else none
 else
  Xt0 c1 c2
theorem l0s_eq (k : Nat) (next : St -> Option α) (Q : Ex -> St -> Option α) (x16 : D1) (x17 : Int) (c1 c2 : D1) :
  rnd C k cd0 6 Q next (St1 x16 x17 c1 c2) = l0s k (fun x16 x17 c1 c2 => next (St1 x16 x17 c1 c2)) (fun c1 c2 => Q (.exit 0) (St12 c1 c2)) x16 x17 c1 c2 := by
 have h : ∀ (D L : DT α), denJ D L Js C cd0 (lq C 6 next Q) (St1 x16 x17 c1 c2) =
    if (decide (x17 < 24)) = true then
     if 0 <= x17 /\ x17 < (24 : Int) then
      L cd1 (blkQ C 2 (sq D L Js C cd2 (blkQ C 1 (sq D L Js C cd3 (lq C 6 next Q))))) (St2 (List.getD x16 (Int.toNat x17) 0) x16 x17 c1 0 c1 c2 [0, 0, 0, 0, 0])
     else none
    else
     Q (.exit 0) (St12 c1 c2) := by
  intro D L; kernel_rfl
 have h2 := via (k := k) h
 refine h2.trans ?_
 simp only [a2]
 first | rfl | kernel_rfl
def l0 (k : Nat) (Xt0 : D1 -> D1 -> Option α) : Nat -> D1 -> Int -> D1 -> D1 -> Option α
 | 0, _, _, _, _ => none
 | n + 1, x16, x17, c1, c2 => l0s k (l0 k Xt0 n) Xt0 x16 x17 c1 c2
theorem l0_eq (k : Nat) (Q : Ex -> St -> Option α) : ∀ (n : Nat) (x16 : D1) (x17 : Int) (c1 c2 : D1), iter (rnd C k cd0 6 Q) n (St1 x16 x17 c1 c2) = l0 k (fun c1 c2 => Q (.exit 0) (St12 c1 c2)) n x16 x17 c1 c2
 | 0, _, _, _, _ => rfl
 | n + 1, x16, x17, c1, c2 => (iter_succ _ _ _).trans ((l0s_eq k _ Q x16 x17 c1 c2).trans (congrArg (fun N => l0s k N (fun c1 c2 => Q (.exit 0) (St12 c1 c2)) x16 x17 c1 c2) (by funext; exact l0_eq k Q n _ _ _ _)))
noncomputable def cd8 : Code := cR (cR (cB Tryz.f116))
def St13 (c1 c2 : D1) : St := stL 111 [(1, .ref 1 0 []), (2, .ref 2 0 [])] [(1, .cell T20 (.data T20 c1) false), (2, .cell T20 (.data T20 c2) false)]
def St14 (c2 : D1) : St := stL 111 [(2, .ref 2 0 [])] [(2, .cell T20 (.data T20 c2) false)]
def j4 (Rt : D1 -> Option α) (c1 c2 : D1) : Option α :=
 Rt c1
theorem j4_eq (k : Nat) (Q : Ex -> St -> Option α) (c1 c2 : D1) :
  (den C k) cd8 Q (St13 c1 c2) = j4 (fun c2 => Q .ret (St14 c2)) c1 c2 := plainly Js (by kernel_rfl)
theorem a3 (k : Nat) (Q : Ex -> St -> Option α) (x16 : D1) (x17 : Int) (c1 c2 : D1) :
  (lp C k) cd0 (blkQ C 0 (sq (den C k) (lp C k) Js C cd8 Q)) (St1 x16 x17 c1 c2) = l0 k (fun c1 c2 => j4 (fun c2 => Q .ret (St14 c2)) c1 c2) k x16 x17 c1 c2 :=
 (lp_iter 6 (by kernel_rfl)).trans ((l0_eq k _ k x16 x17 c1 c2).trans (congrArg (fun X => l0 k X k x16 x17 c1 c2) (funext fun c1 => funext fun c2 => (Eq.trans (b := (den C k) cd8 Q (St13 c1 c2)) (by kernel_rfl) (by simp only [j4_eq])))))
def top (k : Nat) (Rt : D1 -> Option α) (x0 : D1) : Option α :=
 l0 k (fun c1 c2 => j4 Rt c1 c2) k gRounds 0 x0 (List.replicate 25 0)
theorem top_eq (k : Nat) (Q : Ex -> St -> Option α) (x0 : D1) :
  (den C k) (cB Tryz.f116) Q (St0 x0) = top k (fun c2 => Q .ret (St14 c2)) x0 := by
 have h : ∀ (D L : DT α), denJ D L Js C (cB Tryz.f116) Q (St0 x0) =
    L cd0 (blkQ C 0 (sq D L Js C cd8 Q)) (St1 gRounds 0 x0 (List.replicate 25 0)) := by
  intro D L; kernel_rfl
 have h2 := via (k := k) h
 refine h2.trans ?_
 simp only [a3]
 first | rfl | kernel_rfl
def run (x0 : D1) : Option D1 := top (α := List Int) fuel (fun c2 => some c2) x0
def F : Fn := ⟨T24, T20, false, fun x => run x.1⟩
theorem con : Con Tryz.prog 116 F /\ Named Tryz.prog 116 :=
 con_of2 (C := C) (ctx_ok (by kernel_rfl) (by kernel_rfl) (by kernel_rfl) (by kernel_rfl) ⟨.inl math_bits_RotateLeft64.con, trivial⟩) (by kernel_rfl) Tryz.func116 (by kernel_rfl) (c := cB Tryz.f116) (by kernel_rfl) (by kernel_rfl) F (fun x => by simp [F, spread, Tryz.ntmps116]) (fun x => (St0 x.1)) (fun x => by kernel_rfl) fun x => (top_eq fuel _ x.1).trans (by kernel_rfl)
end Go.Bx.keccak_Turn
namespace Go.Bx.basculeref_roundOf
def Js : List Nat := [9, 11]
def C : Ctx := ⟨[(3, T1), (5, T8), (9, .str), (22, T18), (33, T2)], [], [], fnL [], noSh, [], invL [], [(2, [2]), (1, [3]), (4, [3, 13, 14, 15]), (9, [3, 13, 14, 15]), (24, [3, 6, 13, 14, 15]), (30, [3])], [], [], 0, 0⟩
def lit0 : List Int := [48, 48, 48, 48, 48, 48, 48, 48, 48, 48, 48, 48, 48, 48, 48, 49, 48, 48, 48, 48, 48, 48, 48, 48, 48, 48, 48, 48, 56, 48, 56, 50, 56, 48, 48, 48, 48, 48, 48, 48, 48, 48, 48, 48, 56, 48, 56, 97, 56, 48, 48, 48, 48, 48, 48, 48, 56, 48, 48, 48, 56, 48, 48, 48, 48, 48, 48, 48, 48, 48, 48, 48, 48, 48, 48, 48, 56, 48, 56, 98, 48, 48, 48, 48, 48, 48, 48, 48, 56, 48, 48, 48, 48, 48, 48, 49, 56, 48, 48, 48, 48, 48, 48, 48, 56, 48, 48, 48, 56, 48, 56, 49, 56, 48, 48, 48, 48, 48, 48, 48, 48, 48, 48, 48, 56, 48, 48, 57, 48, 48, 48, 48, 48, 48, 48, 48, 48, 48, 48, 48, 48, 48, 56, 97, 48, 48, 48, 48, 48, 48, 48, 48, 48, 48, 48, 48, 48, 48, 56, 56, 48, 48, 48, 48, 48, 48, 48, 48, 56, 48, 48, 48, 56, 48, 48, 57, 48, 48, 48, 48, 48, 48, 48, 48, 56, 48, 48, 48, 48, 48, 48, 97, 48, 48, 48, 48, 48, 48, 48, 48, 56, 48, 48, 48, 56, 48, 56, 98, 56, 48, 48, 48, 48, 48, 48, 48, 48, 48, 48, 48, 48, 48, 56, 98, 56, 48, 48, 48, 48, 48, 48, 48, 48, 48, 48, 48, 56, 48, 56, 57, 56, 48, 48, 48, 48, 48, 48, 48, 48, 48, 48, 48, 56, 48, 48, 51, 56, 48, 48, 48, 48, 48, 48, 48, 48, 48, 48, 48, 56, 48, 48, 50, 56, 48, 48, 48, 48, 48, 48, 48, 48, 48, 48, 48, 48, 48, 56, 48, 48, 48, 48, 48, 48, 48, 48, 48, 48, 48, 48, 48, 56, 48, 48, 97, 56, 48, 48, 48, 48, 48, 48, 48, 56, 48, 48, 48, 48, 48, 48, 97, 56, 48, 48, 48, 48, 48, 48, 48, 56, 48, 48, 48, 56, 48, 56, 49, 56, 48, 48, 48, 48, 48, 48, 48, 48, 48, 48, 48, 56, 48, 56, 48, 48, 48, 48, 48, 48, 48, 48, 48, 56, 48, 48, 48, 48, 48, 48, 49, 56, 48, 48, 48, 48, 48, 48, 48, 56, 48, 48, 48, 56, 48, 48, 56]
def St0 (x0 : Int) : St := stL 34 [(0, .data T1 x0)] []
def St1 (x3 : Int) (x13 : D1) (x14 x15 : Int) : St := stL 34 [(3, .data T18 x3), (13, .data T2 x13), (14, .data T1 x14), (15, .data T1 x15)] []
noncomputable def cd0 : Code := cL (cL (cR (cL (cR (cR (cB Tryz.f122))))))
def St2 (x3 x6 : Int) (x13 : D1) (x14 x15 : Int) : St := stL 34 [(3, .data T18 x3), (6, .data T18 x6), (13, .data T2 x13), (14, .data T1 x14), (15, .data T1 x15)] []
noncomputable def cd1 : Code := cR (cR (cR (cL (cL (cR (cL (cR (cR (cB Tryz.f122)))))))))
noncomputable def cd2 : Code := cR (cR (cR (cL (cL (cR (cR (cL (cL (cR (cL (cR (cR (cB Tryz.f122)))))))))))))
def j0 (Nx : Int -> D1 -> Int -> Int -> Option α) (x3 x6 : Int) (x13 : D1) (x14 x15 : Int) : Option α :=
 Nx (IntKind.u64.wrap ((IntKind.u64.wrap (x3 * 16)) + x6)) x13 x14 (IntKind.i64.wrap (x15 + 1))
theorem j0_eq (k : Nat) (next : St -> Option α) (Q : Ex -> St -> Option α) (x3 x6 : Int) (x13 : D1) (x14 x15 : Int) :
  (den C k) cd2 (blkQ C 1 (sq (den C k) (lp C k) Js C cd1 (lq C 9 next Q))) (St2 x3 x6 x13 x14 x15) = j0 (fun x3 x13 x14 x15 => next (St1 x3 x13 x14 x15)) x3 x6 x13 x14 x15 := plainly Js (by kernel_rfl)
def St3 (x3 : Int) : St := stL 34 [(3, .data T18 x3)] []
def l0s (Nx : Int -> D1 -> Int -> Int -> Option α) (Xt0 : Int -> Option α) (x3 : Int) (x13 : D1) (x14 x15 : Int) : Option α :=
 if (decide (x15 < x14)) = true then
  if 0 <= x15 /\ x15 < (x13.length : Int) then
   if (decide ((List.getD x13 (Int.toNat x15) 0) >= 97)) = true then
    j0 Nx x3 (IntKind.u64.wrap ((IntKind.u64.wrap (IntKind.u8.wrap ((List.getD x13 (Int.toNat x15) 0) - 97))) + 10)) x13 x14 x15
   else
    j0 Nx x3 (IntKind.u64.wrap (IntKind.u8.wrap ((List.getD x13 (Int.toNat x15) 0) - 48))) x13 x14 x15
  else none
 else
  Xt0 x3
theorem l0s_eq (k : Nat) (next : St -> Option α) (Q : Ex -> St -> Option α) (x3 : Int) (x13 : D1) (x14 x15 : Int) :
  rnd C k cd0 9 Q next (St1 x3 x13 x14 x15) = l0s (fun x3 x13 x14 x15 => next (St1 x3 x13 x14 x15)) (fun x3 => Q (.exit 0) (St3 x3)) x3 x13 x14 x15 := by
 have h : ∀ (D L : DT α), denJ D L Js C cd0 (lq C 9 next Q) (St1 x3 x13 x14 x15) =
    if (decide (x15 < x14)) = true then
     if 0 <= x15 /\ x15 < (x13.length : Int) then
      if (decide ((List.getD x13 (Int.toNat x15) 0) >= 97)) = true then
       D cd2 (blkQ C 1 (sq D L Js C cd1 (lq C 9 next Q))) (St2 x3 (IntKind.u64.wrap ((IntKind.u64.wrap (IntKind.u8.wrap ((List.getD x13 (Int.toNat x15) 0) - 97))) + 10)) x13 x14 x15)
      else
       D cd2 (blkQ C 1 (sq D L Js C cd1 (lq C 9 next Q))) (St2 x3 (IntKind.u64.wrap (IntKind.u8.wrap ((List.getD x13 (Int.toNat x15) 0) - 48))) x13 x14 x15)
     else none
    else
     Q (.exit 0) (St3 x3) := by
  intro D L; kernel_rfl
 have h2 := via (k := k) h
 refine h2.trans ?_
 simp only [j0_eq]
 first | rfl | kernel_rfl
def l0 (k : Nat) (Xt0 : Int -> Option α) : Nat -> Int -> D1 -> Int -> Int -> Option α
 | 0, _, _, _, _ => none
 | n + 1, x3, x13, x14, x15 => l0s (l0 k Xt0 n) Xt0 x3 x13 x14 x15
theorem l0_eq (k : Nat) (Q : Ex -> St -> Option α) : ∀ (n : Nat) (x3 : Int) (x13 : D1) (x14 x15 : Int), iter (rnd C k cd0 9 Q) n (St1 x3 x13 x14 x15) = l0 k (fun x3 => Q (.exit 0) (St3 x3)) n x3 x13 x14 x15
 | 0, _, _, _, _ => rfl
 | n + 1, x3, x13, x14, x15 => (iter_succ _ _ _).trans ((l0s_eq k _ Q x3 x13 x14 x15).trans (congrArg (fun N => l0s N (fun x3 => Q (.exit 0) (St3 x3)) x3 x13 x14 x15) (by funext; exact l0_eq k Q n _ _ _ _)))
noncomputable def cd3 : Code := cR (cR (cR (cB Tryz.f122)))
def St4 (x3 : Int) : St := stL 34 [(3, .data T18 x3)] []
def St5 (x2 : Int) : St := stL 34 [(2, .data T18 x2)] []
def j1 (Rt : Int -> Option α) (x3 : Int) : Option α :=
 Rt x3
theorem j1_eq (k : Nat) (Q : Ex -> St -> Option α) (x3 : Int) :
  (den C k) cd3 Q (St4 x3) = j1 (fun x2 => Q .ret (St5 x2)) x3 := plainly Js (by kernel_rfl)
theorem a0 (k : Nat) (Q : Ex -> St -> Option α) (x3 : Int) (x13 : D1) (x14 x15 : Int) :
  (lp C k) cd0 (blkQ C 0 (sq (den C k) (lp C k) Js C cd3 Q)) (St1 x3 x13 x14 x15) = l0 k (fun x3 => j1 (fun x2 => Q .ret (St5 x2)) x3) k x3 x13 x14 x15 :=
 (lp_iter 9 (by kernel_rfl)).trans ((l0_eq k _ k x3 x13 x14 x15).trans (congrArg (fun X => l0 k X k x3 x13 x14 x15) (funext fun x3 => (Eq.trans (b := (den C k) cd3 Q (St4 x3)) (by kernel_rfl) (by simp only [j1_eq])))))
def top (k : Nat) (Rt : Int -> Option α) (x0 : Int) : Option α :=
 if 0 <= (IntKind.i64.wrap (16 * x0)) /\ (IntKind.i64.wrap (16 * x0)) <= (IntKind.i64.wrap ((IntKind.i64.wrap (16 * x0)) + 16)) /\ (IntKind.i64.wrap ((IntKind.i64.wrap (16 * x0)) + 16)) <= (lit0.length : Int) then
  l0 k (fun x3 => j1 Rt x3) k 0 (cutL lit0 (IntKind.i64.wrap (16 * x0)) (IntKind.i64.wrap ((IntKind.i64.wrap (16 * x0)) + 16))) ((cutL lit0 (IntKind.i64.wrap (16 * x0)) (IntKind.i64.wrap ((IntKind.i64.wrap (16 * x0)) + 16))).length : Int) 0
 else none
theorem top_eq (k : Nat) (Q : Ex -> St -> Option α) (x0 : Int) :
  (den C k) (cB Tryz.f122) Q (St0 x0) = top k (fun x2 => Q .ret (St5 x2)) x0 := by
 have h : ∀ (D L : DT α), denJ D L Js C (cB Tryz.f122) Q (St0 x0) =
    if 0 <= (IntKind.i64.wrap (16 * x0)) /\ (IntKind.i64.wrap (16 * x0)) <= (IntKind.i64.wrap ((IntKind.i64.wrap (16 * x0)) + 16)) /\ (IntKind.i64.wrap ((IntKind.i64.wrap (16 * x0)) + 16)) <= (lit0.length : Int) then
     L cd0 (blkQ C 0 (sq D L Js C cd3 Q)) (St1 0 (cutL lit0 (IntKind.i64.wrap (16 * x0)) (IntKind.i64.wrap ((IntKind.i64.wrap (16 * x0)) + 16))) ((cutL lit0 (IntKind.i64.wrap (16 * x0)) (IntKind.i64.wrap ((IntKind.i64.wrap (16 * x0)) + 16))).length : Int) 0)
    else none := by
  intro D L; kernel_rfl
 have h2 := via (k := k) h
 refine h2.trans ?_
 simp only [a0]
 first | rfl | kernel_rfl
def run (x0 : Int) : Option (Int) := top (α := Int) fuel (fun x2 => some x2) x0
def F : Fn := ⟨T70, T18, false, fun x => run x.1⟩
theorem con : Con Tryz.prog 122 F /\ Named Tryz.prog 122 :=
 con_of2 (C := C) (ctx_ok (by kernel_rfl) (by kernel_rfl) (by kernel_rfl) (by kernel_rfl) trivial) (by kernel_rfl) Tryz.func122 (by kernel_rfl) (c := cB Tryz.f122) (by kernel_rfl) (by kernel_rfl) F (fun x => by simp [F, spread, Tryz.ntmps122]) (fun x => (St0 x.1)) (fun x => by kernel_rfl) fun x => (top_eq fuel _ x.1).trans (by kernel_rfl)
end Go.Bx.basculeref_roundOf
namespace Go.Bx.basculeref_Turned
def Js : List Nat := [11, 19, 20, 27, 29, 36, 37, 38]
def C : Ctx := ⟨[(22, T18), (114, T20), (162, T22)], [], [], fnL [(121, math_bits_RotateLeft64.F), (122, basculeref_roundOf.F)], noSh, [], invL [], [(2, [2]), (1, [1, 2]), (4, [1, 2, 16]), (31, [1, 2, 3, 16]), (34, [1, 2, 3, 13, 16]), (37, [1, 2, 3, 13, 16]), (40, [1, 2, 3, 13, 14, 16, 132]), (25, [1, 2, 3, 16]), (28, [1, 2, 3, 9, 10, 11, 16, 78]), (13, [1, 2, 3, 16]), (16, [1, 2, 3, 4, 16, 48]), (19, [1, 2, 3, 4, 16, 48]), (22, [1, 2, 3, 4, 6, 7, 8, 16, 48]), (7, [1, 2, 3, 4, 16]), (10, [1, 2, 3, 4, 16, 19]), (6, [1, 2, 16]), (18, [1, 2, 3, 4, 16, 19]), (30, [1, 2, 3, 4, 16]), (33, [1, 2, 3, 4, 16, 48]), (45, [1, 2, 3, 4, 6, 7, 8, 16, 48]), (54, [1, 2, 3, 4, 16, 48]), (57, [1, 2, 3, 16]), (63, [1, 2, 3, 9, 10, 11, 16, 78]), (78, [1, 2, 3, 16]), (81, [1, 2, 3, 13, 16]), (84, [1, 2, 3, 13, 16]), (93, [1, 2, 3, 13, 14, 16, 132]), (105, [1, 2, 3, 16]), (108, [1, 2, 16]), (111, [1, 2])], [], [], 0, 0⟩
def St0 (x0 : D1) : St := stL 164 [(0, .data T20 x0)] []
def St1 (x16 : Int) (c1 c2 : D1) : St := stL 164 [(1, .ref 1 0 []), (2, .ref 2 0 []), (16, .data T1 x16)] [(1, .cell T20 (.data T20 c1) false), (2, .cell T20 (.data T20 c2) false)]
noncomputable def cd0 : Code := cL (cL (cR (cL (cR (cB Tryz.f120)))))
def St2 (x3 x16 x19 : Int) (c1 c2 c4 : D1) : St := stL 164 [(1, .ref 1 0 []), (2, .ref 2 0 []), (3, .data T1 x3), (4, .ref 4 0 []), (16, .data T1 x16), (19, .data T1 x19)] [(1, .cell T20 (.data T20 c1) false), (2, .cell T20 (.data T20 c2) false), (4, .cell T22 (.data T22 c4) false)]
noncomputable def cd1 : Code := cL (cL (cR (cL (cR (cR (cL (cL (cR (cR (cL (cL (cR (cL (cR (cB Tryz.f120)))))))))))))))
def St3 (x3 x16 : Int) (c1 c2 c4 : D1) : St := stL 164 [(1, .ref 1 0 []), (2, .ref 2 0 []), (3, .data T1 x3), (4, .ref 4 0 []), (16, .data T1 x16)] [(1, .cell T20 (.data T20 c1) false), (2, .cell T20 (.data T20 c2) false), (4, .cell T22 (.data T22 c4) false)]
def l1s (Nx : Int -> Int -> Int -> D1 -> D1 -> D1 -> Option α) (Xt2 : Int -> Int -> D1 -> D1 -> D1 -> Option α) (x3 x16 x19 : Int) (c1 c2 c4 : D1) : Option α :=
 if (decide (x19 < 5)) = true then
  if 0 <= x19 /\ x19 < (25 : Int) then
   if 0 <= (IntKind.i64.wrap (x19 + 5)) /\ (IntKind.i64.wrap (x19 + 5)) < (25 : Int) then
    if 0 <= (IntKind.i64.wrap (x19 + 10)) /\ (IntKind.i64.wrap (x19 + 10)) < (25 : Int) then
     if 0 <= (IntKind.i64.wrap (x19 + 15)) /\ (IntKind.i64.wrap (x19 + 15)) < (25 : Int) then
      if 0 <= (IntKind.i64.wrap (x19 + 20)) /\ (IntKind.i64.wrap (x19 + 20)) < (25 : Int) then
       if 0 <= x19 /\ x19 < (5 : Int) then
        Nx x3 x16 (IntKind.i64.wrap (x19 + 1)) c1 c2 (List.set c4 (Int.toNat x19) (bxor .u64 (bxor .u64 (bxor .u64 (bxor .u64 (List.getD c1 (Int.toNat x19) 0) (List.getD c1 (Int.toNat (IntKind.i64.wrap (x19 + 5))) 0)) (List.getD c1 (Int.toNat (IntKind.i64.wrap (x19 + 10))) 0)) (List.getD c1 (Int.toNat (IntKind.i64.wrap (x19 + 15))) 0)) (List.getD c1 (Int.toNat (IntKind.i64.wrap (x19 + 20))) 0)))
       else none
      else none
     else none
    else none
   else none
  else none
 else
  Xt2 x3 x16 c1 c2 c4
theorem l1s_eq (k : Nat) (next : St -> Option α) (Q : Ex -> St -> Option α) (x3 x16 x19 : Int) (c1 c2 c4 : D1) :
  rnd C k cd1 18 Q next (St2 x3 x16 x19 c1 c2 c4) = l1s (fun x3 x16 x19 c1 c2 c4 => next (St2 x3 x16 x19 c1 c2 c4)) (fun x3 x16 c1 c2 c4 => Q (.exit 2) (St3 x3 x16 c1 c2 c4)) x3 x16 x19 c1 c2 c4 := plainly Js (by kernel_rfl)
def l1 (k : Nat) (Xt2 : Int -> Int -> D1 -> D1 -> D1 -> Option α) : Nat -> Int -> Int -> Int -> D1 -> D1 -> D1 -> Option α
 | 0, _, _, _, _, _, _ => none
 | n + 1, x3, x16, x19, c1, c2, c4 => l1s (l1 k Xt2 n) Xt2 x3 x16 x19 c1 c2 c4
theorem l1_eq (k : Nat) (Q : Ex -> St -> Option α) : ∀ (n : Nat) (x3 x16 x19 : Int) (c1 c2 c4 : D1), iter (rnd C k cd1 18 Q) n (St2 x3 x16 x19 c1 c2 c4) = l1 k (fun x3 x16 c1 c2 c4 => Q (.exit 2) (St3 x3 x16 c1 c2 c4)) n x3 x16 x19 c1 c2 c4
 | 0, _, _, _, _, _, _ => rfl
 | n + 1, x3, x16, x19, c1, c2, c4 => (iter_succ _ _ _).trans ((l1s_eq k _ Q x3 x16 x19 c1 c2 c4).trans (congrArg (fun N => l1s N (fun x3 x16 c1 c2 c4 => Q (.exit 2) (St3 x3 x16 c1 c2 c4)) x3 x16 x19 c1 c2 c4) (by funext; exact l1_eq k Q n _ _ _ _ _ _)))
noncomputable def cd2 : Code := cR (cR (cR (cL (cL (cR (cR (cL (cL (cR (cL (cR (cB Tryz.f120))))))))))))
noncomputable def cd3 : Code := cR (cR (cR (cL (cL (cR (cL (cR (cB Tryz.f120))))))))
def St4 (x3 x16 : Int) (c1 c2 c4 : D1) : St := stL 164 [(1, .ref 1 0 []), (2, .ref 2 0 []), (3, .data T1 x3), (4, .ref 4 0 []), (16, .data T1 x16)] [(1, .cell T20 (.data T20 c1) false), (2, .cell T20 (.data T20 c2) false), (4, .cell T22 (.data T22 c4) false)]
def St5 (x3 x16 x48 : Int) (c1 c2 c4 : D1) : St := stL 164 [(1, .ref 1 0 []), (2, .ref 2 0 []), (3, .data T1 x3), (4, .ref 4 0 []), (16, .data T1 x16), (48, .data T1 x48)] [(1, .cell T20 (.data T20 c1) false), (2, .cell T20 (.data T20 c2) false), (4, .cell T22 (.data T22 c4) false)]
noncomputable def cd4 : Code := cL (cL (cR (cL (cR (cR (cR (cL (cL (cR (cR (cL (cL (cR (cL (cR (cB Tryz.f120))))))))))))))))
def St6 (x3 x6 : Int) (x7 x8 : Int) (x16 x48 : Int) (c1 c2 c4 : D1) : St := stL 164 [(1, .ref 1 0 []), (2, .ref 2 0 []), (3, .data T1 x3), (4, .ref 4 0 []), (6, .data T1 x6), (7, .data T18 x7), (8, .data T1 x8), (16, .data T1 x16), (48, .data T1 x48)] [(1, .cell T20 (.data T20 c1) false), (2, .cell T20 (.data T20 c2) false), (4, .cell T22 (.data T22 c4) false)]
noncomputable def cd5 : Code := cL (cL (cR (cR (cR (cL (cL (cR (cR (cL (cL (cR (cL (cR (cR (cR (cL (cL (cR (cR (cL (cL (cR (cL (cR (cB Tryz.f120)))))))))))))))))))))))))
def St7 (x3 x16 x48 : Int) (c1 c2 c4 : D1) : St := stL 164 [(1, .ref 1 0 []), (2, .ref 2 0 []), (3, .data T1 x3), (4, .ref 4 0 []), (16, .data T1 x16), (48, .data T1 x48)] [(1, .cell T20 (.data T20 c1) false), (2, .cell T20 (.data T20 c2) false), (4, .cell T22 (.data T22 c4) false)]
def l3s (Nx : Int -> Int -> Int -> Int -> Int -> Int -> D1 -> D1 -> D1 -> Option α) (Xt6 : Int -> Int -> Int -> D1 -> D1 -> D1 -> Option α) (x3 x6 : Int) (x7 x8 : Int) (x16 x48 : Int) (c1 c2 c4 : D1) : Option α :=
 if (decide (x8 < 25)) = true then
  if 0 <= (IntKind.i64.wrap (x6 + x8)) /\ (IntKind.i64.wrap (x6 + x8)) < (25 : Int) then
   if 0 <= (IntKind.i64.wrap (x6 + x8)) /\ (IntKind.i64.wrap (x6 + x8)) < (25 : Int) then
    Nx x3 x6 x7 (IntKind.i64.wrap (x8 + 5)) x16 x48 (List.set c1 (Int.toNat (IntKind.i64.wrap (x6 + x8))) (bxor .u64 (List.getD c1 (Int.toNat (IntKind.i64.wrap (x6 + x8))) 0) x7)) c2 c4
   else none
  else none
 else
  Xt6 x3 x16 x48 c1 c2 c4
theorem l3s_eq (k : Nat) (next : St -> Option α) (Q : Ex -> St -> Option α) (x3 x6 : Int) (x7 x8 : Int) (x16 x48 : Int) (c1 c2 c4 : D1) :
  rnd C k cd5 45 Q next (St6 x3 x6 x7 x8 x16 x48 c1 c2 c4) = l3s (fun x3 x6 x7 x8 x16 x48 c1 c2 c4 => next (St6 x3 x6 x7 x8 x16 x48 c1 c2 c4)) (fun x3 x16 x48 c1 c2 c4 => Q (.exit 6) (St7 x3 x16 x48 c1 c2 c4)) x3 x6 x7 x8 x16 x48 c1 c2 c4 := plainly Js (by kernel_rfl)
def l3 (k : Nat) (Xt6 : Int -> Int -> Int -> D1 -> D1 -> D1 -> Option α) : Nat -> Int -> Int -> Int -> Int -> Int -> Int -> D1 -> D1 -> D1 -> Option α
 | 0, _, _, _, _, _, _, _, _, _ => none
 | n + 1, x3, x6, x7, x8, x16, x48, c1, c2, c4 => l3s (l3 k Xt6 n) Xt6 x3 x6 x7 x8 x16 x48 c1 c2 c4
theorem l3_eq (k : Nat) (Q : Ex -> St -> Option α) : ∀ (n : Nat) (x3 x6 : Int) (x7 x8 : Int) (x16 x48 : Int) (c1 c2 c4 : D1), iter (rnd C k cd5 45 Q) n (St6 x3 x6 x7 x8 x16 x48 c1 c2 c4) = l3 k (fun x3 x16 x48 c1 c2 c4 => Q (.exit 6) (St7 x3 x16 x48 c1 c2 c4)) n x3 x6 x7 x8 x16 x48 c1 c2 c4
 | 0, _, _, _, _, _, _, _, _, _ => rfl
 | n + 1, x3, x6, x7, x8, x16, x48, c1, c2, c4 => (iter_succ _ _ _).trans ((l3s_eq k _ Q x3 x6 x7 x8 x16 x48 c1 c2 c4).trans (congrArg (fun N => l3s N (fun x3 x16 x48 c1 c2 c4 => Q (.exit 6) (St7 x3 x16 x48 c1 c2 c4)) x3 x6 x7 x8 x16 x48 c1 c2 c4) (by funext; exact l3_eq k Q n _ _ _ _ _ _ _ _ _)))
noncomputable def cd6 : Code := cR (cR (cR (cL (cL (cR (cL (cR (cR (cR (cL (cL (cR (cR (cL (cL (cR (cL (cR (cB Tryz.f120)))))))))))))))))))
def St8 (x3 x16 x48 : Int) (c1 c2 c4 : D1) : St := stL 164 [(1, .ref 1 0 []), (2, .ref 2 0 []), (3, .data T1 x3), (4, .ref 4 0 []), (16, .data T1 x16), (48, .data T1 x48)] [(1, .cell T20 (.data T20 c1) false), (2, .cell T20 (.data T20 c2) false), (4, .cell T22 (.data T22 c4) false)]
def j1 (Nx : Int -> Int -> Int -> D1 -> D1 -> D1 -> Option α) (x3 x16 x48 : Int) (c1 c2 c4 : D1) : Option α :=
 Nx x3 x16 (IntKind.i64.wrap (x48 + 1)) c1 c2 c4
theorem j1_eq (k : Nat) (next : St -> Option α) (Q : Ex -> St -> Option α) (x3 x16 x48 : Int) (c1 c2 c4 : D1) :
  (den C k) cd6 (lq C 33 next Q) (St8 x3 x16 x48 c1 c2 c4) = j1 (fun x3 x16 x48 c1 c2 c4 => next (St5 x3 x16 x48 c1 c2 c4)) x3 x16 x48 c1 c2 c4 := plainly Js (by kernel_rfl)
theorem a0 (k : Nat) (next : St -> Option α) (Q : Ex -> St -> Option α) (x3 x6 : Int) (x7 x8 : Int) (x16 x48 : Int) (c1 c2 c4 : D1) :
  (lp C k) cd5 (blkQ C 6 (blkQ C 5 (sq (den C k) (lp C k) Js C cd6 (lq C 33 next Q)))) (St6 x3 x6 x7 x8 x16 x48 c1 c2 c4) = l3 k (fun x3 x16 x48 c1 c2 c4 => j1 (fun x3 x16 x48 c1 c2 c4 => next (St5 x3 x16 x48 c1 c2 c4)) x3 x16 x48 c1 c2 c4) k x3 x6 x7 x8 x16 x48 c1 c2 c4 :=
 (lp_iter 45 (by kernel_rfl)).trans ((l3_eq k _ k x3 x6 x7 x8 x16 x48 c1 c2 c4).trans (congrArg (fun X => l3 k X k x3 x6 x7 x8 x16 x48 c1 c2 c4) (funext fun x3 => funext fun x16 => funext fun x48 => funext fun c1 => funext fun c2 => funext fun c4 => (Eq.trans (b := (den C k) cd6 (lq C 33 next Q) (St8 x3 x16 x48 c1 c2 c4)) (by kernel_rfl) (by simp only [j1_eq])))))
def St9 (x3 x16 : Int) (c1 c2 : D1) : St := stL 164 [(1, .ref 1 0 []), (2, .ref 2 0 []), (3, .data T1 x3), (16, .data T1 x16)] [(1, .cell T20 (.data T20 c1) false), (2, .cell T20 (.data T20 c2) false)]
def l2s (k : Nat) (Nx : Int -> Int -> Int -> D1 -> D1 -> D1 -> Option α) (Xt4 : Int -> Int -> D1 -> D1 -> Option α) (x3 x16 x48 : Int) (c1 c2 c4 : D1) : Option α :=
 if (decide (x48 < 5)) = true then
  if 0 <= (Int.tmod (IntKind.i64.wrap (x48 + 4)) 5) /\ (Int.tmod (IntKind.i64.wrap (x48 + 4)) 5) < (5 : Int) then
   if 0 <= (Int.tmod (IntKind.i64.wrap (x48 + 1)) 5) /\ (Int.tmod (IntKind.i64.wrap (x48 + 1)) 5) < (5 : Int) then
    (math_bits_RotateLeft64.run (List.getD c4 (Int.toNat (Int.tmod (IntKind.i64.wrap (x48 + 1)) 5)) 0) 1).bind fun y1 =>
    l3 k (fun x3 x16 x48 c1 c2 c4 => j1 Nx x3 x16 x48 c1 c2 c4) k x3 x48 (bxor .u64 (List.getD c4 (Int.toNat (Int.tmod (IntKind.i64.wrap (x48 + 4)) 5)) 0) y1) 0 x16 x48 c1 c2 c4
   else none
  else none
 else
  Xt4 x3 x16 c1 c2
theorem l2s_eq (k : Nat) (next : St -> Option α) (Q : Ex -> St -> Option α) (x3 x16 x48 : Int) (c1 c2 c4 : D1) :
  rnd C k cd4 33 Q next (St5 x3 x16 x48 c1 c2 c4) = l2s k (fun x3 x16 x48 c1 c2 c4 => next (St5 x3 x16 x48 c1 c2 c4)) (fun x3 x16 c1 c2 => Q (.exit 4) (St9 x3 x16 c1 c2)) x3 x16 x48 c1 c2 c4 := by
 have h : ∀ (D L : DT α), denJ D L Js C cd4 (lq C 33 next Q) (St5 x3 x16 x48 c1 c2 c4) =
    if (decide (x48 < 5)) = true then
     if 0 <= (Int.tmod (IntKind.i64.wrap (x48 + 4)) 5) /\ (Int.tmod (IntKind.i64.wrap (x48 + 4)) 5) < (5 : Int) then
      if 0 <= (Int.tmod (IntKind.i64.wrap (x48 + 1)) 5) /\ (Int.tmod (IntKind.i64.wrap (x48 + 1)) 5) < (5 : Int) then
       (math_bits_RotateLeft64.run (List.getD c4 (Int.toNat (Int.tmod (IntKind.i64.wrap (x48 + 1)) 5)) 0) 1).bind fun y1 =>
       L cd5 (blkQ C 6 (blkQ C 5 (sq D L Js C cd6 (lq C 33 next Q)))) (St6 x3 x48 (bxor .u64 (List.getD c4 (Int.toNat (Int.tmod (IntKind.i64.wrap (x48 + 4)) 5)) 0) y1) 0 x16 x48 c1 c2 c4)
      else none
     else none
    else
     Q (.exit 4) (St9 x3 x16 c1 c2) := by
  intro D L; kernel_rfl
 have h2 := via (k := k) h
 refine h2.trans ?_
 simp only [a0]
 first | rfl | kernel_rfl
def l2 (k : Nat) (Xt4 : Int -> Int -> D1 -> D1 -> Option α) : Nat -> Int -> Int -> Int -> D1 -> D1 -> D1 -> Option α
 | 0, _, _, _, _, _, _ => none
 | n + 1, x3, x16, x48, c1, c2, c4 => l2s k (l2 k Xt4 n) Xt4 x3 x16 x48 c1 c2 c4
theorem l2_eq (k : Nat) (Q : Ex -> St -> Option α) : ∀ (n : Nat) (x3 x16 x48 : Int) (c1 c2 c4 : D1), iter (rnd C k cd4 33 Q) n (St5 x3 x16 x48 c1 c2 c4) = l2 k (fun x3 x16 c1 c2 => Q (.exit 4) (St9 x3 x16 c1 c2)) n x3 x16 x48 c1 c2 c4
 | 0, _, _, _, _, _, _ => rfl
 | n + 1, x3, x16, x48, c1, c2, c4 => (iter_succ _ _ _).trans ((l2s_eq k _ Q x3 x16 x48 c1 c2 c4).trans (congrArg (fun N => l2s k N (fun x3 x16 c1 c2 => Q (.exit 4) (St9 x3 x16 c1 c2)) x3 x16 x48 c1 c2 c4) (by funext; exact l2_eq k Q n _ _ _ _ _ _)))
noncomputable def cd7 : Code := cR (cR (cR (cR (cL (cL (cR (cR (cL (cL (cR (cL (cR (cB Tryz.f120)))))))))))))
def St10 (x3 x16 : Int) (c1 c2 : D1) : St := stL 164 [(1, .ref 1 0 []), (2, .ref 2 0 []), (3, .data T1 x3), (16, .data T1 x16)] [(1, .cell T20 (.data T20 c1) false), (2, .cell T20 (.data T20 c2) false)]
def St11 (x3 x9 : Int) (x10 x11 : Int) (x16 x78 : Int) (c1 c2 : D1) : St := stL 164 [(1, .ref 1 0 []), (2, .ref 2 0 []), (3, .data T1 x3), (9, .data T1 x9), (10, .data T1 x10), (11, .data T18 x11), (16, .data T1 x16), (78, .data T1 x78)] [(1, .cell T20 (.data T20 c1) false), (2, .cell T20 (.data T20 c2) false)]
noncomputable def cd8 : Code := cL (cL (cR (cL (cR (cR (cR (cR (cR (cL (cL (cR (cR (cL (cL (cR (cL (cR (cB Tryz.f120))))))))))))))))))
def St12 (x3 x16 : Int) (c1 c2 : D1) : St := stL 164 [(1, .ref 1 0 []), (2, .ref 2 0 []), (3, .data T1 x3), (16, .data T1 x16)] [(1, .cell T20 (.data T20 c1) false), (2, .cell T20 (.data T20 c2) false)]
def l4s (Nx : Int -> Int -> Int -> Int -> Int -> Int -> D1 -> D1 -> Option α) (Xt8 : Int -> Int -> D1 -> D1 -> Option α) (x3 x9 : Int) (x10 x11 : Int) (x16 x78 : Int) (c1 c2 : D1) : Option α :=
 if (decide (x78 < 24)) = true then
  if 0 <= (IntKind.i64.wrap (x10 + (IntKind.i64.wrap (5 * (Int.tmod (IntKind.i64.wrap ((IntKind.i64.wrap (2 * x9)) + (IntKind.i64.wrap (3 * x10)))) 5))))) /\ (IntKind.i64.wrap (x10 + (IntKind.i64.wrap (5 * (Int.tmod (IntKind.i64.wrap ((IntKind.i64.wrap (2 * x9)) + (IntKind.i64.wrap (3 * x10)))) 5))))) < (25 : Int) then
   (math_bits_RotateLeft64.run x11 (IntKind.i64.wrap (Int.tdiv (IntKind.i64.wrap ((IntKind.i64.wrap (x78 + 1)) * (IntKind.i64.wrap (x78 + 2)))) 2))).bind fun y2 =>
   if 0 <= (IntKind.i64.wrap (x10 + (IntKind.i64.wrap (5 * (Int.tmod (IntKind.i64.wrap ((IntKind.i64.wrap (2 * x9)) + (IntKind.i64.wrap (3 * x10)))) 5))))) /\ (IntKind.i64.wrap (x10 + (IntKind.i64.wrap (5 * (Int.tmod (IntKind.i64.wrap ((IntKind.i64.wrap (2 * x9)) + (IntKind.i64.wrap (3 * x10)))) 5))))) < (25 : Int) then
    Nx x3 x10 (Int.tmod (IntKind.i64.wrap ((IntKind.i64.wrap (2 * x9)) + (IntKind.i64.wrap (3 * x10)))) 5) (List.getD c1 (Int.toNat (IntKind.i64.wrap (x10 + (IntKind.i64.wrap (5 * (Int.tmod (IntKind.i64.wrap ((IntKind.i64.wrap (2 * x9)) + (IntKind.i64.wrap (3 * x10)))) 5)))))) 0) x16 (IntKind.i64.wrap (x78 + 1)) (List.set c1 (Int.toNat (IntKind.i64.wrap (x10 + (IntKind.i64.wrap (5 * (Int.tmod (IntKind.i64.wrap ((IntKind.i64.wrap (2 * x9)) + (IntKind.i64.wrap (3 * x10)))) 5)))))) y2) c2
   else none
  else none
 else
  Xt8 x3 x16 c1 c2
theorem l4s_eq (k : Nat) (next : St -> Option α) (Q : Ex -> St -> Option α) (x3 x9 : Int) (x10 x11 : Int) (x16 x78 : Int) (c1 c2 : D1) :
  rnd C k cd8 63 Q next (St11 x3 x9 x10 x11 x16 x78 c1 c2) = l4s (fun x3 x9 x10 x11 x16 x78 c1 c2 => next (St11 x3 x9 x10 x11 x16 x78 c1 c2)) (fun x3 x16 c1 c2 => Q (.exit 8) (St12 x3 x16 c1 c2)) x3 x9 x10 x11 x16 x78 c1 c2 := plainly Js (by kernel_rfl)
def l4 (k : Nat) (Xt8 : Int -> Int -> D1 -> D1 -> Option α) : Nat -> Int -> Int -> Int -> Int -> Int -> Int -> D1 -> D1 -> Option α
 | 0, _, _, _, _, _, _, _, _ => none
 | n + 1, x3, x9, x10, x11, x16, x78, c1, c2 => l4s (l4 k Xt8 n) Xt8 x3 x9 x10 x11 x16 x78 c1 c2
theorem l4_eq (k : Nat) (Q : Ex -> St -> Option α) : ∀ (n : Nat) (x3 x9 : Int) (x10 x11 : Int) (x16 x78 : Int) (c1 c2 : D1), iter (rnd C k cd8 63 Q) n (St11 x3 x9 x10 x11 x16 x78 c1 c2) = l4 k (fun x3 x16 c1 c2 => Q (.exit 8) (St12 x3 x16 c1 c2)) n x3 x9 x10 x11 x16 x78 c1 c2
 | 0, _, _, _, _, _, _, _, _ => rfl
 | n + 1, x3, x9, x10, x11, x16, x78, c1, c2 => (iter_succ _ _ _).trans ((l4s_eq k _ Q x3 x9 x10 x11 x16 x78 c1 c2).trans (congrArg (fun N => l4s N (fun x3 x16 c1 c2 => Q (.exit 8) (St12 x3 x16 c1 c2)) x3 x9 x10 x11 x16 x78 c1 c2) (by funext; exact l4_eq k Q n _ _ _ _ _ _ _ _)))
noncomputable def cd9 : Code := cR (cR (cR (cR (cR (cR (cL (cL (cR (cR (cL (cL (cR (cL (cR (cB Tryz.f120)))))))))))))))
def St13 (x3 x16 : Int) (c1 c2 : D1) : St := stL 164 [(1, .ref 1 0 []), (2, .ref 2 0 []), (3, .data T1 x3), (16, .data T1 x16)] [(1, .cell T20 (.data T20 c1) false), (2, .cell T20 (.data T20 c2) false)]
def St14 (x3 x13 x16 : Int) (c1 c2 : D1) : St := stL 164 [(1, .ref 1 0 []), (2, .ref 2 0 []), (3, .data T1 x3), (13, .data T1 x13), (16, .data T1 x16)] [(1, .cell T20 (.data T20 c1) false), (2, .cell T20 (.data T20 c2) false)]
noncomputable def cd10 : Code := cL (cL (cR (cL (cR (cR (cR (cR (cR (cR (cL (cL (cR (cR (cL (cL (cR (cL (cR (cB Tryz.f120)))))))))))))))))))
def St15 (x3 x13 : Int) (x16 x132 : Int) (c1 c2 c14 : D1) : St := stL 164 [(1, .ref 1 0 []), (2, .ref 2 0 []), (3, .data T1 x3), (13, .data T1 x13), (14, .ref 14 0 []), (16, .data T1 x16), (132, .data T1 x132)] [(1, .cell T20 (.data T20 c1) false), (2, .cell T20 (.data T20 c2) false), (14, .cell T22 (.data T22 c14) false)]
noncomputable def cd11 : Code := cL (cL (cR (cR (cL (cL (cR (cL (cL (cR (cL (cR (cR (cR (cR (cR (cR (cL (cL (cR (cR (cL (cL (cR (cL (cR (cB Tryz.f120))))))))))))))))))))))))))
def St16 (x3 x13 x16 : Int) (c1 c2 : D1) : St := stL 164 [(1, .ref 1 0 []), (2, .ref 2 0 []), (3, .data T1 x3), (13, .data T1 x13), (16, .data T1 x16)] [(1, .cell T20 (.data T20 c1) false), (2, .cell T20 (.data T20 c2) false)]
def l6s (Nx : Int -> Int -> Int -> Int -> D1 -> D1 -> D1 -> Option α) (Xt12 : Int -> Int -> Int -> D1 -> D1 -> Option α) (x3 x13 : Int) (x16 x132 : Int) (c1 c2 c14 : D1) : Option α :=
 if (decide (x132 < 5)) = true then
  if 0 <= x132 /\ x132 < (5 : Int) then
   if 0 <= (Int.tmod (IntKind.i64.wrap (x132 + 1)) 5) /\ (Int.tmod (IntKind.i64.wrap (x132 + 1)) 5) < (5 : Int) then
    if 0 <= (Int.tmod (IntKind.i64.wrap (x132 + 2)) 5) /\ (Int.tmod (IntKind.i64.wrap (x132 + 2)) 5) < (5 : Int) then
     if 0 <= (IntKind.i64.wrap (x13 + x132)) /\ (IntKind.i64.wrap (x13 + x132)) < (25 : Int) then
      Nx x3 x13 x16 (IntKind.i64.wrap (x132 + 1)) (List.set c1 (Int.toNat (IntKind.i64.wrap (x13 + x132))) (bxor .u64 (List.getD c14 (Int.toNat x132) 0) (band .u64 (bxor .u64 18446744073709551615 (List.getD c14 (Int.toNat (Int.tmod (IntKind.i64.wrap (x132 + 1)) 5)) 0)) (List.getD c14 (Int.toNat (Int.tmod (IntKind.i64.wrap (x132 + 2)) 5)) 0)))) c2 c14
     else none
    else none
   else none
  else none
 else
  Xt12 x3 x13 x16 c1 c2
theorem l6s_eq (k : Nat) (next : St -> Option α) (Q : Ex -> St -> Option α) (x3 x13 : Int) (x16 x132 : Int) (c1 c2 c14 : D1) :
  rnd C k cd11 93 Q next (St15 x3 x13 x16 x132 c1 c2 c14) = l6s (fun x3 x13 x16 x132 c1 c2 c14 => next (St15 x3 x13 x16 x132 c1 c2 c14)) (fun x3 x13 x16 c1 c2 => Q (.exit 12) (St16 x3 x13 x16 c1 c2)) x3 x13 x16 x132 c1 c2 c14 := plainly Js (by kernel_rfl)
def l6 (k : Nat) (Xt12 : Int -> Int -> Int -> D1 -> D1 -> Option α) : Nat -> Int -> Int -> Int -> Int -> D1 -> D1 -> D1 -> Option α
 | 0, _, _, _, _, _, _, _ => none
 | n + 1, x3, x13, x16, x132, c1, c2, c14 => l6s (l6 k Xt12 n) Xt12 x3 x13 x16 x132 c1 c2 c14
theorem l6_eq (k : Nat) (Q : Ex -> St -> Option α) : ∀ (n : Nat) (x3 x13 : Int) (x16 x132 : Int) (c1 c2 c14 : D1), iter (rnd C k cd11 93 Q) n (St15 x3 x13 x16 x132 c1 c2 c14) = l6 k (fun x3 x13 x16 c1 c2 => Q (.exit 12) (St16 x3 x13 x16 c1 c2)) n x3 x13 x16 x132 c1 c2 c14
 | 0, _, _, _, _, _, _, _ => rfl
 | n + 1, x3, x13, x16, x132, c1, c2, c14 => (iter_succ _ _ _).trans ((l6s_eq k _ Q x3 x13 x16 x132 c1 c2 c14).trans (congrArg (fun N => l6s N (fun x3 x13 x16 c1 c2 => Q (.exit 12) (St16 x3 x13 x16 c1 c2)) x3 x13 x16 x132 c1 c2 c14) (by funext; exact l6_eq k Q n _ _ _ _ _ _ _)))
noncomputable def cd12 : Code := cR (cR (cL (cL (cR (cL (cR (cR (cR (cR (cR (cR (cL (cL (cR (cR (cL (cL (cR (cL (cR (cB Tryz.f120)))))))))))))))))))))
def St17 (x3 x13 x16 : Int) (c1 c2 : D1) : St := stL 164 [(1, .ref 1 0 []), (2, .ref 2 0 []), (3, .data T1 x3), (13, .data T1 x13), (16, .data T1 x16)] [(1, .cell T20 (.data T20 c1) false), (2, .cell T20 (.data T20 c2) false)]
def j4 (Nx : Int -> Int -> Int -> D1 -> D1 -> Option α) (x3 x13 x16 : Int) (c1 c2 : D1) : Option α :=
 Nx x3 (IntKind.i64.wrap (x13 + 5)) x16 c1 c2
theorem j4_eq (k : Nat) (next : St -> Option α) (Q : Ex -> St -> Option α) (x3 x13 x16 : Int) (c1 c2 : D1) :
  (den C k) cd12 (lq C 81 next Q) (St17 x3 x13 x16 c1 c2) = j4 (fun x3 x13 x16 c1 c2 => next (St14 x3 x13 x16 c1 c2)) x3 x13 x16 c1 c2 := plainly Js (by kernel_rfl)
theorem a1 (k : Nat) (next : St -> Option α) (Q : Ex -> St -> Option α) (x3 x13 : Int) (x16 x132 : Int) (c1 c2 c14 : D1) :
  (lp C k) cd11 (blkQ C 12 (blkQ C 11 (sq (den C k) (lp C k) Js C cd12 (lq C 81 next Q)))) (St15 x3 x13 x16 x132 c1 c2 c14) = l6 k (fun x3 x13 x16 c1 c2 => j4 (fun x3 x13 x16 c1 c2 => next (St14 x3 x13 x16 c1 c2)) x3 x13 x16 c1 c2) k x3 x13 x16 x132 c1 c2 c14 :=
 (lp_iter 93 (by kernel_rfl)).trans ((l6_eq k _ k x3 x13 x16 x132 c1 c2 c14).trans (congrArg (fun X => l6 k X k x3 x13 x16 x132 c1 c2 c14) (funext fun x3 => funext fun x13 => funext fun x16 => funext fun c1 => funext fun c2 => (Eq.trans (b := (den C k) cd12 (lq C 81 next Q) (St17 x3 x13 x16 c1 c2)) (by kernel_rfl) (by simp only [j4_eq])))))
def St18 (x3 x16 : Int) (c1 c2 : D1) : St := stL 164 [(1, .ref 1 0 []), (2, .ref 2 0 []), (3, .data T1 x3), (16, .data T1 x16)] [(1, .cell T20 (.data T20 c1) false), (2, .cell T20 (.data T20 c2) false)]
def l5s (k : Nat) (Nx : Int -> Int -> Int -> D1 -> D1 -> Option α) (Xt10 : Int -> Int -> D1 -> D1 -> Option α) (x3 x13 x16 : Int) (c1 c2 : D1) : Option α :=
 if (decide (x13 < 25)) = true then
  if 0 <= x13 /\ x13 < (25 : Int) then
   if 0 <= (IntKind.i64.wrap (x13 + 1)) /\ (IntKind.i64.wrap (x13 + 1)) < (25 : Int) then
    if 0 <= (IntKind.i64.wrap (x13 + 2)) /\ (IntKind.i64.wrap (x13 + 2)) < (25 : Int) then
     if 0 <= (IntKind.i64.wrap (x13 + 3)) /\ (IntKind.i64.wrap (x13 + 3)) < (25 : Int) then
      if 0 <= (IntKind.i64.wrap (x13 + 4)) /\ (IntKind.i64.wrap (x13 + 4)) < (25 : Int) then
       l6 k (fun x3 x13 x16 c1 c2 => j4 Nx x3 x13 x16 c1 c2) k x3 x13 x16 0 c1 c2 [(List.getD c1 (Int.toNat x13) 0), (List.getD c1 (Int.toNat (IntKind.i64.wrap (x13 + 1))) 0), (List.getD c1 (Int.toNat (IntKind.i64.wrap (x13 + 2))) 0), (List.getD c1 (Int.toNat (IntKind.i64.wrap (x13 + 3))) 0), (List.getD c1 (Int.toNat (IntKind.i64.wrap (x13 + 4))) 0)]
      else none
     else none
    else none
   else none
  else none
 else
  Xt10 x3 x16 c1 c2
theorem l5s_eq (k : Nat) (next : St -> Option α) (Q : Ex -> St -> Option α) (x3 x13 x16 : Int) (c1 c2 : D1) :
  rnd C k cd10 81 Q next (St14 x3 x13 x16 c1 c2) = l5s k (fun x3 x13 x16 c1 c2 => next (St14 x3 x13 x16 c1 c2)) (fun x3 x16 c1 c2 => Q (.exit 10) (St18 x3 x16 c1 c2)) x3 x13 x16 c1 c2 := by
 have h : ∀ (D L : DT α), denJ D L Js C cd10 (lq C 81 next Q) (St14 x3 x13 x16 c1 c2) =
    if (decide (x13 < 25)) = true then
     if 0 <= x13 /\ x13 < (25 : Int) then
      if 0 <= (IntKind.i64.wrap (x13 + 1)) /\ (IntKind.i64.wrap (x13 + 1)) < (25 : Int) then
       if 0 <= (IntKind.i64.wrap (x13 + 2)) /\ (IntKind.i64.wrap (x13 + 2)) < (25 : Int) then
        if 0 <= (IntKind.i64.wrap (x13 + 3)) /\ (IntKind.i64.wrap (x13 + 3)) < (25 : Int) then
         if 0 <= (IntKind.i64.wrap (x13 + 4)) /\ (IntKind.i64.wrap (x13 + 4)) < (25 : Int) then
          L cd11 (blkQ C 12 (blkQ C 11 (sq D L Js C cd12 (lq C 81 next Q)))) (St15 x3 x13 x16 0 c1 c2 [(List.getD c1 (Int.toNat x13) 0), (List.getD c1 (Int.toNat (IntKind.i64.wrap (x13 + 1))) 0), (List.getD c1 (Int.toNat (IntKind.i64.wrap (x13 + 2))) 0), (List.getD c1 (Int.toNat (IntKind.i64.wrap (x13 + 3))) 0), (List.getD c1 (Int.toNat (IntKind.i64.wrap (x13 + 4))) 0)])
         else none
        else none
       else none
      else none
     else none
    else
     Q (.exit 10) (St18 x3 x16 c1 c2) := by
  intro D L; kernel_rfl
 have h2 := via (k := k) h
 refine h2.trans ?_
 simp only [a1]
 first | rfl | kernel_rfl
def l5 (k : Nat) (Xt10 : Int -> Int -> D1 -> D1 -> Option α) : Nat -> Int -> Int -> Int -> D1 -> D1 -> Option α
 | 0, _, _, _, _, _ => none
 | n + 1, x3, x13, x16, c1, c2 => l5s k (l5 k Xt10 n) Xt10 x3 x13 x16 c1 c2
theorem l5_eq (k : Nat) (Q : Ex -> St -> Option α) : ∀ (n : Nat) (x3 x13 x16 : Int) (c1 c2 : D1), iter (rnd C k cd10 81 Q) n (St14 x3 x13 x16 c1 c2) = l5 k (fun x3 x16 c1 c2 => Q (.exit 10) (St18 x3 x16 c1 c2)) n x3 x13 x16 c1 c2
 | 0, _, _, _, _, _ => rfl
 | n + 1, x3, x13, x16, c1, c2 => (iter_succ _ _ _).trans ((l5s_eq k _ Q x3 x13 x16 c1 c2).trans (congrArg (fun N => l5s k N (fun x3 x16 c1 c2 => Q (.exit 10) (St18 x3 x16 c1 c2)) x3 x13 x16 c1 c2) (by funext; exact l5_eq k Q n _ _ _ _ _)))
noncomputable def cd13 : Code := cR (cR (cR (cR (cR (cR (cR (cL (cL (cR (cR (cL (cL (cR (cL (cR (cB Tryz.f120))))))))))))))))
def St19 (x3 x16 : Int) (c1 c2 : D1) : St := stL 164 [(1, .ref 1 0 []), (2, .ref 2 0 []), (3, .data T1 x3), (16, .data T1 x16)] [(1, .cell T20 (.data T20 c1) false), (2, .cell T20 (.data T20 c2) false)]
def St20 (x16 : Int) (c1 c2 : D1) : St := stL 164 [(1, .ref 1 0 []), (2, .ref 2 0 []), (16, .data T1 x16)] [(1, .cell T20 (.data T20 c1) false), (2, .cell T20 (.data T20 c2) false)]
def j6 (Nx : Int -> D1 -> D1 -> Option α) (x16 : Int) (c1 c2 : D1) : Option α :=
 Nx (IntKind.i64.wrap (x16 + 1)) c1 c2
theorem j6_eq (k : Nat) (next : St -> Option α) (Q : Ex -> St -> Option α) (x16 : Int) (c1 c2 : D1) :
  (den C k) cd3 (lq C 6 next Q) (St20 x16 c1 c2) = j6 (fun x16 c1 c2 => next (St1 x16 c1 c2)) x16 c1 c2 := plainly Js (by kernel_rfl)
def j5 (Nx : Int -> D1 -> D1 -> Option α) (x3 x16 : Int) (c1 c2 : D1) : Option α :=
 (basculeref_roundOf.run x3).bind fun y3 =>
 j6 Nx x16 (List.set c1 0 (bxor .u64 (List.getD c1 0 0) y3)) c2
theorem j5_eq (k : Nat) (next : St -> Option α) (Q : Ex -> St -> Option α) (x3 x16 : Int) (c1 c2 : D1) :
  (den C k) cd13 (blkQ C 1 (sq (den C k) (lp C k) Js C cd3 (lq C 6 next Q))) (St19 x3 x16 c1 c2) = j5 (fun x16 c1 c2 => next (St1 x16 c1 c2)) x3 x16 c1 c2 := by
 have h : ∀ (D L : DT α), denJ D L Js C cd13 (blkQ C 1 (sq D L Js C cd3 (lq C 6 next Q))) (St19 x3 x16 c1 c2) =
    (basculeref_roundOf.run x3).bind fun y3 =>
    D cd3 (lq C 6 next Q) (St20 x16 (List.set c1 0 (bxor .u64 (List.getD c1 0 0) y3)) c2) := by
  intro D L; kernel_rfl
 have h2 := via (k := k) h
 refine h2.trans ?_
 simp only [j6_eq]
 first | rfl | kernel_rfl
theorem a2 (k : Nat) (next : St -> Option α) (Q : Ex -> St -> Option α) (x3 x13 x16 : Int) (c1 c2 : D1) :
  (lp C k) cd10 (blkQ C 10 (sq (den C k) (lp C k) Js C cd13 (blkQ C 1 (sq (den C k) (lp C k) Js C cd3 (lq C 6 next Q))))) (St14 x3 x13 x16 c1 c2) = l5 k (fun x3 x16 c1 c2 => j5 (fun x16 c1 c2 => next (St1 x16 c1 c2)) x3 x16 c1 c2) k x3 x13 x16 c1 c2 :=
 (lp_iter 81 (by kernel_rfl)).trans ((l5_eq k _ k x3 x13 x16 c1 c2).trans (congrArg (fun X => l5 k X k x3 x13 x16 c1 c2) (funext fun x3 => funext fun x16 => funext fun c1 => funext fun c2 => (Eq.trans (b := (den C k) cd13 (blkQ C 1 (sq (den C k) (lp C k) Js C cd3 (lq C 6 next Q))) (St19 x3 x16 c1 c2)) (by kernel_rfl) (by simp only [j5_eq])))))
def j3 (k : Nat) (Nx : Int -> D1 -> D1 -> Option α) (x3 x16 : Int) (c1 c2 : D1) : Option α :=
 l5 k (fun x3 x16 c1 c2 => j5 Nx x3 x16 c1 c2) k x3 0 x16 c1 c2
theorem j3_eq (k : Nat) (next : St -> Option α) (Q : Ex -> St -> Option α) (x3 x16 : Int) (c1 c2 : D1) :
  (den C k) cd9 (blkQ C 1 (sq (den C k) (lp C k) Js C cd3 (lq C 6 next Q))) (St13 x3 x16 c1 c2) = j3 k (fun x16 c1 c2 => next (St1 x16 c1 c2)) x3 x16 c1 c2 := by
 have h : ∀ (D L : DT α), denJ D L Js C cd9 (blkQ C 1 (sq D L Js C cd3 (lq C 6 next Q))) (St13 x3 x16 c1 c2) =
    L cd10 (blkQ C 10 (sq D L Js C cd13 (blkQ C 1 (sq D L Js C cd3 (lq C 6 next Q))))) (St14 x3 0 x16 c1 c2) := by
  intro D L; kernel_rfl
 have h2 := via (k := k) h
 refine h2.trans ?_
 simp only [a2]
 first | rfl | kernel_rfl
theorem a3 (k : Nat) (next : St -> Option α) (Q : Ex -> St -> Option α) (x3 x9 : Int) (x10 x11 : Int) (x16 x78 : Int) (c1 c2 : D1) :
  (lp C k) cd8 (blkQ C 8 (sq (den C k) (lp C k) Js C cd9 (blkQ C 1 (sq (den C k) (lp C k) Js C cd3 (lq C 6 next Q))))) (St11 x3 x9 x10 x11 x16 x78 c1 c2) = l4 k (fun x3 x16 c1 c2 => j3 k (fun x16 c1 c2 => next (St1 x16 c1 c2)) x3 x16 c1 c2) k x3 x9 x10 x11 x16 x78 c1 c2 :=
 (lp_iter 63 (by kernel_rfl)).trans ((l4_eq k _ k x3 x9 x10 x11 x16 x78 c1 c2).trans (congrArg (fun X => l4 k X k x3 x9 x10 x11 x16 x78 c1 c2) (funext fun x3 => funext fun x16 => funext fun c1 => funext fun c2 => (Eq.trans (b := (den C k) cd9 (blkQ C 1 (sq (den C k) (lp C k) Js C cd3 (lq C 6 next Q))) (St13 x3 x16 c1 c2)) (by kernel_rfl) (by simp only [j3_eq])))))
def j2 (k : Nat) (Nx : Int -> D1 -> D1 -> Option α) (x3 x16 : Int) (c1 c2 : D1) : Option α :=
 l4 k (fun x3 x16 c1 c2 => j3 k Nx x3 x16 c1 c2) k x3 1 0 (List.getD c1 1 0) x16 0 c1 c2
theorem j2_eq (k : Nat) (next : St -> Option α) (Q : Ex -> St -> Option α) (x3 x16 : Int) (c1 c2 : D1) :
  (den C k) cd7 (blkQ C 1 (sq (den C k) (lp C k) Js C cd3 (lq C 6 next Q))) (St10 x3 x16 c1 c2) = j2 k (fun x16 c1 c2 => next (St1 x16 c1 c2)) x3 x16 c1 c2 := by
 have h : ∀ (D L : DT α), denJ D L Js C cd7 (blkQ C 1 (sq D L Js C cd3 (lq C 6 next Q))) (St10 x3 x16 c1 c2) =
    L cd8 (blkQ C 8 (sq D L Js C cd9 (blkQ C 1 (sq D L Js C cd3 (lq C 6 next Q))))) (St11 x3 1 0 (List.getD c1 1 0) x16 0 c1 c2) := by
  intro D L; kernel_rfl
 have h2 := via (k := k) h
 refine h2.trans ?_
 simp only [a3]
 first | rfl | kernel_rfl
theorem a4 (k : Nat) (next : St -> Option α) (Q : Ex -> St -> Option α) (x3 x16 x48 : Int) (c1 c2 c4 : D1) :
  (lp C k) cd4 (blkQ C 4 (sq (den C k) (lp C k) Js C cd7 (blkQ C 1 (sq (den C k) (lp C k) Js C cd3 (lq C 6 next Q))))) (St5 x3 x16 x48 c1 c2 c4) = l2 k (fun x3 x16 c1 c2 => j2 k (fun x16 c1 c2 => next (St1 x16 c1 c2)) x3 x16 c1 c2) k x3 x16 x48 c1 c2 c4 :=
 (lp_iter 33 (by kernel_rfl)).trans ((l2_eq k _ k x3 x16 x48 c1 c2 c4).trans (congrArg (fun X => l2 k X k x3 x16 x48 c1 c2 c4) (funext fun x3 => funext fun x16 => funext fun c1 => funext fun c2 => (Eq.trans (b := (den C k) cd7 (blkQ C 1 (sq (den C k) (lp C k) Js C cd3 (lq C 6 next Q))) (St10 x3 x16 c1 c2)) (by kernel_rfl) (by simp only [j2_eq])))))
def j0 (k : Nat) (Nx : Int -> D1 -> D1 -> Option α) (x3 x16 : Int) (c1 c2 c4 : D1) : Option α :=
 l2 k (fun x3 x16 c1 c2 => j2 k Nx x3 x16 c1 c2) k x3 x16 0 c1 c2 c4
theorem j0_eq (k : Nat) (next : St -> Option α) (Q : Ex -> St -> Option α) (x3 x16 : Int) (c1 c2 c4 : D1) :
  (den C k) cd2 (blkQ C 1 (sq (den C k) (lp C k) Js C cd3 (lq C 6 next Q))) (St4 x3 x16 c1 c2 c4) = j0 k (fun x16 c1 c2 => next (St1 x16 c1 c2)) x3 x16 c1 c2 c4 := by
 have h : ∀ (D L : DT α), denJ D L Js C cd2 (blkQ C 1 (sq D L Js C cd3 (lq C 6 next Q))) (St4 x3 x16 c1 c2 c4) =
    L cd4 (blkQ C 4 (sq D L Js C cd7 (blkQ C 1 (sq D L Js C cd3 (lq C 6 next Q))))) (St5 x3 x16 0 c1 c2 c4) := by
  intro D L; kernel_rfl
 have h2 := via (k := k) h
 refine h2.trans ?_
 simp only [a4]
 first | rfl | kernel_rfl
theorem a5 (k : Nat) (next : St -> Option α) (Q : Ex -> St -> Option α) (x3 x16 x19 : Int) (c1 c2 c4 : D1) :
  (lp C k) cd1 (blkQ C 2 (sq (den C k) (lp C k) Js C cd2 (blkQ C 1 (sq (den C k) (lp C k) Js C cd3 (lq C 6 next Q))))) (St2 x3 x16 x19 c1 c2 c4) = l1 k (fun x3 x16 c1 c2 c4 => j0 k (fun x16 c1 c2 => next (St1 x16 c1 c2)) x3 x16 c1 c2 c4) k x3 x16 x19 c1 c2 c4 :=
 (lp_iter 18 (by kernel_rfl)).trans ((l1_eq k _ k x3 x16 x19 c1 c2 c4).trans (congrArg (fun X => l1 k X k x3 x16 x19 c1 c2 c4) (funext fun x3 => funext fun x16 => funext fun c1 => funext fun c2 => funext fun c4 => (Eq.trans (b := (den C k) cd2 (blkQ C 1 (sq (den C k) (lp C k) Js C cd3 (lq C 6 next Q))) (St4 x3 x16 c1 c2 c4)) (by kernel_rfl) (by simp only [j0_eq])))))
def St21 (c1 c2 : D1) : St := stL 164 [(1, .ref 1 0 []), (2, .ref 2 0 [])] [(1, .cell T20 (.data T20 c1) false), (2, .cell T20 (.data T20 c2) false)]
def l0s (k : Nat) (Nx : Int -> D1 -> D1 -> Option α) (Xt0 : D1 -> D1 -> Option α) (x16 : Int) (c1 c2 : D1) : Option α :=
 if (decide (x16 < 24)) = true then
  l1 k (fun x3 x16 c1 c2 c4 => j0 k Nx x3 x16 c1 c2 c4) k x16 x16 0 c1 c2 [0, 0, 0, 0, 0]
 else
  Xt0 c1 c2
theorem l0s_eq (k : Nat) (next : St -> Option α) (Q : Ex -> St -> Option α) (x16 : Int) (c1 c2 : D1) :
  rnd C k cd0 6 Q next (St1 x16 c1 c2) = l0s k (fun x16 c1 c2 => next (St1 x16 c1 c2)) (fun c1 c2 => Q (.exit 0) (St21 c1 c2)) x16 c1 c2 := by
 have h : ∀ (D L : DT α), denJ D L Js C cd0 (lq C 6 next Q) (St1 x16 c1 c2) =
    if (decide (x16 < 24)) = true then
     L cd1 (blkQ C 2 (sq D L Js C cd2 (blkQ C 1 (sq D L Js C cd3 (lq C 6 next Q))))) (St2 x16 x16 0 c1 c2 [0, 0, 0, 0, 0])
    else
     Q (.exit 0) (St21 c1 c2) := by
  intro D L; kernel_rfl
 have h2 := via (k := k) h
 refine h2.trans ?_
 simp only [a5]
 first | rfl | kernel_rfl
def l0 (k : Nat) (Xt0 : D1 -> D1 -> Option α) : Nat -> Int -> D1 -> D1 -> Option α
 | 0, _, _, _ => none
 | n + 1, x16, c1, c2 => l0s k (l0 k Xt0 n) Xt0 x16 c1 c2
theorem l0_eq (k : Nat) (Q : Ex -> St -> Option α) : ∀ (n : Nat) (x16 : Int) (c1 c2 : D1), iter (rnd C k cd0 6 Q) n (St1 x16 c1 c2) = l0 k (fun c1 c2 => Q (.exit 0) (St21 c1 c2)) n x16 c1 c2
 | 0, _, _, _ => rfl
 | n + 1, x16, c1, c2 => (iter_succ _ _ _).trans ((l0s_eq k _ Q x16 c1 c2).trans (congrArg (fun N => l0s k N (fun c1 c2 => Q (.exit 0) (St21 c1 c2)) x16 c1 c2) (by funext; exact l0_eq k Q n _ _ _)))
noncomputable def cd14 : Code := cR (cR (cB Tryz.f120))
def St22 (c1 c2 : D1) : St := stL 164 [(1, .ref 1 0 []), (2, .ref 2 0 [])] [(1, .cell T20 (.data T20 c1) false), (2, .cell T20 (.data T20 c2) false)]
def St23 (c2 : D1) : St := stL 164 [(2, .ref 2 0 [])] [(2, .cell T20 (.data T20 c2) false)]
def j7 (Rt : D1 -> Option α) (c1 c2 : D1) : Option α :=
 Rt c1
theorem j7_eq (k : Nat) (Q : Ex -> St -> Option α) (c1 c2 : D1) :
  (den C k) cd14 Q (St22 c1 c2) = j7 (fun c2 => Q .ret (St23 c2)) c1 c2 := plainly Js (by kernel_rfl)
theorem a6 (k : Nat) (Q : Ex -> St -> Option α) (x16 : Int) (c1 c2 : D1) :
  (lp C k) cd0 (blkQ C 0 (sq (den C k) (lp C k) Js C cd14 Q)) (St1 x16 c1 c2) = l0 k (fun c1 c2 => j7 (fun c2 => Q .ret (St23 c2)) c1 c2) k x16 c1 c2 :=
 (lp_iter 6 (by kernel_rfl)).trans ((l0_eq k _ k x16 c1 c2).trans (congrArg (fun X => l0 k X k x16 c1 c2) (funext fun c1 => funext fun c2 => (Eq.trans (b := (den C k) cd14 Q (St22 c1 c2)) (by kernel_rfl) (by simp only [j7_eq])))))
def top (k : Nat) (Rt : D1 -> Option α) (x0 : D1) : Option α :=
 l0 k (fun c1 c2 => j7 Rt c1 c2) k 0 x0 (List.replicate 25 0)
theorem top_eq (k : Nat) (Q : Ex -> St -> Option α) (x0 : D1) :
  (den C k) (cB Tryz.f120) Q (St0 x0) = top k (fun c2 => Q .ret (St23 c2)) x0 := by
 have h : ∀ (D L : DT α), denJ D L Js C (cB Tryz.f120) Q (St0 x0) =
    L cd0 (blkQ C 0 (sq D L Js C cd14 Q)) (St1 0 x0 (List.replicate 25 0)) := by
  intro D L; kernel_rfl
 have h2 := via (k := k) h
 refine h2.trans ?_
 simp only [a6]
 first | rfl | kernel_rfl
def run (x0 : D1) : Option D1 := top (α := List Int) fuel (fun c2 => some c2) x0
def F : Fn := ⟨T24, T20, false, fun x => run x.1⟩
theorem con : Con Tryz.prog 120 F /\ Named Tryz.prog 120 :=
 con_of2 (C := C) (ctx_ok (by kernel_rfl) (by kernel_rfl) (by kernel_rfl) (by kernel_rfl) ⟨.inl math_bits_RotateLeft64.con, ⟨.inl basculeref_roundOf.con, trivial⟩⟩) (by kernel_rfl) Tryz.func120 (by kernel_rfl) (c := cB Tryz.f120) (by kernel_rfl) (by kernel_rfl) F (fun x => by simp [F, spread, Tryz.ntmps120]) (fun x => (St0 x.1)) (fun x => by kernel_rfl) fun x => (top_eq fuel _ x.1).trans (by kernel_rfl)
end Go.Bx.basculeref_Turned
namespace Go.Bx.keccak_soak
def Js : List Nat := [7]
def C : Ctx := ⟨[(5, T8), (22, T18), (114, T20), (115, T15), (117, T16)], [], [], fnL [(116, keccak_Turn.F)], noSh, [], invL [], [(2, [2]), (1, [1, 2]), (4, [1, 2, 6, 7]), (6, [1, 2, 6, 7]), (18, [1, 2])], [], [], 0, 0⟩
def St0 (x0 : D5) : St := stL 30 [(0, .data T16 x0)] []
def St1 (x6 : D1) (x7 : Int) (c1 c2 : D5) : St := stL 30 [(1, .ref 1 0 []), (2, .ref 2 0 []), (6, .data T15 x6), (7, .data T1 x7)] [(1, .cell T16 (.data T16 c1) false), (2, .cell T16 (.data T16 c2) false)]
noncomputable def cd0 : Code := cL (cL (cR (cL (cR (cB Tryz.f102)))))
def St2 (c1 c2 : D5) : St := stL 30 [(1, .ref 1 0 []), (2, .ref 2 0 [])] [(1, .cell T16 (.data T16 c1) false), (2, .cell T16 (.data T16 c2) false)]
def l0s (Nx : D1 -> Int -> D5 -> D5 -> Option α) (Xt0 : D5 -> D5 -> Option α) (x6 : D1) (x7 : Int) (c1 c2 : D5) : Option α :=
 if (decide (x7 < 136)) = true then
  if 0 <= x7 /\ x7 < (136 : Int) then
   if 0 <= (IntKind.i64.wrap (Int.tdiv x7 8)) /\ (IntKind.i64.wrap (Int.tdiv x7 8)) < (25 : Int) then
    if 0 <= (IntKind.i64.wrap (8 * (Int.tmod x7 8))) then
     if 0 <= (IntKind.i64.wrap (Int.tdiv x7 8)) /\ (IntKind.i64.wrap (Int.tdiv x7 8)) < (25 : Int) then
      Nx x6 (IntKind.i64.wrap (x7 + 1)) ((List.set c1.1 (Int.toNat (IntKind.i64.wrap (Int.tdiv x7 8))) (bxor .u64 (List.getD c1.1 (Int.toNat (IntKind.i64.wrap (Int.tdiv x7 8))) 0) (shlI .u64 (IntKind.u64.wrap (List.getD x6 (Int.toNat x7) 0)) (IntKind.i64.wrap (8 * (Int.tmod x7 8)))))), c1.2) c2
     else none
    else none
   else none
  else none
 else
  Xt0 c1 c2
theorem l0s_eq (k : Nat) (next : St -> Option α) (Q : Ex -> St -> Option α) (x6 : D1) (x7 : Int) (c1 c2 : D5) :
  rnd C k cd0 6 Q next (St1 x6 x7 c1 c2) = l0s (fun x6 x7 c1 c2 => next (St1 x6 x7 c1 c2)) (fun c1 c2 => Q (.exit 0) (St2 c1 c2)) x6 x7 c1 c2 := plainly Js (by kernel_rfl)
def l0 (k : Nat) (Xt0 : D5 -> D5 -> Option α) : Nat -> D1 -> Int -> D5 -> D5 -> Option α
 | 0, _, _, _, _ => none
 | n + 1, x6, x7, c1, c2 => l0s (l0 k Xt0 n) Xt0 x6 x7 c1 c2
theorem l0_eq (k : Nat) (Q : Ex -> St -> Option α) : ∀ (n : Nat) (x6 : D1) (x7 : Int) (c1 c2 : D5), iter (rnd C k cd0 6 Q) n (St1 x6 x7 c1 c2) = l0 k (fun c1 c2 => Q (.exit 0) (St2 c1 c2)) n x6 x7 c1 c2
 | 0, _, _, _, _ => rfl
 | n + 1, x6, x7, c1, c2 => (iter_succ _ _ _).trans ((l0s_eq k _ Q x6 x7 c1 c2).trans (congrArg (fun N => l0s N (fun c1 c2 => Q (.exit 0) (St2 c1 c2)) x6 x7 c1 c2) (by funext; exact l0_eq k Q n _ _ _ _)))
noncomputable def cd1 : Code := cR (cR (cB Tryz.f102))
def St3 (c1 c2 : D5) : St := stL 30 [(1, .ref 1 0 []), (2, .ref 2 0 [])] [(1, .cell T16 (.data T16 c1) false), (2, .cell T16 (.data T16 c2) false)]
def St4 (c2 : D5) : St := stL 30 [(2, .ref 2 0 [])] [(2, .cell T16 (.data T16 c2) false)]
def j0 (Rt : D5 -> Option α) (c1 c2 : D5) : Option α :=
 (keccak_Turn.run c1.1).bind fun y1 =>
 Rt (y1, (List.replicate 136 0), 0, ())
theorem j0_eq (k : Nat) (Q : Ex -> St -> Option α) (c1 c2 : D5) :
  (den C k) cd1 Q (St3 c1 c2) = j0 (fun c2 => Q .ret (St4 c2)) c1 c2 := plainly Js (by kernel_rfl)
theorem a0 (k : Nat) (Q : Ex -> St -> Option α) (x6 : D1) (x7 : Int) (c1 c2 : D5) :
  (lp C k) cd0 (blkQ C 0 (sq (den C k) (lp C k) Js C cd1 Q)) (St1 x6 x7 c1 c2) = l0 k (fun c1 c2 => j0 (fun c2 => Q .ret (St4 c2)) c1 c2) k x6 x7 c1 c2 :=
 (lp_iter 6 (by kernel_rfl)).trans ((l0_eq k _ k x6 x7 c1 c2).trans (congrArg (fun X => l0 k X k x6 x7 c1 c2) (funext fun c1 => funext fun c2 => (Eq.trans (b := (den C k) cd1 Q (St3 c1 c2)) (by kernel_rfl) (by simp only [j0_eq])))))
def top (k : Nat) (Rt : D5 -> Option α) (x0 : D5) : Option α :=
 l0 k (fun c1 c2 => j0 Rt c1 c2) k x0.2.1 0 x0 ((List.replicate 25 0), (List.replicate 136 0), 0, ())
theorem top_eq (k : Nat) (Q : Ex -> St -> Option α) (x0 : D5) :
  (den C k) (cB Tryz.f102) Q (St0 x0) = top k (fun c2 => Q .ret (St4 c2)) x0 := by
 have h : ∀ (D L : DT α), denJ D L Js C (cB Tryz.f102) Q (St0 x0) =
    L cd0 (blkQ C 0 (sq D L Js C cd1 Q)) (St1 x0.2.1 0 x0 ((List.replicate 25 0), (List.replicate 136 0), 0, ())) := by
  intro D L; kernel_rfl
 have h2 := via (k := k) h
 refine h2.trans ?_
 simp only [a0]
 first | rfl | kernel_rfl
def run (x0 : D5) : Option D5 := top (α := List Int × List Int × Int × Unit) fuel (fun c2 => some c2) x0
def F : Fn := ⟨T17, T16, false, fun x => run x.1⟩
theorem con : Con Tryz.prog 102 F /\ Named Tryz.prog 102 :=
 con_of2 (C := C) (ctx_ok (by kernel_rfl) (by kernel_rfl) (by kernel_rfl) (by kernel_rfl) ⟨.inl keccak_Turn.con, trivial⟩) (by kernel_rfl) Tryz.func102 (by kernel_rfl) (c := cB Tryz.f102) (by kernel_rfl) (by kernel_rfl) F (fun x => by simp [F, spread, Tryz.ntmps102]) (fun x => (St0 x.1)) (fun x => by kernel_rfl) fun x => (top_eq fuel _ x.1).trans (by kernel_rfl)
end Go.Bx.keccak_soak
namespace Go.Bx.basculeref_soaked
def Js : List Nat := [4, 10, 11]
def C : Ctx := ⟨[(5, T8), (9, .str), (22, T18), (114, T20)], [], [], fnL [(120, basculeref_Turned.F)], noSh, [], invL [], [(2, [4]), (1, [2, 4]), (4, [1, 2, 4, 5]), (7, [1, 2, 4, 5, 6]), (10, [1, 2, 4, 5, 6, 7]), (6, [1, 2, 4, 5]), (9, [1, 2, 4, 5]), (18, [1, 2, 4, 5, 6, 7]), (27, [1, 2, 4, 5, 6]), (30, [2, 4])], [], [], 0, 0⟩
def St0 (x0 x1 : D1) : St := stL 34 [(0, .data T20 x0), (1, .data .str x1)] []
def St1 (x1 : D1) (x5 : Int) (c2 c4 : D1) : St := stL 34 [(1, .data .str x1), (2, .ref 2 0 []), (4, .ref 4 0 []), (5, .data T1 x5)] [(2, .cell T20 (.data T20 c2) false), (4, .cell T20 (.data T20 c4) false)]
noncomputable def cd0 : Code := cL (cL (cR (cL (cR (cB Tryz.f110)))))
def St2 (x1 : D1) (x5 x6 x7 : Int) (c2 c4 : D1) : St := stL 34 [(1, .data .str x1), (2, .ref 2 0 []), (4, .ref 4 0 []), (5, .data T1 x5), (6, .data T18 x6), (7, .data T1 x7)] [(2, .cell T20 (.data T20 c2) false), (4, .cell T20 (.data T20 c4) false)]
noncomputable def cd1 : Code := cL (cL (cR (cL (cR (cL (cL (cR (cL (cL (cR (cL (cR (cB Tryz.f110)))))))))))))
def St3 (x1 : D1) (x5 x6 : Int) (c2 c4 : D1) : St := stL 34 [(1, .data .str x1), (2, .ref 2 0 []), (4, .ref 4 0 []), (5, .data T1 x5), (6, .data T18 x6)] [(2, .cell T20 (.data T20 c2) false), (4, .cell T20 (.data T20 c4) false)]
def l1s (Nx : D1 -> Int -> Int -> Int -> D1 -> D1 -> Option α) (Xt2 : D1 -> Int -> Int -> D1 -> D1 -> Option α) (x1 : D1) (x5 x6 x7 : Int) (c2 c4 : D1) : Option α :=
 if (decide (x7 >= 0)) = true then
  if 0 <= (IntKind.i64.wrap (x5 + x7)) /\ (IntKind.i64.wrap (x5 + x7)) < (x1.length : Int) then
   Nx x1 x5 (IntKind.u64.wrap ((IntKind.u64.wrap (x6 * 256)) + (IntKind.u64.wrap (List.getD x1 (Int.toNat (IntKind.i64.wrap (x5 + x7))) 0)))) (IntKind.i64.wrap (x7 - 1)) c2 c4
  else none
 else
  Xt2 x1 x5 x6 c2 c4
theorem l1s_eq (k : Nat) (next : St -> Option α) (Q : Ex -> St -> Option α) (x1 : D1) (x5 x6 x7 : Int) (c2 c4 : D1) :
  rnd C k cd1 18 Q next (St2 x1 x5 x6 x7 c2 c4) = l1s (fun x1 x5 x6 x7 c2 c4 => next (St2 x1 x5 x6 x7 c2 c4)) (fun x1 x5 x6 c2 c4 => Q (.exit 2) (St3 x1 x5 x6 c2 c4)) x1 x5 x6 x7 c2 c4 := plainly Js (by kernel_rfl)
def l1 (k : Nat) (Xt2 : D1 -> Int -> Int -> D1 -> D1 -> Option α) : Nat -> D1 -> Int -> Int -> Int -> D1 -> D1 -> Option α
 | 0, _, _, _, _, _, _ => none
 | n + 1, x1, x5, x6, x7, c2, c4 => l1s (l1 k Xt2 n) Xt2 x1 x5 x6 x7 c2 c4
theorem l1_eq (k : Nat) (Q : Ex -> St -> Option α) : ∀ (n : Nat) (x1 : D1) (x5 x6 x7 : Int) (c2 c4 : D1), iter (rnd C k cd1 18 Q) n (St2 x1 x5 x6 x7 c2 c4) = l1 k (fun x1 x5 x6 c2 c4 => Q (.exit 2) (St3 x1 x5 x6 c2 c4)) n x1 x5 x6 x7 c2 c4
 | 0, _, _, _, _, _, _ => rfl
 | n + 1, x1, x5, x6, x7, c2, c4 => (iter_succ _ _ _).trans ((l1s_eq k _ Q x1 x5 x6 x7 c2 c4).trans (congrArg (fun N => l1s N (fun x1 x5 x6 c2 c4 => Q (.exit 2) (St3 x1 x5 x6 c2 c4)) x1 x5 x6 x7 c2 c4) (by funext; exact l1_eq k Q n _ _ _ _ _ _)))
noncomputable def cd2 : Code := cR (cR (cL (cL (cR (cL (cL (cR (cL (cR (cB Tryz.f110))))))))))
noncomputable def cd3 : Code := cR (cR (cL (cL (cR (cL (cR (cB Tryz.f110)))))))
def St4 (x1 : D1) (x5 x6 : Int) (c2 c4 : D1) : St := stL 34 [(1, .data .str x1), (2, .ref 2 0 []), (4, .ref 4 0 []), (5, .data T1 x5), (6, .data T18 x6)] [(2, .cell T20 (.data T20 c2) false), (4, .cell T20 (.data T20 c4) false)]
def St5 (x1 : D1) (x5 : Int) (c2 c4 : D1) : St := stL 34 [(1, .data .str x1), (2, .ref 2 0 []), (4, .ref 4 0 []), (5, .data T1 x5)] [(2, .cell T20 (.data T20 c2) false), (4, .cell T20 (.data T20 c4) false)]
def j1 (Nx : D1 -> Int -> D1 -> D1 -> Option α) (x1 : D1) (x5 : Int) (c2 c4 : D1) : Option α :=
 Nx x1 (IntKind.i64.wrap (x5 + 8)) c2 c4
theorem j1_eq (k : Nat) (next : St -> Option α) (Q : Ex -> St -> Option α) (x1 : D1) (x5 : Int) (c2 c4 : D1) :
  (den C k) cd3 (lq C 6 next Q) (St5 x1 x5 c2 c4) = j1 (fun x1 x5 c2 c4 => next (St1 x1 x5 c2 c4)) x1 x5 c2 c4 := plainly Js (by kernel_rfl)
def j0 (Nx : D1 -> Int -> D1 -> D1 -> Option α) (x1 : D1) (x5 x6 : Int) (c2 c4 : D1) : Option α :=
 if 0 <= (IntKind.i64.wrap (Int.tdiv x5 8)) /\ (IntKind.i64.wrap (Int.tdiv x5 8)) < (25 : Int) then
  if 0 <= (IntKind.i64.wrap (Int.tdiv x5 8)) /\ (IntKind.i64.wrap (Int.tdiv x5 8)) < (25 : Int) then
   j1 Nx x1 x5 (List.set c2 (Int.toNat (IntKind.i64.wrap (Int.tdiv x5 8))) (bxor .u64 (List.getD c2 (Int.toNat (IntKind.i64.wrap (Int.tdiv x5 8))) 0) x6)) c4
  else none
 else none
theorem j0_eq (k : Nat) (next : St -> Option α) (Q : Ex -> St -> Option α) (x1 : D1) (x5 x6 : Int) (c2 c4 : D1) :
  (den C k) cd2 (blkQ C 1 (sq (den C k) (lp C k) Js C cd3 (lq C 6 next Q))) (St4 x1 x5 x6 c2 c4) = j0 (fun x1 x5 c2 c4 => next (St1 x1 x5 c2 c4)) x1 x5 x6 c2 c4 := by
 have h : ∀ (D L : DT α), denJ D L Js C cd2 (blkQ C 1 (sq D L Js C cd3 (lq C 6 next Q))) (St4 x1 x5 x6 c2 c4) =
    if 0 <= (IntKind.i64.wrap (Int.tdiv x5 8)) /\ (IntKind.i64.wrap (Int.tdiv x5 8)) < (25 : Int) then
     if 0 <= (IntKind.i64.wrap (Int.tdiv x5 8)) /\ (IntKind.i64.wrap (Int.tdiv x5 8)) < (25 : Int) then
      D cd3 (lq C 6 next Q) (St5 x1 x5 (List.set c2 (Int.toNat (IntKind.i64.wrap (Int.tdiv x5 8))) (bxor .u64 (List.getD c2 (Int.toNat (IntKind.i64.wrap (Int.tdiv x5 8))) 0) x6)) c4)
     else none
    else none := by
  intro D L; kernel_rfl
 have h2 := via (k := k) h
 refine h2.trans ?_
 simp only [j1_eq]
 first | rfl | kernel_rfl
theorem a0 (k : Nat) (next : St -> Option α) (Q : Ex -> St -> Option α) (x1 : D1) (x5 x6 x7 : Int) (c2 c4 : D1) :
  (lp C k) cd1 (blkQ C 2 (sq (den C k) (lp C k) Js C cd2 (blkQ C 1 (sq (den C k) (lp C k) Js C cd3 (lq C 6 next Q))))) (St2 x1 x5 x6 x7 c2 c4) = l1 k (fun x1 x5 x6 c2 c4 => j0 (fun x1 x5 c2 c4 => next (St1 x1 x5 c2 c4)) x1 x5 x6 c2 c4) k x1 x5 x6 x7 c2 c4 :=
 (lp_iter 18 (by kernel_rfl)).trans ((l1_eq k _ k x1 x5 x6 x7 c2 c4).trans (congrArg (fun X => l1 k X k x1 x5 x6 x7 c2 c4) (funext fun x1 => funext fun x5 => funext fun x6 => funext fun c2 => funext fun c4 => (Eq.trans (b := (den C k) cd2 (blkQ C 1 (sq (den C k) (lp C k) Js C cd3 (lq C 6 next Q))) (St4 x1 x5 x6 c2 c4)) (by kernel_rfl) (by simp only [j0_eq])))))
def St6 (c2 c4 : D1) : St := stL 34 [(2, .ref 2 0 []), (4, .ref 4 0 [])] [(2, .cell T20 (.data T20 c2) false), (4, .cell T20 (.data T20 c4) false)]
def l0s (k : Nat) (Nx : D1 -> Int -> D1 -> D1 -> Option α) (Xt0 : D1 -> D1 -> Option α) (x1 : D1) (x5 : Int) (c2 c4 : D1) : Option α :=
 if (decide (x5 < 136)) = true then
  l1 k (fun x1 x5 x6 c2 c4 => j0 Nx x1 x5 x6 c2 c4) k x1 x5 0 7 c2 c4
 else
  Xt0 c2 c4
theorem l0s_eq (k : Nat) (next : St -> Option α) (Q : Ex -> St -> Option α) (x1 : D1) (x5 : Int) (c2 c4 : D1) :
  rnd C k cd0 6 Q next (St1 x1 x5 c2 c4) = l0s k (fun x1 x5 c2 c4 => next (St1 x1 x5 c2 c4)) (fun c2 c4 => Q (.exit 0) (St6 c2 c4)) x1 x5 c2 c4 := by
 have h : ∀ (D L : DT α), denJ D L Js C cd0 (lq C 6 next Q) (St1 x1 x5 c2 c4) =
    if (decide (x5 < 136)) = true then
     L cd1 (blkQ C 2 (sq D L Js C cd2 (blkQ C 1 (sq D L Js C cd3 (lq C 6 next Q))))) (St2 x1 x5 0 7 c2 c4)
    else
     Q (.exit 0) (St6 c2 c4) := by
  intro D L; kernel_rfl
 have h2 := via (k := k) h
 refine h2.trans ?_
 simp only [a0]
 first | rfl | kernel_rfl
def l0 (k : Nat) (Xt0 : D1 -> D1 -> Option α) : Nat -> D1 -> Int -> D1 -> D1 -> Option α
 | 0, _, _, _, _ => none
 | n + 1, x1, x5, c2, c4 => l0s k (l0 k Xt0 n) Xt0 x1 x5 c2 c4
theorem l0_eq (k : Nat) (Q : Ex -> St -> Option α) : ∀ (n : Nat) (x1 : D1) (x5 : Int) (c2 c4 : D1), iter (rnd C k cd0 6 Q) n (St1 x1 x5 c2 c4) = l0 k (fun c2 c4 => Q (.exit 0) (St6 c2 c4)) n x1 x5 c2 c4
 | 0, _, _, _, _ => rfl
 | n + 1, x1, x5, c2, c4 => (iter_succ _ _ _).trans ((l0s_eq k _ Q x1 x5 c2 c4).trans (congrArg (fun N => l0s k N (fun c2 c4 => Q (.exit 0) (St6 c2 c4)) x1 x5 c2 c4) (by funext; exact l0_eq k Q n _ _ _ _)))
noncomputable def cd4 : Code := cR (cR (cB Tryz.f110))
def St7 (c2 c4 : D1) : St := stL 34 [(2, .ref 2 0 []), (4, .ref 4 0 [])] [(2, .cell T20 (.data T20 c2) false), (4, .cell T20 (.data T20 c4) false)]
def St8 (c4 : D1) : St := stL 34 [(4, .ref 4 0 [])] [(4, .cell T20 (.data T20 c4) false)]
def j2 (Rt : D1 -> Option α) (c2 c4 : D1) : Option α :=
 (basculeref_Turned.run c2).bind fun y1 =>
 Rt y1
theorem j2_eq (k : Nat) (Q : Ex -> St -> Option α) (c2 c4 : D1) :
  (den C k) cd4 Q (St7 c2 c4) = j2 (fun c4 => Q .ret (St8 c4)) c2 c4 := plainly Js (by kernel_rfl)
theorem a1 (k : Nat) (Q : Ex -> St -> Option α) (x1 : D1) (x5 : Int) (c2 c4 : D1) :
  (lp C k) cd0 (blkQ C 0 (sq (den C k) (lp C k) Js C cd4 Q)) (St1 x1 x5 c2 c4) = l0 k (fun c2 c4 => j2 (fun c4 => Q .ret (St8 c4)) c2 c4) k x1 x5 c2 c4 :=
 (lp_iter 6 (by kernel_rfl)).trans ((l0_eq k _ k x1 x5 c2 c4).trans (congrArg (fun X => l0 k X k x1 x5 c2 c4) (funext fun c2 => funext fun c4 => (Eq.trans (b := (den C k) cd4 Q (St7 c2 c4)) (by kernel_rfl) (by simp only [j2_eq])))))
def top (k : Nat) (Rt : D1 -> Option α) (x0 x1 : D1) : Option α :=
 l0 k (fun c2 c4 => j2 Rt c2 c4) k x1 0 x0 (List.replicate 25 0)
theorem top_eq (k : Nat) (Q : Ex -> St -> Option α) (x0 x1 : D1) :
  (den C k) (cB Tryz.f110) Q (St0 x0 x1) = top k (fun c4 => Q .ret (St8 c4)) x0 x1 := by
 have h : ∀ (D L : DT α), denJ D L Js C (cB Tryz.f110) Q (St0 x0 x1) =
    L cd0 (blkQ C 0 (sq D L Js C cd4 Q)) (St1 x1 0 x0 (List.replicate 25 0)) := by
  intro D L; kernel_rfl
 have h2 := via (k := k) h
 refine h2.trans ?_
 simp only [a1]
 first | rfl | kernel_rfl
def run (x0 x1 : D1) : Option D1 := top (α := List Int) fuel (fun c4 => some c4) x0 x1
def F : Fn := ⟨T71, T20, false, fun x => run x.1 x.2.1⟩
theorem con : Con Tryz.prog 110 F /\ Named Tryz.prog 110 :=
 con_of2 (C := C) (ctx_ok (by kernel_rfl) (by kernel_rfl) (by kernel_rfl) (by kernel_rfl) ⟨.inl basculeref_Turned.con, trivial⟩) (by kernel_rfl) Tryz.func110 (by kernel_rfl) (c := cB Tryz.f110) (by kernel_rfl) (by kernel_rfl) F (fun x => by simp [F, spread, Tryz.ntmps110]) (fun x => (St0 x.1 x.2.1)) (fun x => by kernel_rfl) fun x => (top_eq fuel _ x.1 x.2.1).trans (by kernel_rfl)
end Go.Bx.basculeref_soaked
namespace Go.Bx.keccak_check
def Js : List Nat := [10]
def C : Ctx := ⟨[(3, T1), (5, T8), (33, T2), (44, T1), (115, T15), (117, T16)], [], [], fnL [], noSh, [], invL [], [(2, [2]), (1, []), (4, [16, 17, 18]), (12, [16, 17, 18]), (27, [])], [], [], 0, 0⟩
def St0 (x0 : D5) : St := stL 25 [(0, .data T16 x0)] []
def St1 (x2 : Int) : St := stL 25 [(2, .data T1 x2)] []
def St2 (x16l x17 x18 : Int) (c1 : D5) : St := stL 25 [(16, .view 1 [.fld 1] T8 136 x16l 136), (17, .data T1 x17), (18, .data T1 x18)] [(1, .cell T16 (.data T16 c1) false)]
noncomputable def cd0 : Code := cL (cL (cR (cL (cR (cR (cB Tryz.f101))))))
def St3 : St := stL 25 [] []
def l0s (Nx : Int -> Int -> Int -> D5 -> Option α) (Rt : Int -> Option α) (Xt0 : Option α) (x16l x17 x18 : Int) (c1 : D5) : Option α :=
 if (decide (x18 < x17)) = true then
  if 0 <= x18 /\ x18 < (136 - x16l) then
   if ((List.getD c1.2.1 (Int.toNat (x16l + x18)) 0) != 0) = true then
    Rt 12
   else
    Nx x16l x17 (IntKind.i64.wrap (x18 + 1)) c1
  else none
 else
  Xt0
theorem l0s_eq (k : Nat) (next : St -> Option α) (Q : Ex -> St -> Option α) (x16l x17 x18 : Int) (c1 : D5) :
  rnd C k cd0 12 Q next (St2 x16l x17 x18 c1) = l0s (fun x16l x17 x18 c1 => next (St2 x16l x17 x18 c1)) (fun x2 => Q .ret (St1 x2)) (Q (.exit 0) St3) x16l x17 x18 c1 := plainly Js (by kernel_rfl)
def l0 (k : Nat) (Rt : Int -> Option α) (Xt0 : Option α) : Nat -> Int -> Int -> Int -> D5 -> Option α
 | 0, _, _, _, _ => none
 | n + 1, x16l, x17, x18, c1 => l0s (l0 k Rt Xt0 n) Rt Xt0 x16l x17 x18 c1
theorem l0_eq (k : Nat) (Q : Ex -> St -> Option α) : ∀ (n : Nat) (x16l x17 x18 : Int) (c1 : D5), iter (rnd C k cd0 12 Q) n (St2 x16l x17 x18 c1) = l0 k (fun x2 => Q .ret (St1 x2)) (Q (.exit 0) St3) n x16l x17 x18 c1
 | 0, _, _, _, _ => rfl
 | n + 1, x16l, x17, x18, c1 => (iter_succ _ _ _).trans ((l0s_eq k _ Q x16l x17 x18 c1).trans (congrArg (fun N => l0s N (fun x2 => Q .ret (St1 x2)) (Q (.exit 0) St3) x16l x17 x18 c1) (by funext; exact l0_eq k Q n _ _ _ _)))
theorem l0_congr (k : Nat) (Rt : Int -> Option α) (Xt0 : Option α) (Rtq : Int -> Option α) (Xt0q : Option α) (hRt : ∀ (x2 : Int), Rt x2 = Rtq x2) (hXt0 : Xt0 = Xt0q) (n : Nat) (x16l x17 x18 : Int) (c1 : D5) : l0 k Rt Xt0 n x16l x17 x18 c1 = l0 k Rtq Xt0q n x16l x17 x18 c1 := by
 obtain rfl : Rt = Rtq := by funext x2; exact hRt x2
 obtain rfl : Xt0 = Xt0q := hXt0
 rfl
noncomputable def cd1 : Code := cR (cR (cR (cB Tryz.f101)))
def St4 : St := stL 25 [] []
def j0 (Rt : Int -> Option α) : Option α :=
 Rt 0
theorem j0_eq (k : Nat) (Q : Ex -> St -> Option α) :
  (den C k) cd1 Q St4 = j0 (fun x2 => Q .ret (St1 x2)) := plainly Js (by kernel_rfl)
theorem a0 (k : Nat) (Q : Ex -> St -> Option α) (x16l x17 x18 : Int) (c1 : D5) :
  (lp C k) cd0 (blkQ C 0 (sq (den C k) (lp C k) Js C cd1 Q)) (St2 x16l x17 x18 c1) = l0 k (fun x2 => (fun x2 => Q .ret (St1 x2)) x2) (j0 (fun x2 => Q .ret (St1 x2))) k x16l x17 x18 c1 :=
 (lp_iter 12 (by kernel_rfl)).trans ((l0_eq k _ k x16l x17 x18 c1).trans (l0_congr k _ _ _ _ (fun x2 => (by kernel_rfl)) (Eq.trans (b := (den C k) cd1 Q St4) (by kernel_rfl) (by simp only [j0_eq])) k x16l x17 x18 c1))
def top (k : Nat) (Rt : Int -> Option α) (x0 : D5) : Option α :=
 if (cond (decide (x0.2.2.1 < 0)) true (decide (x0.2.2.1 >= 136))) = true then
  Rt 12
 else
  if 0 <= x0.2.2.1 /\ x0.2.2.1 <= (136 : Int) /\ (136 : Int) <= (136 : Int) then
   l0 k (fun x2 => Rt x2) (j0 Rt) k x0.2.2.1 ((cutL x0.2.1 x0.2.2.1 136).length : Int) 0 x0
  else none
theorem top_eq (k : Nat) (Q : Ex -> St -> Option α) (x0 : D5) :
  (den C k) (cB Tryz.f101) Q (St0 x0) = top k (fun x2 => Q .ret (St1 x2)) x0 := by
 have h : ∀ (D L : DT α), denJ D L Js C (cB Tryz.f101) Q (St0 x0) =
    if (cond (decide (x0.2.2.1 < 0)) true (decide (x0.2.2.1 >= 136))) = true then
     Q .ret (St1 12)
    else
     if 0 <= x0.2.2.1 /\ x0.2.2.1 <= (136 : Int) /\ (136 : Int) <= (136 : Int) then
      L cd0 (blkQ C 0 (sq D L Js C cd1 Q)) (St2 x0.2.2.1 ((cutL x0.2.1 x0.2.2.1 136).length : Int) 0 x0)
     else none := by
  intro D L; kernel_rfl
 have h2 := via (k := k) h
 refine h2.trans ?_
 simp only [a0]
 first | rfl | kernel_rfl
def run (x0 : D5) : Option (Int) := top (α := Int) fuel (fun x2 => some x2) x0
def F : Fn := ⟨T17, T1, false, fun x => run x.1⟩
theorem con : Con Tryz.prog 101 F /\ Named Tryz.prog 101 :=
 con_of2 (C := C) (ctx_ok (by kernel_rfl) (by kernel_rfl) (by kernel_rfl) (by kernel_rfl) trivial) (by kernel_rfl) Tryz.func101 (by kernel_rfl) (c := cB Tryz.f101) (by kernel_rfl) (by kernel_rfl) F (fun x => by simp [F, spread, Tryz.ntmps101]) (fun x => (St0 x.1)) (fun x => by kernel_rfl) fun x => (top_eq fuel _ x.1).trans (by kernel_rfl)
end Go.Bx.keccak_check
namespace Go.Bx.basculeref_badSponge
def Js : List Nat := [9]
def C : Ctx := ⟨[(3, T1), (4, .bool), (5, T8), (115, T15), (117, T16)], [], [], fnL [], noSh, [], invL [], [(2, [2]), (1, []), (4, [1, 3]), (12, [1, 3]), (24, [])], [], [], 0, 0⟩
def St0 (x0 : D5) : St := stL 23 [(0, .data T16 x0)] []
def St1 (x2 : Bool) : St := stL 23 [(2, .data .bool x2)] []
def St2 (x3 : Int) (c1 : D5) : St := stL 23 [(1, .ref 1 0 []), (3, .data T1 x3)] [(1, .cell T16 (.data T16 c1) false)]
noncomputable def cd0 : Code := cL (cL (cR (cL (cR (cR (cB Tryz.f109))))))
def St3 : St := stL 23 [] []
def l0s (Nx : Int -> D5 -> Option α) (Rt : Bool -> Option α) (Xt0 : Option α) (x3 : Int) (c1 : D5) : Option α :=
 if (decide (x3 < 136)) = true then
  if 0 <= x3 /\ x3 < (136 : Int) then
   if ((List.getD c1.2.1 (Int.toNat x3) 0) != 0) = true then
    Rt true
   else
    Nx (IntKind.i64.wrap (x3 + 1)) c1
  else none
 else
  Xt0
theorem l0s_eq (k : Nat) (next : St -> Option α) (Q : Ex -> St -> Option α) (x3 : Int) (c1 : D5) :
  rnd C k cd0 12 Q next (St2 x3 c1) = l0s (fun x3 c1 => next (St2 x3 c1)) (fun x2 => Q .ret (St1 x2)) (Q (.exit 0) St3) x3 c1 := plainly Js (by kernel_rfl)
def l0 (k : Nat) (Rt : Bool -> Option α) (Xt0 : Option α) : Nat -> Int -> D5 -> Option α
 | 0, _, _ => none
 | n + 1, x3, c1 => l0s (l0 k Rt Xt0 n) Rt Xt0 x3 c1
theorem l0_eq (k : Nat) (Q : Ex -> St -> Option α) : ∀ (n : Nat) (x3 : Int) (c1 : D5), iter (rnd C k cd0 12 Q) n (St2 x3 c1) = l0 k (fun x2 => Q .ret (St1 x2)) (Q (.exit 0) St3) n x3 c1
 | 0, _, _ => rfl
 | n + 1, x3, c1 => (iter_succ _ _ _).trans ((l0s_eq k _ Q x3 c1).trans (congrArg (fun N => l0s N (fun x2 => Q .ret (St1 x2)) (Q (.exit 0) St3) x3 c1) (by funext; exact l0_eq k Q n _ _)))
theorem l0_congr (k : Nat) (Rt : Bool -> Option α) (Xt0 : Option α) (Rtq : Bool -> Option α) (Xt0q : Option α) (hRt : ∀ (x2 : Bool), Rt x2 = Rtq x2) (hXt0 : Xt0 = Xt0q) (n : Nat) (x3 : Int) (c1 : D5) : l0 k Rt Xt0 n x3 c1 = l0 k Rtq Xt0q n x3 c1 := by
 obtain rfl : Rt = Rtq := by funext x2; exact hRt x2
 obtain rfl : Xt0 = Xt0q := hXt0
 rfl
noncomputable def cd1 : Code := cR (cR (cR (cB Tryz.f109)))
def St4 : St := stL 23 [] []
def j0 (Rt : Bool -> Option α) : Option α :=
 Rt false
theorem j0_eq (k : Nat) (Q : Ex -> St -> Option α) :
  (den C k) cd1 Q St4 = j0 (fun x2 => Q .ret (St1 x2)) := plainly Js (by kernel_rfl)
theorem a0 (k : Nat) (Q : Ex -> St -> Option α) (x3 : Int) (c1 : D5) :
  (lp C k) cd0 (blkQ C 0 (sq (den C k) (lp C k) Js C cd1 Q)) (St2 x3 c1) = l0 k (fun x2 => (fun x2 => Q .ret (St1 x2)) x2) (j0 (fun x2 => Q .ret (St1 x2))) k x3 c1 :=
 (lp_iter 12 (by kernel_rfl)).trans ((l0_eq k _ k x3 c1).trans (l0_congr k _ _ _ _ (fun x2 => (by kernel_rfl)) (Eq.trans (b := (den C k) cd1 Q St4) (by kernel_rfl) (by simp only [j0_eq])) k x3 c1))
def top (k : Nat) (Rt : Bool -> Option α) (x0 : D5) : Option α :=
 if (cond (decide (x0.2.2.1 < 0)) true (decide (x0.2.2.1 > 135))) = true then
  Rt true
 else
  l0 k (fun x2 => Rt x2) (j0 Rt) k x0.2.2.1 x0
theorem top_eq (k : Nat) (Q : Ex -> St -> Option α) (x0 : D5) :
  (den C k) (cB Tryz.f109) Q (St0 x0) = top k (fun x2 => Q .ret (St1 x2)) x0 := by
 have h : ∀ (D L : DT α), denJ D L Js C (cB Tryz.f109) Q (St0 x0) =
    if (cond (decide (x0.2.2.1 < 0)) true (decide (x0.2.2.1 > 135))) = true then
     Q .ret (St1 true)
    else
     L cd0 (blkQ C 0 (sq D L Js C cd1 Q)) (St2 x0.2.2.1 x0) := by
  intro D L; kernel_rfl
 have h2 := via (k := k) h
 refine h2.trans ?_
 simp only [a0]
 first | rfl | kernel_rfl
def run (x0 : D5) : Option (Bool) := top (α := Bool) fuel (fun x2 => some x2) x0
def F : Fn := ⟨T17, .bool, false, fun x => run x.1⟩
theorem con : Con Tryz.prog 109 F /\ Named Tryz.prog 109 :=
 con_of2 (C := C) (ctx_ok (by kernel_rfl) (by kernel_rfl) (by kernel_rfl) (by kernel_rfl) trivial) (by kernel_rfl) Tryz.func109 (by kernel_rfl) (c := cB Tryz.f109) (by kernel_rfl) (by kernel_rfl) F (fun x => by simp [F, spread, Tryz.ntmps109]) (fun x => (St0 x.1)) (fun x => by kernel_rfl) fun x => (top_eq fuel _ x.1).trans (by kernel_rfl)
end Go.Bx.basculeref_badSponge
namespace Go.Bx.keccak_Add
def Js : List Nat := [12, 13]
def C : Ctx := ⟨[(3, T1), (5, T8), (33, T2), (44, T1), (115, T15), (117, T16)], [], [], fnL [(101, keccak_check.F), (102, keccak_soak.F)], noSh, [], invL [], [(2, [4, 5]), (1, [2, 4]), (4, [2, 4, 15, 16, 17]), (15, [2, 4, 15, 16, 17]), (33, [2, 4, 15, 16, 17]), (36, [2, 4])], [], [], 0, 0⟩
def St0 (x0 : D5) (x1 : D1) : St := stL 37 [(0, .data T16 x0), (1, .data T2 x1)] []
def St1 (x5 : Int) (c4 : D5) : St := stL 37 [(4, .ref 4 0 []), (5, .data T1 x5)] [(4, .cell T16 (.data T16 c4) false)]
def St2 (x15 : D1) (x16 x17 : Int) (c2 c4 : D5) : St := stL 37 [(2, .ref 2 0 []), (4, .ref 4 0 []), (15, .data T2 x15), (16, .data T1 x16), (17, .data T1 x17)] [(2, .cell T16 (.data T16 c2) false), (4, .cell T16 (.data T16 c4) false)]
noncomputable def cd0 : Code := cL (cL (cR (cL (cR (cR (cB Tryz.f70))))))
def St3 (x15 : D1) (x16 x17 : Int) (c2 c4 : D5) : St := stL 37 [(2, .ref 2 0 []), (4, .ref 4 0 []), (15, .data T2 x15), (16, .data T1 x16), (17, .data T1 x17)] [(2, .cell T16 (.data T16 c2) false), (4, .cell T16 (.data T16 c4) false)]
noncomputable def cd1 : Code := cR (cR (cR (cL (cL (cR (cL (cR (cR (cB Tryz.f70)))))))))
def j0 (Nx : D1 -> Int -> Int -> D5 -> D5 -> Option α) (x15 : D1) (x16 x17 : Int) (c2 c4 : D5) : Option α :=
 Nx x15 x16 (IntKind.i64.wrap (x17 + 1)) c2 c4
theorem j0_eq (k : Nat) (next : St -> Option α) (Q : Ex -> St -> Option α) (x15 : D1) (x16 x17 : Int) (c2 c4 : D5) :
  (den C k) cd1 (lq C 15 next Q) (St3 x15 x16 x17 c2 c4) = j0 (fun x15 x16 x17 c2 c4 => next (St2 x15 x16 x17 c2 c4)) x15 x16 x17 c2 c4 := plainly Js (by kernel_rfl)
def St4 (c2 c4 : D5) : St := stL 37 [(2, .ref 2 0 []), (4, .ref 4 0 [])] [(2, .cell T16 (.data T16 c2) false), (4, .cell T16 (.data T16 c4) false)]
def l0s (Nx : D1 -> Int -> Int -> D5 -> D5 -> Option α) (Xt0 : D5 -> D5 -> Option α) (x15 : D1) (x16 x17 : Int) (c2 c4 : D5) : Option α :=
 if (decide (x17 < x16)) = true then
  if 0 <= x17 /\ x17 < (x15.length : Int) then
   if 0 <= c2.2.2.1 /\ c2.2.2.1 < (136 : Int) then
    if ((IntKind.i64.wrap (c2.2.2.1 + 1)) == 136) = true then
     (keccak_soak.run (c2.1, (List.set c2.2.1 (Int.toNat c2.2.2.1) (List.getD x15 (Int.toNat x17) 0)), (IntKind.i64.wrap (c2.2.2.1 + 1)), c2.2.2.2)).bind fun y2 =>
     j0 Nx x15 x16 x17 y2 c4
    else
     j0 Nx x15 x16 x17 (c2.1, (List.set c2.2.1 (Int.toNat c2.2.2.1) (List.getD x15 (Int.toNat x17) 0)), (IntKind.i64.wrap (c2.2.2.1 + 1)), c2.2.2.2) c4
   else none
  else none
 else
  Xt0 c2 c4
theorem l0s_eq (k : Nat) (next : St -> Option α) (Q : Ex -> St -> Option α) (x15 : D1) (x16 x17 : Int) (c2 c4 : D5) :
  rnd C k cd0 15 Q next (St2 x15 x16 x17 c2 c4) = l0s (fun x15 x16 x17 c2 c4 => next (St2 x15 x16 x17 c2 c4)) (fun c2 c4 => Q (.exit 0) (St4 c2 c4)) x15 x16 x17 c2 c4 := by
 have h : ∀ (D L : DT α), denJ D L Js C cd0 (lq C 15 next Q) (St2 x15 x16 x17 c2 c4) =
    if (decide (x17 < x16)) = true then
     if 0 <= x17 /\ x17 < (x15.length : Int) then
      if 0 <= c2.2.2.1 /\ c2.2.2.1 < (136 : Int) then
       if ((IntKind.i64.wrap (c2.2.2.1 + 1)) == 136) = true then
        (keccak_soak.run (c2.1, (List.set c2.2.1 (Int.toNat c2.2.2.1) (List.getD x15 (Int.toNat x17) 0)), (IntKind.i64.wrap (c2.2.2.1 + 1)), c2.2.2.2)).bind fun y2 =>
        D cd1 (lq C 15 next Q) (St3 x15 x16 x17 y2 c4)
       else
        D cd1 (lq C 15 next Q) (St3 x15 x16 x17 (c2.1, (List.set c2.2.1 (Int.toNat c2.2.2.1) (List.getD x15 (Int.toNat x17) 0)), (IntKind.i64.wrap (c2.2.2.1 + 1)), c2.2.2.2) c4)
      else none
     else none
    else
     Q (.exit 0) (St4 c2 c4) := by
  intro D L; kernel_rfl
 have h2 := via (k := k) h
 refine h2.trans ?_
 simp only [j0_eq]
 first | rfl | kernel_rfl
def l0 (k : Nat) (Xt0 : D5 -> D5 -> Option α) : Nat -> D1 -> Int -> Int -> D5 -> D5 -> Option α
 | 0, _, _, _, _, _ => none
 | n + 1, x15, x16, x17, c2, c4 => l0s (l0 k Xt0 n) Xt0 x15 x16 x17 c2 c4
theorem l0_eq (k : Nat) (Q : Ex -> St -> Option α) : ∀ (n : Nat) (x15 : D1) (x16 x17 : Int) (c2 c4 : D5), iter (rnd C k cd0 15 Q) n (St2 x15 x16 x17 c2 c4) = l0 k (fun c2 c4 => Q (.exit 0) (St4 c2 c4)) n x15 x16 x17 c2 c4
 | 0, _, _, _, _, _ => rfl
 | n + 1, x15, x16, x17, c2, c4 => (iter_succ _ _ _).trans ((l0s_eq k _ Q x15 x16 x17 c2 c4).trans (congrArg (fun N => l0s N (fun c2 c4 => Q (.exit 0) (St4 c2 c4)) x15 x16 x17 c2 c4) (by funext; exact l0_eq k Q n _ _ _ _ _)))
noncomputable def cd2 : Code := cR (cR (cR (cB Tryz.f70)))
def St5 (c2 c4 : D5) : St := stL 37 [(2, .ref 2 0 []), (4, .ref 4 0 [])] [(2, .cell T16 (.data T16 c2) false), (4, .cell T16 (.data T16 c4) false)]
def j1 (Rt : Int -> D5 -> Option α) (c2 c4 : D5) : Option α :=
 Rt 0 c2
theorem j1_eq (k : Nat) (Q : Ex -> St -> Option α) (c2 c4 : D5) :
  (den C k) cd2 Q (St5 c2 c4) = j1 (fun x5 c4 => Q .ret (St1 x5 c4)) c2 c4 := plainly Js (by kernel_rfl)
theorem a0 (k : Nat) (Q : Ex -> St -> Option α) (x15 : D1) (x16 x17 : Int) (c2 c4 : D5) :
  (lp C k) cd0 (blkQ C 0 (sq (den C k) (lp C k) Js C cd2 Q)) (St2 x15 x16 x17 c2 c4) = l0 k (fun c2 c4 => j1 (fun x5 c4 => Q .ret (St1 x5 c4)) c2 c4) k x15 x16 x17 c2 c4 :=
 (lp_iter 15 (by kernel_rfl)).trans ((l0_eq k _ k x15 x16 x17 c2 c4).trans (congrArg (fun X => l0 k X k x15 x16 x17 c2 c4) (funext fun c2 => funext fun c4 => (Eq.trans (b := (den C k) cd2 Q (St5 c2 c4)) (by kernel_rfl) (by simp only [j1_eq])))))
def top (k : Nat) (Rt : Int -> D5 -> Option α) (x0 : D5) (x1 : D1) : Option α :=
 (keccak_check.run x0).bind fun y1 =>
 if (y1 != 0) = true then
  Rt y1 ((List.replicate 25 0), (List.replicate 136 0), 0, ())
 else
  l0 k (fun c2 c4 => j1 Rt c2 c4) k x1 (x1.length : Int) 0 x0 ((List.replicate 25 0), (List.replicate 136 0), 0, ())
theorem top_eq (k : Nat) (Q : Ex -> St -> Option α) (x0 : D5) (x1 : D1) :
  (den C k) (cB Tryz.f70) Q (St0 x0 x1) = top k (fun x5 c4 => Q .ret (St1 x5 c4)) x0 x1 := by
 have h : ∀ (D L : DT α), denJ D L Js C (cB Tryz.f70) Q (St0 x0 x1) =
    (keccak_check.run x0).bind fun y1 =>
    if (y1 != 0) = true then
     Q .ret (St1 y1 ((List.replicate 25 0), (List.replicate 136 0), 0, ()))
    else
     L cd0 (blkQ C 0 (sq D L Js C cd2 Q)) (St2 x1 (x1.length : Int) 0 x0 ((List.replicate 25 0), (List.replicate 136 0), 0, ())) := by
  intro D L; kernel_rfl
 have h2 := via (k := k) h
 refine h2.trans ?_
 simp only [a0]
 first | rfl | kernel_rfl
def run (x0 : D5) (x1 : D1) : Option D6 := top (α := D5 × Int × Unit) fuel (fun x5 c4 => some (c4, x5, ())) x0 x1
def F : Fn := ⟨T25, T26, true, fun x => run x.1 x.2.1⟩
theorem con : Con Tryz.prog 70 F /\ Named Tryz.prog 70 :=
 con_of2 (C := C) (ctx_ok (by kernel_rfl) (by kernel_rfl) (by kernel_rfl) (by kernel_rfl) ⟨.inl keccak_check.con, ⟨.inl keccak_soak.con, trivial⟩⟩) (by kernel_rfl) Tryz.func70 (by kernel_rfl) (c := cB Tryz.f70) (by kernel_rfl) (by kernel_rfl) F (fun x => by simp [F, spread, Tryz.ntmps70]) (fun x => (St0 x.1 x.2.1)) (fun x => by kernel_rfl) fun x => (top_eq fuel _ x.1 x.2.1).trans (by kernel_rfl)
end Go.Bx.keccak_Add
namespace Go.Bx.basculeref_Soaked
def Js : List Nat := [9, 14]
def C : Ctx := ⟨[(3, T1), (5, T8), (9, .str), (33, T2), (44, T1), (114, T20), (115, T15), (117, T16)], [], [], fnL [(109, basculeref_badSponge.F), (110, basculeref_soaked.F)], noSh, [], invL [], [(2, [4, 5]), (7, [4, 9]), (10, [4, 7, 9, 10]), (1, [4, 7, 8]), (4, [4, 7, 8]), (18, [4, 7, 8]), (24, [4, 7, 8]), (30, [4, 7, 9, 10]), (39, [4, 9])], [], [], 0, 0⟩
def St0 (x0 : D5) (x1 : D1) : St := stL 52 [(0, .data T16 x0), (1, .data T2 x1)] []
def St1 (x5 : Int) (c4 : D5) : St := stL 52 [(4, .ref 4 0 []), (5, .data T1 x5)] [(4, .cell T16 (.data T16 c4) false)]
def St2 (x7 : D1) (c4 : D5) (c8 : D1) : St := stL 52 [(4, .ref 4 0 []), (7, .data .str x7), (8, .ref 8 0 [])] [(4, .cell T16 (.data T16 c4) false), (8, .cell T20 (.data T20 c8) false)]
noncomputable def cd0 : Code := cL (cL (cL (cR (cR (cR (cR (cR (cB Tryz.f79))))))))
def St3 (x7 : D1) (c4 : D5) (c8 : D1) : St := stL 52 [(4, .ref 4 0 []), (7, .data .str x7), (8, .ref 8 0 [])] [(4, .cell T16 (.data T16 c4) false), (8, .cell T20 (.data T20 c8) false)]
def l0s (Nx : D1 -> D5 -> D1 -> Option α) (Xt0 : D1 -> D5 -> D1 -> Option α) (x7 : D1) (c4 : D5) (c8 : D1) : Option α :=
 if (decide ((x7.length : Int) >= 136)) = true then
  if 0 <= (0 : Int) /\ (0 : Int) <= (136 : Int) /\ (136 : Int) <= (x7.length : Int) then
   (basculeref_soaked.run c8 (cutL x7 0 136)).bind fun y2 =>
   if 0 <= (136 : Int) /\ (136 : Int) <= (x7.length : Int) /\ (x7.length : Int) <= (x7.length : Int) then
    Nx (cutL x7 136 (x7.length : Int)) c4 y2
   else none
  else none
 else
  Xt0 x7 c4 c8
theorem l0s_eq (k : Nat) (next : St -> Option α) (Q : Ex -> St -> Option α) (x7 : D1) (c4 : D5) (c8 : D1) :
  rnd C k cd0 18 Q next (St2 x7 c4 c8) = l0s (fun x7 c4 c8 => next (St2 x7 c4 c8)) (fun x7 c4 c8 => Q (.exit 0) (St3 x7 c4 c8)) x7 c4 c8 := plainly Js (by kernel_rfl)
def l0 (k : Nat) (Xt0 : D1 -> D5 -> D1 -> Option α) : Nat -> D1 -> D5 -> D1 -> Option α
 | 0, _, _, _ => none
 | n + 1, x7, c4, c8 => l0s (l0 k Xt0 n) Xt0 x7 c4 c8
theorem l0_eq (k : Nat) (Q : Ex -> St -> Option α) : ∀ (n : Nat) (x7 : D1) (c4 : D5) (c8 : D1), iter (rnd C k cd0 18 Q) n (St2 x7 c4 c8) = l0 k (fun x7 c4 c8 => Q (.exit 0) (St3 x7 c4 c8)) n x7 c4 c8
 | 0, _, _, _ => rfl
 | n + 1, x7, c4, c8 => (iter_succ _ _ _).trans ((l0s_eq k _ Q x7 c4 c8).trans (congrArg (fun N => l0s N (fun x7 c4 c8 => Q (.exit 0) (St3 x7 c4 c8)) x7 c4 c8) (by funext; exact l0_eq k Q n _ _ _)))
noncomputable def cd1 : Code := cR (cR (cR (cR (cR (cR (cB Tryz.f79))))))
def St4 (x7 : D1) (c4 : D5) (c8 : D1) : St := stL 52 [(4, .ref 4 0 []), (7, .data .str x7), (8, .ref 8 0 [])] [(4, .cell T16 (.data T16 c4) false), (8, .cell T20 (.data T20 c8) false)]
def St5 (x7 : D1) (x10 : Int) (c4 c9 : D5) : St := stL 52 [(4, .ref 4 0 []), (7, .data .str x7), (9, .ref 9 0 []), (10, .data T1 x10)] [(4, .cell T16 (.data T16 c4) false), (9, .cell T16 (.data T16 c9) false)]
noncomputable def cd2 : Code := cL (cL (cR (cL (cR (cR (cR (cR (cR (cR (cR (cB Tryz.f79)))))))))))
def St6 (c4 c9 : D5) : St := stL 52 [(4, .ref 4 0 []), (9, .ref 9 0 [])] [(4, .cell T16 (.data T16 c4) false), (9, .cell T16 (.data T16 c9) false)]
def l1s (Nx : D1 -> Int -> D5 -> D5 -> Option α) (Xt2 : D5 -> D5 -> Option α) (x7 : D1) (x10 : Int) (c4 c9 : D5) : Option α :=
 if (decide (x10 < (x7.length : Int))) = true then
  if 0 <= x10 /\ x10 < (x7.length : Int) then
   if 0 <= x10 /\ x10 < (136 : Int) then
    Nx x7 (IntKind.i64.wrap (x10 + 1)) c4 (c9.1, (List.set c9.2.1 (Int.toNat x10) (List.getD x7 (Int.toNat x10) 0)), c9.2.2)
   else none
  else none
 else
  Xt2 c4 c9
theorem l1s_eq (k : Nat) (next : St -> Option α) (Q : Ex -> St -> Option α) (x7 : D1) (x10 : Int) (c4 c9 : D5) :
  rnd C k cd2 30 Q next (St5 x7 x10 c4 c9) = l1s (fun x7 x10 c4 c9 => next (St5 x7 x10 c4 c9)) (fun c4 c9 => Q (.exit 2) (St6 c4 c9)) x7 x10 c4 c9 := plainly Js (by kernel_rfl)
def l1 (k : Nat) (Xt2 : D5 -> D5 -> Option α) : Nat -> D1 -> Int -> D5 -> D5 -> Option α
 | 0, _, _, _, _ => none
 | n + 1, x7, x10, c4, c9 => l1s (l1 k Xt2 n) Xt2 x7 x10 c4 c9
theorem l1_eq (k : Nat) (Q : Ex -> St -> Option α) : ∀ (n : Nat) (x7 : D1) (x10 : Int) (c4 c9 : D5), iter (rnd C k cd2 30 Q) n (St5 x7 x10 c4 c9) = l1 k (fun c4 c9 => Q (.exit 2) (St6 c4 c9)) n x7 x10 c4 c9
 | 0, _, _, _, _ => rfl
 | n + 1, x7, x10, c4, c9 => (iter_succ _ _ _).trans ((l1s_eq k _ Q x7 x10 c4 c9).trans (congrArg (fun N => l1s N (fun c4 c9 => Q (.exit 2) (St6 c4 c9)) x7 x10 c4 c9) (by funext; exact l1_eq k Q n _ _ _ _)))
noncomputable def cd3 : Code := cR (cR (cR (cR (cR (cR (cR (cR (cB Tryz.f79))))))))
def St7 (c4 c9 : D5) : St := stL 52 [(4, .ref 4 0 []), (9, .ref 9 0 [])] [(4, .cell T16 (.data T16 c4) false), (9, .cell T16 (.data T16 c9) false)]
def j1 (Rt : Int -> D5 -> Option α) (c4 c9 : D5) : Option α :=
 Rt 0 c9
theorem j1_eq (k : Nat) (Q : Ex -> St -> Option α) (c4 c9 : D5) :
  (den C k) cd3 Q (St7 c4 c9) = j1 (fun x5 c4 => Q .ret (St1 x5 c4)) c4 c9 := plainly Js (by kernel_rfl)
theorem a0 (k : Nat) (Q : Ex -> St -> Option α) (x7 : D1) (x10 : Int) (c4 c9 : D5) :
  (lp C k) cd2 (blkQ C 2 (sq (den C k) (lp C k) Js C cd3 Q)) (St5 x7 x10 c4 c9) = l1 k (fun c4 c9 => j1 (fun x5 c4 => Q .ret (St1 x5 c4)) c4 c9) k x7 x10 c4 c9 :=
 (lp_iter 30 (by kernel_rfl)).trans ((l1_eq k _ k x7 x10 c4 c9).trans (congrArg (fun X => l1 k X k x7 x10 c4 c9) (funext fun c4 => funext fun c9 => (Eq.trans (b := (den C k) cd3 Q (St7 c4 c9)) (by kernel_rfl) (by simp only [j1_eq])))))
def j0 (k : Nat) (Rt : Int -> D5 -> Option α) (x7 : D1) (c4 : D5) (c8 : D1) : Option α :=
 l1 k (fun c4 c9 => j1 Rt c4 c9) k x7 0 c4 (c8, (List.replicate 136 0), (x7.length : Int), ())
theorem j0_eq (k : Nat) (Q : Ex -> St -> Option α) (x7 : D1) (c4 : D5) (c8 : D1) :
  (den C k) cd1 Q (St4 x7 c4 c8) = j0 k (fun x5 c4 => Q .ret (St1 x5 c4)) x7 c4 c8 := by
 have h : ∀ (D L : DT α), denJ D L Js C cd1 Q (St4 x7 c4 c8) =
    L cd2 (blkQ C 2 (sq D L Js C cd3 Q)) (St5 x7 0 c4 (c8, (List.replicate 136 0), (x7.length : Int), ())) := by
  intro D L; kernel_rfl
 have h2 := via (k := k) h
 refine h2.trans ?_
 simp only [a0]
 first | rfl | kernel_rfl
theorem a1 (k : Nat) (Q : Ex -> St -> Option α) (x7 : D1) (c4 : D5) (c8 : D1) :
  (lp C k) cd0 (blkQ C 0 (sq (den C k) (lp C k) Js C cd1 Q)) (St2 x7 c4 c8) = l0 k (fun x7 c4 c8 => j0 k (fun x5 c4 => Q .ret (St1 x5 c4)) x7 c4 c8) k x7 c4 c8 :=
 (lp_iter 18 (by kernel_rfl)).trans ((l0_eq k _ k x7 c4 c8).trans (congrArg (fun X => l0 k X k x7 c4 c8) (funext fun x7 => funext fun c4 => funext fun c8 => (Eq.trans (b := (den C k) cd1 Q (St4 x7 c4 c8)) (by kernel_rfl) (by simp only [j0_eq])))))
def top (k : Nat) (Rt : Int -> D5 -> Option α) (x0 : D5) (x1 : D1) : Option α :=
 (basculeref_badSponge.run x0).bind fun y1 =>
 if y1 = true then
  Rt 12 ((List.replicate 25 0), (List.replicate 136 0), 0, ())
 else
  if 0 <= (0 : Int) /\ (0 : Int) <= x0.2.2.1 /\ x0.2.2.1 <= ((cutL x0.2.1 0 136).length : Int) then
   if Nat.ble ((cutL (cutL x0.2.1 0 136) 0 x0.2.2.1).length + x1.length) 9223372036854775807 = true then
    l0 k (fun x7 c4 c8 => j0 k Rt x7 c4 c8) k ((cutL (cutL x0.2.1 0 136) 0 x0.2.2.1) ++ x1) ((List.replicate 25 0), (List.replicate 136 0), 0, ()) x0.1
   else none
  else none
theorem top_eq (k : Nat) (Q : Ex -> St -> Option α) (x0 : D5) (x1 : D1) :
  (den C k) (cB Tryz.f79) Q (St0 x0 x1) = top k (fun x5 c4 => Q .ret (St1 x5 c4)) x0 x1 := by
 have h : ∀ (D L : DT α), denJ D L Js C (cB Tryz.f79) Q (St0 x0 x1) =
    (basculeref_badSponge.run x0).bind fun y1 =>
    if y1 = true then
     Q .ret (St1 12 ((List.replicate 25 0), (List.replicate 136 0), 0, ()))
    else
     if 0 <= (0 : Int) /\ (0 : Int) <= x0.2.2.1 /\ x0.2.2.1 <= ((cutL x0.2.1 0 136).length : Int) then
      if Nat.ble ((cutL (cutL x0.2.1 0 136) 0 x0.2.2.1).length + x1.length) 9223372036854775807 = true then
       L cd0 (blkQ C 0 (sq D L Js C cd1 Q)) (St2 ((cutL (cutL x0.2.1 0 136) 0 x0.2.2.1) ++ x1) ((List.replicate 25 0), (List.replicate 136 0), 0, ()) x0.1)
      else none
     else none := by
  intro D L; kernel_rfl
 have h2 := via (k := k) h
 refine h2.trans ?_
 simp only [a1]
 first | rfl | kernel_rfl
def run (x0 : D5) (x1 : D1) : Option D6 := top (α := D5 × Int × Unit) fuel (fun x5 c4 => some (c4, x5, ())) x0 x1
def F : Fn := ⟨T25, T26, true, fun x => run x.1 x.2.1⟩
theorem con : Con Tryz.prog 79 F /\ Named Tryz.prog 79 :=
 con_of2 (C := C) (ctx_ok (by kernel_rfl) (by kernel_rfl) (by kernel_rfl) (by kernel_rfl) ⟨.inl basculeref_badSponge.con, ⟨.inl basculeref_soaked.con, trivial⟩⟩) (by kernel_rfl) Tryz.func79 (by kernel_rfl) (c := cB Tryz.f79) (by kernel_rfl) (by kernel_rfl) F (fun x => by simp [F, spread, Tryz.ntmps79]) (fun x => (St0 x.1 x.2.1)) (fun x => by kernel_rfl) fun x => (top_eq fuel _ x.1 x.2.1).trans (by kernel_rfl)
end Go.Bx.basculeref_Soaked
namespace Go.Bx.keccak_End
def Js : List Nat := [14]
def C : Ctx := ⟨[(3, T1), (5, T8), (22, T18), (39, T3), (44, T1), (114, T20), (115, T15), (117, T16)], [], [], fnL [(101, keccak_check.F), (102, keccak_soak.F)], noSh, [], invL [], [(2, [2, 3]), (1, [2, 5]), (4, [1, 2, 5, 25]), (27, [1, 2, 5, 25]), (39, [2, 5])], [], [], 0, 0⟩
def St0 (x0 : D5) : St := stL 42 [(0, .data T16 x0)] []
def St1 (x3 : Int) (c2 : D1) : St := stL 42 [(2, .ref 2 0 []), (3, .data T1 x3)] [(2, .cell T3 (.data T3 c2) false)]
def St2 (x25 : Int) (c1 : D5) (c2 c5 : D1) : St := stL 42 [(1, .ref 1 0 []), (2, .ref 2 0 []), (5, .ref 5 0 []), (25, .data T1 x25)] [(1, .cell T16 (.data T16 c1) false), (2, .cell T3 (.data T3 c2) false), (5, .cell T3 (.data T3 c5) false)]
noncomputable def cd0 : Code := cL (cL (cR (cL (cR (cR (cR (cR (cR (cR (cB Tryz.f72))))))))))
def St3 (c2 c5 : D1) : St := stL 42 [(2, .ref 2 0 []), (5, .ref 5 0 [])] [(2, .cell T3 (.data T3 c2) false), (5, .cell T3 (.data T3 c5) false)]
def l0s (Nx : Int -> D5 -> D1 -> D1 -> Option α) (Xt0 : D1 -> D1 -> Option α) (x25 : Int) (c1 : D5) (c2 c5 : D1) : Option α :=
 if (decide (x25 < 32)) = true then
  if 0 <= (IntKind.i64.wrap (Int.tdiv x25 8)) /\ (IntKind.i64.wrap (Int.tdiv x25 8)) < (25 : Int) then
   if 0 <= (IntKind.i64.wrap (8 * (Int.tmod x25 8))) then
    if 0 <= x25 /\ x25 < (32 : Int) then
     Nx (IntKind.i64.wrap (x25 + 1)) c1 c2 (List.set c5 (Int.toNat x25) (IntKind.u8.wrap (shrI .u64 (List.getD c1.1 (Int.toNat (IntKind.i64.wrap (Int.tdiv x25 8))) 0) (IntKind.i64.wrap (8 * (Int.tmod x25 8))))))
    else none
   else none
  else none
 else
  Xt0 c2 c5
theorem l0s_eq (k : Nat) (next : St -> Option α) (Q : Ex -> St -> Option α) (x25 : Int) (c1 : D5) (c2 c5 : D1) :
  rnd C k cd0 27 Q next (St2 x25 c1 c2 c5) = l0s (fun x25 c1 c2 c5 => next (St2 x25 c1 c2 c5)) (fun c2 c5 => Q (.exit 0) (St3 c2 c5)) x25 c1 c2 c5 := plainly Js (by kernel_rfl)
def l0 (k : Nat) (Xt0 : D1 -> D1 -> Option α) : Nat -> Int -> D5 -> D1 -> D1 -> Option α
 | 0, _, _, _, _ => none
 | n + 1, x25, c1, c2, c5 => l0s (l0 k Xt0 n) Xt0 x25 c1 c2 c5
theorem l0_eq (k : Nat) (Q : Ex -> St -> Option α) : ∀ (n : Nat) (x25 : Int) (c1 : D5) (c2 c5 : D1), iter (rnd C k cd0 27 Q) n (St2 x25 c1 c2 c5) = l0 k (fun c2 c5 => Q (.exit 0) (St3 c2 c5)) n x25 c1 c2 c5
 | 0, _, _, _, _ => rfl
 | n + 1, x25, c1, c2, c5 => (iter_succ _ _ _).trans ((l0s_eq k _ Q x25 c1 c2 c5).trans (congrArg (fun N => l0s N (fun c2 c5 => Q (.exit 0) (St3 c2 c5)) x25 c1 c2 c5) (by funext; exact l0_eq k Q n _ _ _ _)))
noncomputable def cd1 : Code := cR (cR (cR (cR (cR (cR (cR (cB Tryz.f72)))))))
def St4 (c2 c5 : D1) : St := stL 42 [(2, .ref 2 0 []), (5, .ref 5 0 [])] [(2, .cell T3 (.data T3 c2) false), (5, .cell T3 (.data T3 c5) false)]
def j0 (Rt : Int -> D1 -> Option α) (c2 c5 : D1) : Option α :=
 Rt 0 c5
theorem j0_eq (k : Nat) (Q : Ex -> St -> Option α) (c2 c5 : D1) :
  (den C k) cd1 Q (St4 c2 c5) = j0 (fun x3 c2 => Q .ret (St1 x3 c2)) c2 c5 := plainly Js (by kernel_rfl)
theorem a0 (k : Nat) (Q : Ex -> St -> Option α) (x25 : Int) (c1 : D5) (c2 c5 : D1) :
  (lp C k) cd0 (blkQ C 0 (sq (den C k) (lp C k) Js C cd1 Q)) (St2 x25 c1 c2 c5) = l0 k (fun c2 c5 => j0 (fun x3 c2 => Q .ret (St1 x3 c2)) c2 c5) k x25 c1 c2 c5 :=
 (lp_iter 27 (by kernel_rfl)).trans ((l0_eq k _ k x25 c1 c2 c5).trans (congrArg (fun X => l0 k X k x25 c1 c2 c5) (funext fun c2 => funext fun c5 => (Eq.trans (b := (den C k) cd1 Q (St4 c2 c5)) (by kernel_rfl) (by simp only [j0_eq])))))
def top (k : Nat) (Rt : Int -> D1 -> Option α) (x0 : D5) : Option α :=
 (keccak_check.run x0).bind fun y1 =>
 if (y1 != 0) = true then
  Rt y1 (List.replicate 32 0)
 else
  if 0 <= x0.2.2.1 /\ x0.2.2.1 < (136 : Int) then
   (keccak_soak.run (x0.1, (List.set (List.set x0.2.1 (Int.toNat x0.2.2.1) 1) 135 (bor .u8 (List.getD (List.set x0.2.1 (Int.toNat x0.2.2.1) 1) 135 0) 128)), x0.2.2)).bind fun y2 =>
   l0 k (fun c2 c5 => j0 Rt c2 c5) k 0 y2 (List.replicate 32 0) (List.replicate 32 0)
  else none
theorem top_eq (k : Nat) (Q : Ex -> St -> Option α) (x0 : D5) :
  (den C k) (cB Tryz.f72) Q (St0 x0) = top k (fun x3 c2 => Q .ret (St1 x3 c2)) x0 := by
 have h : ∀ (D L : DT α), denJ D L Js C (cB Tryz.f72) Q (St0 x0) =
    (keccak_check.run x0).bind fun y1 =>
    if (y1 != 0) = true then
     Q .ret (St1 y1 (List.replicate 32 0))
    else
     if 0 <= x0.2.2.1 /\ x0.2.2.1 < (136 : Int) then
      (keccak_soak.run (x0.1, (List.set (List.set x0.2.1 (Int.toNat x0.2.2.1) 1) 135 (bor .u8 (List.getD (List.set x0.2.1 (Int.toNat x0.2.2.1) 1) 135 0) 128)), x0.2.2)).bind fun y2 =>
      L cd0 (blkQ C 0 (sq D L Js C cd1 Q)) (St2 0 y2 (List.replicate 32 0) (List.replicate 32 0))
     else none := by
  intro D L; kernel_rfl
 have h2 := via (k := k) h
 refine h2.trans ?_
 simp only [a0]
 first | rfl | kernel_rfl
def run (x0 : D5) : Option D4 := top (α := List Int × Int × Unit) fuel (fun x3 c2 => some (c2, x3, ())) x0
def F : Fn := ⟨T17, T27, true, fun x => run x.1⟩
theorem con : Con Tryz.prog 72 F /\ Named Tryz.prog 72 :=
 con_of2 (C := C) (ctx_ok (by kernel_rfl) (by kernel_rfl) (by kernel_rfl) (by kernel_rfl) ⟨.inl keccak_check.con, ⟨.inl keccak_soak.con, trivial⟩⟩) (by kernel_rfl) Tryz.func72 (by kernel_rfl) (c := cB Tryz.f72) (by kernel_rfl) (by kernel_rfl) F (fun x => by simp [F, spread, Tryz.ntmps72]) (fun x => (St0 x.1)) (fun x => by kernel_rfl) fun x => (top_eq fuel _ x.1).trans (by kernel_rfl)
end Go.Bx.keccak_End
namespace Go.Bx.basculeref_Wrung
def Js : List Nat := [14]
def C : Ctx := ⟨[(3, T1), (5, T8), (9, .str), (22, T18), (33, T2), (39, T3), (44, T1), (114, T20), (115, T15), (117, T16)], [], [], fnL [(109, basculeref_badSponge.F), (110, basculeref_soaked.F)], noSh, [], invL [], [(2, [2, 3]), (1, [2, 6]), (4, [2, 5, 6, 28]), (27, [2, 5, 6, 28]), (39, [2, 6])], [], [], 0, 0⟩
def St0 (x0 : D5) : St := stL 44 [(0, .data T16 x0)] []
def St1 (x3 : Int) (c2 : D1) : St := stL 44 [(2, .ref 2 0 []), (3, .data T1 x3)] [(2, .cell T3 (.data T3 c2) false)]
def St2 (x28 : Int) (c2 c5 c6 : D1) : St := stL 44 [(2, .ref 2 0 []), (5, .ref 5 0 []), (6, .ref 6 0 []), (28, .data T1 x28)] [(2, .cell T3 (.data T3 c2) false), (5, .cell T20 (.data T20 c5) false), (6, .cell T3 (.data T3 c6) false)]
noncomputable def cd0 : Code := cL (cL (cR (cL (cR (cR (cR (cR (cR (cR (cR (cB Tryz.f80)))))))))))
def St3 (c2 c6 : D1) : St := stL 44 [(2, .ref 2 0 []), (6, .ref 6 0 [])] [(2, .cell T3 (.data T3 c2) false), (6, .cell T3 (.data T3 c6) false)]
def l0s (Nx : Int -> D1 -> D1 -> D1 -> Option α) (Xt0 : D1 -> D1 -> Option α) (x28 : Int) (c2 c5 c6 : D1) : Option α :=
 if (decide (x28 < 32)) = true then
  if 0 <= (IntKind.i64.wrap (Int.tdiv x28 8)) /\ (IntKind.i64.wrap (Int.tdiv x28 8)) < (25 : Int) then
   if 0 <= (IntKind.i64.wrap ((Int.tmod x28 8) * 8)) then
    if 0 <= x28 /\ x28 < (32 : Int) then
     Nx (IntKind.i64.wrap (x28 + 1)) c2 c5 (List.set c6 (Int.toNat x28) (IntKind.u8.wrap (shrI .u64 (List.getD c5 (Int.toNat (IntKind.i64.wrap (Int.tdiv x28 8))) 0) (IntKind.i64.wrap ((Int.tmod x28 8) * 8)))))
    else none
   else none
  else none
 else
  Xt0 c2 c6
theorem l0s_eq (k : Nat) (next : St -> Option α) (Q : Ex -> St -> Option α) (x28 : Int) (c2 c5 c6 : D1) :
  rnd C k cd0 27 Q next (St2 x28 c2 c5 c6) = l0s (fun x28 c2 c5 c6 => next (St2 x28 c2 c5 c6)) (fun c2 c6 => Q (.exit 0) (St3 c2 c6)) x28 c2 c5 c6 := plainly Js (by kernel_rfl)
def l0 (k : Nat) (Xt0 : D1 -> D1 -> Option α) : Nat -> Int -> D1 -> D1 -> D1 -> Option α
 | 0, _, _, _, _ => none
 | n + 1, x28, c2, c5, c6 => l0s (l0 k Xt0 n) Xt0 x28 c2 c5 c6
theorem l0_eq (k : Nat) (Q : Ex -> St -> Option α) : ∀ (n : Nat) (x28 : Int) (c2 c5 c6 : D1), iter (rnd C k cd0 27 Q) n (St2 x28 c2 c5 c6) = l0 k (fun c2 c6 => Q (.exit 0) (St3 c2 c6)) n x28 c2 c5 c6
 | 0, _, _, _, _ => rfl
 | n + 1, x28, c2, c5, c6 => (iter_succ _ _ _).trans ((l0s_eq k _ Q x28 c2 c5 c6).trans (congrArg (fun N => l0s N (fun c2 c6 => Q (.exit 0) (St3 c2 c6)) x28 c2 c5 c6) (by funext; exact l0_eq k Q n _ _ _ _)))
noncomputable def cd1 : Code := cR (cR (cR (cR (cR (cR (cR (cR (cB Tryz.f80))))))))
def St4 (c2 c6 : D1) : St := stL 44 [(2, .ref 2 0 []), (6, .ref 6 0 [])] [(2, .cell T3 (.data T3 c2) false), (6, .cell T3 (.data T3 c6) false)]
def j0 (Rt : Int -> D1 -> Option α) (c2 c6 : D1) : Option α :=
 Rt 0 c6
theorem j0_eq (k : Nat) (Q : Ex -> St -> Option α) (c2 c6 : D1) :
  (den C k) cd1 Q (St4 c2 c6) = j0 (fun x3 c2 => Q .ret (St1 x3 c2)) c2 c6 := plainly Js (by kernel_rfl)
theorem a0 (k : Nat) (Q : Ex -> St -> Option α) (x28 : Int) (c2 c5 c6 : D1) :
  (lp C k) cd0 (blkQ C 0 (sq (den C k) (lp C k) Js C cd1 Q)) (St2 x28 c2 c5 c6) = l0 k (fun c2 c6 => j0 (fun x3 c2 => Q .ret (St1 x3 c2)) c2 c6) k x28 c2 c5 c6 :=
 (lp_iter 27 (by kernel_rfl)).trans ((l0_eq k _ k x28 c2 c5 c6).trans (congrArg (fun X => l0 k X k x28 c2 c5 c6) (funext fun c2 => funext fun c6 => (Eq.trans (b := (den C k) cd1 Q (St4 c2 c6)) (by kernel_rfl) (by simp only [j0_eq])))))
def top (k : Nat) (Rt : Int -> D1 -> Option α) (x0 : D5) : Option α :=
 (basculeref_badSponge.run x0).bind fun y1 =>
 if y1 = true then
  Rt 12 (List.replicate 32 0)
 else
  if 0 <= x0.2.2.1 /\ x0.2.2.1 < (136 : Int) then
   if 0 <= x0.2.2.1 /\ x0.2.2.1 < (136 : Int) then
    (basculeref_soaked.run x0.1 (cutL (List.set (List.set x0.2.1 (Int.toNat x0.2.2.1) (bxor .u8 (List.getD x0.2.1 (Int.toNat x0.2.2.1) 0) 1)) 135 (bxor .u8 (List.getD (List.set x0.2.1 (Int.toNat x0.2.2.1) (bxor .u8 (List.getD x0.2.1 (Int.toNat x0.2.2.1) 0) 1)) 135 0) 128)) 0 136)).bind fun y2 =>
    l0 k (fun c2 c6 => j0 Rt c2 c6) k 0 (List.replicate 32 0) y2 (List.replicate 32 0)
   else none
  else none
theorem top_eq (k : Nat) (Q : Ex -> St -> Option α) (x0 : D5) :
  (den C k) (cB Tryz.f80) Q (St0 x0) = top k (fun x3 c2 => Q .ret (St1 x3 c2)) x0 := by
 have h : ∀ (D L : DT α), denJ D L Js C (cB Tryz.f80) Q (St0 x0) =
    (basculeref_badSponge.run x0).bind fun y1 =>
    if y1 = true then
     Q .ret (St1 12 (List.replicate 32 0))
    else
     if 0 <= x0.2.2.1 /\ x0.2.2.1 < (136 : Int) then
      if 0 <= x0.2.2.1 /\ x0.2.2.1 < (136 : Int) then
       (basculeref_soaked.run x0.1 (cutL (List.set (List.set x0.2.1 (Int.toNat x0.2.2.1) (bxor .u8 (List.getD x0.2.1 (Int.toNat x0.2.2.1) 0) 1)) 135 (bxor .u8 (List.getD (List.set x0.2.1 (Int.toNat x0.2.2.1) (bxor .u8 (List.getD x0.2.1 (Int.toNat x0.2.2.1) 0) 1)) 135 0) 128)) 0 136)).bind fun y2 =>
       L cd0 (blkQ C 0 (sq D L Js C cd1 Q)) (St2 0 (List.replicate 32 0) y2 (List.replicate 32 0))
      else none
     else none := by
  intro D L; kernel_rfl
 have h2 := via (k := k) h
 refine h2.trans ?_
 simp only [a0]
 first | rfl | kernel_rfl
def run (x0 : D5) : Option D4 := top (α := List Int × Int × Unit) fuel (fun x3 c2 => some (c2, x3, ())) x0
def F : Fn := ⟨T17, T27, true, fun x => run x.1⟩
theorem con : Con Tryz.prog 80 F /\ Named Tryz.prog 80 :=
 con_of2 (C := C) (ctx_ok (by kernel_rfl) (by kernel_rfl) (by kernel_rfl) (by kernel_rfl) ⟨.inl basculeref_badSponge.con, ⟨.inl basculeref_soaked.con, trivial⟩⟩) (by kernel_rfl) Tryz.func80 (by kernel_rfl) (c := cB Tryz.f80) (by kernel_rfl) (by kernel_rfl) F (fun x => by simp [F, spread, Tryz.ntmps80]) (fun x => (St0 x.1)) (fun x => by kernel_rfl) fun x => (top_eq fuel _ x.1).trans (by kernel_rfl)
end Go.Bx.basculeref_Wrung
namespace Go.Bx.keccak_Begin
def Js : List Nat := []
def C : Ctx := ⟨[(117, T16)], [], [], fnL [], noSh, [], invL [], [(2, [0])], [], [], 0, 0⟩
def St0 : St := stL 2 [] []
def St1 (c0 : D5) : St := stL 2 [(0, .ref 0 0 [])] [(0, .cell T16 (.data T16 c0) false)]
def top (Rt : D5 -> Option α) : Option α :=
 Rt ((List.replicate 25 0), (List.replicate 136 0), 0, ())
theorem top_eq (k : Nat) (Q : Ex -> St -> Option α) :
  (den C k) (cB Tryz.f71) Q St0 = top (fun c0 => Q .ret (St1 c0)) := plainly Js (by kernel_rfl)
def run : Option D5 := top (α := List Int × List Int × Int × Unit) (fun c0 => some c0)
def F : Fn := ⟨.unit, T16, false, fun x => run⟩
theorem con : Con Tryz.prog 71 F /\ Named Tryz.prog 71 :=
 con_of2 (C := C) (ctx_ok (by kernel_rfl) (by kernel_rfl) (by kernel_rfl) (by kernel_rfl) trivial) (by kernel_rfl) Tryz.func71 (by kernel_rfl) (c := cB Tryz.f71) (by kernel_rfl) (by kernel_rfl) F (fun x => by simp [F, spread, Tryz.ntmps71]) (fun x => St0) (fun x => by kernel_rfl) fun x => (top_eq fuel _).trans (by kernel_rfl)
end Go.Bx.keccak_Begin
namespace Go.Bx.keccak_Sum
def Js : List Nat := []
def C : Ctx := ⟨[(33, T2), (39, T3), (117, T16)], [], [], fnL [(70, keccak_Add.F), (71, keccak_Begin.F), (72, keccak_End.F)], noSh, [], invL [], [(2, [2])], [], [], 0, 0⟩
def St0 (x0 : D1) : St := stL 19 [(0, .data T2 x0)] []
def St1 (c2 : D1) : St := stL 19 [(2, .ref 2 0 [])] [(2, .cell T3 (.data T3 c2) false)]
def top (Rt : D1 -> Option α) (x0 : D1) : Option α :=
 (keccak_Begin.run).bind fun y1 =>
 (keccak_Add.run y1 x0).bind fun y2 =>
 (keccak_End.run y2.1).bind fun y3 =>
 Rt y3.1
theorem top_eq (k : Nat) (Q : Ex -> St -> Option α) (x0 : D1) :
  (den C k) (cB Tryz.f24) Q (St0 x0) = top (fun c2 => Q .ret (St1 c2)) x0 := plainly Js (by kernel_rfl)
def run (x0 : D1) : Option D1 := top (α := List Int) (fun c2 => some c2) x0
def F : Fn := ⟨T9, T3, false, fun x => run x.1⟩
theorem con : Con Tryz.prog 24 F /\ Named Tryz.prog 24 :=
 con_of2 (C := C) (ctx_ok (by kernel_rfl) (by kernel_rfl) (by kernel_rfl) (by kernel_rfl) ⟨.inl keccak_Add.con, ⟨.inl keccak_Begin.con, ⟨.inl keccak_End.con, trivial⟩⟩⟩) (by kernel_rfl) Tryz.func24 (by kernel_rfl) (c := cB Tryz.f24) (by kernel_rfl) (by kernel_rfl) F (fun x => by simp [F, spread, Tryz.ntmps24]) (fun x => (St0 x.1)) (fun x => by kernel_rfl) fun x => (top_eq fuel _ x.1).trans (by kernel_rfl)
end Go.Bx.keccak_Sum
namespace Go.Bx.basculeref_Hash
def Js : List Nat := []
def C : Ctx := ⟨[(9, .str), (33, T2), (39, T3), (117, T16)], [], [], fnL [(79, basculeref_Soaked.F), (80, basculeref_Wrung.F)], noSh, [], invL [], [(2, [2])], [], [], 0, 0⟩
def St0 (x0 : D1) : St := stL 20 [(0, .data .str x0)] []
def St1 (c2 : D1) : St := stL 20 [(2, .ref 2 0 [])] [(2, .cell T3 (.data T3 c2) false)]
def top (Rt : D1 -> Option α) (x0 : D1) : Option α :=
 (basculeref_Soaked.run ((List.replicate 25 0), (List.replicate 136 0), 0, ()) x0).bind fun y1 =>
 (basculeref_Wrung.run y1.1).bind fun y2 =>
 Rt y2.1
theorem top_eq (k : Nat) (Q : Ex -> St -> Option α) (x0 : D1) :
  (den C k) (cB Tryz.f31) Q (St0 x0) = top (fun c2 => Q .ret (St1 c2)) x0 := plainly Js (by kernel_rfl)
def run (x0 : D1) : Option D1 := top (α := List Int) (fun c2 => some c2) x0
def F : Fn := ⟨T72, T3, false, fun x => run x.1⟩
theorem con : Con Tryz.prog 31 F /\ Named Tryz.prog 31 :=
 con_of2 (C := C) (ctx_ok (by kernel_rfl) (by kernel_rfl) (by kernel_rfl) (by kernel_rfl) ⟨.inl basculeref_Soaked.con, ⟨.inl basculeref_Wrung.con, trivial⟩⟩) (by kernel_rfl) Tryz.func31 (by kernel_rfl) (c := cB Tryz.f31) (by kernel_rfl) (by kernel_rfl) F (fun x => by simp [F, spread, Tryz.ntmps31]) (fun x => (St0 x.1)) (fun x => by kernel_rfl) fun x => (top_eq fuel _ x.1).trans (by kernel_rfl)
end Go.Bx.basculeref_Hash
namespace Go.Bx.wide_Bytes
def Js : List Nat := [8]
def C : Ctx := ⟨[(5, T8), (22, T18), (24, T28), (39, T3)], [], [], fnL [], noSh, [], invL [], [(2, [2]), (1, [2, 3]), (4, [1, 2, 3, 5]), (9, [1, 2, 3, 5]), (21, [2, 3])], [], [], 0, 0⟩
def St0 (x0 : D1) : St := stL 22 [(0, .data T28 x0)] []
def St1 (x5 : Int) (c1 c2 c3 : D1) : St := stL 22 [(1, .ref 1 0 []), (2, .ref 2 0 []), (3, .ref 3 0 []), (5, .data T1 x5)] [(1, .cell T28 (.data T28 c1) false), (2, .cell T3 (.data T3 c2) false), (3, .cell T3 (.data T3 c3) false)]
noncomputable def cd0 : Code := cL (cL (cR (cL (cR (cR (cB Tryz.f59))))))
def St2 (c2 c3 : D1) : St := stL 22 [(2, .ref 2 0 []), (3, .ref 3 0 [])] [(2, .cell T3 (.data T3 c2) false), (3, .cell T3 (.data T3 c3) false)]
def l0s (Nx : Int -> D1 -> D1 -> D1 -> Option α) (Xt0 : D1 -> D1 -> Option α) (x5 : Int) (c1 c2 c3 : D1) : Option α :=
 if (decide (x5 < 32)) = true then
  if 0 <= (IntKind.i64.wrap (Int.tdiv x5 8)) /\ (IntKind.i64.wrap (Int.tdiv x5 8)) < (4 : Int) then
   if 0 <= (IntKind.i64.wrap (8 * (Int.tmod x5 8))) then
    if 0 <= (IntKind.i64.wrap (31 - x5)) /\ (IntKind.i64.wrap (31 - x5)) < (32 : Int) then
     Nx (IntKind.i64.wrap (x5 + 1)) c1 c2 (List.set c3 (Int.toNat (IntKind.i64.wrap (31 - x5))) (IntKind.u8.wrap (shrI .u64 (List.getD c1 (Int.toNat (IntKind.i64.wrap (Int.tdiv x5 8))) 0) (IntKind.i64.wrap (8 * (Int.tmod x5 8))))))
    else none
   else none
  else none
 else
  Xt0 c2 c3
theorem l0s_eq (k : Nat) (next : St -> Option α) (Q : Ex -> St -> Option α) (x5 : Int) (c1 c2 c3 : D1) :
  rnd C k cd0 9 Q next (St1 x5 c1 c2 c3) = l0s (fun x5 c1 c2 c3 => next (St1 x5 c1 c2 c3)) (fun c2 c3 => Q (.exit 0) (St2 c2 c3)) x5 c1 c2 c3 := plainly Js (by kernel_rfl)
def l0 (k : Nat) (Xt0 : D1 -> D1 -> Option α) : Nat -> Int -> D1 -> D1 -> D1 -> Option α
 | 0, _, _, _, _ => none
 | n + 1, x5, c1, c2, c3 => l0s (l0 k Xt0 n) Xt0 x5 c1 c2 c3
theorem l0_eq (k : Nat) (Q : Ex -> St -> Option α) : ∀ (n : Nat) (x5 : Int) (c1 c2 c3 : D1), iter (rnd C k cd0 9 Q) n (St1 x5 c1 c2 c3) = l0 k (fun c2 c3 => Q (.exit 0) (St2 c2 c3)) n x5 c1 c2 c3
 | 0, _, _, _, _ => rfl
 | n + 1, x5, c1, c2, c3 => (iter_succ _ _ _).trans ((l0s_eq k _ Q x5 c1 c2 c3).trans (congrArg (fun N => l0s N (fun c2 c3 => Q (.exit 0) (St2 c2 c3)) x5 c1 c2 c3) (by funext; exact l0_eq k Q n _ _ _ _)))
noncomputable def cd1 : Code := cR (cR (cR (cB Tryz.f59)))
def St3 (c2 c3 : D1) : St := stL 22 [(2, .ref 2 0 []), (3, .ref 3 0 [])] [(2, .cell T3 (.data T3 c2) false), (3, .cell T3 (.data T3 c3) false)]
def St4 (c2 : D1) : St := stL 22 [(2, .ref 2 0 [])] [(2, .cell T3 (.data T3 c2) false)]
def j0 (Rt : D1 -> Option α) (c2 c3 : D1) : Option α :=
 Rt c3
theorem j0_eq (k : Nat) (Q : Ex -> St -> Option α) (c2 c3 : D1) :
  (den C k) cd1 Q (St3 c2 c3) = j0 (fun c2 => Q .ret (St4 c2)) c2 c3 := plainly Js (by kernel_rfl)
theorem a0 (k : Nat) (Q : Ex -> St -> Option α) (x5 : Int) (c1 c2 c3 : D1) :
  (lp C k) cd0 (blkQ C 0 (sq (den C k) (lp C k) Js C cd1 Q)) (St1 x5 c1 c2 c3) = l0 k (fun c2 c3 => j0 (fun c2 => Q .ret (St4 c2)) c2 c3) k x5 c1 c2 c3 :=
 (lp_iter 9 (by kernel_rfl)).trans ((l0_eq k _ k x5 c1 c2 c3).trans (congrArg (fun X => l0 k X k x5 c1 c2 c3) (funext fun c2 => funext fun c3 => (Eq.trans (b := (den C k) cd1 Q (St3 c2 c3)) (by kernel_rfl) (by simp only [j0_eq])))))
def top (k : Nat) (Rt : D1 -> Option α) (x0 : D1) : Option α :=
 l0 k (fun c2 c3 => j0 Rt c2 c3) k 0 x0 (List.replicate 32 0) (List.replicate 32 0)
theorem top_eq (k : Nat) (Q : Ex -> St -> Option α) (x0 : D1) :
  (den C k) (cB Tryz.f59) Q (St0 x0) = top k (fun c2 => Q .ret (St4 c2)) x0 := by
 have h : ∀ (D L : DT α), denJ D L Js C (cB Tryz.f59) Q (St0 x0) =
    L cd0 (blkQ C 0 (sq D L Js C cd1 Q)) (St1 0 x0 (List.replicate 32 0) (List.replicate 32 0)) := by
  intro D L; kernel_rfl
 have h2 := via (k := k) h
 refine h2.trans ?_
 simp only [a0]
 first | rfl | kernel_rfl
def run (x0 : D1) : Option D1 := top (α := List Int) fuel (fun c2 => some c2) x0
def F : Fn := ⟨T39, T3, false, fun x => run x.1⟩
theorem con : Con Tryz.prog 59 F /\ Named Tryz.prog 59 :=
 con_of2 (C := C) (ctx_ok (by kernel_rfl) (by kernel_rfl) (by kernel_rfl) (by kernel_rfl) trivial) (by kernel_rfl) Tryz.func59 (by kernel_rfl) (c := cB Tryz.f59) (by kernel_rfl) (by kernel_rfl) F (fun x => by simp [F, spread, Tryz.ntmps59]) (fun x => (St0 x.1)) (fun x => by kernel_rfl) fun x => (top_eq fuel _ x.1).trans (by kernel_rfl)
end Go.Bx.wide_Bytes
namespace Go.Bx.basculeref_text
def Js : List Nat := []
def C : Ctx := ⟨[(9, .str), (22, T18), (24, T28)], [], [], fnL [(38, basculeref_big.F)], noSh, [], invL [], [(2, [2])], [], [], 0, 0⟩
def St0 (x0 : D1) : St := stL 18 [(0, .data T28 x0)] []
def St1 (x2 : D1) : St := stL 18 [(2, .data .str x2)] []
def top (Rt : D1 -> Option α) (x0 : D1) : Option α :=
 (basculeref_big.run (List.getD x0 3 0) 8).bind fun y1 =>
 (basculeref_big.run (List.getD x0 2 0) 8).bind fun y2 =>
 if Nat.ble (y1.length + y2.length) 9223372036854775807 = true then
  (basculeref_big.run (List.getD x0 1 0) 8).bind fun y3 =>
  if Nat.ble ((y1 ++ y2).length + y3.length) 9223372036854775807 = true then
   (basculeref_big.run (List.getD x0 0 0) 8).bind fun y4 =>
   if Nat.ble (((y1 ++ y2) ++ y3).length + y4.length) 9223372036854775807 = true then
    Rt (((y1 ++ y2) ++ y3) ++ y4)
   else none
  else none
 else none
theorem top_eq (k : Nat) (Q : Ex -> St -> Option α) (x0 : D1) :
  (den C k) (cB Tryz.f37) Q (St0 x0) = top (fun x2 => Q .ret (St1 x2)) x0 := plainly Js (by kernel_rfl)
def run (x0 : D1) : Option D1 := top (α := List Int) (fun x2 => some x2) x0
def F : Fn := ⟨T39, .str, false, fun x => run x.1⟩
theorem con : Con Tryz.prog 37 F /\ Named Tryz.prog 37 :=
 con_of2 (C := C) (ctx_ok (by kernel_rfl) (by kernel_rfl) (by kernel_rfl) (by kernel_rfl) ⟨.inl basculeref_big.con, trivial⟩) (by kernel_rfl) Tryz.func37 (by kernel_rfl) (c := cB Tryz.f37) (by kernel_rfl) (by kernel_rfl) F (fun x => by simp [F, spread, Tryz.ntmps37]) (fun x => (St0 x.1)) (fun x => by kernel_rfl) fun x => (top_eq fuel _ x.1).trans (by kernel_rfl)
end Go.Bx.basculeref_text
namespace Go.Bx.sign_KeyOf
def Js : List Nat := []
def C : Ctx := ⟨[(24, T28), (26, T45), (33, T2), (39, T3), (66, T83)], [], [], fnL [(24, keccak_Sum.F), (59, wide_Bytes.F)], noSh, [], invL [], [(2, [2])], [], [], 0, 0⟩
def St0 (x0 : D13) : St := stL 21 [(0, .data T45 x0)] []
def St1 (c2 : D1) : St := stL 21 [(2, .ref 2 0 [])] [(2, .cell T83 (.data T83 c2) false)]
def top (Rt : D1 -> Option α) (x0 : D13) : Option α :=
 (wide_Bytes.run x0.1).bind fun y1 =>
 (wide_Bytes.run x0.2.1).bind fun y2 =>
 if (32 : Int) = (32 : Int) /\ (fitB ((cutL y1 0 32).length + (cutL y2 0 32).length) 1 && Nat.blt 0 (cutL y2 0 32).length) = true then
  (keccak_Sum.run ((cutL y1 0 32) ++ (cutL y2 0 32))).bind fun y3 =>
  Rt (cpyL (List.replicate 20 0) 0 20 (cutL y3 12 32))
 else none
theorem top_eq (k : Nat) (Q : Ex -> St -> Option α) (x0 : D13) :
  (den C k) (cB Tryz.f18) Q (St0 x0) = top (fun c2 => Q .ret (St1 c2)) x0 := plainly Js (by kernel_rfl)
def run (x0 : D13) : Option D1 := top (α := List Int) (fun c2 => some c2) x0
def F : Fn := ⟨T84, T83, false, fun x => run x.1⟩
theorem con : Con Tryz.prog 18 F /\ Named Tryz.prog 18 :=
 con_of2 (C := C) (ctx_ok (by kernel_rfl) (by kernel_rfl) (by kernel_rfl) (by kernel_rfl) ⟨.inl keccak_Sum.con, ⟨.inl wide_Bytes.con, trivial⟩⟩) (by kernel_rfl) Tryz.func18 (by kernel_rfl) (c := cB Tryz.f18) (by kernel_rfl) (by kernel_rfl) F (fun x => by simp [F, spread, Tryz.ntmps18]) (fun x => (St0 x.1)) (fun x => by kernel_rfl) fun x => (top_eq fuel _ x.1).trans (by kernel_rfl)
end Go.Bx.sign_KeyOf
namespace Go.Bx.basculeref_KeyOf
def Js : List Nat := [9]
def C : Ctx := ⟨[(5, T8), (24, T28), (26, T45), (39, T3), (66, T83)], [], [], fnL [(31, basculeref_Hash.F), (37, basculeref_text.F)], noSh, [], invL [], [(2, [2]), (1, [2, 4]), (4, [2, 3, 4, 14]), (12, [2, 3, 4, 14]), (24, [2, 4])], [], [], 0, 0⟩
def St0 (x0 : D13) : St := stL 25 [(0, .data T45 x0)] []
def St1 (x14 : Int) (c2 c3 c4 : D1) : St := stL 25 [(2, .ref 2 0 []), (3, .ref 3 0 []), (4, .ref 4 0 []), (14, .data T1 x14)] [(2, .cell T83 (.data T83 c2) false), (3, .cell T3 (.data T3 c3) false), (4, .cell T83 (.data T83 c4) false)]
noncomputable def cd0 : Code := cL (cL (cR (cL (cR (cR (cR (cB Tryz.f22)))))))
def St2 (c2 c4 : D1) : St := stL 25 [(2, .ref 2 0 []), (4, .ref 4 0 [])] [(2, .cell T83 (.data T83 c2) false), (4, .cell T83 (.data T83 c4) false)]
def l0s (Nx : Int -> D1 -> D1 -> D1 -> Option α) (Xt0 : D1 -> D1 -> Option α) (x14 : Int) (c2 c3 c4 : D1) : Option α :=
 if (decide (x14 < 20)) = true then
  if 0 <= (IntKind.i64.wrap (12 + x14)) /\ (IntKind.i64.wrap (12 + x14)) < (32 : Int) then
   if 0 <= x14 /\ x14 < (20 : Int) then
    Nx (IntKind.i64.wrap (x14 + 1)) c2 c3 (List.set c4 (Int.toNat x14) (List.getD c3 (Int.toNat (IntKind.i64.wrap (12 + x14))) 0))
   else none
  else none
 else
  Xt0 c2 c4
theorem l0s_eq (k : Nat) (next : St -> Option α) (Q : Ex -> St -> Option α) (x14 : Int) (c2 c3 c4 : D1) :
  rnd C k cd0 12 Q next (St1 x14 c2 c3 c4) = l0s (fun x14 c2 c3 c4 => next (St1 x14 c2 c3 c4)) (fun c2 c4 => Q (.exit 0) (St2 c2 c4)) x14 c2 c3 c4 := plainly Js (by kernel_rfl)
def l0 (k : Nat) (Xt0 : D1 -> D1 -> Option α) : Nat -> Int -> D1 -> D1 -> D1 -> Option α
 | 0, _, _, _, _ => none
 | n + 1, x14, c2, c3, c4 => l0s (l0 k Xt0 n) Xt0 x14 c2 c3 c4
theorem l0_eq (k : Nat) (Q : Ex -> St -> Option α) : ∀ (n : Nat) (x14 : Int) (c2 c3 c4 : D1), iter (rnd C k cd0 12 Q) n (St1 x14 c2 c3 c4) = l0 k (fun c2 c4 => Q (.exit 0) (St2 c2 c4)) n x14 c2 c3 c4
 | 0, _, _, _, _ => rfl
 | n + 1, x14, c2, c3, c4 => (iter_succ _ _ _).trans ((l0s_eq k _ Q x14 c2 c3 c4).trans (congrArg (fun N => l0s N (fun c2 c4 => Q (.exit 0) (St2 c2 c4)) x14 c2 c3 c4) (by funext; exact l0_eq k Q n _ _ _ _)))
noncomputable def cd1 : Code := cR (cR (cR (cR (cB Tryz.f22))))
def St3 (c2 c4 : D1) : St := stL 25 [(2, .ref 2 0 []), (4, .ref 4 0 [])] [(2, .cell T83 (.data T83 c2) false), (4, .cell T83 (.data T83 c4) false)]
def St4 (c2 : D1) : St := stL 25 [(2, .ref 2 0 [])] [(2, .cell T83 (.data T83 c2) false)]
def j0 (Rt : D1 -> Option α) (c2 c4 : D1) : Option α :=
 Rt c4
theorem j0_eq (k : Nat) (Q : Ex -> St -> Option α) (c2 c4 : D1) :
  (den C k) cd1 Q (St3 c2 c4) = j0 (fun c2 => Q .ret (St4 c2)) c2 c4 := plainly Js (by kernel_rfl)
theorem a0 (k : Nat) (Q : Ex -> St -> Option α) (x14 : Int) (c2 c3 c4 : D1) :
  (lp C k) cd0 (blkQ C 0 (sq (den C k) (lp C k) Js C cd1 Q)) (St1 x14 c2 c3 c4) = l0 k (fun c2 c4 => j0 (fun c2 => Q .ret (St4 c2)) c2 c4) k x14 c2 c3 c4 :=
 (lp_iter 12 (by kernel_rfl)).trans ((l0_eq k _ k x14 c2 c3 c4).trans (congrArg (fun X => l0 k X k x14 c2 c3 c4) (funext fun c2 => funext fun c4 => (Eq.trans (b := (den C k) cd1 Q (St3 c2 c4)) (by kernel_rfl) (by simp only [j0_eq])))))
def top (k : Nat) (Rt : D1 -> Option α) (x0 : D13) : Option α :=
 (basculeref_text.run x0.1).bind fun y1 =>
 (basculeref_text.run x0.2.1).bind fun y2 =>
 if Nat.ble (y1.length + y2.length) 9223372036854775807 = true then
  (basculeref_Hash.run (y1 ++ y2)).bind fun y3 =>
  l0 k (fun c2 c4 => j0 Rt c2 c4) k 0 (List.replicate 20 0) y3 (List.replicate 20 0)
 else none
theorem top_eq (k : Nat) (Q : Ex -> St -> Option α) (x0 : D13) :
  (den C k) (cB Tryz.f22) Q (St0 x0) = top k (fun c2 => Q .ret (St4 c2)) x0 := by
 have h : ∀ (D L : DT α), denJ D L Js C (cB Tryz.f22) Q (St0 x0) =
    (basculeref_text.run x0.1).bind fun y1 =>
    (basculeref_text.run x0.2.1).bind fun y2 =>
    if Nat.ble (y1.length + y2.length) 9223372036854775807 = true then
     (basculeref_Hash.run (y1 ++ y2)).bind fun y3 =>
     L cd0 (blkQ C 0 (sq D L Js C cd1 Q)) (St1 0 (List.replicate 20 0) y3 (List.replicate 20 0))
    else none := by
  intro D L; kernel_rfl
 have h2 := via (k := k) h
 refine h2.trans ?_
 simp only [a0]
 first | rfl | kernel_rfl
def run (x0 : D13) : Option D1 := top (α := List Int) fuel (fun c2 => some c2) x0
def F : Fn := ⟨T84, T83, false, fun x => run x.1⟩
theorem con : Con Tryz.prog 22 F /\ Named Tryz.prog 22 :=
 con_of2 (C := C) (ctx_ok (by kernel_rfl) (by kernel_rfl) (by kernel_rfl) (by kernel_rfl) ⟨.inl basculeref_Hash.con, ⟨.inl basculeref_text.con, trivial⟩⟩) (by kernel_rfl) Tryz.func22 (by kernel_rfl) (c := cB Tryz.f22) (by kernel_rfl) (by kernel_rfl) F (fun x => by simp [F, spread, Tryz.ntmps22]) (fun x => (St0 x.1)) (fun x => by kernel_rfl) fun x => (top_eq fuel _ x.1).trans (by kernel_rfl)
end Go.Bx.basculeref_KeyOf
namespace Go.Bx.quorum_Need
def Js : List Nat := []
def C : Ctx := ⟨[(3, T1), (44, T1)], [], [], fnL [], noSh, [], invL [], [(2, [2, 3])], [], [], 0, 0⟩
def St0 (x0 : Int) : St := stL 14 [(0, .data T1 x0)] []
def St1 (x2 x3 : Int) : St := stL 14 [(2, .data T1 x2), (3, .data T1 x3)] []
def top (Rt : Int -> Int -> Option α) (x0 : Int) : Option α :=
 if (cond (decide (x0 < 0)) true (decide (x0 > 19))) = true then
  Rt 0 6
 else
  Rt (IntKind.i64.wrap ((IntKind.i64.wrap (Int.tdiv (IntKind.i64.wrap (2 * x0)) 3)) + 1)) 0
theorem top_eq (k : Nat) (Q : Ex -> St -> Option α) (x0 : Int) :
  (den C k) (cB Tryz.f16) Q (St0 x0) = top (fun x2 x3 => Q .ret (St1 x2 x3)) x0 := plainly Js (by kernel_rfl)
def run (x0 : Int) : Option D23 := top (α := Int × Int × Unit) (fun x2 x3 => some (x2, x3, ())) x0
def F : Fn := ⟨T70, T6, true, fun x => run x.1⟩
theorem con : Con Tryz.prog 16 F /\ Named Tryz.prog 16 :=
 con_of2 (C := C) (ctx_ok (by kernel_rfl) (by kernel_rfl) (by kernel_rfl) (by kernel_rfl) trivial) (by kernel_rfl) Tryz.func16 (by kernel_rfl) (c := cB Tryz.f16) (by kernel_rfl) (by kernel_rfl) F (fun x => by simp [F, spread, Tryz.ntmps16]) (fun x => (St0 x.1)) (fun x => by kernel_rfl) fun x => (top_eq fuel _ x.1).trans (by kernel_rfl)
end Go.Bx.quorum_Need
namespace Go.Bx.basculeref_Needed
def Js : List Nat := [7]
def C : Ctx := ⟨[(3, T1), (44, T1)], [], [], fnL [], noSh, [], invL [], [(2, [2, 3]), (1, [4]), (4, [0, 4]), (12, [0, 4]), (18, [4])], [], [], 0, 0⟩
def St0 (x0 : Int) : St := stL 19 [(0, .data T1 x0)] []
def St1 (x2 x3 : Int) : St := stL 19 [(2, .data T1 x2), (3, .data T1 x3)] []
def St2 (x0 x4 : Int) : St := stL 19 [(0, .data T1 x0), (4, .data T1 x4)] []
noncomputable def cd0 : Code := cL (cL (cL (cR (cR (cR (cB Tryz.f20))))))
def St3 (x4 : Int) : St := stL 19 [(4, .data T1 x4)] []
def l0s (Nx : Int -> Int -> Option α) (Xt0 : Int -> Option α) (x0 x4 : Int) : Option α :=
 if (decide ((IntKind.i64.wrap (3 * x4)) <= (IntKind.i64.wrap (2 * x0)))) = true then
  Nx x0 (IntKind.i64.wrap (x4 + 1))
 else
  Xt0 x4
theorem l0s_eq (k : Nat) (next : St -> Option α) (Q : Ex -> St -> Option α) (x0 x4 : Int) :
  rnd C k cd0 12 Q next (St2 x0 x4) = l0s (fun x0 x4 => next (St2 x0 x4)) (fun x4 => Q (.exit 0) (St3 x4)) x0 x4 := plainly Js (by kernel_rfl)
def l0 (k : Nat) (Xt0 : Int -> Option α) : Nat -> Int -> Int -> Option α
 | 0, _, _ => none
 | n + 1, x0, x4 => l0s (l0 k Xt0 n) Xt0 x0 x4
theorem l0_eq (k : Nat) (Q : Ex -> St -> Option α) : ∀ (n : Nat) (x0 x4 : Int), iter (rnd C k cd0 12 Q) n (St2 x0 x4) = l0 k (fun x4 => Q (.exit 0) (St3 x4)) n x0 x4
 | 0, _, _ => rfl
 | n + 1, x0, x4 => (iter_succ _ _ _).trans ((l0s_eq k _ Q x0 x4).trans (congrArg (fun N => l0s N (fun x4 => Q (.exit 0) (St3 x4)) x0 x4) (by funext; exact l0_eq k Q n _ _)))
noncomputable def cd1 : Code := cR (cR (cR (cR (cB Tryz.f20))))
def St4 (x4 : Int) : St := stL 19 [(4, .data T1 x4)] []
def j0 (Rt : Int -> Int -> Option α) (x4 : Int) : Option α :=
 Rt x4 0
theorem j0_eq (k : Nat) (Q : Ex -> St -> Option α) (x4 : Int) :
  (den C k) cd1 Q (St4 x4) = j0 (fun x2 x3 => Q .ret (St1 x2 x3)) x4 := plainly Js (by kernel_rfl)
theorem a0 (k : Nat) (Q : Ex -> St -> Option α) (x0 x4 : Int) :
  (lp C k) cd0 (blkQ C 0 (sq (den C k) (lp C k) Js C cd1 Q)) (St2 x0 x4) = l0 k (fun x4 => j0 (fun x2 x3 => Q .ret (St1 x2 x3)) x4) k x0 x4 :=
 (lp_iter 12 (by kernel_rfl)).trans ((l0_eq k _ k x0 x4).trans (congrArg (fun X => l0 k X k x0 x4) (funext fun x4 => (Eq.trans (b := (den C k) cd1 Q (St4 x4)) (by kernel_rfl) (by simp only [j0_eq])))))
def top (k : Nat) (Rt : Int -> Int -> Option α) (x0 : Int) : Option α :=
 if (cond (decide (x0 < 0)) true (decide (x0 > 19))) = true then
  Rt 0 6
 else
  l0 k (fun x4 => j0 Rt x4) k x0 0
theorem top_eq (k : Nat) (Q : Ex -> St -> Option α) (x0 : Int) :
  (den C k) (cB Tryz.f20) Q (St0 x0) = top k (fun x2 x3 => Q .ret (St1 x2 x3)) x0 := by
 have h : ∀ (D L : DT α), denJ D L Js C (cB Tryz.f20) Q (St0 x0) =
    if (cond (decide (x0 < 0)) true (decide (x0 > 19))) = true then
     Q .ret (St1 0 6)
    else
     L cd0 (blkQ C 0 (sq D L Js C cd1 Q)) (St2 x0 0) := by
  intro D L; kernel_rfl
 have h2 := via (k := k) h
 refine h2.trans ?_
 simp only [a0]
 first | rfl | kernel_rfl
def run (x0 : Int) : Option D23 := top (α := Int × Int × Unit) fuel (fun x2 x3 => some (x2, x3, ())) x0
def F : Fn := ⟨T70, T6, true, fun x => run x.1⟩
theorem con : Con Tryz.prog 20 F /\ Named Tryz.prog 20 :=
 con_of2 (C := C) (ctx_ok (by kernel_rfl) (by kernel_rfl) (by kernel_rfl) (by kernel_rfl) trivial) (by kernel_rfl) Tryz.func20 (by kernel_rfl) (c := cB Tryz.f20) (by kernel_rfl) (by kernel_rfl) F (fun x => by simp [F, spread, Tryz.ntmps20]) (fun x => (St0 x.1)) (fun x => by kernel_rfl) fun x => (top_eq fuel _ x.1).trans (by kernel_rfl)
end Go.Bx.basculeref_Needed
namespace Go.Bx.quorum_Check
def Js : List Nat := [26]
def C : Ctx := ⟨[(3, T1), (26, T45), (28, T43), (39, T3), (43, T40), (44, T1), (48, T85), (50, T86), (51, T87), (62, T88), (66, T83)], [], [], fnL [(15, curve_Check.F), (16, quorum_Need.F), (17, sign_Recover.F), (18, sign_KeyOf.F)], noSh, [], invL [], [(2, [8]), (1, []), (4, [4, 5, 6, 10, 13, 41, 42, 43]), (7, [4, 5, 6, 10, 15, 41, 42, 43]), (36, [4, 5, 6, 10, 13, 41, 42, 43]), (75, [])], [], [], 0, 0⟩
def St0 (x0 : D12) (x1 : D24) (x2 : D1) (x3 : D25) : St := stL 85 [(0, .data T43 x0), (1, .data T86 x1), (2, .data T3 x2), (3, .data T87 x3)] []
def St1 (x8 : Int) : St := stL 85 [(8, .data T1 x8)] []
def St2 (x10 x13 : Int) (x41 : D25) (x42 x43 : Int) (c4 : D12) (c5 : D24) (c6 : D1) : St := stL 85 [(4, .ref 4 0 []), (5, .ref 5 0 []), (6, .ref 6 0 []), (10, .data T1 x10), (13, .data T1 x13), (41, .data T87 x41), (42, .data T1 x42), (43, .data T1 x43)] [(4, .cell T43 (.data T43 c4) false), (5, .cell T86 (.data T86 c5) false), (6, .cell T3 (.data T3 c6) false)]
noncomputable def cd0 : Code := cL (cL (cR (cL (cR (cR (cR (cR (cR (cR (cB Tryz.f7))))))))))
def St3 : St := stL 85 [] []
def l0s (Nx : Int -> Int -> D25 -> Int -> Int -> D12 -> D24 -> D1 -> Option α) (Rt : Int -> Option α) (Xt0 : Option α) (x10 x13 : Int) (x41 : D25) (x42 x43 : Int) (c4 : D12) (c5 : D24) (c6 : D1) : Option α :=
 if (decide (x43 < x42)) = true then
  if 0 <= x43 /\ x43 < (x41.length : Int) then
   if (cond (decide ((List.getD x41 (Int.toNat x43) (0, ([0, 0, 0, 0], [0, 0, 0, 0], 0, ()), ())).1 < 0)) true (decide ((List.getD x41 (Int.toNat x43) (0, ([0, 0, 0, 0], [0, 0, 0, 0], 0, ()), ())).1 >= x10))) = true then
    Rt 6
   else
    if (decide ((List.getD x41 (Int.toNat x43) (0, ([0, 0, 0, 0], [0, 0, 0, 0], 0, ()), ())).1 <= x13)) = true then
     Rt 3
    else
     (sign_Recover.run c4 c6 (List.getD x41 (Int.toNat x43) (0, ([0, 0, 0, 0], [0, 0, 0, 0], 0, ()), ())).2.1).bind fun y3 =>
     if (y3.2.1 != 0) = true then
      Rt y3.2.1
     else
      (sign_KeyOf.run y3.1).bind fun y4 =>
      if 0 <= (List.getD x41 (Int.toNat x43) (0, ([0, 0, 0, 0], [0, 0, 0, 0], 0, ()), ())).1 /\ (List.getD x41 (Int.toNat x43) (0, ([0, 0, 0, 0], [0, 0, 0, 0], 0, ()), ())).1 < (c5.2.1.length : Int) then
       if (not (beqD T83 y4 (List.getD c5.2.1 (Int.toNat (List.getD x41 (Int.toNat x43) (0, ([0, 0, 0, 0], [0, 0, 0, 0], 0, ()), ())).1) (List.replicate 20 0)))) = true then
        Rt 10
       else
        Nx x10 (List.getD x41 (Int.toNat x43) (0, ([0, 0, 0, 0], [0, 0, 0, 0], 0, ()), ())).1 x41 x42 (IntKind.i64.wrap (x43 + 1)) c4 c5 c6
      else none
  else none
 else
  Xt0
theorem l0s_eq (k : Nat) (next : St -> Option α) (Q : Ex -> St -> Option α) (x10 x13 : Int) (x41 : D25) (x42 x43 : Int) (c4 : D12) (c5 : D24) (c6 : D1) :
  rnd C k cd0 36 Q next (St2 x10 x13 x41 x42 x43 c4 c5 c6) = l0s (fun x10 x13 x41 x42 x43 c4 c5 c6 => next (St2 x10 x13 x41 x42 x43 c4 c5 c6)) (fun x8 => Q .ret (St1 x8)) (Q (.exit 0) St3) x10 x13 x41 x42 x43 c4 c5 c6 := plainly Js (by kernel_rfl)
def l0 (k : Nat) (Rt : Int -> Option α) (Xt0 : Option α) : Nat -> Int -> Int -> D25 -> Int -> Int -> D12 -> D24 -> D1 -> Option α
 | 0, _, _, _, _, _, _, _, _ => none
 | n + 1, x10, x13, x41, x42, x43, c4, c5, c6 => l0s (l0 k Rt Xt0 n) Rt Xt0 x10 x13 x41 x42 x43 c4 c5 c6
theorem l0_eq (k : Nat) (Q : Ex -> St -> Option α) : ∀ (n : Nat) (x10 x13 : Int) (x41 : D25) (x42 x43 : Int) (c4 : D12) (c5 : D24) (c6 : D1), iter (rnd C k cd0 36 Q) n (St2 x10 x13 x41 x42 x43 c4 c5 c6) = l0 k (fun x8 => Q .ret (St1 x8)) (Q (.exit 0) St3) n x10 x13 x41 x42 x43 c4 c5 c6
 | 0, _, _, _, _, _, _, _, _ => rfl
 | n + 1, x10, x13, x41, x42, x43, c4, c5, c6 => (iter_succ _ _ _).trans ((l0s_eq k _ Q x10 x13 x41 x42 x43 c4 c5 c6).trans (congrArg (fun N => l0s N (fun x8 => Q .ret (St1 x8)) (Q (.exit 0) St3) x10 x13 x41 x42 x43 c4 c5 c6) (by funext; exact l0_eq k Q n _ _ _ _ _ _ _ _)))
theorem l0_congr (k : Nat) (Rt : Int -> Option α) (Xt0 : Option α) (Rtq : Int -> Option α) (Xt0q : Option α) (hRt : ∀ (x8 : Int), Rt x8 = Rtq x8) (hXt0 : Xt0 = Xt0q) (n : Nat) (x10 x13 : Int) (x41 : D25) (x42 x43 : Int) (c4 : D12) (c5 : D24) (c6 : D1) : l0 k Rt Xt0 n x10 x13 x41 x42 x43 c4 c5 c6 = l0 k Rtq Xt0q n x10 x13 x41 x42 x43 c4 c5 c6 := by
 obtain rfl : Rt = Rtq := by funext x8; exact hRt x8
 obtain rfl : Xt0 = Xt0q := hXt0
 rfl
noncomputable def cd1 : Code := cR (cR (cR (cR (cR (cR (cR (cB Tryz.f7)))))))
def St4 : St := stL 85 [] []
def j0 (Rt : Int -> Option α) : Option α :=
 Rt 0
theorem j0_eq (k : Nat) (Q : Ex -> St -> Option α) :
  (den C k) cd1 Q St4 = j0 (fun x8 => Q .ret (St1 x8)) := plainly Js (by kernel_rfl)
theorem a0 (k : Nat) (Q : Ex -> St -> Option α) (x10 x13 : Int) (x41 : D25) (x42 x43 : Int) (c4 : D12) (c5 : D24) (c6 : D1) :
  (lp C k) cd0 (blkQ C 0 (sq (den C k) (lp C k) Js C cd1 Q)) (St2 x10 x13 x41 x42 x43 c4 c5 c6) = l0 k (fun x8 => (fun x8 => Q .ret (St1 x8)) x8) (j0 (fun x8 => Q .ret (St1 x8))) k x10 x13 x41 x42 x43 c4 c5 c6 :=
 (lp_iter 36 (by kernel_rfl)).trans ((l0_eq k _ k x10 x13 x41 x42 x43 c4 c5 c6).trans (l0_congr k _ _ _ _ (fun x8 => (by kernel_rfl)) (Eq.trans (b := (den C k) cd1 Q St4) (by kernel_rfl) (by simp only [j0_eq])) k x10 x13 x41 x42 x43 c4 c5 c6))
def top (k : Nat) (Rt : Int -> Option α) (x0 : D12) (x1 : D24) (x2 : D1) (x3 : D25) : Option α :=
 (curve_Check.run x0).bind fun y1 =>
 if (y1 != 0) = true then
  Rt y1
 else
  if (cond (decide ((x1.2.1.length : Int) < 1)) true (decide ((x1.2.1.length : Int) > 19))) = true then
   Rt 1
  else
   (quorum_Need.run (x1.2.1.length : Int)).bind fun y2 =>
   if (decide ((x3.length : Int) < y2.1)) = true then
    Rt 11
   else
    l0 k (fun x8 => Rt x8) (j0 Rt) k (x1.2.1.length : Int) (-1) x3 (x3.length : Int) 0 x0 x1 x2
theorem top_eq (k : Nat) (Q : Ex -> St -> Option α) (x0 : D12) (x1 : D24) (x2 : D1) (x3 : D25) :
  (den C k) (cB Tryz.f7) Q (St0 x0 x1 x2 x3) = top k (fun x8 => Q .ret (St1 x8)) x0 x1 x2 x3 := by
 have h : ∀ (D L : DT α), denJ D L Js C (cB Tryz.f7) Q (St0 x0 x1 x2 x3) =
    (curve_Check.run x0).bind fun y1 =>
    if (y1 != 0) = true then
     Q .ret (St1 y1)
    else
     if (cond (decide ((x1.2.1.length : Int) < 1)) true (decide ((x1.2.1.length : Int) > 19))) = true then
      Q .ret (St1 1)
     else
      (quorum_Need.run (x1.2.1.length : Int)).bind fun y2 =>
      if (decide ((x3.length : Int) < y2.1)) = true then
       Q .ret (St1 11)
      else
       L cd0 (blkQ C 0 (sq D L Js C cd1 Q)) (St2 (x1.2.1.length : Int) (-1) x3 (x3.length : Int) 0 x0 x1 x2) := by
  intro D L; kernel_rfl
 have h2 := via (k := k) h
 refine h2.trans ?_
 simp only [a0]
 first | rfl | kernel_rfl
def run (x0 : D12) (x1 : D24) (x2 : D1) (x3 : D25) : Option (Int) := top (α := Int) fuel (fun x8 => some x8) x0 x1 x2 x3
def F : Fn := ⟨T89, T1, false, fun x => run x.1 x.2.1 x.2.2.1 x.2.2.2.1⟩
theorem con : Con Tryz.prog 7 F /\ Named Tryz.prog 7 :=
 con_of2 (C := C) (ctx_ok (by kernel_rfl) (by kernel_rfl) (by kernel_rfl) (by kernel_rfl) ⟨.inl curve_Check.con, ⟨.inl quorum_Need.con, ⟨.inl sign_Recover.con, ⟨.inl sign_KeyOf.con, trivial⟩⟩⟩⟩) (by kernel_rfl) Tryz.func7 (by kernel_rfl) (c := cB Tryz.f7) (by kernel_rfl) (by kernel_rfl) F (fun x => by simp [F, spread, Tryz.ntmps7]) (fun x => (St0 x.1 x.2.1 x.2.2.1 x.2.2.2.1)) (fun x => by kernel_rfl) fun x => (top_eq fuel _ x.1 x.2.1 x.2.2.1 x.2.2.2.1).trans (by kernel_rfl)
end Go.Bx.quorum_Check
