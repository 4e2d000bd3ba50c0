/- Go functions of this seat in their own words of Lean, each tied to its code by a contract. -/
import Derived.Test.YtbkkahkikjifkaaGBase
import Derived.Test.YtbkkahkikjifkaaFnGuardWaits0
open Go Go.Proofs Go.Bx
set_option maxRecDepth 100000
set_option linter.unusedVariables false
variable {α : Type}
namespace Go.Bx.basculelaw_GuardWaits
def Js : List Nat := [13, 14]
def C : Ctx := ⟨[(3, T1), (4, .bool), (32, T19), (34, T22), (40, T2)], [], [], fnL [(8, guard_Hours.F), (9, basculeref_Waited.F), (10, basculeref_IdOf.F), (11, basculelaw_sameGuard.F)], noSh, [], invL [], [(2, [4]), (1, [5, 6, 7, 8]), (4, [2, 5, 6, 7, 8, 26, 27, 28]), (7, [2, 5, 6, 7, 8, 26, 27, 28]), (10, [2, 5, 6, 7, 8, 10, 26, 27, 28, 36, 37, 38]), (12, [2, 5, 6, 7, 8, 26, 27, 28]), (21, [2, 5, 6, 7, 8, 10, 26, 27, 28, 36, 37, 38]), (36, [2, 5, 6, 7, 8, 26, 27, 28]), (39, [5, 6, 7, 8])], [], [], 0, 0⟩
def St0 (x0 : D8) (x1 : Int) : St := stL 60 [(0, .data T22 x0), (1, .data T1 x1)] []
def St1 (x6 x8 : Int) (x26 : D7) (x27 x28 : Int) (c2 c5 c7 : D8) : St := stL 60 [(2, .ref 2 0 []), (5, .ref 5 0 []), (6, .data T1 x6), (7, .ref 7 0 []), (8, .data T1 x8), (26, .data T19 x26), (27, .data T1 x27), (28, .data T1 x28)] [(2, .cell T22 (.data T22 c2) false), (5, .cell T22 (.data T22 c5) false), (7, .cell T22 (.data T22 c7) false)]
noncomputable def cd0 : Code := cL (cL (cR (cL (cR (cR (cR (cB Try.f3)))))))
def St2 (x6 x8 : Int) (x26 : D7) (x27 x28 : Int) (x36 : D7) (x37 x38 : Int) (c2 c5 c7 : D8) (c10 : D0) : St := stL 60 [(2, .ref 2 0 []), (5, .ref 5 0 []), (6, .data T1 x6), (7, .ref 7 0 []), (8, .data T1 x8), (10, .ref 10 0 []), (26, .data T19 x26), (27, .data T1 x27), (28, .data T1 x28), (36, .data T19 x36), (37, .data T1 x37), (38, .data T1 x38)] [(2, .cell T22 (.data T22 c2) false), (5, .cell T22 (.data T22 c5) false), (7, .cell T22 (.data T22 c7) false), (10, .cell T2 (.data T2 c10) false)]
noncomputable def cd1 : Code := cL (cL (cR (cR (cL (cL (cR (cR (cL (cL (cR (cL (cR (cR (cR (cB Try.f3)))))))))))))))
def St3 (x4 : Bool) : St := stL 60 [(4, .data .bool x4)] []
def St4 (x6 x8 : Int) (x26 : D7) (x27 x28 : Int) (c2 c5 c7 : D8) : St := stL 60 [(2, .ref 2 0 []), (5, .ref 5 0 []), (6, .data T1 x6), (7, .ref 7 0 []), (8, .data T1 x8), (26, .data T19 x26), (27, .data T1 x27), (28, .data T1 x28)] [(2, .cell T22 (.data T22 c2) false), (5, .cell T22 (.data T22 c5) false), (7, .cell T22 (.data T22 c7) false)]
def l1s (Nx : Int -> Int -> D7 -> Int -> Int -> D7 -> Int -> Int -> D8 -> D8 -> D8 -> D0 -> Option α) (Rt : Bool -> Option α) (Xt2 : Int -> Int -> D7 -> Int -> Int -> D8 -> D8 -> D8 -> Option α) (x6 x8 : Int) (x26 : D7) (x27 x28 : Int) (x36 : D7) (x37 x38 : Int) (c2 c5 c7 : D8) (c10 : D0) : Option α :=
 if (decide (x38 < x37)) = true then
  if 0 <= x38 /\ x38 < (x36.length : Int) then
   (basculeref_IdOf.run c10).bind fun y3 =>
   (basculeref_IdOf.run (List.getD x36 (Int.toNat x38) (0, 0, 0, (List.replicate 32 0), 0, 0, [], ()))).bind fun y4 =>
   if (y3 == y4) = true then
    Rt (x6 == x8)
   else
    Nx x6 x8 x26 x27 x28 x36 x37 (IntKind.i64.wrap (x38 + 1)) c2 c5 c7 c10
  else none
 else
  Xt2 x6 x8 x26 x27 x28 c2 c5 c7
theorem l1s_eq (k : Nat) (next : St -> Option α) (Q : Ex -> St -> Option α) (x6 x8 : Int) (x26 : D7) (x27 x28 : Int) (x36 : D7) (x37 x38 : Int) (c2 c5 c7 : D8) (c10 : D0) :
  rnd C k cd1 21 Q next (St2 x6 x8 x26 x27 x28 x36 x37 x38 c2 c5 c7 c10) = l1s (fun x6 x8 x26 x27 x28 x36 x37 x38 c2 c5 c7 c10 => next (St2 x6 x8 x26 x27 x28 x36 x37 x38 c2 c5 c7 c10)) (fun x4 => Q .ret (St3 x4)) (fun x6 x8 x26 x27 x28 c2 c5 c7 => Q (.exit 2) (St4 x6 x8 x26 x27 x28 c2 c5 c7)) x6 x8 x26 x27 x28 x36 x37 x38 c2 c5 c7 c10 := plainly Js (by kernel_rfl)
def l1 (k : Nat) (Rt : Bool -> Option α) (Xt2 : Int -> Int -> D7 -> Int -> Int -> D8 -> D8 -> D8 -> Option α) : Nat -> Int -> Int -> D7 -> Int -> Int -> D7 -> Int -> Int -> D8 -> D8 -> D8 -> D0 -> Option α
 | 0, _, _, _, _, _, _, _, _, _, _, _, _ => none
 | n + 1, x6, x8, x26, x27, x28, x36, x37, x38, c2, c5, c7, c10 => l1s (l1 k Rt Xt2 n) Rt Xt2 x6 x8 x26 x27 x28 x36 x37 x38 c2 c5 c7 c10
theorem l1_eq (k : Nat) (Q : Ex -> St -> Option α) : ∀ (n : Nat) (x6 x8 : Int) (x26 : D7) (x27 x28 : Int) (x36 : D7) (x37 x38 : Int) (c2 c5 c7 : D8) (c10 : D0), iter (rnd C k cd1 21 Q) n (St2 x6 x8 x26 x27 x28 x36 x37 x38 c2 c5 c7 c10) = l1 k (fun x4 => Q .ret (St3 x4)) (fun x6 x8 x26 x27 x28 c2 c5 c7 => Q (.exit 2) (St4 x6 x8 x26 x27 x28 c2 c5 c7)) n x6 x8 x26 x27 x28 x36 x37 x38 c2 c5 c7 c10
 | 0, _, _, _, _, _, _, _, _, _, _, _, _ => rfl
 | n + 1, x6, x8, x26, x27, x28, x36, x37, x38, c2, c5, c7, c10 => (iter_succ _ _ _).trans ((l1s_eq k _ Q x6 x8 x26 x27 x28 x36 x37 x38 c2 c5 c7 c10).trans (congrArg (fun N => l1s N (fun x4 => Q .ret (St3 x4)) (fun x6 x8 x26 x27 x28 c2 c5 c7 => Q (.exit 2) (St4 x6 x8 x26 x27 x28 c2 c5 c7)) x6 x8 x26 x27 x28 x36 x37 x38 c2 c5 c7 c10) (by funext; exact l1_eq k Q n _ _ _ _ _ _ _ _ _ _ _ _)))
theorem l1_congr (k : Nat) (Rt : Bool -> Option α) (Xt2 : Int -> Int -> D7 -> Int -> Int -> D8 -> D8 -> D8 -> Option α) (Rtq : Bool -> Option α) (Xt2q : Int -> Int -> D7 -> Int -> Int -> D8 -> D8 -> D8 -> Option α) (hRt : ∀ (x4 : Bool), Rt x4 = Rtq x4) (hXt2 : ∀ (x6 x8 : Int) (x26 : D7) (x27 x28 : Int) (c2 c5 c7 : D8), Xt2 x6 x8 x26 x27 x28 c2 c5 c7 = Xt2q x6 x8 x26 x27 x28 c2 c5 c7) (n : Nat) (x6 x8 : Int) (x26 : D7) (x27 x28 : Int) (x36 : D7) (x37 x38 : Int) (c2 c5 c7 : D8) (c10 : D0) : l1 k Rt Xt2 n x6 x8 x26 x27 x28 x36 x37 x38 c2 c5 c7 c10 = l1 k Rtq Xt2q n x6 x8 x26 x27 x28 x36 x37 x38 c2 c5 c7 c10 := by
 obtain rfl : Rt = Rtq := by funext x4; exact hRt x4
 obtain rfl : Xt2 = Xt2q := by funext x6; funext x8; funext x26; funext x27; funext x28; funext c2; funext c5; funext c7; exact hXt2 x6 x8 x26 x27 x28 c2 c5 c7
 rfl
noncomputable def cd2 : Code := cR (cR (cR (cL (cL (cR (cL (cR (cR (cR (cB Try.f3))))))))))
def St5 (x6 x8 : Int) (x26 : D7) (x27 x28 : Int) (c2 c5 c7 : D8) : St := stL 60 [(2, .ref 2 0 []), (5, .ref 5 0 []), (6, .data T1 x6), (7, .ref 7 0 []), (8, .data T1 x8), (26, .data T19 x26), (27, .data T1 x27), (28, .data T1 x28)] [(2, .cell T22 (.data T22 c2) false), (5, .cell T22 (.data T22 c5) false), (7, .cell T22 (.data T22 c7) false)]
def j0 (Nx : Int -> Int -> D7 -> Int -> Int -> D8 -> D8 -> D8 -> Option α) (x6 x8 : Int) (x26 : D7) (x27 x28 : Int) (c2 c5 c7 : D8) : Option α :=
 Nx x6 x8 x26 x27 (IntKind.i64.wrap (x28 + 1)) c2 c5 c7
theorem j0_eq (k : Nat) (next : St -> Option α) (Q : Ex -> St -> Option α) (x6 x8 : Int) (x26 : D7) (x27 x28 : Int) (c2 c5 c7 : D8) :
  (den C k) cd2 (lq C 12 next Q) (St5 x6 x8 x26 x27 x28 c2 c5 c7) = j0 (fun x6 x8 x26 x27 x28 c2 c5 c7 => next (St1 x6 x8 x26 x27 x28 c2 c5 c7)) x6 x8 x26 x27 x28 c2 c5 c7 := plainly Js (by kernel_rfl)
theorem a0 (k : Nat) (next : St -> Option α) (Q : Ex -> St -> Option α) (x6 x8 : Int) (x26 : D7) (x27 x28 : Int) (x36 : D7) (x37 x38 : Int) (c2 c5 c7 : D8) (c10 : D0) :
  (lp C k) cd1 (blkQ C 2 (blkQ C 1 (sq (den C k) (lp C k) Js C cd2 (lq C 12 next Q)))) (St2 x6 x8 x26 x27 x28 x36 x37 x38 c2 c5 c7 c10) = l1 k (fun x4 => (fun x4 => Q .ret (St3 x4)) x4) (fun x6 x8 x26 x27 x28 c2 c5 c7 => j0 (fun x6 x8 x26 x27 x28 c2 c5 c7 => next (St1 x6 x8 x26 x27 x28 c2 c5 c7)) x6 x8 x26 x27 x28 c2 c5 c7) k x6 x8 x26 x27 x28 x36 x37 x38 c2 c5 c7 c10 :=
 (lp_iter 21 (by kernel_rfl)).trans ((l1_eq k _ k x6 x8 x26 x27 x28 x36 x37 x38 c2 c5 c7 c10).trans (l1_congr k _ _ _ _ (fun x4 => (by kernel_rfl)) (fun x6 x8 x26 x27 x28 c2 c5 c7 => (Eq.trans (b := (den C k) cd2 (lq C 12 next Q) (St5 x6 x8 x26 x27 x28 c2 c5 c7)) (by kernel_rfl) (by simp only [j0_eq]))) k x6 x8 x26 x27 x28 x36 x37 x38 c2 c5 c7 c10))
def St6 (x6 x8 : Int) (c5 c7 : D8) : St := stL 60 [(5, .ref 5 0 []), (6, .data T1 x6), (7, .ref 7 0 []), (8, .data T1 x8)] [(5, .cell T22 (.data T22 c5) false), (7, .cell T22 (.data T22 c7) false)]
def l0s (k : Nat) (Nx : Int -> Int -> D7 -> Int -> Int -> D8 -> D8 -> D8 -> Option α) (Rt : Bool -> Option α) (Xt0 : Int -> Int -> D8 -> D8 -> Option α) (x6 x8 : Int) (x26 : D7) (x27 x28 : Int) (c2 c5 c7 : D8) : Option α :=
 if (decide (x28 < x27)) = true then
  if 0 <= x28 /\ x28 < (x26.length : Int) then
   if 0 <= (0 : Int) /\ (0 : Int) <= x28 /\ x28 <= (c2.2.2.2.2.1.length : Int) then
    l1 k (fun x4 => Rt x4) (fun x6 x8 x26 x27 x28 c2 c5 c7 => j0 Nx x6 x8 x26 x27 x28 c2 c5 c7) k x6 x8 x26 x27 x28 (cutL c2.2.2.2.2.1 0 x28) ((cutL c2.2.2.2.2.1 0 x28).length : Int) 0 c2 c5 c7 (List.getD x26 (Int.toNat x28) (0, 0, 0, (List.replicate 32 0), 0, 0, [], ()))
   else none
  else none
 else
  Xt0 x6 x8 c5 c7
theorem l0s_eq (k : Nat) (next : St -> Option α) (Q : Ex -> St -> Option α) (x6 x8 : Int) (x26 : D7) (x27 x28 : Int) (c2 c5 c7 : D8) :
  rnd C k cd0 12 Q next (St1 x6 x8 x26 x27 x28 c2 c5 c7) = l0s k (fun x6 x8 x26 x27 x28 c2 c5 c7 => next (St1 x6 x8 x26 x27 x28 c2 c5 c7)) (fun x4 => Q .ret (St3 x4)) (fun x6 x8 c5 c7 => Q (.exit 0) (St6 x6 x8 c5 c7)) x6 x8 x26 x27 x28 c2 c5 c7 := by
 have h : ∀ (D L : DT α), denJ D L Js C cd0 (lq C 12 next Q) (St1 x6 x8 x26 x27 x28 c2 c5 c7) =
    if (decide (x28 < x27)) = true then
     if 0 <= x28 /\ x28 < (x26.length : Int) then
      if 0 <= (0 : Int) /\ (0 : Int) <= x28 /\ x28 <= (c2.2.2.2.2.1.length : Int) then
       L cd1 (blkQ C 2 (blkQ C 1 (sq D L Js C cd2 (lq C 12 next Q)))) (St2 x6 x8 x26 x27 x28 (cutL c2.2.2.2.2.1 0 x28) ((cutL c2.2.2.2.2.1 0 x28).length : Int) 0 c2 c5 c7 (List.getD x26 (Int.toNat x28) (0, 0, 0, (List.replicate 32 0), 0, 0, [], ())))
      else none
     else none
    else
     Q (.exit 0) (St6 x6 x8 c5 c7) := by
  intro D L; kernel_rfl
 have h2 := via (k := k) h
 refine h2.trans ?_
 simp only [a0]
 first | rfl | kernel_rfl
def l0 (k : Nat) (Rt : Bool -> Option α) (Xt0 : Int -> Int -> D8 -> D8 -> Option α) : Nat -> Int -> Int -> D7 -> Int -> Int -> D8 -> D8 -> D8 -> Option α
 | 0, _, _, _, _, _, _, _, _ => none
 | n + 1, x6, x8, x26, x27, x28, c2, c5, c7 => l0s k (l0 k Rt Xt0 n) Rt Xt0 x6 x8 x26 x27 x28 c2 c5 c7
theorem l0_eq (k : Nat) (Q : Ex -> St -> Option α) : ∀ (n : Nat) (x6 x8 : Int) (x26 : D7) (x27 x28 : Int) (c2 c5 c7 : D8), iter (rnd C k cd0 12 Q) n (St1 x6 x8 x26 x27 x28 c2 c5 c7) = l0 k (fun x4 => Q .ret (St3 x4)) (fun x6 x8 c5 c7 => Q (.exit 0) (St6 x6 x8 c5 c7)) n x6 x8 x26 x27 x28 c2 c5 c7
 | 0, _, _, _, _, _, _, _, _ => rfl
 | n + 1, x6, x8, x26, x27, x28, c2, c5, c7 => (iter_succ _ _ _).trans ((l0s_eq k _ Q x6 x8 x26 x27 x28 c2 c5 c7).trans (congrArg (fun N => l0s k N (fun x4 => Q .ret (St3 x4)) (fun x6 x8 c5 c7 => Q (.exit 0) (St6 x6 x8 c5 c7)) x6 x8 x26 x27 x28 c2 c5 c7) (by funext; exact l0_eq k Q n _ _ _ _ _ _ _ _)))
theorem l0_congr (k : Nat) (Rt : Bool -> Option α) (Xt0 : Int -> Int -> D8 -> D8 -> Option α) (Rtq : Bool -> Option α) (Xt0q : Int -> Int -> D8 -> D8 -> Option α) (hRt : ∀ (x4 : Bool), Rt x4 = Rtq x4) (hXt0 : ∀ (x6 x8 : Int) (c5 c7 : D8), Xt0 x6 x8 c5 c7 = Xt0q x6 x8 c5 c7) (n : Nat) (x6 x8 : Int) (x26 : D7) (x27 x28 : Int) (c2 c5 c7 : D8) : l0 k Rt Xt0 n x6 x8 x26 x27 x28 c2 c5 c7 = l0 k Rtq Xt0q n x6 x8 x26 x27 x28 c2 c5 c7 := by
 obtain rfl : Rt = Rtq := by funext x4; exact hRt x4
 obtain rfl : Xt0 = Xt0q := by funext x6; funext x8; funext c5; funext c7; exact hXt0 x6 x8 c5 c7
 rfl
noncomputable def cd3 : Code := cR (cR (cR (cR (cB Try.f3))))
def St7 (x6 x8 : Int) (c5 c7 : D8) : St := stL 60 [(5, .ref 5 0 []), (6, .data T1 x6), (7, .ref 7 0 []), (8, .data T1 x8)] [(5, .cell T22 (.data T22 c5) false), (7, .cell T22 (.data T22 c7) false)]
def j1 (Rt : Bool -> Option α) (x6 x8 : Int) (c5 c7 : D8) : Option α :=
 (basculelaw_sameGuard.run c5 c7).bind fun y5 =>
 Rt (cond y5 (x6 == x8) false)
theorem j1_eq (k : Nat) (Q : Ex -> St -> Option α) (x6 x8 : Int) (c5 c7 : D8) :
  (den C k) cd3 Q (St7 x6 x8 c5 c7) = j1 (fun x4 => Q .ret (St3 x4)) x6 x8 c5 c7 := plainly Js (by kernel_rfl)
theorem a1 (k : Nat) (Q : Ex -> St -> Option α) (x6 x8 : Int) (x26 : D7) (x27 x28 : Int) (c2 c5 c7 : D8) :
  (lp C k) cd0 (blkQ C 0 (sq (den C k) (lp C k) Js C cd3 Q)) (St1 x6 x8 x26 x27 x28 c2 c5 c7) = l0 k (fun x4 => (fun x4 => Q .ret (St3 x4)) x4) (fun x6 x8 c5 c7 => j1 (fun x4 => Q .ret (St3 x4)) x6 x8 c5 c7) k x6 x8 x26 x27 x28 c2 c5 c7 :=
 (lp_iter 12 (by kernel_rfl)).trans ((l0_eq k _ k x6 x8 x26 x27 x28 c2 c5 c7).trans (l0_congr k _ _ _ _ (fun x4 => (by kernel_rfl)) (fun x6 x8 c5 c7 => (Eq.trans (b := (den C k) cd3 Q (St7 x6 x8 c5 c7)) (by kernel_rfl) (by simp only [j1_eq]))) k x6 x8 x26 x27 x28 c2 c5 c7))
def top (k : Nat) (Rt : Bool -> Option α) (x0 : D8) (x1 : Int) : Option α :=
 (guard_Hours.run x0 x1).bind fun y1 =>
 (basculeref_Waited.run x0 x1).bind fun y2 =>
 l0 k (fun x4 => Rt x4) (fun x6 x8 c5 c7 => j1 Rt x6 x8 c5 c7) k y1.2.1 y2.2.1 x0.2.2.2.2.1 (x0.2.2.2.2.1.length : Int) 0 x0 y1.1 y2.1
theorem top_eq (k : Nat) (Q : Ex -> St -> Option α) (x0 : D8) (x1 : Int) :
  (den C k) (cB Try.f3) Q (St0 x0 x1) = top k (fun x4 => Q .ret (St3 x4)) x0 x1 := by
 have h : ∀ (D L : DT α), denJ D L Js C (cB Try.f3) Q (St0 x0 x1) =
    (guard_Hours.run x0 x1).bind fun y1 =>
    (basculeref_Waited.run x0 x1).bind fun y2 =>
    L cd0 (blkQ C 0 (sq D L Js C cd3 Q)) (St1 y1.2.1 y2.2.1 x0.2.2.2.2.1 (x0.2.2.2.2.1.length : Int) 0 x0 y1.1 y2.1) := by
  intro D L; kernel_rfl
 have h2 := via (k := k) h
 refine h2.trans ?_
 simp only [a1]
 first | rfl | kernel_rfl
def run (x0 : D8) (x1 : Int) : Option (Bool) := top (α := Bool) fuel (fun x4 => some x4) x0 x1
def F : Fn := ⟨T30, .bool, false, fun x => run x.1 x.2.1⟩
theorem con : Con Try.prog 3 F /\ Named Try.prog 3 :=
 con_of2 (C := C) (ctx_ok (by kernel_rfl) (by kernel_rfl) (by kernel_rfl) (by kernel_rfl) ⟨.inl guard_Hours.con, ⟨.inl basculeref_Waited.con, ⟨.inl basculeref_IdOf.con, ⟨.inl basculelaw_sameGuard.con, trivial⟩⟩⟩⟩) (by kernel_rfl) Try.func3 (by kernel_rfl) (c := cB Try.f3) (by kernel_rfl) (by kernel_rfl) F (fun x => by simp [F, spread, Try.ntmps3]) (fun x => (St0 x.1 x.2.1)) (fun x => by kernel_rfl) fun x => (top_eq fuel _ x.1 x.2.1).trans (by kernel_rfl)
end Go.Bx.basculelaw_GuardWaits
