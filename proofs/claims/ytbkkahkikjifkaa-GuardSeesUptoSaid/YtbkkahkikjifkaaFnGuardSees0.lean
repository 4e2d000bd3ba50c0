/- Go functions of this seat in their own words of Lean, each tied to its code by a contract. -/
import Derived.Test.YtbkkahkikjifkaaGBase
open Go Go.Proofs Go.Bx
set_option maxRecDepth 100000
set_option linter.unusedVariables false
variable {α : Type}
namespace Go.Bx.basculeref_upTo
def Js : List Nat := []
def C : Ctx := ⟨[(3, T1), (4, .bool)], [], [], fnL [], noSh, [], invL [], [(2, [4])], [], [], 0, 0⟩
def St0 (x0 x1 : Int) : St := stL 12 [(0, .data T1 x0), (1, .data T1 x1)] []
def St1 (x4 : Bool) : St := stL 12 [(4, .data .bool x4)] []
def top (Rt : Bool -> Option α) (x0 x1 : Int) : Option α :=
 Rt (cond (decide (0 <= x0)) (decide (x0 <= x1)) false)
theorem top_eq (k : Nat) (Q : Ex -> St -> Option α) (x0 x1 : Int) :
  (den C k) (cB Try.f149) Q (St0 x0 x1) = top (fun x4 => Q .ret (St1 x4)) x0 x1 := plainly Js (by kernel_rfl)
def run (x0 x1 : Int) : Option (Bool) := top (α := Bool) (fun x4 => some x4) x0 x1
def F : Fn := ⟨T34, .bool, false, fun x => run x.1 x.2.1⟩
theorem con : Con Try.prog 149 F /\ Named Try.prog 149 :=
 con_of2 (C := C) (ctx_ok (by kernel_rfl) (by kernel_rfl) (by kernel_rfl) (by kernel_rfl) trivial) (by kernel_rfl) Try.func149 (by kernel_rfl) (c := cB Try.f149) (by kernel_rfl) (by kernel_rfl) F (fun x => by simp [F, spread, Try.ntmps149]) (fun x => (St0 x.1 x.2.1)) (fun x => by kernel_rfl) fun x => (top_eq fuel _ x.1 x.2.1).trans (by kernel_rfl)
end Go.Bx.basculeref_upTo
namespace Go.Bx.gate_value
def Js : List Nat := []
def C : Ctx := ⟨[(3, T1), (4, .bool)], [], [], fnL [], noSh, [], invL [], [(2, [2])], [], [], 0, 0⟩
def St0 (x0 : Int) : St := stL 9 [(0, .data T1 x0)] []
def St1 (x2 : Bool) : St := stL 9 [(2, .data .bool x2)] []
def top (Rt : Bool -> Option α) (x0 : Int) : Option α :=
 Rt (cond (decide (x0 >= 0)) (decide (x0 <= 1073741824)) false)
theorem top_eq (k : Nat) (Q : Ex -> St -> Option α) (x0 : Int) :
  (den C k) (cB Try.f151) Q (St0 x0) = top (fun x2 => Q .ret (St1 x2)) x0 := plainly Js (by kernel_rfl)
def run (x0 : Int) : Option (Bool) := top (α := Bool) (fun x2 => some x2) x0
def F : Fn := ⟨T4, .bool, false, fun x => run x.1⟩
theorem con : Con Try.prog 151 F /\ Named Try.prog 151 :=
 con_of2 (C := C) (ctx_ok (by kernel_rfl) (by kernel_rfl) (by kernel_rfl) (by kernel_rfl) trivial) (by kernel_rfl) Try.func151 (by kernel_rfl) (c := cB Try.f151) (by kernel_rfl) (by kernel_rfl) F (fun x => by simp [F, spread, Try.ntmps151]) (fun x => (St0 x.1)) (fun x => by kernel_rfl) fun x => (top_eq fuel _ x.1).trans (by kernel_rfl)
end Go.Bx.gate_value
namespace Go.Bx.gate_Check
def Js : List Nat := [10, 20, 21]
def C : Ctx := ⟨[(3, T1), (25, T5), (26, T6), (28, T7), (35, T1), (165, T8)], [], [], fnL [(151, gate_value.F)], noSh, [], invL [], [(2, [2]), (7, [3]), (10, [1, 3, 5, 54, 55, 56]), (13, [1, 3, 5, 54, 55, 56]), (16, [1, 3, 5, 7, 54, 55, 56, 91, 92, 93]), (1, [1, 3]), (4, [1, 3, 28]), (15, [1, 3, 28]), (27, [1, 3]), (33, [1, 3, 5, 54, 55, 56]), (45, [1, 3, 5, 7, 54, 55, 56, 91, 92, 93]), (57, [1, 3, 5, 54, 55, 56]), (60, [3])], [], [50], 0, 0⟩
def St0 (x0 : D1) : St := stL 109 [(0, .data T7 x0)] []
def St1 (x2 : Int) : St := stL 109 [(2, .data T1 x2)] []
def St2 (x3 : Bool) (x28 : Int) (c1 : D1) : St := stL 109 [(1, .ref 1 0 []), (3, .data .bool x3), (28, .data T1 x28)] [(1, .cell T7 (.data T7 c1) false)]
noncomputable def cd0 : Code := cL (cL (cR (cL (cR (cR (cR (cB Try.f120)))))))
def St3 (x3 : Bool) (c1 : D1) : St := stL 109 [(1, .ref 1 0 []), (3, .data .bool x3)] [(1, .cell T7 (.data T7 c1) false)]
def l0s (Nx : Bool -> Int -> D1 -> Option α) (Xt0 : Bool -> D1 -> Option α) (x3 : Bool) (x28 : Int) (c1 : D1) : Option α :=
 if (decide (x28 < 3)) = true then
  cond (decide (0 <= x28 /\ x28 < (3 : Int)) || !(x3 == true)) (
   (if (x3 == true) = true then gate_value.run (List.getD c1.1 (Int.toNat x28) 0) else some false).bind fun y1 =>
   cond (decide (0 <= x28 /\ x28 < (3 : Int)) || !((cond x3 y1 false) == true)) (
    (if ((cond x3 y1 false) == true) = true then gate_value.run (List.getD c1.2.1 (Int.toNat x28) 0) else some false).bind fun y2 =>
    Nx (cond (cond x3 y1 false) y2 false) (IntKind.i64.wrap (x28 + 1)) c1) none) none
 else
  Xt0 x3 c1
theorem l0s_eq (k : Nat) (next : St -> Option α) (Q : Ex -> St -> Option α) (x3 : Bool) (x28 : Int) (c1 : D1) :
  rnd C k cd0 15 Q next (St2 x3 x28 c1) = l0s (fun x3 x28 c1 => next (St2 x3 x28 c1)) (fun x3 c1 => Q (.exit 0) (St3 x3 c1)) x3 x28 c1 := plainly Js (by kernel_rfl)
def l0 (k : Nat) (Xt0 : Bool -> D1 -> Option α) : Nat -> Bool -> Int -> D1 -> Option α
 | 0, _, _, _ => none
 | n + 1, x3, x28, c1 => l0s (l0 k Xt0 n) Xt0 x3 x28 c1
theorem l0_eq (k : Nat) (Q : Ex -> St -> Option α) : ∀ (n : Nat) (x3 : Bool) (x28 : Int) (c1 : D1), iter (rnd C k cd0 15 Q) n (St2 x3 x28 c1) = l0 k (fun x3 c1 => Q (.exit 0) (St3 x3 c1)) n x3 x28 c1
 | 0, _, _, _ => rfl
 | n + 1, x3, x28, c1 => (iter_succ _ _ _).trans ((l0s_eq k _ Q x3 x28 c1).trans (congrArg (fun N => l0s N (fun x3 c1 => Q (.exit 0) (St3 x3 c1)) x3 x28 c1) (by funext; exact l0_eq k Q n _ _ _)))
noncomputable def cd1 : Code := cR (cR (cR (cR (cB Try.f120))))
def St4 (x3 : Bool) (c1 : D1) : St := stL 109 [(1, .ref 1 0 []), (3, .data .bool x3)] [(1, .cell T7 (.data T7 c1) false)]
def St5 (x3 : Bool) (x55 x56 : Int) (c1 : D1) (c50 : D2) : St := stL 109 [(1, .ref 1 0 []), (3, .data .bool x3), (5, .app 50 0), (54, .app 50 0), (55, .data T1 x55), (56, .data T1 x56)] [(1, .cell T7 (.data T7 c1) false), (50, .buf T8 c50 0 true)]
noncomputable def cd2 : Code := cL (cL (cR (cL (cR (cR (cR (cR (cR (cB Try.f120)))))))))
def St6 (x3 : Bool) (x55 x56 : Int) (x91 : D2) (x92 x93 : Int) (c1 : D1) (c7 : D3) (c50 : D2) : St := stL 109 [(1, .ref 1 0 []), (3, .data .bool x3), (5, .app 50 0), (7, .ref 7 0 []), (54, .app 50 0), (55, .data T1 x55), (56, .data T1 x56), (91, .data T6 x91), (92, .data T1 x92), (93, .data T1 x93)] [(1, .cell T7 (.data T7 c1) false), (7, .cell T8 (.data T8 c7) false), (50, .buf T8 c50 0 true)]
noncomputable def cd3 : Code := cL (cL (cR (cR (cR (cL (cL (cR (cR (cL (cL (cR (cL (cR (cR (cR (cR (cR (cB Try.f120))))))))))))))))))
def St7 (x3 : Bool) (x55 x56 : Int) (c1 : D1) (c50 : D2) : St := stL 109 [(1, .ref 1 0 []), (3, .data .bool x3), (5, .app 50 0), (54, .app 50 0), (55, .data T1 x55), (56, .data T1 x56)] [(1, .cell T7 (.data T7 c1) false), (50, .buf T8 c50 0 true)]
def l2s (Nx : Bool -> Int -> Int -> D2 -> Int -> Int -> D1 -> D3 -> D2 -> Option α) (Xt4 : Bool -> Int -> Int -> D1 -> D2 -> Option α) (x3 : Bool) (x55 x56 : Int) (x91 : D2) (x92 x93 : Int) (c1 : D1) (c7 : D3) (c50 : D2) : Option α :=
 if (decide (x93 < x92)) = true then
  if 0 <= x93 /\ x93 < (x91.length : Int) then
   Nx (cond x3 (c7.1 != (List.getD x91 (Int.toNat x93) (0, 0, 0, 0, ())).1) false) x55 x56 x91 x92 (IntKind.i64.wrap (x93 + 1)) c1 c7 c50
  else none
 else
  Xt4 x3 x55 x56 c1 c50
theorem l2s_eq (k : Nat) (next : St -> Option α) (Q : Ex -> St -> Option α) (x3 : Bool) (x55 x56 : Int) (x91 : D2) (x92 x93 : Int) (c1 : D1) (c7 : D3) (c50 : D2) :
  rnd C k cd3 45 Q next (St6 x3 x55 x56 x91 x92 x93 c1 c7 c50) = l2s (fun x3 x55 x56 x91 x92 x93 c1 c7 c50 => next (St6 x3 x55 x56 x91 x92 x93 c1 c7 c50)) (fun x3 x55 x56 c1 c50 => Q (.exit 4) (St7 x3 x55 x56 c1 c50)) x3 x55 x56 x91 x92 x93 c1 c7 c50 := plainly Js (by kernel_rfl)
def l2 (k : Nat) (Xt4 : Bool -> Int -> Int -> D1 -> D2 -> Option α) : Nat -> Bool -> Int -> Int -> D2 -> Int -> Int -> D1 -> D3 -> D2 -> Option α
 | 0, _, _, _, _, _, _, _, _, _ => none
 | n + 1, x3, x55, x56, x91, x92, x93, c1, c7, c50 => l2s (l2 k Xt4 n) Xt4 x3 x55 x56 x91 x92 x93 c1 c7 c50
theorem l2_eq (k : Nat) (Q : Ex -> St -> Option α) : ∀ (n : Nat) (x3 : Bool) (x55 x56 : Int) (x91 : D2) (x92 x93 : Int) (c1 : D1) (c7 : D3) (c50 : D2), iter (rnd C k cd3 45 Q) n (St6 x3 x55 x56 x91 x92 x93 c1 c7 c50) = l2 k (fun x3 x55 x56 c1 c50 => Q (.exit 4) (St7 x3 x55 x56 c1 c50)) n x3 x55 x56 x91 x92 x93 c1 c7 c50
 | 0, _, _, _, _, _, _, _, _, _ => rfl
 | n + 1, x3, x55, x56, x91, x92, x93, c1, c7, c50 => (iter_succ _ _ _).trans ((l2s_eq k _ Q x3 x55 x56 x91 x92 x93 c1 c7 c50).trans (congrArg (fun N => l2s N (fun x3 x55 x56 c1 c50 => Q (.exit 4) (St7 x3 x55 x56 c1 c50)) x3 x55 x56 x91 x92 x93 c1 c7 c50) (by funext; exact l2_eq k Q n _ _ _ _ _ _ _ _ _)))
noncomputable def cd4 : Code := cR (cR (cR (cL (cL (cR (cL (cR (cR (cR (cR (cR (cB Try.f120))))))))))))
def St8 (x3 : Bool) (x55 x56 : Int) (c1 : D1) (c50 : D2) : St := stL 109 [(1, .ref 1 0 []), (3, .data .bool x3), (5, .app 50 0), (54, .app 50 0), (55, .data T1 x55), (56, .data T1 x56)] [(1, .cell T7 (.data T7 c1) false), (50, .buf T8 c50 0 true)]
def j1 (Nx : Bool -> Int -> Int -> D1 -> D2 -> Option α) (x3 : Bool) (x55 x56 : Int) (c1 : D1) (c50 : D2) : Option α :=
 Nx x3 x55 (IntKind.i64.wrap (x56 + 1)) c1 c50
theorem j1_eq (k : Nat) (next : St -> Option α) (Q : Ex -> St -> Option α) (x3 : Bool) (x55 x56 : Int) (c1 : D1) (c50 : D2) :
  (den C k) cd4 (lq C 33 next Q) (St8 x3 x55 x56 c1 c50) = j1 (fun x3 x55 x56 c1 c50 => next (St5 x3 x55 x56 c1 c50)) x3 x55 x56 c1 c50 := plainly Js (by kernel_rfl)
theorem a0 (k : Nat) (next : St -> Option α) (Q : Ex -> St -> Option α) (x3 : Bool) (x55 x56 : Int) (x91 : D2) (x92 x93 : Int) (c1 : D1) (c7 : D3) (c50 : D2) :
  (lp C k) cd3 (blkQ C 4 (blkQ C 3 (sq (den C k) (lp C k) Js C cd4 (lq C 33 next Q)))) (St6 x3 x55 x56 x91 x92 x93 c1 c7 c50) = l2 k (fun x3 x55 x56 c1 c50 => j1 (fun x3 x55 x56 c1 c50 => next (St5 x3 x55 x56 c1 c50)) x3 x55 x56 c1 c50) k x3 x55 x56 x91 x92 x93 c1 c7 c50 :=
 (lp_iter 45 (by kernel_rfl)).trans ((l2_eq k _ k x3 x55 x56 x91 x92 x93 c1 c7 c50).trans (congrArg (fun X => l2 k X k x3 x55 x56 x91 x92 x93 c1 c7 c50) (funext fun x3 => funext fun x55 => funext fun x56 => funext fun c1 => funext fun c50 => (Eq.trans (b := (den C k) cd4 (lq C 33 next Q) (St8 x3 x55 x56 c1 c50)) (by kernel_rfl) (by simp only [j1_eq])))))
def St9 (x3 : Bool) : St := stL 109 [(3, .data .bool x3)] []
def l1s (k : Nat) (Nx : Bool -> Int -> Int -> D1 -> D2 -> Option α) (Xt2 : Bool -> Option α) (x3 : Bool) (x55 x56 : Int) (c1 : D1) (c50 : D2) : Option α :=
 if (decide (x56 < x55)) = true then
  if 0 <= x56 /\ x56 < (c50.length : Int) then
   (if (x3 == true) = true then gate_value.run (List.getD c50 (Int.toNat x56) (0, 0, 0, 0, ())).2.1 else some false).bind fun y3 =>
   if 0 <= (0 : Int) /\ (0 : Int) <= x56 /\ x56 <= (c50.length : Int) then
    l2 k (fun x3 x55 x56 c1 c50 => j1 Nx x3 x55 x56 c1 c50) k (cond (cond (cond (cond (cond x3 y3 false) (decide ((List.getD c50 (Int.toNat x56) (0, 0, 0, 0, ())).2.2.1 >= 0)) false) (decide ((List.getD c50 (Int.toNat x56) (0, 0, 0, 0, ())).2.2.1 < 3)) false) (decide ((List.getD c50 (Int.toNat x56) (0, 0, 0, 0, ())).2.2.2.1 >= 0)) false) (decide ((List.getD c50 (Int.toNat x56) (0, 0, 0, 0, ())).2.2.2.1 <= c1.2.2.1)) false) x55 x56 (cutL c50 0 x56) ((cutL c50 0 x56).length : Int) 0 c1 (List.getD c50 (Int.toNat x56) (0, 0, 0, 0, ())) c50
   else none
  else none
 else
  Xt2 x3
theorem l1s_eq (k : Nat) (next : St -> Option α) (Q : Ex -> St -> Option α) (x3 : Bool) (x55 x56 : Int) (c1 : D1) (c50 : D2) :
  rnd C k cd2 33 Q next (St5 x3 x55 x56 c1 c50) = l1s k (fun x3 x55 x56 c1 c50 => next (St5 x3 x55 x56 c1 c50)) (fun x3 => Q (.exit 2) (St9 x3)) x3 x55 x56 c1 c50 := by
 have h : ∀ (D L : DT α), denJ D L Js C cd2 (lq C 33 next Q) (St5 x3 x55 x56 c1 c50) =
    if (decide (x56 < x55)) = true then
     if 0 <= x56 /\ x56 < (c50.length : Int) then
      (if (x3 == true) = true then gate_value.run (List.getD c50 (Int.toNat x56) (0, 0, 0, 0, ())).2.1 else some false).bind fun y3 =>
      if 0 <= (0 : Int) /\ (0 : Int) <= x56 /\ x56 <= (c50.length : Int) then
       L cd3 (blkQ C 4 (blkQ C 3 (sq D L Js C cd4 (lq C 33 next Q)))) (St6 (cond (cond (cond (cond (cond x3 y3 false) (decide ((List.getD c50 (Int.toNat x56) (0, 0, 0, 0, ())).2.2.1 >= 0)) false) (decide ((List.getD c50 (Int.toNat x56) (0, 0, 0, 0, ())).2.2.1 < 3)) false) (decide ((List.getD c50 (Int.toNat x56) (0, 0, 0, 0, ())).2.2.2.1 >= 0)) false) (decide ((List.getD c50 (Int.toNat x56) (0, 0, 0, 0, ())).2.2.2.1 <= c1.2.2.1)) false) x55 x56 (cutL c50 0 x56) ((cutL c50 0 x56).length : Int) 0 c1 (List.getD c50 (Int.toNat x56) (0, 0, 0, 0, ())) c50)
      else none
     else none
    else
     Q (.exit 2) (St9 x3) := by
  intro D L; kernel_rfl
 have h2 := via (k := k) h
 refine h2.trans ?_
 simp only [a0]
 first | rfl | kernel_rfl
def l1 (k : Nat) (Xt2 : Bool -> Option α) : Nat -> Bool -> Int -> Int -> D1 -> D2 -> Option α
 | 0, _, _, _, _, _ => none
 | n + 1, x3, x55, x56, c1, c50 => l1s k (l1 k Xt2 n) Xt2 x3 x55 x56 c1 c50
theorem l1_eq (k : Nat) (Q : Ex -> St -> Option α) : ∀ (n : Nat) (x3 : Bool) (x55 x56 : Int) (c1 : D1) (c50 : D2), iter (rnd C k cd2 33 Q) n (St5 x3 x55 x56 c1 c50) = l1 k (fun x3 => Q (.exit 2) (St9 x3)) n x3 x55 x56 c1 c50
 | 0, _, _, _, _, _ => rfl
 | n + 1, x3, x55, x56, c1, c50 => (iter_succ _ _ _).trans ((l1s_eq k _ Q x3 x55 x56 c1 c50).trans (congrArg (fun N => l1s k N (fun x3 => Q (.exit 2) (St9 x3)) x3 x55 x56 c1 c50) (by funext; exact l1_eq k Q n _ _ _ _ _)))
noncomputable def cd5 : Code := cR (cR (cR (cR (cR (cR (cB Try.f120))))))
def St10 (x3 : Bool) : St := stL 109 [(3, .data .bool x3)] []
def j2 (Rt : Int -> Option α) (x3 : Bool) : Option α :=
 if (not x3) = true then
  Rt 12
 else
  Rt 0
theorem j2_eq (k : Nat) (Q : Ex -> St -> Option α) (x3 : Bool) :
  (den C k) cd5 Q (St10 x3) = j2 (fun x2 => Q .ret (St1 x2)) x3 := plainly Js (by kernel_rfl)
theorem a1 (k : Nat) (Q : Ex -> St -> Option α) (x3 : Bool) (x55 x56 : Int) (c1 : D1) (c50 : D2) :
  (lp C k) cd2 (blkQ C 2 (sq (den C k) (lp C k) Js C cd5 Q)) (St5 x3 x55 x56 c1 c50) = l1 k (fun x3 => j2 (fun x2 => Q .ret (St1 x2)) x3) k x3 x55 x56 c1 c50 :=
 (lp_iter 33 (by kernel_rfl)).trans ((l1_eq k _ k x3 x55 x56 c1 c50).trans (congrArg (fun X => l1 k X k x3 x55 x56 c1 c50) (funext fun x3 => (Eq.trans (b := (den C k) cd5 Q (St10 x3)) (by kernel_rfl) (by simp only [j2_eq])))))
def j0 (k : Nat) (Rt : Int -> Option α) (x3 : Bool) (c1 : D1) : Option α :=
 if fitB (0 + c1.2.2.2.1.length) 32 = true then
  if fitB (c1.2.2.2.1.length + c1.2.2.2.2.1.length) 32 = true then
   l1 k (fun x3 => j2 Rt x3) k x3 ((c1.2.2.2.1 ++ c1.2.2.2.2.1).length : Int) 0 c1 (c1.2.2.2.1 ++ c1.2.2.2.2.1)
  else none
 else none
theorem j0_eq (k : Nat) (Q : Ex -> St -> Option α) (x3 : Bool) (c1 : D1) :
  (den C k) cd1 Q (St4 x3 c1) = j0 k (fun x2 => Q .ret (St1 x2)) x3 c1 := by
 have h : ∀ (D L : DT α), denJ D L Js C cd1 Q (St4 x3 c1) =
    if fitB (0 + c1.2.2.2.1.length) 32 = true then
     if fitB (c1.2.2.2.1.length + c1.2.2.2.2.1.length) 32 = true then
      L cd2 (blkQ C 2 (sq D L Js C cd5 Q)) (St5 x3 ((c1.2.2.2.1 ++ c1.2.2.2.2.1).length : Int) 0 c1 (c1.2.2.2.1 ++ c1.2.2.2.2.1))
     else none
    else none := by
  intro D L; kernel_rfl
 have h2 := via (k := k) h
 refine h2.trans ?_
 simp only [a1]
 first | rfl | kernel_rfl
theorem a2 (k : Nat) (Q : Ex -> St -> Option α) (x3 : Bool) (x28 : Int) (c1 : D1) :
  (lp C k) cd0 (blkQ C 0 (sq (den C k) (lp C k) Js C cd1 Q)) (St2 x3 x28 c1) = l0 k (fun x3 c1 => j0 k (fun x2 => Q .ret (St1 x2)) x3 c1) k x3 x28 c1 :=
 (lp_iter 15 (by kernel_rfl)).trans ((l0_eq k _ k x3 x28 c1).trans (congrArg (fun X => l0 k X k x3 x28 c1) (funext fun x3 => funext fun c1 => (Eq.trans (b := (den C k) cd1 Q (St4 x3 c1)) (by kernel_rfl) (by simp only [j0_eq])))))
def top (k : Nat) (Rt : Int -> Option α) (x0 : D1) : Option α :=
 if (cond (decide ((x0.2.2.2.1.length : Int) > 40)) true (decide ((x0.2.2.2.2.1.length : Int) > 40))) = true then
  Rt 1
 else
  l0 k (fun x3 c1 => j0 k Rt x3 c1) k (cond (decide (x0.2.2.1 >= 0)) (decide (x0.2.2.1 <= 1099511627776)) false) 0 x0
theorem top_eq (k : Nat) (Q : Ex -> St -> Option α) (x0 : D1) :
  (den C k) (cB Try.f120) Q (St0 x0) = top k (fun x2 => Q .ret (St1 x2)) x0 := by
 have h : ∀ (D L : DT α), denJ D L Js C (cB Try.f120) Q (St0 x0) =
    if (cond (decide ((x0.2.2.2.1.length : Int) > 40)) true (decide ((x0.2.2.2.2.1.length : Int) > 40))) = true then
     Q .ret (St1 1)
    else
     L cd0 (blkQ C 0 (sq D L Js C cd1 Q)) (St2 (cond (decide (x0.2.2.1 >= 0)) (decide (x0.2.2.1 <= 1099511627776)) false) 0 x0) := by
  intro D L; kernel_rfl
 have h2 := via (k := k) h
 refine h2.trans ?_
 simp only [a2]
 first | rfl | kernel_rfl
def run (x0 : D1) : Option (Int) := top (α := Int) fuel (fun x2 => some x2) x0
def F : Fn := ⟨T9, T1, false, fun x => run x.1⟩
theorem con : Con Try.prog 120 F /\ Named Try.prog 120 :=
 con_of2 (C := C) (ctx_ok (by kernel_rfl) (by kernel_rfl) (by kernel_rfl) (by kernel_rfl) ⟨.inl gate_value.con, trivial⟩) (by kernel_rfl) Try.func120 (by kernel_rfl) (c := cB Try.f120) (by kernel_rfl) (by kernel_rfl) F (fun x => by simp [F, spread, Try.ntmps120]) (fun x => (St0 x.1)) (fun x => by kernel_rfl) fun x => (top_eq fuel _ x.1).trans (by kernel_rfl)
end Go.Bx.gate_Check
namespace Go.Bx.basculeref_GateFault
def Js : List Nat := [10, 22, 23]
def C : Ctx := ⟨[(3, T1), (25, T5), (26, T6), (28, T7), (35, T1), (165, T8), (188, T35)], [], [(187, (3, 3))], fnL [(149, basculeref_upTo.F)], noSh, [], invL [], [(2, [2]), (7, [3, 5, 6]), (10, [1, 3, 5, 6, 48, 49, 50]), (13, [1, 3, 5, 6, 48, 49, 50]), (16, [1, 3, 5, 6, 48, 49, 50, 54, 55, 56]), (1, [1, 3]), (4, [1, 3, 24]), (15, [1, 3, 24]), (27, [1, 3]), (36, [1, 3, 5, 6, 48, 49, 50]), (45, [1, 3, 5, 6, 48, 49, 50, 54, 55, 56]), (63, [1, 3, 5, 6, 48, 49, 50]), (66, [3, 5, 6])], [], [], 0, 0⟩
def St0 (x0 : D1) : St := stL 95 [(0, .data T7 x0)] []
def St1 (x2 : Int) : St := stL 95 [(2, .data T1 x2)] []
def St2 (x3 : Bool) (x24 : Int) (c1 : D1) : St := stL 95 [(1, .ref 1 0 []), (3, .data .bool x3), (24, .data T1 x24)] [(1, .cell T7 (.data T7 c1) false)]
noncomputable def cd0 : Code := cL (cL (cR (cL (cR (cR (cR (cB Try.f129)))))))
def St3 (x3 : Bool) (c1 : D1) : St := stL 95 [(1, .ref 1 0 []), (3, .data .bool x3)] [(1, .cell T7 (.data T7 c1) false)]
def l0s (Nx : Bool -> Int -> D1 -> Option α) (Xt0 : Bool -> D1 -> Option α) (x3 : Bool) (x24 : Int) (c1 : D1) : Option α :=
 if (decide (x24 < 3)) = true then
  cond (decide (0 <= x24 /\ x24 < (3 : Int)) || !(x3 == true)) (
   (if (x3 == true) = true then basculeref_upTo.run (List.getD c1.1 (Int.toNat x24) 0) 1073741824 else some false).bind fun y2 =>
   cond (decide (0 <= x24 /\ x24 < (3 : Int)) || !((cond x3 y2 false) == true)) (
    (if ((cond x3 y2 false) == true) = true then basculeref_upTo.run (List.getD c1.2.1 (Int.toNat x24) 0) 1073741824 else some false).bind fun y3 =>
    Nx (cond (cond x3 y2 false) y3 false) (IntKind.i64.wrap (x24 + 1)) c1) none) none
 else
  Xt0 x3 c1
theorem l0s_eq (k : Nat) (next : St -> Option α) (Q : Ex -> St -> Option α) (x3 : Bool) (x24 : Int) (c1 : D1) :
  rnd C k cd0 15 Q next (St2 x3 x24 c1) = l0s (fun x3 x24 c1 => next (St2 x3 x24 c1)) (fun x3 c1 => Q (.exit 0) (St3 x3 c1)) x3 x24 c1 := plainly Js (by kernel_rfl)
def l0 (k : Nat) (Xt0 : Bool -> D1 -> Option α) : Nat -> Bool -> Int -> D1 -> Option α
 | 0, _, _, _ => none
 | n + 1, x3, x24, c1 => l0s (l0 k Xt0 n) Xt0 x3 x24 c1
theorem l0_eq (k : Nat) (Q : Ex -> St -> Option α) : ∀ (n : Nat) (x3 : Bool) (x24 : Int) (c1 : D1), iter (rnd C k cd0 15 Q) n (St2 x3 x24 c1) = l0 k (fun x3 c1 => Q (.exit 0) (St3 x3 c1)) n x3 x24 c1
 | 0, _, _, _ => rfl
 | n + 1, x3, x24, c1 => (iter_succ _ _ _).trans ((l0s_eq k _ Q x3 x24 c1).trans (congrArg (fun N => l0s N (fun x3 c1 => Q (.exit 0) (St3 x3 c1)) x3 x24 c1) (by funext; exact l0_eq k Q n _ _ _)))
noncomputable def cd1 : Code := cR (cR (cR (cR (cB Try.f129))))
def St4 (x3 : Bool) (c1 : D1) : St := stL 95 [(1, .ref 1 0 []), (3, .data .bool x3)] [(1, .cell T7 (.data T7 c1) false)]
def St5 (x3 : Bool) (x6 : Int) (x48 : D16) (x49 x50 : Int) (c1 : D1) (c43 : D17) : St := stL 95 [(1, .ref 1 0 []), (3, .data .bool x3), (5, .map 43), (6, .data T1 x6), (48, .full T6 x48), (49, .data T1 x49), (50, .data T1 x50)] [(1, .cell T7 (.data T7 c1) false), (43, .map T1 T1 c43)]
noncomputable def cd2 : Code := cL (cL (cR (cL (cR (cR (cR (cR (cR (cR (cB Try.f129))))))))))
def St6 (x3 : Bool) (x6 : Int) (x48 : D16) (x49 x50 : Int) (x54 : D2) (x55 x56 : Int) (c1 : D1) (c43 : D17) : St := stL 95 [(1, .ref 1 0 []), (3, .data .bool x3), (5, .map 43), (6, .data T1 x6), (48, .full T6 x48), (49, .data T1 x49), (50, .data T1 x50), (54, .data T6 x54), (55, .data T1 x55), (56, .data T1 x56)] [(1, .cell T7 (.data T7 c1) false), (43, .map T1 T1 c43)]
noncomputable def cd3 : Code := cL (cL (cR (cR (cL (cL (cR (cR (cL (cL (cR (cL (cR (cR (cR (cR (cR (cR (cB Try.f129))))))))))))))))))
def St7 (x3 : Bool) (x6 : Int) (x48 : D16) (x49 x50 : Int) (c1 : D1) (c43 : D17) : St := stL 95 [(1, .ref 1 0 []), (3, .data .bool x3), (5, .map 43), (6, .data T1 x6), (48, .full T6 x48), (49, .data T1 x49), (50, .data T1 x50)] [(1, .cell T7 (.data T7 c1) false), (43, .map T1 T1 c43)]
def l2s (Nx : Bool -> Int -> D16 -> Int -> Int -> D2 -> Int -> Int -> D1 -> D17 -> Option α) (Xt4 : Bool -> Int -> D16 -> Int -> Int -> D1 -> D17 -> Option α) (x3 : Bool) (x6 : Int) (x48 : D16) (x49 x50 : Int) (x54 : D2) (x55 x56 : Int) (c1 : D1) (c43 : D17) : Option α :=
 if (decide (x56 < x55)) = true then
  if 0 <= x56 /\ x56 < (x54.length : Int) then
   (if (x3 == true) = true then basculeref_upTo.run (List.getD x54 (Int.toNat x56) (0, 0, 0, 0, ())).2.1 1073741824 else some false).bind fun y4 =>
   (if ((cond x3 y4 false) == true) = true then basculeref_upTo.run (List.getD x54 (Int.toNat x56) (0, 0, 0, 0, ())).2.2.1 2 else some false).bind fun y5 =>
   (if ((cond (cond x3 y4 false) y5 false) == true) = true then basculeref_upTo.run (List.getD x54 (Int.toNat x56) (0, 0, 0, 0, ())).2.2.2.1 c1.2.2.1 else some false).bind fun y6 =>
   Nx (cond (cond (cond x3 y4 false) y5 false) y6 false) (IntKind.i64.wrap (x6 + 1)) x48 x49 x50 x54 x55 (IntKind.i64.wrap (x56 + 1)) c1 (setM (beqD T1) (List.getD x54 (Int.toNat x56) (0, 0, 0, 0, ())).1 (IntKind.i64.wrap ((getM (beqD T1) (List.getD x54 (Int.toNat x56) (0, 0, 0, 0, ())).1 0 c43) + 1)) c43)
  else none
 else
  Xt4 x3 x6 x48 x49 x50 c1 c43
theorem l2s_eq (k : Nat) (next : St -> Option α) (Q : Ex -> St -> Option α) (x3 : Bool) (x6 : Int) (x48 : D16) (x49 x50 : Int) (x54 : D2) (x55 x56 : Int) (c1 : D1) (c43 : D17) :
  rnd C k cd3 45 Q next (St6 x3 x6 x48 x49 x50 x54 x55 x56 c1 c43) = l2s (fun x3 x6 x48 x49 x50 x54 x55 x56 c1 c43 => next (St6 x3 x6 x48 x49 x50 x54 x55 x56 c1 c43)) (fun x3 x6 x48 x49 x50 c1 c43 => Q (.exit 4) (St7 x3 x6 x48 x49 x50 c1 c43)) x3 x6 x48 x49 x50 x54 x55 x56 c1 c43 := plainly Js (by kernel_rfl)
def l2 (k : Nat) (Xt4 : Bool -> Int -> D16 -> Int -> Int -> D1 -> D17 -> Option α) : Nat -> Bool -> Int -> D16 -> Int -> Int -> D2 -> Int -> Int -> D1 -> D17 -> Option α
 | 0, _, _, _, _, _, _, _, _, _, _ => none
 | n + 1, x3, x6, x48, x49, x50, x54, x55, x56, c1, c43 => l2s (l2 k Xt4 n) Xt4 x3 x6 x48 x49 x50 x54 x55 x56 c1 c43
theorem l2_eq (k : Nat) (Q : Ex -> St -> Option α) : ∀ (n : Nat) (x3 : Bool) (x6 : Int) (x48 : D16) (x49 x50 : Int) (x54 : D2) (x55 x56 : Int) (c1 : D1) (c43 : D17), iter (rnd C k cd3 45 Q) n (St6 x3 x6 x48 x49 x50 x54 x55 x56 c1 c43) = l2 k (fun x3 x6 x48 x49 x50 c1 c43 => Q (.exit 4) (St7 x3 x6 x48 x49 x50 c1 c43)) n x3 x6 x48 x49 x50 x54 x55 x56 c1 c43
 | 0, _, _, _, _, _, _, _, _, _, _ => rfl
 | n + 1, x3, x6, x48, x49, x50, x54, x55, x56, c1, c43 => (iter_succ _ _ _).trans ((l2s_eq k _ Q x3 x6 x48 x49 x50 x54 x55 x56 c1 c43).trans (congrArg (fun N => l2s N (fun x3 x6 x48 x49 x50 c1 c43 => Q (.exit 4) (St7 x3 x6 x48 x49 x50 c1 c43)) x3 x6 x48 x49 x50 x54 x55 x56 c1 c43) (by funext; exact l2_eq k Q n _ _ _ _ _ _ _ _ _ _)))
noncomputable def cd4 : Code := cR (cR (cR (cL (cL (cR (cL (cR (cR (cR (cR (cR (cR (cB Try.f129)))))))))))))
def St8 (x3 : Bool) (x6 : Int) (x48 : D16) (x49 x50 : Int) (c1 : D1) (c43 : D17) : St := stL 95 [(1, .ref 1 0 []), (3, .data .bool x3), (5, .map 43), (6, .data T1 x6), (48, .full T6 x48), (49, .data T1 x49), (50, .data T1 x50)] [(1, .cell T7 (.data T7 c1) false), (43, .map T1 T1 c43)]
def j1 (Nx : Bool -> Int -> D16 -> Int -> Int -> D1 -> D17 -> Option α) (x3 : Bool) (x6 : Int) (x48 : D16) (x49 x50 : Int) (c1 : D1) (c43 : D17) : Option α :=
 Nx x3 x6 x48 x49 (IntKind.i64.wrap (x50 + 1)) c1 c43
theorem j1_eq (k : Nat) (next : St -> Option α) (Q : Ex -> St -> Option α) (x3 : Bool) (x6 : Int) (x48 : D16) (x49 x50 : Int) (c1 : D1) (c43 : D17) :
  (den C k) cd4 (lq C 36 next Q) (St8 x3 x6 x48 x49 x50 c1 c43) = j1 (fun x3 x6 x48 x49 x50 c1 c43 => next (St5 x3 x6 x48 x49 x50 c1 c43)) x3 x6 x48 x49 x50 c1 c43 := plainly Js (by kernel_rfl)
theorem a0 (k : Nat) (next : St -> Option α) (Q : Ex -> St -> Option α) (x3 : Bool) (x6 : Int) (x48 : D16) (x49 x50 : Int) (x54 : D2) (x55 x56 : Int) (c1 : D1) (c43 : D17) :
  (lp C k) cd3 (blkQ C 4 (blkQ C 3 (sq (den C k) (lp C k) Js C cd4 (lq C 36 next Q)))) (St6 x3 x6 x48 x49 x50 x54 x55 x56 c1 c43) = l2 k (fun x3 x6 x48 x49 x50 c1 c43 => j1 (fun x3 x6 x48 x49 x50 c1 c43 => next (St5 x3 x6 x48 x49 x50 c1 c43)) x3 x6 x48 x49 x50 c1 c43) k x3 x6 x48 x49 x50 x54 x55 x56 c1 c43 :=
 (lp_iter 45 (by kernel_rfl)).trans ((l2_eq k _ k x3 x6 x48 x49 x50 x54 x55 x56 c1 c43).trans (congrArg (fun X => l2 k X k x3 x6 x48 x49 x50 x54 x55 x56 c1 c43) (funext fun x3 => funext fun x6 => funext fun x48 => funext fun x49 => funext fun x50 => funext fun c1 => funext fun c43 => (Eq.trans (b := (den C k) cd4 (lq C 36 next Q) (St8 x3 x6 x48 x49 x50 c1 c43)) (by kernel_rfl) (by simp only [j1_eq])))))
def St9 (x3 : Bool) (x6 : Int) (c43 : D17) : St := stL 95 [(3, .data .bool x3), (5, .map 43), (6, .data T1 x6)] [(43, .map T1 T1 c43)]
def l1s (k : Nat) (Nx : Bool -> Int -> D16 -> Int -> Int -> D1 -> D17 -> Option α) (Xt2 : Bool -> Int -> D17 -> Option α) (x3 : Bool) (x6 : Int) (x48 : D16) (x49 x50 : Int) (c1 : D1) (c43 : D17) : Option α :=
 if (decide (x50 < x49)) = true then
  if 0 <= x50 /\ x50 < (x48.length : Int) then
   l2 k (fun x3 x6 x48 x49 x50 c1 c43 => j1 Nx x3 x6 x48 x49 x50 c1 c43) k x3 x6 x48 x49 x50 (List.getD x48 (Int.toNat x50) []) ((List.getD x48 (Int.toNat x50) []).length : Int) 0 c1 c43
  else none
 else
  Xt2 x3 x6 c43
theorem l1s_eq (k : Nat) (next : St -> Option α) (Q : Ex -> St -> Option α) (x3 : Bool) (x6 : Int) (x48 : D16) (x49 x50 : Int) (c1 : D1) (c43 : D17) :
  rnd C k cd2 36 Q next (St5 x3 x6 x48 x49 x50 c1 c43) = l1s k (fun x3 x6 x48 x49 x50 c1 c43 => next (St5 x3 x6 x48 x49 x50 c1 c43)) (fun x3 x6 c43 => Q (.exit 2) (St9 x3 x6 c43)) x3 x6 x48 x49 x50 c1 c43 := by
 have h : ∀ (D L : DT α), denJ D L Js C cd2 (lq C 36 next Q) (St5 x3 x6 x48 x49 x50 c1 c43) =
    if (decide (x50 < x49)) = true then
     if 0 <= x50 /\ x50 < (x48.length : Int) then
      L cd3 (blkQ C 4 (blkQ C 3 (sq D L Js C cd4 (lq C 36 next Q)))) (St6 x3 x6 x48 x49 x50 (List.getD x48 (Int.toNat x50) []) ((List.getD x48 (Int.toNat x50) []).length : Int) 0 c1 c43)
     else none
    else
     Q (.exit 2) (St9 x3 x6 c43) := by
  intro D L; kernel_rfl
 have h2 := via (k := k) h
 refine h2.trans ?_
 simp only [a0]
 first | rfl | kernel_rfl
def l1 (k : Nat) (Xt2 : Bool -> Int -> D17 -> Option α) : Nat -> Bool -> Int -> D16 -> Int -> Int -> D1 -> D17 -> Option α
 | 0, _, _, _, _, _, _, _ => none
 | n + 1, x3, x6, x48, x49, x50, c1, c43 => l1s k (l1 k Xt2 n) Xt2 x3 x6 x48 x49 x50 c1 c43
theorem l1_eq (k : Nat) (Q : Ex -> St -> Option α) : ∀ (n : Nat) (x3 : Bool) (x6 : Int) (x48 : D16) (x49 x50 : Int) (c1 : D1) (c43 : D17), iter (rnd C k cd2 36 Q) n (St5 x3 x6 x48 x49 x50 c1 c43) = l1 k (fun x3 x6 c43 => Q (.exit 2) (St9 x3 x6 c43)) n x3 x6 x48 x49 x50 c1 c43
 | 0, _, _, _, _, _, _, _ => rfl
 | n + 1, x3, x6, x48, x49, x50, c1, c43 => (iter_succ _ _ _).trans ((l1s_eq k _ Q x3 x6 x48 x49 x50 c1 c43).trans (congrArg (fun N => l1s k N (fun x3 x6 c43 => Q (.exit 2) (St9 x3 x6 c43)) x3 x6 x48 x49 x50 c1 c43) (by funext; exact l1_eq k Q n _ _ _ _ _ _ _)))
noncomputable def cd5 : Code := cR (cR (cR (cR (cR (cR (cR (cB Try.f129)))))))
def St10 (x3 : Bool) (x6 : Int) (c43 : D17) : St := stL 95 [(3, .data .bool x3), (5, .map 43), (6, .data T1 x6)] [(43, .map T1 T1 c43)]
def j2 (Rt : Int -> Option α) (x3 : Bool) (x6 : Int) (c43 : D17) : Option α :=
 cond (decide (Nat.ble c43.length 9223372036854775807 = true) || !((not x3) == false)) (
  if (cond (not x3) true ((c43.length : Int) != x6)) = true then
   Rt 12
  else
   Rt 0) none
theorem j2_eq (k : Nat) (Q : Ex -> St -> Option α) (x3 : Bool) (x6 : Int) (c43 : D17) :
  (den C k) cd5 Q (St10 x3 x6 c43) = j2 (fun x2 => Q .ret (St1 x2)) x3 x6 c43 := plainly Js (by kernel_rfl)
theorem a1 (k : Nat) (Q : Ex -> St -> Option α) (x3 : Bool) (x6 : Int) (x48 : D16) (x49 x50 : Int) (c1 : D1) (c43 : D17) :
  (lp C k) cd2 (blkQ C 2 (sq (den C k) (lp C k) Js C cd5 Q)) (St5 x3 x6 x48 x49 x50 c1 c43) = l1 k (fun x3 x6 c43 => j2 (fun x2 => Q .ret (St1 x2)) x3 x6 c43) k x3 x6 x48 x49 x50 c1 c43 :=
 (lp_iter 36 (by kernel_rfl)).trans ((l1_eq k _ k x3 x6 x48 x49 x50 c1 c43).trans (congrArg (fun X => l1 k X k x3 x6 x48 x49 x50 c1 c43) (funext fun x3 => funext fun x6 => funext fun c43 => (Eq.trans (b := (den C k) cd5 Q (St10 x3 x6 c43)) (by kernel_rfl) (by simp only [j2_eq])))))
def j0 (k : Nat) (Rt : Int -> Option α) (x3 : Bool) (c1 : D1) : Option α :=
 l1 k (fun x3 x6 c43 => j2 Rt x3 x6 c43) k x3 0 [c1.2.2.2.1, c1.2.2.2.2.1] 2 0 c1 []
theorem j0_eq (k : Nat) (Q : Ex -> St -> Option α) (x3 : Bool) (c1 : D1) :
  (den C k) cd1 Q (St4 x3 c1) = j0 k (fun x2 => Q .ret (St1 x2)) x3 c1 := by
 have h : ∀ (D L : DT α), denJ D L Js C cd1 Q (St4 x3 c1) =
    L cd2 (blkQ C 2 (sq D L Js C cd5 Q)) (St5 x3 0 [c1.2.2.2.1, c1.2.2.2.2.1] 2 0 c1 []) := by
  intro D L; kernel_rfl
 have h2 := via (k := k) h
 refine h2.trans ?_
 simp only [a1]
 first | rfl | kernel_rfl
theorem a2 (k : Nat) (Q : Ex -> St -> Option α) (x3 : Bool) (x24 : Int) (c1 : D1) :
  (lp C k) cd0 (blkQ C 0 (sq (den C k) (lp C k) Js C cd1 Q)) (St2 x3 x24 c1) = l0 k (fun x3 c1 => j0 k (fun x2 => Q .ret (St1 x2)) x3 c1) k x3 x24 c1 :=
 (lp_iter 15 (by kernel_rfl)).trans ((l0_eq k _ k x3 x24 c1).trans (congrArg (fun X => l0 k X k x3 x24 c1) (funext fun x3 => funext fun c1 => (Eq.trans (b := (den C k) cd1 Q (St4 x3 c1)) (by kernel_rfl) (by simp only [j0_eq])))))
def top (k : Nat) (Rt : Int -> Option α) (x0 : D1) : Option α :=
 if (cond (decide ((x0.2.2.2.1.length : Int) > 40)) true (decide ((x0.2.2.2.2.1.length : Int) > 40))) = true then
  Rt 1
 else
  (basculeref_upTo.run x0.2.2.1 1099511627776).bind fun y1 =>
  l0 k (fun x3 c1 => j0 k Rt x3 c1) k y1 0 x0
theorem top_eq (k : Nat) (Q : Ex -> St -> Option α) (x0 : D1) :
  (den C k) (cB Try.f129) Q (St0 x0) = top k (fun x2 => Q .ret (St1 x2)) x0 := by
 have h : ∀ (D L : DT α), denJ D L Js C (cB Try.f129) Q (St0 x0) =
    if (cond (decide ((x0.2.2.2.1.length : Int) > 40)) true (decide ((x0.2.2.2.2.1.length : Int) > 40))) = true then
     Q .ret (St1 1)
    else
     (basculeref_upTo.run x0.2.2.1 1099511627776).bind fun y1 =>
     L cd0 (blkQ C 0 (sq D L Js C cd1 Q)) (St2 y1 0 x0) := by
  intro D L; kernel_rfl
 have h2 := via (k := k) h
 refine h2.trans ?_
 simp only [a2]
 first | rfl | kernel_rfl
def run (x0 : D1) : Option (Int) := top (α := Int) fuel (fun x2 => some x2) x0
def F : Fn := ⟨T9, T1, false, fun x => run x.1⟩
theorem con : Con Try.prog 129 F /\ Named Try.prog 129 :=
 con_of2 (C := C) (ctx_ok (by kernel_rfl) (by kernel_rfl) (by kernel_rfl) (by kernel_rfl) ⟨.inl basculeref_upTo.con, trivial⟩) (by kernel_rfl) Try.func129 (by kernel_rfl) (c := cB Try.f129) (by kernel_rfl) (by kernel_rfl) F (fun x => by simp [F, spread, Try.ntmps129]) (fun x => (St0 x.1)) (fun x => by kernel_rfl) fun x => (top_eq fuel _ x.1).trans (by kernel_rfl)
end Go.Bx.basculeref_GateFault
namespace Go.Bx.gate_used
def Js : List Nat := [8, 9]
def C : Ctx := ⟨[(3, T1), (26, T6), (28, T7), (165, T8)], [], [], fnL [], noSh, [], invL [], [(2, [4]), (1, [5]), (4, [1, 2, 5, 9, 10, 11]), (9, [1, 2, 5, 9, 10, 11]), (21, [1, 2, 5, 9, 10, 11]), (24, [5])], [], [], 0, 0⟩
def St0 (x0 : D1) (x1 : Int) : St := stL 33 [(0, .data T7 x0), (1, .data T1 x1)] []
def St1 (x1 x5 : Int) (x9 : D2) (x10 x11 : Int) (c2 : D1) : St := stL 33 [(1, .data T1 x1), (2, .ref 2 0 []), (5, .data T1 x5), (9, .data T6 x9), (10, .data T1 x10), (11, .data T1 x11)] [(2, .cell T7 (.data T7 c2) false)]
noncomputable def cd0 : Code := cL (cL (cR (cL (cR (cR (cB Try.f156))))))
def St2 (x1 x5 : Int) (x9 : D2) (x10 x11 : Int) (c2 : D1) : St := stL 33 [(1, .data T1 x1), (2, .ref 2 0 []), (5, .data T1 x5), (9, .data T6 x9), (10, .data T1 x10), (11, .data T1 x11)] [(2, .cell T7 (.data T7 c2) false)]
noncomputable def cd1 : Code := cR (cR (cR (cL (cL (cR (cL (cR (cR (cB Try.f156)))))))))
def j0 (Nx : Int -> Int -> D2 -> Int -> Int -> D1 -> Option α) (x1 x5 : Int) (x9 : D2) (x10 x11 : Int) (c2 : D1) : Option α :=
 Nx x1 x5 x9 x10 (IntKind.i64.wrap (x11 + 1)) c2
theorem j0_eq (k : Nat) (next : St -> Option α) (Q : Ex -> St -> Option α) (x1 x5 : Int) (x9 : D2) (x10 x11 : Int) (c2 : D1) :
  (den C k) cd1 (lq C 9 next Q) (St2 x1 x5 x9 x10 x11 c2) = j0 (fun x1 x5 x9 x10 x11 c2 => next (St1 x1 x5 x9 x10 x11 c2)) x1 x5 x9 x10 x11 c2 := plainly Js (by kernel_rfl)
def St3 (x5 : Int) : St := stL 33 [(5, .data T1 x5)] []
def l0s (Nx : Int -> Int -> D2 -> Int -> Int -> D1 -> Option α) (Xt0 : Int -> Option α) (x1 x5 : Int) (x9 : D2) (x10 x11 : Int) (c2 : D1) : Option α :=
 if (decide (x11 < x10)) = true then
  if 0 <= x11 /\ x11 < (x9.length : Int) then
   if (cond ((List.getD x9 (Int.toNat x11) (0, 0, 0, 0, ())).2.2.1 == x1) (decide ((IntKind.i64.wrap (c2.2.2.1 - (List.getD x9 (Int.toNat x11) (0, 0, 0, 0, ())).2.2.2.1)) < 24)) false) = true then
    j0 Nx x1 (IntKind.i64.wrap (x5 + (List.getD x9 (Int.toNat x11) (0, 0, 0, 0, ())).2.1)) x9 x10 x11 c2
   else
    j0 Nx x1 x5 x9 x10 x11 c2
  else none
 else
  Xt0 x5
theorem l0s_eq (k : Nat) (next : St -> Option α) (Q : Ex -> St -> Option α) (x1 x5 : Int) (x9 : D2) (x10 x11 : Int) (c2 : D1) :
  rnd C k cd0 9 Q next (St1 x1 x5 x9 x10 x11 c2) = l0s (fun x1 x5 x9 x10 x11 c2 => next (St1 x1 x5 x9 x10 x11 c2)) (fun x5 => Q (.exit 0) (St3 x5)) x1 x5 x9 x10 x11 c2 := by
 have h : ∀ (D L : DT α), denJ D L Js C cd0 (lq C 9 next Q) (St1 x1 x5 x9 x10 x11 c2) =
    if (decide (x11 < x10)) = true then
     if 0 <= x11 /\ x11 < (x9.length : Int) then
      if (cond ((List.getD x9 (Int.toNat x11) (0, 0, 0, 0, ())).2.2.1 == x1) (decide ((IntKind.i64.wrap (c2.2.2.1 - (List.getD x9 (Int.toNat x11) (0, 0, 0, 0, ())).2.2.2.1)) < 24)) false) = true then
       D cd1 (lq C 9 next Q) (St2 x1 (IntKind.i64.wrap (x5 + (List.getD x9 (Int.toNat x11) (0, 0, 0, 0, ())).2.1)) x9 x10 x11 c2)
      else
       D cd1 (lq C 9 next Q) (St2 x1 x5 x9 x10 x11 c2)
     else none
    else
     Q (.exit 0) (St3 x5) := by
  intro D L; kernel_rfl
 have h2 := via (k := k) h
 refine h2.trans ?_
 simp only [j0_eq]
 first | rfl | kernel_rfl
def l0 (k : Nat) (Xt0 : Int -> Option α) : Nat -> Int -> Int -> D2 -> Int -> Int -> D1 -> Option α
 | 0, _, _, _, _, _, _ => none
 | n + 1, x1, x5, x9, x10, x11, c2 => l0s (l0 k Xt0 n) Xt0 x1 x5 x9 x10 x11 c2
theorem l0_eq (k : Nat) (Q : Ex -> St -> Option α) : ∀ (n : Nat) (x1 x5 : Int) (x9 : D2) (x10 x11 : Int) (c2 : D1), iter (rnd C k cd0 9 Q) n (St1 x1 x5 x9 x10 x11 c2) = l0 k (fun x5 => Q (.exit 0) (St3 x5)) n x1 x5 x9 x10 x11 c2
 | 0, _, _, _, _, _, _ => rfl
 | n + 1, x1, x5, x9, x10, x11, c2 => (iter_succ _ _ _).trans ((l0s_eq k _ Q x1 x5 x9 x10 x11 c2).trans (congrArg (fun N => l0s N (fun x5 => Q (.exit 0) (St3 x5)) x1 x5 x9 x10 x11 c2) (by funext; exact l0_eq k Q n _ _ _ _ _ _)))
noncomputable def cd2 : Code := cR (cR (cR (cB Try.f156)))
def St4 (x5 : Int) : St := stL 33 [(5, .data T1 x5)] []
def St5 (x4 : Int) : St := stL 33 [(4, .data T1 x4)] []
def j1 (Rt : Int -> Option α) (x5 : Int) : Option α :=
 Rt x5
theorem j1_eq (k : Nat) (Q : Ex -> St -> Option α) (x5 : Int) :
  (den C k) cd2 Q (St4 x5) = j1 (fun x4 => Q .ret (St5 x4)) x5 := plainly Js (by kernel_rfl)
theorem a0 (k : Nat) (Q : Ex -> St -> Option α) (x1 x5 : Int) (x9 : D2) (x10 x11 : Int) (c2 : D1) :
  (lp C k) cd0 (blkQ C 0 (sq (den C k) (lp C k) Js C cd2 Q)) (St1 x1 x5 x9 x10 x11 c2) = l0 k (fun x5 => j1 (fun x4 => Q .ret (St5 x4)) x5) k x1 x5 x9 x10 x11 c2 :=
 (lp_iter 9 (by kernel_rfl)).trans ((l0_eq k _ k x1 x5 x9 x10 x11 c2).trans (congrArg (fun X => l0 k X k x1 x5 x9 x10 x11 c2) (funext fun x5 => (Eq.trans (b := (den C k) cd2 Q (St4 x5)) (by kernel_rfl) (by simp only [j1_eq])))))
def top (k : Nat) (Rt : Int -> Option α) (x0 : D1) (x1 : Int) : Option α :=
 l0 k (fun x5 => j1 Rt x5) k x1 0 x0.2.2.2.1 (x0.2.2.2.1.length : Int) 0 x0
theorem top_eq (k : Nat) (Q : Ex -> St -> Option α) (x0 : D1) (x1 : Int) :
  (den C k) (cB Try.f156) Q (St0 x0 x1) = top k (fun x4 => Q .ret (St5 x4)) x0 x1 := by
 have h : ∀ (D L : DT α), denJ D L Js C (cB Try.f156) Q (St0 x0 x1) =
    L cd0 (blkQ C 0 (sq D L Js C cd2 Q)) (St1 x1 0 x0.2.2.2.1 (x0.2.2.2.1.length : Int) 0 x0) := by
  intro D L; kernel_rfl
 have h2 := via (k := k) h
 refine h2.trans ?_
 simp only [a0]
 first | rfl | kernel_rfl
def run (x0 : D1) (x1 : Int) : Option (Int) := top (α := Int) fuel (fun x4 => some x4) x0 x1
def F : Fn := ⟨T10, T1, false, fun x => run x.1 x.2.1⟩
theorem con : Con Try.prog 156 F /\ Named Try.prog 156 :=
 con_of2 (C := C) (ctx_ok (by kernel_rfl) (by kernel_rfl) (by kernel_rfl) (by kernel_rfl) trivial) (by kernel_rfl) Try.func156 (by kernel_rfl) (c := cB Try.f156) (by kernel_rfl) (by kernel_rfl) F (fun x => by simp [F, spread, Try.ntmps156]) (fun x => (St0 x.1 x.2.1)) (fun x => by kernel_rfl) fun x => (top_eq fuel _ x.1 x.2.1).trans (by kernel_rfl)
end Go.Bx.gate_used
namespace Go.Bx.gate_fits
def Js : List Nat := []
def C : Ctx := ⟨[(3, T1), (4, .bool), (25, T5), (26, T6), (28, T7), (165, T8)], [], [], fnL [(156, gate_used.F)], noSh, [], invL [], [(2, [4])], [], [], 0, 0⟩
def St0 (x0 : D1) (x1 : D3) : St := stL 34 [(0, .data T7 x0), (1, .data T8 x1)] []
def St1 (x4 : Bool) : St := stL 34 [(4, .data .bool x4)] []
def top (Rt : Bool -> Option α) (x0 : D1) (x1 : D3) : Option α :=
 if 0 <= x1.2.2.1 /\ x1.2.2.1 < (3 : Int) then
  (if ((decide (x1.2.1 < (List.getD x0.2.1 (Int.toNat x1.2.2.1) 0))) == true) = true then gate_used.run x0 x1.2.2.1 else some 0).bind fun y1 =>
  cond (decide (0 <= x1.2.2.1 /\ x1.2.2.1 < (3 : Int)) || !((decide (x1.2.1 < (List.getD x0.2.1 (Int.toNat x1.2.2.1) 0))) == true)) (
   Rt (cond (cond (decide (x1.2.1 < (List.getD x0.2.1 (Int.toNat x1.2.2.1) 0))) (decide ((IntKind.i64.wrap (y1 + x1.2.1)) <= (List.getD x0.1 (Int.toNat x1.2.2.1) 0))) false) (decide ((x0.2.2.2.1.length : Int) < 40)) false)) none
 else none
theorem top_eq (k : Nat) (Q : Ex -> St -> Option α) (x0 : D1) (x1 : D3) :
  (den C k) (cB Try.f134) Q (St0 x0 x1) = top (fun x4 => Q .ret (St1 x4)) x0 x1 := plainly Js (by kernel_rfl)
def run (x0 : D1) (x1 : D3) : Option (Bool) := top (α := Bool) (fun x4 => some x4) x0 x1
def F : Fn := ⟨T11, .bool, false, fun x => run x.1 x.2.1⟩
theorem con : Con Try.prog 134 F /\ Named Try.prog 134 :=
 con_of2 (C := C) (ctx_ok (by kernel_rfl) (by kernel_rfl) (by kernel_rfl) (by kernel_rfl) ⟨.inl gate_used.con, trivial⟩) (by kernel_rfl) Try.func134 (by kernel_rfl) (c := cB Try.f134) (by kernel_rfl) (by kernel_rfl) F (fun x => by simp [F, spread, Try.ntmps134]) (fun x => (St0 x.1 x.2.1)) (fun x => by kernel_rfl) fun x => (top_eq fuel _ x.1 x.2.1).trans (by kernel_rfl)
end Go.Bx.gate_fits
namespace Go.Bx.basculeref_passes
def Js : List Nat := [8, 9]
def C : Ctx := ⟨[(3, T1), (4, .bool), (25, T5), (26, T6), (28, T7), (165, T8)], [], [], fnL [], noSh, [], invL [], [(2, [4]), (1, [2, 3, 5]), (4, [2, 3, 5, 11, 12, 13]), (9, [2, 3, 5, 11, 12, 13]), (21, [2, 3, 5, 11, 12, 13]), (24, [2, 3, 5])], [], [], 0, 0⟩
def St0 (x0 : D1) (x1 : D3) : St := stL 58 [(0, .data T7 x0), (1, .data T8 x1)] []
def St1 (x5 : Int) (x11 : D2) (x12 x13 : Int) (c2 : D1) (c3 : D3) : St := stL 58 [(2, .ref 2 0 []), (3, .ref 3 0 []), (5, .data T1 x5), (11, .data T6 x11), (12, .data T1 x12), (13, .data T1 x13)] [(2, .cell T7 (.data T7 c2) false), (3, .cell T8 (.data T8 c3) false)]
noncomputable def cd0 : Code := cL (cL (cR (cL (cR (cR (cB Try.f135))))))
def St2 (x5 : Int) (x11 : D2) (x12 x13 : Int) (c2 : D1) (c3 : D3) : St := stL 58 [(2, .ref 2 0 []), (3, .ref 3 0 []), (5, .data T1 x5), (11, .data T6 x11), (12, .data T1 x12), (13, .data T1 x13)] [(2, .cell T7 (.data T7 c2) false), (3, .cell T8 (.data T8 c3) false)]
noncomputable def cd1 : Code := cR (cR (cR (cL (cL (cR (cL (cR (cR (cB Try.f135)))))))))
def j0 (Nx : Int -> D2 -> Int -> Int -> D1 -> D3 -> Option α) (x5 : Int) (x11 : D2) (x12 x13 : Int) (c2 : D1) (c3 : D3) : Option α :=
 Nx x5 x11 x12 (IntKind.i64.wrap (x13 + 1)) c2 c3
theorem j0_eq (k : Nat) (next : St -> Option α) (Q : Ex -> St -> Option α) (x5 : Int) (x11 : D2) (x12 x13 : Int) (c2 : D1) (c3 : D3) :
  (den C k) cd1 (lq C 9 next Q) (St2 x5 x11 x12 x13 c2 c3) = j0 (fun x5 x11 x12 x13 c2 c3 => next (St1 x5 x11 x12 x13 c2 c3)) x5 x11 x12 x13 c2 c3 := plainly Js (by kernel_rfl)
def St3 (x5 : Int) (c2 : D1) (c3 : D3) : St := stL 58 [(2, .ref 2 0 []), (3, .ref 3 0 []), (5, .data T1 x5)] [(2, .cell T7 (.data T7 c2) false), (3, .cell T8 (.data T8 c3) false)]
def l0s (Nx : Int -> D2 -> Int -> Int -> D1 -> D3 -> Option α) (Xt0 : Int -> D1 -> D3 -> Option α) (x5 : Int) (x11 : D2) (x12 x13 : Int) (c2 : D1) (c3 : D3) : Option α :=
 if (decide (x13 < x12)) = true then
  if 0 <= x13 /\ x13 < (x11.length : Int) then
   if (cond ((List.getD x11 (Int.toNat x13) (0, 0, 0, 0, ())).2.2.1 == c3.2.2.1) (decide ((IntKind.i64.wrap ((List.getD x11 (Int.toNat x13) (0, 0, 0, 0, ())).2.2.2.1 + 24)) > c2.2.2.1)) false) = true then
    j0 Nx (IntKind.i64.wrap (x5 + (List.getD x11 (Int.toNat x13) (0, 0, 0, 0, ())).2.1)) x11 x12 x13 c2 c3
   else
    j0 Nx x5 x11 x12 x13 c2 c3
  else none
 else
  Xt0 x5 c2 c3
theorem l0s_eq (k : Nat) (next : St -> Option α) (Q : Ex -> St -> Option α) (x5 : Int) (x11 : D2) (x12 x13 : Int) (c2 : D1) (c3 : D3) :
  rnd C k cd0 9 Q next (St1 x5 x11 x12 x13 c2 c3) = l0s (fun x5 x11 x12 x13 c2 c3 => next (St1 x5 x11 x12 x13 c2 c3)) (fun x5 c2 c3 => Q (.exit 0) (St3 x5 c2 c3)) x5 x11 x12 x13 c2 c3 := by
 have h : ∀ (D L : DT α), denJ D L Js C cd0 (lq C 9 next Q) (St1 x5 x11 x12 x13 c2 c3) =
    if (decide (x13 < x12)) = true then
     if 0 <= x13 /\ x13 < (x11.length : Int) then
      if (cond ((List.getD x11 (Int.toNat x13) (0, 0, 0, 0, ())).2.2.1 == c3.2.2.1) (decide ((IntKind.i64.wrap ((List.getD x11 (Int.toNat x13) (0, 0, 0, 0, ())).2.2.2.1 + 24)) > c2.2.2.1)) false) = true then
       D cd1 (lq C 9 next Q) (St2 (IntKind.i64.wrap (x5 + (List.getD x11 (Int.toNat x13) (0, 0, 0, 0, ())).2.1)) x11 x12 x13 c2 c3)
      else
       D cd1 (lq C 9 next Q) (St2 x5 x11 x12 x13 c2 c3)
     else none
    else
     Q (.exit 0) (St3 x5 c2 c3) := by
  intro D L; kernel_rfl
 have h2 := via (k := k) h
 refine h2.trans ?_
 simp only [j0_eq]
 first | rfl | kernel_rfl
def l0 (k : Nat) (Xt0 : Int -> D1 -> D3 -> Option α) : Nat -> Int -> D2 -> Int -> Int -> D1 -> D3 -> Option α
 | 0, _, _, _, _, _, _ => none
 | n + 1, x5, x11, x12, x13, c2, c3 => l0s (l0 k Xt0 n) Xt0 x5 x11 x12 x13 c2 c3
theorem l0_eq (k : Nat) (Q : Ex -> St -> Option α) : ∀ (n : Nat) (x5 : Int) (x11 : D2) (x12 x13 : Int) (c2 : D1) (c3 : D3), iter (rnd C k cd0 9 Q) n (St1 x5 x11 x12 x13 c2 c3) = l0 k (fun x5 c2 c3 => Q (.exit 0) (St3 x5 c2 c3)) n x5 x11 x12 x13 c2 c3
 | 0, _, _, _, _, _, _ => rfl
 | n + 1, x5, x11, x12, x13, c2, c3 => (iter_succ _ _ _).trans ((l0s_eq k _ Q x5 x11 x12 x13 c2 c3).trans (congrArg (fun N => l0s N (fun x5 c2 c3 => Q (.exit 0) (St3 x5 c2 c3)) x5 x11 x12 x13 c2 c3) (by funext; exact l0_eq k Q n _ _ _ _ _ _)))
noncomputable def cd2 : Code := cR (cR (cR (cB Try.f135)))
def St4 (x5 : Int) (c2 : D1) (c3 : D3) : St := stL 58 [(2, .ref 2 0 []), (3, .ref 3 0 []), (5, .data T1 x5)] [(2, .cell T7 (.data T7 c2) false), (3, .cell T8 (.data T8 c3) false)]
def St5 (x4 : Bool) : St := stL 58 [(4, .data .bool x4)] []
def j1 (Rt : Bool -> Option α) (x5 : Int) (c2 : D1) (c3 : D3) : Option α :=
 if 0 <= c3.2.2.1 /\ c3.2.2.1 < (3 : Int) then
  cond (decide (0 <= c3.2.2.1 /\ c3.2.2.1 < (3 : Int)) || !((decide (c3.2.1 < (List.getD c2.2.1 (Int.toNat c3.2.2.1) 0))) == true)) (
   Rt (cond (cond (decide (c3.2.1 < (List.getD c2.2.1 (Int.toNat c3.2.2.1) 0))) (decide (x5 <= (List.getD c2.1 (Int.toNat c3.2.2.1) 0))) false) (decide ((c2.2.2.2.1.length : Int) < 40)) false)) none
 else none
theorem j1_eq (k : Nat) (Q : Ex -> St -> Option α) (x5 : Int) (c2 : D1) (c3 : D3) :
  (den C k) cd2 Q (St4 x5 c2 c3) = j1 (fun x4 => Q .ret (St5 x4)) x5 c2 c3 := plainly Js (by kernel_rfl)
theorem a0 (k : Nat) (Q : Ex -> St -> Option α) (x5 : Int) (x11 : D2) (x12 x13 : Int) (c2 : D1) (c3 : D3) :
  (lp C k) cd0 (blkQ C 0 (sq (den C k) (lp C k) Js C cd2 Q)) (St1 x5 x11 x12 x13 c2 c3) = l0 k (fun x5 c2 c3 => j1 (fun x4 => Q .ret (St5 x4)) x5 c2 c3) k x5 x11 x12 x13 c2 c3 :=
 (lp_iter 9 (by kernel_rfl)).trans ((l0_eq k _ k x5 x11 x12 x13 c2 c3).trans (congrArg (fun X => l0 k X k x5 x11 x12 x13 c2 c3) (funext fun x5 => funext fun c2 => funext fun c3 => (Eq.trans (b := (den C k) cd2 Q (St4 x5 c2 c3)) (by kernel_rfl) (by simp only [j1_eq])))))
def top (k : Nat) (Rt : Bool -> Option α) (x0 : D1) (x1 : D3) : Option α :=
 l0 k (fun x5 c2 c3 => j1 Rt x5 c2 c3) k x1.2.1 x0.2.2.2.1 (x0.2.2.2.1.length : Int) 0 x0 x1
theorem top_eq (k : Nat) (Q : Ex -> St -> Option α) (x0 : D1) (x1 : D3) :
  (den C k) (cB Try.f135) Q (St0 x0 x1) = top k (fun x4 => Q .ret (St5 x4)) x0 x1 := by
 have h : ∀ (D L : DT α), denJ D L Js C (cB Try.f135) Q (St0 x0 x1) =
    L cd0 (blkQ C 0 (sq D L Js C cd2 Q)) (St1 x1.2.1 x0.2.2.2.1 (x0.2.2.2.1.length : Int) 0 x0 x1) := by
  intro D L; kernel_rfl
 have h2 := via (k := k) h
 refine h2.trans ?_
 simp only [a0]
 first | rfl | kernel_rfl
def run (x0 : D1) (x1 : D3) : Option (Bool) := top (α := Bool) fuel (fun x4 => some x4) x0 x1
def F : Fn := ⟨T11, .bool, false, fun x => run x.1 x.2.1⟩
theorem con : Con Try.prog 135 F /\ Named Try.prog 135 :=
 con_of2 (C := C) (ctx_ok (by kernel_rfl) (by kernel_rfl) (by kernel_rfl) (by kernel_rfl) trivial) (by kernel_rfl) Try.func135 (by kernel_rfl) (c := cB Try.f135) (by kernel_rfl) (by kernel_rfl) F (fun x => by simp [F, spread, Try.ntmps135]) (fun x => (St0 x.1 x.2.1)) (fun x => by kernel_rfl) fun x => (top_eq fuel _ x.1 x.2.1).trans (by kernel_rfl)
end Go.Bx.basculeref_passes
namespace Go.Bx.basculelaw_sameQueue
def Js : List Nat := [10]
def C : Ctx := ⟨[(4, .bool), (26, T6), (165, T8)], [], [], fnL [], noSh, [], invL [], [(2, [4]), (1, []), (4, [0, 1, 12, 13]), (12, [0, 1, 12, 13]), (27, [])], [], [], 0, 0⟩
def St0 (x0 x1 : D2) : St := stL 26 [(0, .data T6 x0), (1, .data T6 x1)] []
def St1 (x4 : Bool) : St := stL 26 [(4, .data .bool x4)] []
def St2 (x0 x1 : D2) (x12 x13 : Int) : St := stL 26 [(0, .data T6 x0), (1, .data T6 x1), (12, .data T1 x12), (13, .data T1 x13)] []
noncomputable def cd0 : Code := cL (cL (cR (cL (cR (cR (cB Try.f79))))))
def St3 : St := stL 26 [] []
def l0s (Nx : D2 -> D2 -> Int -> Int -> Option α) (Rt : Bool -> Option α) (Xt0 : Option α) (x0 x1 : D2) (x12 x13 : Int) : Option α :=
 if (decide (x13 < x12)) = true then
  if 0 <= x13 /\ x13 < (x0.length : Int) then
   if 0 <= x13 /\ x13 < (x1.length : Int) then
    if (not (beqD T8 (List.getD x0 (Int.toNat x13) (0, 0, 0, 0, ())) (List.getD x1 (Int.toNat x13) (0, 0, 0, 0, ())))) = true then
     Rt false
    else
     Nx x0 x1 x12 (IntKind.i64.wrap (x13 + 1))
   else none
  else none
 else
  Xt0
theorem l0s_eq (k : Nat) (next : St -> Option α) (Q : Ex -> St -> Option α) (x0 x1 : D2) (x12 x13 : Int) :
  rnd C k cd0 12 Q next (St2 x0 x1 x12 x13) = l0s (fun x0 x1 x12 x13 => next (St2 x0 x1 x12 x13)) (fun x4 => Q .ret (St1 x4)) (Q (.exit 0) St3) x0 x1 x12 x13 := plainly Js (by kernel_rfl)
def l0 (k : Nat) (Rt : Bool -> Option α) (Xt0 : Option α) : Nat -> D2 -> D2 -> Int -> Int -> Option α
 | 0, _, _, _, _ => none
 | n + 1, x0, x1, x12, x13 => l0s (l0 k Rt Xt0 n) Rt Xt0 x0 x1 x12 x13
theorem l0_eq (k : Nat) (Q : Ex -> St -> Option α) : ∀ (n : Nat) (x0 x1 : D2) (x12 x13 : Int), iter (rnd C k cd0 12 Q) n (St2 x0 x1 x12 x13) = l0 k (fun x4 => Q .ret (St1 x4)) (Q (.exit 0) St3) n x0 x1 x12 x13
 | 0, _, _, _, _ => rfl
 | n + 1, x0, x1, x12, x13 => (iter_succ _ _ _).trans ((l0s_eq k _ Q x0 x1 x12 x13).trans (congrArg (fun N => l0s N (fun x4 => Q .ret (St1 x4)) (Q (.exit 0) St3) x0 x1 x12 x13) (by funext; exact l0_eq k Q n _ _ _ _)))
theorem l0_congr (k : Nat) (Rt : Bool -> Option α) (Xt0 : Option α) (Rtq : Bool -> Option α) (Xt0q : Option α) (hRt : ∀ (x4 : Bool), Rt x4 = Rtq x4) (hXt0 : Xt0 = Xt0q) (n : Nat) (x0 x1 : D2) (x12 x13 : Int) : l0 k Rt Xt0 n x0 x1 x12 x13 = l0 k Rtq Xt0q n x0 x1 x12 x13 := by
 obtain rfl : Rt = Rtq := by funext x4; exact hRt x4
 obtain rfl : Xt0 = Xt0q := hXt0
 rfl
noncomputable def cd1 : Code := cR (cR (cR (cB Try.f79)))
def St4 : St := stL 26 [] []
def j0 (Rt : Bool -> Option α) : Option α :=
 Rt true
theorem j0_eq (k : Nat) (Q : Ex -> St -> Option α) :
  (den C k) cd1 Q St4 = j0 (fun x4 => Q .ret (St1 x4)) := plainly Js (by kernel_rfl)
theorem a0 (k : Nat) (Q : Ex -> St -> Option α) (x0 x1 : D2) (x12 x13 : Int) :
  (lp C k) cd0 (blkQ C 0 (sq (den C k) (lp C k) Js C cd1 Q)) (St2 x0 x1 x12 x13) = l0 k (fun x4 => (fun x4 => Q .ret (St1 x4)) x4) (j0 (fun x4 => Q .ret (St1 x4))) k x0 x1 x12 x13 :=
 (lp_iter 12 (by kernel_rfl)).trans ((l0_eq k _ k x0 x1 x12 x13).trans (l0_congr k _ _ _ _ (fun x4 => (by kernel_rfl)) (Eq.trans (b := (den C k) cd1 Q St4) (by kernel_rfl) (by simp only [j0_eq])) k x0 x1 x12 x13))
def top (k : Nat) (Rt : Bool -> Option α) (x0 x1 : D2) : Option α :=
 if ((x0.length : Int) != (x1.length : Int)) = true then
  Rt false
 else
  l0 k (fun x4 => Rt x4) (j0 Rt) k x0 x1 (x0.length : Int) 0
theorem top_eq (k : Nat) (Q : Ex -> St -> Option α) (x0 x1 : D2) :
  (den C k) (cB Try.f79) Q (St0 x0 x1) = top k (fun x4 => Q .ret (St1 x4)) x0 x1 := by
 have h : ∀ (D L : DT α), denJ D L Js C (cB Try.f79) Q (St0 x0 x1) =
    if ((x0.length : Int) != (x1.length : Int)) = true then
     Q .ret (St1 false)
    else
     L cd0 (blkQ C 0 (sq D L Js C cd1 Q)) (St2 x0 x1 (x0.length : Int) 0) := by
  intro D L; kernel_rfl
 have h2 := via (k := k) h
 refine h2.trans ?_
 simp only [a0]
 first | rfl | kernel_rfl
def run (x0 x1 : D2) : Option (Bool) := top (α := Bool) fuel (fun x4 => some x4) x0 x1
def F : Fn := ⟨T40, .bool, false, fun x => run x.1 x.2.1⟩
theorem con : Con Try.prog 79 F /\ Named Try.prog 79 :=
 con_of2 (C := C) (ctx_ok (by kernel_rfl) (by kernel_rfl) (by kernel_rfl) (by kernel_rfl) trivial) (by kernel_rfl) Try.func79 (by kernel_rfl) (c := cB Try.f79) (by kernel_rfl) (by kernel_rfl) F (fun x => by simp [F, spread, Try.ntmps79]) (fun x => (St0 x.1 x.2.1)) (fun x => by kernel_rfl) fun x => (top_eq fuel _ x.1 x.2.1).trans (by kernel_rfl)
end Go.Bx.basculelaw_sameQueue
namespace Go.Bx.basculelaw_sameGate
def Js : List Nat := []
def C : Ctx := ⟨[(3, T1), (4, .bool), (25, T5), (26, T6), (28, T7)], [], [], fnL [(79, basculelaw_sameQueue.F)], noSh, [], invL [], [(2, [4])], [], [], 0, 0⟩
def St0 (x0 x1 : D1) : St := stL 38 [(0, .data T7 x0), (1, .data T7 x1)] []
def St1 (x4 : Bool) : St := stL 38 [(4, .data .bool x4)] []
def top (Rt : Bool -> Option α) (x0 x1 : D1) : Option α :=
 (if ((cond (cond (beqD T5 x0.1 x1.1) (beqD T5 x0.2.1 x1.2.1) false) (x0.2.2.1 == x1.2.2.1) false) == true) = true then basculelaw_sameQueue.run x0.2.2.2.1 x1.2.2.2.1 else some false).bind fun y1 =>
 (if ((cond (cond (cond (beqD T5 x0.1 x1.1) (beqD T5 x0.2.1 x1.2.1) false) (x0.2.2.1 == x1.2.2.1) false) y1 false) == true) = true then basculelaw_sameQueue.run x0.2.2.2.2.1 x1.2.2.2.2.1 else some false).bind fun y2 =>
 Rt (cond (cond (cond (cond (beqD T5 x0.1 x1.1) (beqD T5 x0.2.1 x1.2.1) false) (x0.2.2.1 == x1.2.2.1) false) y1 false) y2 false)
theorem top_eq (k : Nat) (Q : Ex -> St -> Option α) (x0 x1 : D1) :
  (den C k) (cB Try.f27) Q (St0 x0 x1) = top (fun x4 => Q .ret (St1 x4)) x0 x1 := plainly Js (by kernel_rfl)
def run (x0 x1 : D1) : Option (Bool) := top (α := Bool) (fun x4 => some x4) x0 x1
def F : Fn := ⟨T41, .bool, false, fun x => run x.1 x.2.1⟩
theorem con : Con Try.prog 27 F /\ Named Try.prog 27 :=
 con_of2 (C := C) (ctx_ok (by kernel_rfl) (by kernel_rfl) (by kernel_rfl) (by kernel_rfl) ⟨.inl basculelaw_sameQueue.con, trivial⟩) (by kernel_rfl) Try.func27 (by kernel_rfl) (c := cB Try.f27) (by kernel_rfl) (by kernel_rfl) F (fun x => by simp [F, spread, Try.ntmps27]) (fun x => (St0 x.1 x.2.1)) (fun x => by kernel_rfl) fun x => (top_eq fuel _ x.1 x.2.1).trans (by kernel_rfl)
end Go.Bx.basculelaw_sameGate
namespace Go.Bx.basculelaw_sameBytes
def Js : List Nat := []
def C : Ctx := ⟨[(4, .bool), (9, .str), (29, T16)], [], [], fnL [], noSh, [], invL [], [(2, [4])], [], [], 0, 0⟩
def St0 (x0 x1 : D4) : St := stL 10 [(0, .data T16 x0), (1, .data T16 x1)] []
def St1 (x4 : Bool) : St := stL 10 [(4, .data .bool x4)] []
def top (Rt : Bool -> Option α) (x0 x1 : D4) : Option α :=
 Rt (beqD .str x0 x1)
theorem top_eq (k : Nat) (Q : Ex -> St -> Option α) (x0 x1 : D4) :
  (den C k) (cB Try.f80) Q (St0 x0 x1) = top (fun x4 => Q .ret (St1 x4)) x0 x1 := plainly Js (by kernel_rfl)
def run (x0 x1 : D4) : Option (Bool) := top (α := Bool) (fun x4 => some x4) x0 x1
def F : Fn := ⟨T21, .bool, false, fun x => run x.1 x.2.1⟩
theorem con : Con Try.prog 80 F /\ Named Try.prog 80 :=
 con_of2 (C := C) (ctx_ok (by kernel_rfl) (by kernel_rfl) (by kernel_rfl) (by kernel_rfl) trivial) (by kernel_rfl) Try.func80 (by kernel_rfl) (c := cB Try.f80) (by kernel_rfl) (by kernel_rfl) F (fun x => by simp [F, spread, Try.ntmps80]) (fun x => (St0 x.1 x.2.1)) (fun x => by kernel_rfl) fun x => (top_eq fuel _ x.1 x.2.1).trans (by kernel_rfl)
end Go.Bx.basculelaw_sameBytes
namespace Go.Bx.basculeref_SameBody
def Js : List Nat := []
def C : Ctx := ⟨[(3, T1), (4, .bool), (9, .str), (29, T16), (38, T17), (40, T2)], [], [], fnL [], noSh, [], invL [], [(2, [4])], [], [], 0, 0⟩
def St0 (x0 x1 : D0) : St := stL 54 [(0, .data T2 x0), (1, .data T2 x1)] []
def St1 (x4 : Bool) : St := stL 54 [(4, .data .bool x4)] []
def top (Rt : Bool -> Option α) (x0 x1 : D0) : Option α :=
 Rt (cond (cond (cond (cond (cond (cond (x0.1 == x1.1) (x0.2.1 == x1.2.1) false) (x0.2.2.1 == x1.2.2.1) false) (beqD T17 x0.2.2.2.1 x1.2.2.2.1) false) (x0.2.2.2.2.1 == x1.2.2.2.2.1) false) (x0.2.2.2.2.2.1 == x1.2.2.2.2.2.1) false) (beqD .str x0.2.2.2.2.2.2.1 x1.2.2.2.2.2.2.1) false)
theorem top_eq (k : Nat) (Q : Ex -> St -> Option α) (x0 x1 : D0) :
  (den C k) (cB Try.f81) Q (St0 x0 x1) = top (fun x4 => Q .ret (St1 x4)) x0 x1 := plainly Js (by kernel_rfl)
def run (x0 x1 : D0) : Option (Bool) := top (α := Bool) (fun x4 => some x4) x0 x1
def F : Fn := ⟨T43, .bool, false, fun x => run x.1 x.2.1⟩
theorem con : Con Try.prog 81 F /\ Named Try.prog 81 :=
 con_of2 (C := C) (ctx_ok (by kernel_rfl) (by kernel_rfl) (by kernel_rfl) (by kernel_rfl) trivial) (by kernel_rfl) Try.func81 (by kernel_rfl) (c := cB Try.f81) (by kernel_rfl) (by kernel_rfl) F (fun x => by simp [F, spread, Try.ntmps81]) (fun x => (St0 x.1 x.2.1)) (fun x => by kernel_rfl) fun x => (top_eq fuel _ x.1 x.2.1).trans (by kernel_rfl)
end Go.Bx.basculeref_SameBody
namespace Go.Bx.basculelaw_sameLog
def Js : List Nat := []
def C : Ctx := ⟨[(4, .bool), (29, T16), (31, T21)], [], [], fnL [(80, basculelaw_sameBytes.F)], noSh, [], invL [], [(2, [4])], [], [], 0, 0⟩
def St0 (x0 x1 : D9) : St := stL 17 [(0, .data T21 x0), (1, .data T21 x1)] []
def St1 (x4 : Bool) : St := stL 17 [(4, .data .bool x4)] []
def top (Rt : Bool -> Option α) (x0 x1 : D9) : Option α :=
 (basculelaw_sameBytes.run x0.1 x1.1).bind fun y1 =>
 (if (y1 == true) = true then basculelaw_sameBytes.run x0.2.1 x1.2.1 else some false).bind fun y2 =>
 Rt (cond y1 y2 false)
theorem top_eq (k : Nat) (Q : Ex -> St -> Option α) (x0 x1 : D9) :
  (den C k) (cB Try.f28) Q (St0 x0 x1) = top (fun x4 => Q .ret (St1 x4)) x0 x1 := plainly Js (by kernel_rfl)
def run (x0 x1 : D9) : Option (Bool) := top (α := Bool) (fun x4 => some x4) x0 x1
def F : Fn := ⟨T42, .bool, false, fun x => run x.1 x.2.1⟩
theorem con : Con Try.prog 28 F /\ Named Try.prog 28 :=
 con_of2 (C := C) (ctx_ok (by kernel_rfl) (by kernel_rfl) (by kernel_rfl) (by kernel_rfl) ⟨.inl basculelaw_sameBytes.con, trivial⟩) (by kernel_rfl) Try.func28 (by kernel_rfl) (c := cB Try.f28) (by kernel_rfl) (by kernel_rfl) F (fun x => by simp [F, spread, Try.ntmps28]) (fun x => (St0 x.1 x.2.1)) (fun x => by kernel_rfl) fun x => (top_eq fuel _ x.1 x.2.1).trans (by kernel_rfl)
end Go.Bx.basculelaw_sameLog
namespace Go.Bx.basculelaw_sameBodies
def Js : List Nat := [10]
def C : Ctx := ⟨[(4, .bool), (32, T19), (40, T2)], [], [], fnL [(81, basculeref_SameBody.F)], noSh, [], invL [], [(2, [4]), (1, []), (4, [0, 1, 12, 13]), (12, [0, 1, 12, 13]), (27, [])], [], [], 0, 0⟩
def St0 (x0 x1 : D7) : St := stL 27 [(0, .data T19 x0), (1, .data T19 x1)] []
def St1 (x4 : Bool) : St := stL 27 [(4, .data .bool x4)] []
def St2 (x0 x1 : D7) (x12 x13 : Int) : St := stL 27 [(0, .data T19 x0), (1, .data T19 x1), (12, .data T1 x12), (13, .data T1 x13)] []
noncomputable def cd0 : Code := cL (cL (cR (cL (cR (cR (cB Try.f29))))))
def St3 : St := stL 27 [] []
def l0s (Nx : D7 -> D7 -> Int -> Int -> Option α) (Rt : Bool -> Option α) (Xt0 : Option α) (x0 x1 : D7) (x12 x13 : Int) : Option α :=
 if (decide (x13 < x12)) = true then
  if 0 <= x13 /\ x13 < (x0.length : Int) then
   if 0 <= x13 /\ x13 < (x1.length : Int) then
    (basculeref_SameBody.run (List.getD x0 (Int.toNat x13) (0, 0, 0, (List.replicate 32 0), 0, 0, [], ())) (List.getD x1 (Int.toNat x13) (0, 0, 0, (List.replicate 32 0), 0, 0, [], ()))).bind fun y1 =>
    if (not y1) = true then
     Rt false
    else
     Nx x0 x1 x12 (IntKind.i64.wrap (x13 + 1))
   else none
  else none
 else
  Xt0
theorem l0s_eq (k : Nat) (next : St -> Option α) (Q : Ex -> St -> Option α) (x0 x1 : D7) (x12 x13 : Int) :
  rnd C k cd0 12 Q next (St2 x0 x1 x12 x13) = l0s (fun x0 x1 x12 x13 => next (St2 x0 x1 x12 x13)) (fun x4 => Q .ret (St1 x4)) (Q (.exit 0) St3) x0 x1 x12 x13 := plainly Js (by kernel_rfl)
def l0 (k : Nat) (Rt : Bool -> Option α) (Xt0 : Option α) : Nat -> D7 -> D7 -> Int -> Int -> Option α
 | 0, _, _, _, _ => none
 | n + 1, x0, x1, x12, x13 => l0s (l0 k Rt Xt0 n) Rt Xt0 x0 x1 x12 x13
theorem l0_eq (k : Nat) (Q : Ex -> St -> Option α) : ∀ (n : Nat) (x0 x1 : D7) (x12 x13 : Int), iter (rnd C k cd0 12 Q) n (St2 x0 x1 x12 x13) = l0 k (fun x4 => Q .ret (St1 x4)) (Q (.exit 0) St3) n x0 x1 x12 x13
 | 0, _, _, _, _ => rfl
 | n + 1, x0, x1, x12, x13 => (iter_succ _ _ _).trans ((l0s_eq k _ Q x0 x1 x12 x13).trans (congrArg (fun N => l0s N (fun x4 => Q .ret (St1 x4)) (Q (.exit 0) St3) x0 x1 x12 x13) (by funext; exact l0_eq k Q n _ _ _ _)))
theorem l0_congr (k : Nat) (Rt : Bool -> Option α) (Xt0 : Option α) (Rtq : Bool -> Option α) (Xt0q : Option α) (hRt : ∀ (x4 : Bool), Rt x4 = Rtq x4) (hXt0 : Xt0 = Xt0q) (n : Nat) (x0 x1 : D7) (x12 x13 : Int) : l0 k Rt Xt0 n x0 x1 x12 x13 = l0 k Rtq Xt0q n x0 x1 x12 x13 := by
 obtain rfl : Rt = Rtq := by funext x4; exact hRt x4
 obtain rfl : Xt0 = Xt0q := hXt0
 rfl
noncomputable def cd1 : Code := cR (cR (cR (cB Try.f29)))
def St4 : St := stL 27 [] []
def j0 (Rt : Bool -> Option α) : Option α :=
 Rt true
theorem j0_eq (k : Nat) (Q : Ex -> St -> Option α) :
  (den C k) cd1 Q St4 = j0 (fun x4 => Q .ret (St1 x4)) := plainly Js (by kernel_rfl)
theorem a0 (k : Nat) (Q : Ex -> St -> Option α) (x0 x1 : D7) (x12 x13 : Int) :
  (lp C k) cd0 (blkQ C 0 (sq (den C k) (lp C k) Js C cd1 Q)) (St2 x0 x1 x12 x13) = l0 k (fun x4 => (fun x4 => Q .ret (St1 x4)) x4) (j0 (fun x4 => Q .ret (St1 x4))) k x0 x1 x12 x13 :=
 (lp_iter 12 (by kernel_rfl)).trans ((l0_eq k _ k x0 x1 x12 x13).trans (l0_congr k _ _ _ _ (fun x4 => (by kernel_rfl)) (Eq.trans (b := (den C k) cd1 Q St4) (by kernel_rfl) (by simp only [j0_eq])) k x0 x1 x12 x13))
def top (k : Nat) (Rt : Bool -> Option α) (x0 x1 : D7) : Option α :=
 if ((x0.length : Int) != (x1.length : Int)) = true then
  Rt false
 else
  l0 k (fun x4 => Rt x4) (j0 Rt) k x0 x1 (x0.length : Int) 0
theorem top_eq (k : Nat) (Q : Ex -> St -> Option α) (x0 x1 : D7) :
  (den C k) (cB Try.f29) Q (St0 x0 x1) = top k (fun x4 => Q .ret (St1 x4)) x0 x1 := by
 have h : ∀ (D L : DT α), denJ D L Js C (cB Try.f29) Q (St0 x0 x1) =
    if ((x0.length : Int) != (x1.length : Int)) = true then
     Q .ret (St1 false)
    else
     L cd0 (blkQ C 0 (sq D L Js C cd1 Q)) (St2 x0 x1 (x0.length : Int) 0) := by
  intro D L; kernel_rfl
 have h2 := via (k := k) h
 refine h2.trans ?_
 simp only [a0]
 first | rfl | kernel_rfl
def run (x0 x1 : D7) : Option (Bool) := top (α := Bool) fuel (fun x4 => some x4) x0 x1
def F : Fn := ⟨T44, .bool, false, fun x => run x.1 x.2.1⟩
theorem con : Con Try.prog 29 F /\ Named Try.prog 29 :=
 con_of2 (C := C) (ctx_ok (by kernel_rfl) (by kernel_rfl) (by kernel_rfl) (by kernel_rfl) ⟨.inl basculeref_SameBody.con, trivial⟩) (by kernel_rfl) Try.func29 (by kernel_rfl) (c := cB Try.f29) (by kernel_rfl) (by kernel_rfl) F (fun x => by simp [F, spread, Try.ntmps29]) (fun x => (St0 x.1 x.2.1)) (fun x => by kernel_rfl) fun x => (top_eq fuel _ x.1 x.2.1).trans (by kernel_rfl)
end Go.Bx.basculelaw_sameBodies
namespace Go.Bx.basculelaw_sameGuard
def Js : List Nat := []
def C : Ctx := ⟨[(4, .bool), (24, T23), (28, T7), (31, T21), (32, T19), (34, T22)], [], [], fnL [(27, basculelaw_sameGate.F), (28, basculelaw_sameLog.F), (29, basculelaw_sameBodies.F)], noSh, [], invL [], [(2, [4])], [], [], 0, 0⟩
def St0 (x0 x1 : D8) : St := stL 45 [(0, .data T22 x0), (1, .data T22 x1)] []
def St1 (x4 : Bool) : St := stL 45 [(4, .data .bool x4)] []
def top (Rt : Bool -> Option α) (x0 x1 : D8) : Option α :=
 (if ((beqD T23 x0.1 x1.1) == true) = true then basculelaw_sameGate.run x0.2.1 x1.2.1 else some false).bind fun y1 =>
 (if ((cond (beqD T23 x0.1 x1.1) y1 false) == true) = true then basculelaw_sameGate.run x0.2.2.1 x1.2.2.1 else some false).bind fun y2 =>
 (if ((cond (cond (beqD T23 x0.1 x1.1) y1 false) y2 false) == true) = true then basculelaw_sameLog.run x0.2.2.2.1 x1.2.2.2.1 else some false).bind fun y3 =>
 (if ((cond (cond (cond (beqD T23 x0.1 x1.1) y1 false) y2 false) y3 false) == true) = true then basculelaw_sameBodies.run x0.2.2.2.2.1 x1.2.2.2.2.1 else some false).bind fun y4 =>
 (if ((cond (cond (cond (cond (beqD T23 x0.1 x1.1) y1 false) y2 false) y3 false) y4 false) == true) = true then basculelaw_sameBodies.run x0.2.2.2.2.2.1 x1.2.2.2.2.2.1 else some false).bind fun y5 =>
 Rt (cond (cond (cond (cond (cond (beqD T23 x0.1 x1.1) y1 false) y2 false) y3 false) y4 false) y5 false)
theorem top_eq (k : Nat) (Q : Ex -> St -> Option α) (x0 x1 : D8) :
  (den C k) (cB Try.f11) Q (St0 x0 x1) = top (fun x4 => Q .ret (St1 x4)) x0 x1 := plainly Js (by kernel_rfl)
def run (x0 x1 : D8) : Option (Bool) := top (α := Bool) (fun x4 => some x4) x0 x1
def F : Fn := ⟨T45, .bool, false, fun x => run x.1 x.2.1⟩
theorem con : Con Try.prog 11 F /\ Named Try.prog 11 :=
 con_of2 (C := C) (ctx_ok (by kernel_rfl) (by kernel_rfl) (by kernel_rfl) (by kernel_rfl) ⟨.inl basculelaw_sameGate.con, ⟨.inl basculelaw_sameLog.con, ⟨.inl basculelaw_sameBodies.con, trivial⟩⟩⟩) (by kernel_rfl) Try.func11 (by kernel_rfl) (c := cB Try.f11) (by kernel_rfl) (by kernel_rfl) F (fun x => by simp [F, spread, Try.ntmps11]) (fun x => (St0 x.1 x.2.1)) (fun x => by kernel_rfl) fun x => (top_eq fuel _ x.1 x.2.1).trans (by kernel_rfl)
end Go.Bx.basculelaw_sameGuard
namespace Go.Bx.guard_body
def Js : List Nat := []
def C : Ctx := ⟨[(29, T16), (40, T2)], [], [], fnL [], noSh, [], invL [], [(2, [2])], [], [6], 0, 0⟩
def St0 (x0 : D0) : St := stL 9 [(0, .data T2 x0)] []
def St1 (c2p0 c2p1 c2p2 : Int) (c2p3 : D4) (c2p4 c2p5 : Int) (c6 : D4) : St := stL 9 [(2, .ref 2 0 [])] [(2, .cell T2 (.agg T2 [.data T1 c2p0, .data T1 c2p1, .data T1 c2p2, .data T17 c2p3, .data T1 c2p4, .data T1 c2p5, .app 6 0]) false), (6, .buf T18 c6 0 true)]
def top (Rt : Int -> Int -> Int -> D4 -> Int -> Int -> D4 -> Option α) (x0 : D0) : Option α :=
 if fitB (0 + x0.2.2.2.2.2.2.1.length) 1 = true then
  Rt x0.1 x0.2.1 x0.2.2.1 x0.2.2.2.1 x0.2.2.2.2.1 x0.2.2.2.2.2.1 x0.2.2.2.2.2.2.1
 else none
theorem top_eq (k : Nat) (Q : Ex -> St -> Option α) (x0 : D0) :
  (den C k) (cB Try.f128) Q (St0 x0) = top (fun c2p0 c2p1 c2p2 c2p3 c2p4 c2p5 c6 => Q .ret (St1 c2p0 c2p1 c2p2 c2p3 c2p4 c2p5 c6)) x0 := plainly Js (by kernel_rfl)
def run (x0 : D0) : Option D0 := top (α := Int × Int × Int × List Int × Int × Int × List Int × Unit) (fun c2p0 c2p1 c2p2 c2p3 c2p4 c2p5 c6 => some (c2p0, c2p1, c2p2, c2p3, c2p4, c2p5, c6, ())) x0
def F : Fn := ⟨T3, T2, false, fun x => run x.1⟩
theorem con : Con Try.prog 128 F /\ Named Try.prog 128 :=
 con_of2 (C := C) (ctx_ok (by kernel_rfl) (by kernel_rfl) (by kernel_rfl) (by kernel_rfl) trivial) (by kernel_rfl) Try.func128 (by kernel_rfl) (c := cB Try.f128) (by kernel_rfl) (by kernel_rfl) F (fun x => by simp [F, spread, Try.ntmps128]) (fun x => (St0 x.1)) (fun x => by kernel_rfl) fun x => (top_eq fuel _ x.1).trans (by kernel_rfl)
end Go.Bx.guard_body
namespace Go.Bx.guard_bodies_s0
def Js : List Nat := [8]
def C : Ctx := ⟨[(32, T19), (40, T2)], [], [], fnL [(128, guard_body.F)], noSh, [], invL [], [(2, [2]), (1, [3]), (4, [3, 6, 7, 8]), (9, [3, 6, 7, 8]), (21, [3])], [(9, [.melt true 3 [] 16 true])], [], 0, 0⟩
def St0 (x0 : D7) : St := stL 19 [(0, .data T19 x0)] []
def St1 (x6 : D7) (x7 x8 : Int) (c16 : D7) : St := stL 19 [(3, .app 16 0), (6, .data T19 x6), (7, .data T1 x7), (8, .data T1 x8)] [(16, .buf T2 c16 0 true)]
noncomputable def cd0 : Code := cL (cL (cR (cL (cR (cR (cB Try.f73))))))
def St2 (c16 : D7) : St := stL 19 [(3, .app 16 0)] [(16, .buf T2 c16 0 true)]
def l0s (Nx : D7 -> Int -> Int -> D7 -> Option α) (Xt0 : D7 -> Option α) (x6 : D7) (x7 x8 : Int) (c16 : D7) : Option α :=
 if (decide (x8 < x7)) = true then
  if 0 <= x8 /\ x8 < (x6.length : Int) then
   (guard_body.run (List.getD x6 (Int.toNat x8) (0, 0, 0, (List.replicate 32 0), 0, 0, [], ()))).bind fun y1 =>
   if fitB (c16.length + 1) 96 = true then
    Nx x6 x7 (IntKind.i64.wrap (x8 + 1)) (c16 ++ [y1])
   else none
  else none
 else
  Xt0 c16
theorem l0s_eq (k : Nat) (next : St -> Option α) (Q : Ex -> St -> Option α) (x6 : D7) (x7 x8 : Int) (c16 : D7) :
  rnd C k cd0 9 Q next (St1 x6 x7 x8 c16) = l0s (fun x6 x7 x8 c16 => next (St1 x6 x7 x8 c16)) (fun c16 => Q (.exit 0) (St2 c16)) x6 x7 x8 c16 := plainly Js (by kernel_rfl)
def l0 (k : Nat) (Xt0 : D7 -> Option α) : Nat -> D7 -> Int -> Int -> D7 -> Option α
 | 0, _, _, _, _ => none
 | n + 1, x6, x7, x8, c16 => l0s (l0 k Xt0 n) Xt0 x6 x7 x8 c16
theorem l0_eq (k : Nat) (Q : Ex -> St -> Option α) : ∀ (n : Nat) (x6 : D7) (x7 x8 : Int) (c16 : D7), iter (rnd C k cd0 9 Q) n (St1 x6 x7 x8 c16) = l0 k (fun c16 => Q (.exit 0) (St2 c16)) n x6 x7 x8 c16
 | 0, _, _, _, _ => rfl
 | n + 1, x6, x7, x8, c16 => (iter_succ _ _ _).trans ((l0s_eq k _ Q x6 x7 x8 c16).trans (congrArg (fun N => l0s N (fun c16 => Q (.exit 0) (St2 c16)) x6 x7 x8 c16) (by funext; exact l0_eq k Q n _ _ _ _)))
noncomputable def cd1 : Code := cR (cR (cR (cB Try.f73)))
def St3 (c16 : D7) : St := stL 19 [(3, .app 16 0)] [(16, .buf T2 c16 0 true)]
def St4 (c16 : D7) : St := stL 19 [(2, .app 16 0)] [(16, .buf T2 c16 0 true)]
def j0 (Rt : D7 -> Option α) (c16 : D7) : Option α :=
 Rt c16
theorem j0_eq (k : Nat) (Q : Ex -> St -> Option α) (c16 : D7) :
  (den C k) cd1 (endQ C Q) (St3 c16) = j0 (fun c16 => Q .ret (St4 c16)) c16 := plainly Js (by kernel_rfl)
theorem a0 (k : Nat) (Q : Ex -> St -> Option α) (x6 : D7) (x7 x8 : Int) (c16 : D7) :
  (lp C k) cd0 (blkQ C 0 (sq (den C k) (lp C k) Js C cd1 (endQ C Q))) (St1 x6 x7 x8 c16) = l0 k (fun c16 => j0 (fun c16 => Q .ret (St4 c16)) c16) k x6 x7 x8 c16 :=
 (lp_iter 9 (by kernel_rfl)).trans ((l0_eq k _ k x6 x7 x8 c16).trans (congrArg (fun X => l0 k X k x6 x7 x8 c16) (funext fun c16 => (Eq.trans (b := (den C k) cd1 (endQ C Q) (St3 c16)) (by kernel_rfl) (by simp only [j0_eq])))))
def top (k : Nat) (Rt : D7 -> Option α) (x0 : D7) : Option α :=
 l0 k (fun c16 => j0 Rt c16) k x0 (x0.length : Int) 0 []
theorem top_eq (k : Nat) (Q : Ex -> St -> Option α) (x0 : D7) :
  (den C k) (cB Try.f73) (endQ C Q) (St0 x0) = top k (fun c16 => Q .ret (St4 c16)) x0 := by
 have h : ∀ (D L : DT α), denJ D L Js C (cB Try.f73) (endQ C Q) (St0 x0) =
    L cd0 (blkQ C 0 (sq D L Js C cd1 (endQ C Q))) (St1 x0 (x0.length : Int) 0 []) := by
  intro D L; kernel_rfl
 have h2 := via (k := k) h
 refine h2.trans ?_
 simp only [a0]
 first | rfl | kernel_rfl
def run (x0 : D7) : Option D13 := top (α := D7 × Unit) fuel (fun c16 => some (c16, ())) x0
def Sp : Spec := ⟨[hD T19], [], T20, .app 16 0, [(16, hB T2 0 true)], T20, fun x => run x.1⟩
set_option maxRecDepth 100000 in
theorem sok : SOk Try.prog 73 Sp.h := by
 refine sok_of_den (C := C) (ctx_ok (by kernel_rfl) (by kernel_rfl) (by kernel_rfl) (by kernel_rfl) ⟨.inl guard_body.con, trivial⟩) (by kernel_rfl) Try.func73 (c := cB Try.f73) (by kernel_rfl) (by kernel_rfl) Sp fuel (by kernel_rfl) (by kernel_rfl) ?_
 intro x r h
 rw [<- h]
 have h1 : Sp.start x Try.f73.ntmps = (St0 x.1) := by kernel_rfl
 rw [h1]
 refine (top_eq fuel (finS C Try.f73.results.toList Sp.read) x.1).trans ?_
 kernel_rfl
theorem named : Named Try.prog 73 := named_of Try.func73 (by kernel_rfl) (by kernel_rfl)
end Go.Bx.guard_bodies_s0
namespace Go.Bx.guard_fresh_1_s0
def Js : List Nat := []
def C : Ctx := ⟨[(26, T6)], [], [], fnL [], noSh, [], invL [], [(2, [2])], [], [5], 0, 0⟩
def St0 (x0 : D2) : St := stL 6 [(0, .data T6 x0)] []
def St1 (c5 : D2) : St := stL 6 [(2, .app 5 0)] [(5, .buf T8 c5 0 true)]
def top (Rt : D2 -> Option α) (x0 : D2) : Option α :=
 if fitB (0 + x0.length) 32 = true then
  Rt x0
 else none
theorem top_eq (k : Nat) (Q : Ex -> St -> Option α) (x0 : D2) :
  (den C k) (cB Try.f72) (endQ C Q) (St0 x0) = top (fun c5 => Q .ret (St1 c5)) x0 := plainly Js (by kernel_rfl)
def run (x0 : D2) : Option D12 := top (α := D2 × Unit) (fun c5 => some (c5, ())) x0
def Sp : Spec := ⟨[hD T6], [], T15, .app 5 0, [(5, hB T8 0 true)], T15, fun x => run x.1⟩
set_option maxRecDepth 100000 in
theorem sok : SOk Try.prog 72 Sp.h := by
 refine sok_of_den (C := C) (ctx_ok (by kernel_rfl) (by kernel_rfl) (by kernel_rfl) (by kernel_rfl) trivial) (by kernel_rfl) Try.func72 (c := cB Try.f72) (by kernel_rfl) (by kernel_rfl) Sp fuel (by kernel_rfl) (by kernel_rfl) ?_
 intro x r h
 rw [<- h]
 have h1 : Sp.start x Try.f72.ntmps = (St0 x.1) := by kernel_rfl
 rw [h1]
 refine (top_eq fuel (finS C Try.f72.results.toList Sp.read) x.1).trans ?_
 kernel_rfl
theorem named : Named Try.prog 72 := named_of Try.func72 (by kernel_rfl) (by kernel_rfl)
end Go.Bx.guard_fresh_1_s0
namespace Go.Bx.guard_fresh_s0
def Js : List Nat := []
def C : Ctx := ⟨[(26, T6), (28, T7), (29, T16), (31, T21), (32, T19), (34, T22)], [], [], fnL [], shL [(72, [.one guard_fresh_1_s0.Sp]), (73, [.one guard_bodies_s0.Sp])], [(8, 54), (13, 55), (22, 56), (27, 57), (46, 58), (49, 59)], invL [], [(2, [2])], [], [36, 41], 0, 0⟩
def St0 (x0 : D8) : St := stL 53 [(0, .data T22 x0)] []
def St1 (c2p0 c2p1p0 c2p1p1 : D4) (c2p1p2 : Int) (c2p2p0 c2p2p1 : D4) (c2p2p2 : Int) (c36 c41 : D4) (c54 c55 : D2) (c56 c57 : D2) (c58 c59 : D7) : St := stL 53 [(2, .ref 2 0 [])] [(2, .cell T22 (.agg T22 [.data T23 c2p0, .agg T7 [.data T5 c2p1p0, .data T5 c2p1p1, .data T1 c2p1p2, .app 54 0, .app 55 0], .agg T7 [.data T5 c2p2p0, .data T5 c2p2p1, .data T1 c2p2p2, .app 56 0, .app 57 0], .agg T21 [.app 36 0, .app 41 0], .app 58 0, .app 59 0]) false), (36, .buf T18 c36 0 true), (41, .buf T18 c41 0 true), (54, .buf T8 c54 0 true), (55, .buf T8 c55 0 true), (56, .buf T8 c56 0 true), (57, .buf T8 c57 0 true), (58, .buf T2 c58 0 true), (59, .buf T2 c59 0 true)]
def top (Rt : D4 -> D4 -> D4 -> Int -> D4 -> D4 -> Int -> D4 -> D4 -> D2 -> D2 -> D2 -> D2 -> D7 -> D7 -> Option α) (x0 : D8) : Option α :=
 (guard_fresh_1_s0.run x0.2.1.2.2.2.1).bind fun y1 =>
 (guard_fresh_1_s0.run x0.2.1.2.2.2.2.1).bind fun y2 =>
 (guard_fresh_1_s0.run x0.2.2.1.2.2.2.1).bind fun y3 =>
 (guard_fresh_1_s0.run x0.2.2.1.2.2.2.2.1).bind fun y4 =>
 if fitB (0 + x0.2.2.2.1.1.length) 1 = true then
  if fitB (0 + x0.2.2.2.1.2.1.length) 1 = true then
   (guard_bodies_s0.run x0.2.2.2.2.1).bind fun y5 =>
   (guard_bodies_s0.run x0.2.2.2.2.2.1).bind fun y6 =>
   Rt x0.1 x0.2.1.1 x0.2.1.2.1 x0.2.1.2.2.1 x0.2.2.1.1 x0.2.2.1.2.1 x0.2.2.1.2.2.1 x0.2.2.2.1.1 x0.2.2.2.1.2.1 y1.1 y2.1 y3.1 y4.1 y5.1 y6.1
  else none
 else none
theorem top_eq (k : Nat) (Q : Ex -> St -> Option α) (x0 : D8) :
  (den C k) (cB Try.f21) (endQ C Q) (St0 x0) = top (fun c2p0 c2p1p0 c2p1p1 c2p1p2 c2p2p0 c2p2p1 c2p2p2 c36 c41 c54 c55 c56 c57 c58 c59 => Q .ret (St1 c2p0 c2p1p0 c2p1p1 c2p1p2 c2p2p0 c2p2p1 c2p2p2 c36 c41 c54 c55 c56 c57 c58 c59)) x0 := plainly Js (by kernel_rfl)
def run (x0 : D8) : Option D14 := top (α := List Int × List Int × List Int × Int × List Int × List Int × Int × List Int × List Int × List Int × Int × List Int × List Int × Int × List Int × List Int × D2 × D2 × D2 × D2 × D7 × D7 × Unit) (fun c2p0 c2p1p0 c2p1p1 c2p1p2 c2p2p0 c2p2p1 c2p2p2 c36 c41 c54 c55 c56 c57 c58 c59 => some (c2p0, c2p1p0, c2p1p1, c2p1p2, c2p2p0, c2p2p1, c2p2p2, c2p0, c2p1p0, c2p1p1, c2p1p2, c2p2p0, c2p2p1, c2p2p2, c36, c41, c54, c55, c56, c57, c58, c59, ())) x0
def Sp : Spec := ⟨[hD T22], [], T24, .agg T22 [hD T23, .agg T7 [hD T5, hD T5, hD T1, .app 54 0, .app 55 0], .agg T7 [hD T5, hD T5, hD T1, .app 56 0, .app 57 0], .agg T21 [.app 36 0, .app 41 0], .app 58 0, .app 59 0], [(2, hC T22 (.agg T22 [hD T23, .agg T7 [hD T5, hD T5, hD T1, .app 54 0, .app 55 0], .agg T7 [hD T5, hD T5, hD T1, .app 56 0, .app 57 0], .agg T21 [.app 36 0, .app 41 0], .app 58 0, .app 59 0]) false), (36, hB T18 0 true), (41, hB T18 0 true), (54, hB T8 0 true), (55, hB T8 0 true), (56, hB T8 0 true), (57, hB T8 0 true), (58, hB T2 0 true), (59, hB T2 0 true)], T31, fun x => run x.1⟩
set_option maxRecDepth 100000 in
theorem sok : SOk Try.prog 21 Sp.h := by
 refine sok_of_den (C := C) (ctx_ok_sh (by kernel_rfl) (by kernel_rfl) (by kernel_rfl) (by kernel_rfl) trivial ⟨⟨⟨guard_fresh_1_s0.sok, trivial⟩, guard_fresh_1_s0.named⟩, ⟨⟨⟨guard_bodies_s0.sok, trivial⟩, guard_bodies_s0.named⟩, trivial⟩⟩) (by kernel_rfl) Try.func21 (c := cB Try.f21) (by kernel_rfl) (by kernel_rfl) Sp fuel (by kernel_rfl) (by kernel_rfl) ?_
 intro x r h
 rw [<- h]
 have h1 : Sp.start x Try.f21.ntmps = (St0 x.1) := by kernel_rfl
 rw [h1]
 refine (top_eq fuel (finS C Try.f21.results.toList Sp.read) x.1).trans ?_
 kernel_rfl
theorem named : Named Try.prog 21 := named_of Try.func21 (by kernel_rfl) (by kernel_rfl)
end Go.Bx.guard_fresh_s0
namespace Go.Bx.guard_fresh_1
def Js : List Nat := []
def C : Ctx := ⟨[(26, T6)], [], [], fnL [], noSh, [], invL [], [(2, [2])], [], [5], 0, 0⟩
def St0 (x0 : D2) : St := stL 6 [(0, .data T6 x0)] []
def St1 (c5 : D2) : St := stL 6 [(2, .app 5 0)] [(5, .buf T8 c5 0 true)]
def top (Rt : D2 -> Option α) (x0 : D2) : Option α :=
 if fitB (0 + x0.length) 32 = true then
  Rt x0
 else none
theorem top_eq (k : Nat) (Q : Ex -> St -> Option α) (x0 : D2) :
  (den C k) (cB Try.f72) Q (St0 x0) = top (fun c5 => Q .ret (St1 c5)) x0 := plainly Js (by kernel_rfl)
def run (x0 : D2) : Option D2 := top (α := List D3) (fun c5 => some c5) x0
def F : Fn := ⟨T15, T6, false, fun x => run x.1⟩
theorem con : Con Try.prog 72 F /\ Named Try.prog 72 :=
 con_of2 (C := C) (ctx_ok (by kernel_rfl) (by kernel_rfl) (by kernel_rfl) (by kernel_rfl) trivial) (by kernel_rfl) Try.func72 (by kernel_rfl) (c := cB Try.f72) (by kernel_rfl) (by kernel_rfl) F (fun x => by simp [F, spread, Try.ntmps72]) (fun x => (St0 x.1)) (fun x => by kernel_rfl) fun x => (top_eq fuel _ x.1).trans (by kernel_rfl)
end Go.Bx.guard_fresh_1
namespace Go.Bx.guard_bodies
def Js : List Nat := [8]
def C : Ctx := ⟨[(32, T19), (40, T2)], [], [], fnL [(128, guard_body.F)], noSh, [], invL [], [(2, [2]), (1, [3]), (4, [3, 6, 7, 8]), (9, [3, 6, 7, 8]), (21, [3])], [(9, [.melt true 3 [] 16 true])], [], 0, 0⟩
def St0 (x0 : D7) : St := stL 19 [(0, .data T19 x0)] []
def St1 (x6 : D7) (x7 x8 : Int) (c16 : D7) : St := stL 19 [(3, .app 16 0), (6, .data T19 x6), (7, .data T1 x7), (8, .data T1 x8)] [(16, .buf T2 c16 0 true)]
noncomputable def cd0 : Code := cL (cL (cR (cL (cR (cR (cB Try.f73))))))
def St2 (c16 : D7) : St := stL 19 [(3, .app 16 0)] [(16, .buf T2 c16 0 true)]
def l0s (Nx : D7 -> Int -> Int -> D7 -> Option α) (Xt0 : D7 -> Option α) (x6 : D7) (x7 x8 : Int) (c16 : D7) : Option α :=
 if (decide (x8 < x7)) = true then
  if 0 <= x8 /\ x8 < (x6.length : Int) then
   (guard_body.run (List.getD x6 (Int.toNat x8) (0, 0, 0, (List.replicate 32 0), 0, 0, [], ()))).bind fun y1 =>
   if fitB (c16.length + 1) 96 = true then
    Nx x6 x7 (IntKind.i64.wrap (x8 + 1)) (c16 ++ [y1])
   else none
  else none
 else
  Xt0 c16
theorem l0s_eq (k : Nat) (next : St -> Option α) (Q : Ex -> St -> Option α) (x6 : D7) (x7 x8 : Int) (c16 : D7) :
  rnd C k cd0 9 Q next (St1 x6 x7 x8 c16) = l0s (fun x6 x7 x8 c16 => next (St1 x6 x7 x8 c16)) (fun c16 => Q (.exit 0) (St2 c16)) x6 x7 x8 c16 := plainly Js (by kernel_rfl)
def l0 (k : Nat) (Xt0 : D7 -> Option α) : Nat -> D7 -> Int -> Int -> D7 -> Option α
 | 0, _, _, _, _ => none
 | n + 1, x6, x7, x8, c16 => l0s (l0 k Xt0 n) Xt0 x6 x7 x8 c16
theorem l0_eq (k : Nat) (Q : Ex -> St -> Option α) : ∀ (n : Nat) (x6 : D7) (x7 x8 : Int) (c16 : D7), iter (rnd C k cd0 9 Q) n (St1 x6 x7 x8 c16) = l0 k (fun c16 => Q (.exit 0) (St2 c16)) n x6 x7 x8 c16
 | 0, _, _, _, _ => rfl
 | n + 1, x6, x7, x8, c16 => (iter_succ _ _ _).trans ((l0s_eq k _ Q x6 x7 x8 c16).trans (congrArg (fun N => l0s N (fun c16 => Q (.exit 0) (St2 c16)) x6 x7 x8 c16) (by funext; exact l0_eq k Q n _ _ _ _)))
noncomputable def cd1 : Code := cR (cR (cR (cB Try.f73)))
def St3 (c16 : D7) : St := stL 19 [(3, .app 16 0)] [(16, .buf T2 c16 0 true)]
def St4 (c16 : D7) : St := stL 19 [(2, .app 16 0)] [(16, .buf T2 c16 0 true)]
def j0 (Rt : D7 -> Option α) (c16 : D7) : Option α :=
 Rt c16
theorem j0_eq (k : Nat) (Q : Ex -> St -> Option α) (c16 : D7) :
  (den C k) cd1 Q (St3 c16) = j0 (fun c16 => Q .ret (St4 c16)) c16 := plainly Js (by kernel_rfl)
theorem a0 (k : Nat) (Q : Ex -> St -> Option α) (x6 : D7) (x7 x8 : Int) (c16 : D7) :
  (lp C k) cd0 (blkQ C 0 (sq (den C k) (lp C k) Js C cd1 Q)) (St1 x6 x7 x8 c16) = l0 k (fun c16 => j0 (fun c16 => Q .ret (St4 c16)) c16) k x6 x7 x8 c16 :=
 (lp_iter 9 (by kernel_rfl)).trans ((l0_eq k _ k x6 x7 x8 c16).trans (congrArg (fun X => l0 k X k x6 x7 x8 c16) (funext fun c16 => (Eq.trans (b := (den C k) cd1 Q (St3 c16)) (by kernel_rfl) (by simp only [j0_eq])))))
def top (k : Nat) (Rt : D7 -> Option α) (x0 : D7) : Option α :=
 l0 k (fun c16 => j0 Rt c16) k x0 (x0.length : Int) 0 []
theorem top_eq (k : Nat) (Q : Ex -> St -> Option α) (x0 : D7) :
  (den C k) (cB Try.f73) Q (St0 x0) = top k (fun c16 => Q .ret (St4 c16)) x0 := by
 have h : ∀ (D L : DT α), denJ D L Js C (cB Try.f73) Q (St0 x0) =
    L cd0 (blkQ C 0 (sq D L Js C cd1 Q)) (St1 x0 (x0.length : Int) 0 []) := by
  intro D L; kernel_rfl
 have h2 := via (k := k) h
 refine h2.trans ?_
 simp only [a0]
 first | rfl | kernel_rfl
def run (x0 : D7) : Option D7 := top (α := List D0) fuel (fun c16 => some c16) x0
def F : Fn := ⟨T20, T19, false, fun x => run x.1⟩
theorem con : Con Try.prog 73 F /\ Named Try.prog 73 :=
 con_of2 (C := C) (ctx_ok (by kernel_rfl) (by kernel_rfl) (by kernel_rfl) (by kernel_rfl) ⟨.inl guard_body.con, trivial⟩) (by kernel_rfl) Try.func73 (by kernel_rfl) (c := cB Try.f73) (by kernel_rfl) (by kernel_rfl) F (fun x => by simp [F, spread, Try.ntmps73]) (fun x => (St0 x.1)) (fun x => by kernel_rfl) fun x => (top_eq fuel _ x.1).trans (by kernel_rfl)
end Go.Bx.guard_bodies
namespace Go.Bx.guard_fresh
def Js : List Nat := []
def C : Ctx := ⟨[(26, T6), (28, T7), (29, T16), (31, T21), (32, T19), (34, T22)], [], [], fnL [(72, guard_fresh_1.F), (73, guard_bodies.F)], noSh, [], invL [], [(2, [2])], [], [36, 41], 0, 0⟩
def St0 (x0 : D8) : St := stL 53 [(0, .data T22 x0)] []
def St1 (c2p0 : D4) (c2p1 c2p2 : D1) (c2p4 c2p5 : D7) (c36 c41 : D4) : St := stL 53 [(2, .ref 2 0 [])] [(2, .cell T22 (.agg T22 [.data T23 c2p0, .data T7 c2p1, .data T7 c2p2, .agg T21 [.app 36 0, .app 41 0], .data T19 c2p4, .data T19 c2p5]) false), (36, .buf T18 c36 0 true), (41, .buf T18 c41 0 true)]
def top (Rt : D4 -> D1 -> D1 -> D7 -> D7 -> D4 -> D4 -> Option α) (x0 : D8) : Option α :=
 (guard_fresh_1.run x0.2.1.2.2.2.1).bind fun y1 =>
 (guard_fresh_1.run x0.2.1.2.2.2.2.1).bind fun y2 =>
 (guard_fresh_1.run x0.2.2.1.2.2.2.1).bind fun y3 =>
 (guard_fresh_1.run x0.2.2.1.2.2.2.2.1).bind fun y4 =>
 if fitB (0 + x0.2.2.2.1.1.length) 1 = true then
  if fitB (0 + x0.2.2.2.1.2.1.length) 1 = true then
   (guard_bodies.run x0.2.2.2.2.1).bind fun y5 =>
   (guard_bodies.run x0.2.2.2.2.2.1).bind fun y6 =>
   Rt x0.1 (x0.2.1.1, x0.2.1.2.1, x0.2.1.2.2.1, y1, y2, x0.2.1.2.2.2.2.2) (x0.2.2.1.1, x0.2.2.1.2.1, x0.2.2.1.2.2.1, y3, y4, x0.2.2.1.2.2.2.2.2) y5 y6 x0.2.2.2.1.1 x0.2.2.2.1.2.1
  else none
 else none
theorem top_eq (k : Nat) (Q : Ex -> St -> Option α) (x0 : D8) :
  (den C k) (cB Try.f21) Q (St0 x0) = top (fun c2p0 c2p1 c2p2 c2p4 c2p5 c36 c41 => Q .ret (St1 c2p0 c2p1 c2p2 c2p4 c2p5 c36 c41)) x0 := plainly Js (by kernel_rfl)
def run (x0 : D8) : Option D8 := top (α := List Int × D1 × D1 × D9 × List D0 × List D0 × Unit) (fun c2p0 c2p1 c2p2 c2p4 c2p5 c36 c41 => some (c2p0, c2p1, c2p2, (c36, c41, ()), c2p4, c2p5, ())) x0
def F : Fn := ⟨T24, T22, false, fun x => run x.1⟩
theorem con : Con Try.prog 21 F /\ Named Try.prog 21 :=
 con_of2 (C := C) (ctx_ok (by kernel_rfl) (by kernel_rfl) (by kernel_rfl) (by kernel_rfl) ⟨.inl guard_fresh_1.con, ⟨.inl guard_bodies.con, trivial⟩⟩) (by kernel_rfl) Try.func21 (by kernel_rfl) (c := cB Try.f21) (by kernel_rfl) (by kernel_rfl) F (fun x => by simp [F, spread, Try.ntmps21]) (fun x => (St0 x.1)) (fun x => by kernel_rfl) fun x => (top_eq fuel _ x.1).trans (by kernel_rfl)
end Go.Bx.guard_fresh
namespace Go.Bx.guard_Id
def Js : List Nat := []
def C : Ctx := ⟨[(3, T1), (40, T2)], [], [], fnL [], noSh, [], invL [], [(2, [2])], [], [], 0, 0⟩
def St0 (x0 : D0) : St := stL 9 [(0, .data T2 x0)] []
def St1 (x2 : Int) : St := stL 9 [(2, .data T1 x2)] []
def top (Rt : Int -> Option α) (x0 : D0) : Option α :=
 Rt (IntKind.i64.wrap ((IntKind.i64.wrap (x0.2.2.1 * 256)) + x0.2.2.2.2.1))
theorem top_eq (k : Nat) (Q : Ex -> St -> Option α) (x0 : D0) :
  (den C k) (cB Try.f64) Q (St0 x0) = top (fun x2 => Q .ret (St1 x2)) x0 := plainly Js (by kernel_rfl)
def run (x0 : D0) : Option (Int) := top (α := Int) (fun x2 => some x2) x0
def F : Fn := ⟨T3, T1, false, fun x => run x.1⟩
theorem con : Con Try.prog 64 F /\ Named Try.prog 64 :=
 con_of2 (C := C) (ctx_ok (by kernel_rfl) (by kernel_rfl) (by kernel_rfl) (by kernel_rfl) trivial) (by kernel_rfl) Try.func64 (by kernel_rfl) (c := cB Try.f64) (by kernel_rfl) (by kernel_rfl) F (fun x => by simp [F, spread, Try.ntmps64]) (fun x => (St0 x.1)) (fun x => by kernel_rfl) fun x => (top_eq fuel _ x.1).trans (by kernel_rfl)
end Go.Bx.guard_Id
namespace Go.Bx.gate_Tick
end Go.Bx.gate_Tick
namespace Go.Bx.guard_passed_s1
end Go.Bx.guard_passed_s1
namespace Go.Bx.basculeref_IdOf
def Js : List Nat := []
def C : Ctx := ⟨[(3, T1), (40, T2)], [], [], fnL [], noSh, [], invL [], [(2, [2])], [], [], 0, 0⟩
def St0 (x0 : D0) : St := stL 9 [(0, .data T2 x0)] []
def St1 (x2 : Int) : St := stL 9 [(2, .data T1 x2)] []
def top (Rt : Int -> Option α) (x0 : D0) : Option α :=
 Rt (IntKind.i64.wrap ((IntKind.i64.wrap (256 * x0.2.2.1)) + x0.2.2.2.2.1))
theorem top_eq (k : Nat) (Q : Ex -> St -> Option α) (x0 : D0) :
  (den C k) (cB Try.f10) Q (St0 x0) = top (fun x2 => Q .ret (St1 x2)) x0 := plainly Js (by kernel_rfl)
def run (x0 : D0) : Option (Int) := top (α := Int) (fun x2 => some x2) x0
def F : Fn := ⟨T3, T1, false, fun x => run x.1⟩
theorem con : Con Try.prog 10 F /\ Named Try.prog 10 :=
 con_of2 (C := C) (ctx_ok (by kernel_rfl) (by kernel_rfl) (by kernel_rfl) (by kernel_rfl) trivial) (by kernel_rfl) Try.func10 (by kernel_rfl) (c := cB Try.f10) (by kernel_rfl) (by kernel_rfl) F (fun x => by simp [F, spread, Try.ntmps10]) (fun x => (St0 x.1)) (fun x => by kernel_rfl) fun x => (top_eq fuel _ x.1).trans (by kernel_rfl)
end Go.Bx.basculeref_IdOf
namespace Go.Bx.basculeref_Ticked
end Go.Bx.basculeref_Ticked
namespace Go.Bx.basculeref_waits
end Go.Bx.basculeref_waits
namespace Go.Bx.gate_fresh_s0
def Js : List Nat := []
def C : Ctx := ⟨[(26, T6), (28, T7)], [], [], fnL [], noSh, [], invL [], [(2, [2])], [], [6, 10], 0, 0⟩
def St0 (x0 : D1) : St := stL 14 [(0, .data T7 x0)] []
def St1 (c2p0 c2p1 : D4) (c2p2 : Int) (c6 c10 : D2) : St := stL 14 [(2, .ref 2 0 [])] [(2, .cell T7 (.agg T7 [.data T5 c2p0, .data T5 c2p1, .data T1 c2p2, .app 6 0, .app 10 0]) false), (6, .buf T8 c6 0 true), (10, .buf T8 c10 0 true)]
def top (Rt : D4 -> D4 -> Int -> D2 -> D2 -> Option α) (x0 : D1) : Option α :=
 if fitB (0 + x0.2.2.2.1.length) 32 = true then
  if fitB (0 + x0.2.2.2.2.1.length) 32 = true then
   Rt x0.1 x0.2.1 x0.2.2.1 x0.2.2.2.1 x0.2.2.2.2.1
  else none
 else none
theorem top_eq (k : Nat) (Q : Ex -> St -> Option α) (x0 : D1) :
  (den C k) (cB Try.f154) (endQ C Q) (St0 x0) = top (fun c2p0 c2p1 c2p2 c6 c10 => Q .ret (St1 c2p0 c2p1 c2p2 c6 c10)) x0 := plainly Js (by kernel_rfl)
def run (x0 : D1) : Option D34 := top (α := List Int × List Int × Int × List Int × List Int × Int × D2 × D2 × Unit) (fun c2p0 c2p1 c2p2 c6 c10 => some (c2p0, c2p1, c2p2, c2p0, c2p1, c2p2, c6, c10, ())) x0
def Sp : Spec := ⟨[hD T7], [], T9, .agg T7 [hD T5, hD T5, hD T1, .app 6 0, .app 10 0], [(2, hC T7 (.agg T7 [hD T5, hD T5, hD T1, .app 6 0, .app 10 0]) false), (6, hB T8 0 true), (10, hB T8 0 true)], T89, fun x => run x.1⟩
set_option maxRecDepth 100000 in
theorem sok : SOk Try.prog 154 Sp.h := by
 refine sok_of_den (C := C) (ctx_ok (by kernel_rfl) (by kernel_rfl) (by kernel_rfl) (by kernel_rfl) trivial) (by kernel_rfl) Try.func154 (c := cB Try.f154) (by kernel_rfl) (by kernel_rfl) Sp fuel (by kernel_rfl) (by kernel_rfl) ?_
 intro x r h
 rw [<- h]
 have h1 : Sp.start x Try.f154.ntmps = (St0 x.1) := by kernel_rfl
 rw [h1]
 refine (top_eq fuel (finS C Try.f154.results.toList Sp.read) x.1).trans ?_
 kernel_rfl
theorem named : Named Try.prog 154 := named_of Try.func154 (by kernel_rfl) (by kernel_rfl)
end Go.Bx.gate_fresh_s0
namespace Go.Bx.gate_Offer
def Js : List Nat := [16, 17]
def C : Ctx := ⟨[(3, T1), (4, .bool), (26, T6), (28, T7), (35, T1), (165, T8), (185, T90)], [], [], fnL [(120, gate_Check.F), (134, gate_fits.F), (151, gate_value.F)], shL [(154, [.one gate_fresh_s0.Sp])], [(63, 87)], invL [], [(2, [8, 9, 10]), (1, [1, 2, 3, 4, 8]), (4, [1, 2, 3, 4, 8, 39, 40]), (7, [1, 2, 3, 4, 8, 39, 40]), (10, [1, 2, 3, 4, 8, 39, 40, 43, 44, 45]), (21, [1, 2, 3, 4, 8, 39, 40]), (30, [1, 2, 3, 4, 8, 39, 40, 43, 44, 45]), (45, [1, 2, 3, 4, 8, 39, 40]), (48, [1, 2, 3, 4, 8])], [(2, [.dat false 8 [3], .dat false 8 [4]])], [], 0, 0⟩
def St0 (x0 : D1) (x1 x2 x3 : Int) : St := stL 86 [(0, .data T7 x0), (1, .data T1 x1), (2, .data T1 x2), (3, .data T1 x3)] []
def St1 (x9 : Bool) (x10 : Int) (c8 : D1) : St := stL 86 [(8, .ref 8 0 []), (9, .data .bool x9), (10, .data T1 x10)] [(8, .cell T7 (.data T7 c8) false)]
def St2 (x1 x2 x3 : Int) (x39 : D16) (x40 : Int) (c4 : D1) (c8p0 c8p1 : D4) (c8p2 : Int) : St := stL 86 [(1, .data T1 x1), (2, .data T1 x2), (3, .data T1 x3), (4, .ref 4 0 []), (8, .ref 8 0 []), (39, .data T90 x39), (40, .data T1 x40)] [(4, .cell T7 (.data T7 c4) false), (8, .cell T7 (.agg T7 [.data T5 c8p0, .data T5 c8p1, .data T1 c8p2, .full T8 [], .full T8 []]) false)]
noncomputable def cd0 : Code := cL (cL (cR (cL (cR (cR (cR (cB Try.f126)))))))
def St3 (x1 x2 x3 : Int) (x39 : D16) (x40 : Int) (x43 : D2) (x44 x45 : Int) (c4 : D1) (c8p0 c8p1 : D4) (c8p2 : Int) : St := stL 86 [(1, .data T1 x1), (2, .data T1 x2), (3, .data T1 x3), (4, .ref 4 0 []), (8, .ref 8 0 []), (39, .data T90 x39), (40, .data T1 x40), (43, .data T6 x43), (44, .data T1 x44), (45, .data T1 x45)] [(4, .cell T7 (.data T7 c4) false), (8, .cell T7 (.agg T7 [.data T5 c8p0, .data T5 c8p1, .data T1 c8p2, .full T8 [], .full T8 []]) false)]
noncomputable def cd1 : Code := cL (cL (cR (cR (cL (cL (cR (cR (cL (cL (cR (cL (cR (cR (cR (cB Try.f126)))))))))))))))
def St4 (x1 x2 x3 : Int) (x39 : D16) (x40 : Int) (c4 : D1) (c8p0 c8p1 : D4) (c8p2 : Int) : St := stL 86 [(1, .data T1 x1), (2, .data T1 x2), (3, .data T1 x3), (4, .ref 4 0 []), (8, .ref 8 0 []), (39, .data T90 x39), (40, .data T1 x40)] [(4, .cell T7 (.data T7 c4) false), (8, .cell T7 (.agg T7 [.data T5 c8p0, .data T5 c8p1, .data T1 c8p2, .full T8 [], .full T8 []]) false)]
def l1s (Nx : Int -> Int -> Int -> D16 -> Int -> D2 -> Int -> Int -> D1 -> D4 -> D4 -> Int -> Option α) (Rt : Bool -> Int -> D1 -> Option α) (Xt2 : Int -> Int -> Int -> D16 -> Int -> D1 -> D4 -> D4 -> Int -> Option α) (x1 x2 x3 : Int) (x39 : D16) (x40 : Int) (x43 : D2) (x44 x45 : Int) (c4 : D1) (c8p0 c8p1 : D4) (c8p2 : Int) : Option α :=
 if (decide (x45 < x44)) = true then
  if 0 <= x45 /\ x45 < (x43.length : Int) then
   if ((List.getD x43 (Int.toNat x45) (0, 0, 0, 0, ())).1 == x1) = true then
    Rt false 8 ([0, 0, 0], [0, 0, 0], 0, [], [], ())
   else
    Nx x1 x2 x3 x39 x40 x43 x44 (IntKind.i64.wrap (x45 + 1)) c4 c8p0 c8p1 c8p2
  else none
 else
  Xt2 x1 x2 x3 x39 x40 c4 c8p0 c8p1 c8p2
theorem l1s_eq (k : Nat) (next : St -> Option α) (Q : Ex -> St -> Option α) (x1 x2 x3 : Int) (x39 : D16) (x40 : Int) (x43 : D2) (x44 x45 : Int) (c4 : D1) (c8p0 c8p1 : D4) (c8p2 : Int) :
  rnd C k cd1 30 Q next (St3 x1 x2 x3 x39 x40 x43 x44 x45 c4 c8p0 c8p1 c8p2) = l1s (fun x1 x2 x3 x39 x40 x43 x44 x45 c4 c8p0 c8p1 c8p2 => next (St3 x1 x2 x3 x39 x40 x43 x44 x45 c4 c8p0 c8p1 c8p2)) (fun x9 x10 c8 => Q .ret (St1 x9 x10 c8)) (fun x1 x2 x3 x39 x40 c4 c8p0 c8p1 c8p2 => Q (.exit 2) (St4 x1 x2 x3 x39 x40 c4 c8p0 c8p1 c8p2)) x1 x2 x3 x39 x40 x43 x44 x45 c4 c8p0 c8p1 c8p2 := plainly Js (by kernel_rfl)
def l1 (k : Nat) (Rt : Bool -> Int -> D1 -> Option α) (Xt2 : Int -> Int -> Int -> D16 -> Int -> D1 -> D4 -> D4 -> Int -> Option α) : Nat -> Int -> Int -> Int -> D16 -> Int -> D2 -> Int -> Int -> D1 -> D4 -> D4 -> Int -> Option α
 | 0, _, _, _, _, _, _, _, _, _, _, _, _ => none
 | n + 1, x1, x2, x3, x39, x40, x43, x44, x45, c4, c8p0, c8p1, c8p2 => l1s (l1 k Rt Xt2 n) Rt Xt2 x1 x2 x3 x39 x40 x43 x44 x45 c4 c8p0 c8p1 c8p2
theorem l1_eq (k : Nat) (Q : Ex -> St -> Option α) : ∀ (n : Nat) (x1 x2 x3 : Int) (x39 : D16) (x40 : Int) (x43 : D2) (x44 x45 : Int) (c4 : D1) (c8p0 c8p1 : D4) (c8p2 : Int), iter (rnd C k cd1 30 Q) n (St3 x1 x2 x3 x39 x40 x43 x44 x45 c4 c8p0 c8p1 c8p2) = l1 k (fun x9 x10 c8 => Q .ret (St1 x9 x10 c8)) (fun x1 x2 x3 x39 x40 c4 c8p0 c8p1 c8p2 => Q (.exit 2) (St4 x1 x2 x3 x39 x40 c4 c8p0 c8p1 c8p2)) n x1 x2 x3 x39 x40 x43 x44 x45 c4 c8p0 c8p1 c8p2
 | 0, _, _, _, _, _, _, _, _, _, _, _, _ => rfl
 | n + 1, x1, x2, x3, x39, x40, x43, x44, x45, c4, c8p0, c8p1, c8p2 => (iter_succ _ _ _).trans ((l1s_eq k _ Q x1 x2 x3 x39 x40 x43 x44 x45 c4 c8p0 c8p1 c8p2).trans (congrArg (fun N => l1s N (fun x9 x10 c8 => Q .ret (St1 x9 x10 c8)) (fun x1 x2 x3 x39 x40 c4 c8p0 c8p1 c8p2 => Q (.exit 2) (St4 x1 x2 x3 x39 x40 c4 c8p0 c8p1 c8p2)) x1 x2 x3 x39 x40 x43 x44 x45 c4 c8p0 c8p1 c8p2) (by funext; exact l1_eq k Q n _ _ _ _ _ _ _ _ _ _ _ _)))
theorem l1_congr (k : Nat) (Rt : Bool -> Int -> D1 -> Option α) (Xt2 : Int -> Int -> Int -> D16 -> Int -> D1 -> D4 -> D4 -> Int -> Option α) (Rtq : Bool -> Int -> D1 -> Option α) (Xt2q : Int -> Int -> Int -> D16 -> Int -> D1 -> D4 -> D4 -> Int -> Option α) (hRt : ∀ (x9 : Bool) (x10 : Int) (c8 : D1), Rt x9 x10 c8 = Rtq x9 x10 c8) (hXt2 : ∀ (x1 x2 x3 : Int) (x39 : D16) (x40 : Int) (c4 : D1) (c8p0 c8p1 : D4) (c8p2 : Int), Xt2 x1 x2 x3 x39 x40 c4 c8p0 c8p1 c8p2 = Xt2q x1 x2 x3 x39 x40 c4 c8p0 c8p1 c8p2) (n : Nat) (x1 x2 x3 : Int) (x39 : D16) (x40 : Int) (x43 : D2) (x44 x45 : Int) (c4 : D1) (c8p0 c8p1 : D4) (c8p2 : Int) : l1 k Rt Xt2 n x1 x2 x3 x39 x40 x43 x44 x45 c4 c8p0 c8p1 c8p2 = l1 k Rtq Xt2q n x1 x2 x3 x39 x40 x43 x44 x45 c4 c8p0 c8p1 c8p2 := by
 obtain rfl : Rt = Rtq := by funext x9; funext x10; funext c8; exact hRt x9 x10 c8
 obtain rfl : Xt2 = Xt2q := by funext x1; funext x2; funext x3; funext x39; funext x40; funext c4; funext c8p0; funext c8p1; funext c8p2; exact hXt2 x1 x2 x3 x39 x40 c4 c8p0 c8p1 c8p2
 rfl
noncomputable def cd2 : Code := cR (cR (cR (cL (cL (cR (cL (cR (cR (cR (cB Try.f126))))))))))
def St5 (x1 x2 x3 : Int) (x39 : D16) (x40 : Int) (c4 : D1) (c8p0 c8p1 : D4) (c8p2 : Int) : St := stL 86 [(1, .data T1 x1), (2, .data T1 x2), (3, .data T1 x3), (4, .ref 4 0 []), (8, .ref 8 0 []), (39, .data T90 x39), (40, .data T1 x40)] [(4, .cell T7 (.data T7 c4) false), (8, .cell T7 (.agg T7 [.data T5 c8p0, .data T5 c8p1, .data T1 c8p2, .full T8 [], .full T8 []]) false)]
def j0 (Nx : Int -> Int -> Int -> D16 -> Int -> D1 -> D4 -> D4 -> Int -> Option α) (x1 x2 x3 : Int) (x39 : D16) (x40 : Int) (c4 : D1) (c8p0 c8p1 : D4) (c8p2 : Int) : Option α :=
 Nx x1 x2 x3 x39 (IntKind.i64.wrap (x40 + 1)) c4 c8p0 c8p1 c8p2
theorem j0_eq (k : Nat) (next : St -> Option α) (Q : Ex -> St -> Option α) (x1 x2 x3 : Int) (x39 : D16) (x40 : Int) (c4 : D1) (c8p0 c8p1 : D4) (c8p2 : Int) :
  (den C k) cd2 (lq C 21 next Q) (St5 x1 x2 x3 x39 x40 c4 c8p0 c8p1 c8p2) = j0 (fun x1 x2 x3 x39 x40 c4 c8p0 c8p1 c8p2 => next (St2 x1 x2 x3 x39 x40 c4 c8p0 c8p1 c8p2)) x1 x2 x3 x39 x40 c4 c8p0 c8p1 c8p2 := plainly Js (by kernel_rfl)
theorem a0 (k : Nat) (next : St -> Option α) (Q : Ex -> St -> Option α) (x1 x2 x3 : Int) (x39 : D16) (x40 : Int) (x43 : D2) (x44 x45 : Int) (c4 : D1) (c8p0 c8p1 : D4) (c8p2 : Int) :
  (lp C k) cd1 (blkQ C 2 (blkQ C 1 (sq (den C k) (lp C k) Js C cd2 (lq C 21 next Q)))) (St3 x1 x2 x3 x39 x40 x43 x44 x45 c4 c8p0 c8p1 c8p2) = l1 k (fun x9 x10 c8 => (fun x9 x10 c8 => Q .ret (St1 x9 x10 c8)) x9 x10 c8) (fun x1 x2 x3 x39 x40 c4 c8p0 c8p1 c8p2 => j0 (fun x1 x2 x3 x39 x40 c4 c8p0 c8p1 c8p2 => next (St2 x1 x2 x3 x39 x40 c4 c8p0 c8p1 c8p2)) x1 x2 x3 x39 x40 c4 c8p0 c8p1 c8p2) k x1 x2 x3 x39 x40 x43 x44 x45 c4 c8p0 c8p1 c8p2 :=
 (lp_iter 30 (by kernel_rfl)).trans ((l1_eq k _ k x1 x2 x3 x39 x40 x43 x44 x45 c4 c8p0 c8p1 c8p2).trans (l1_congr k _ _ _ _ (fun x9 x10 c8 => (by kernel_rfl)) (fun x1 x2 x3 x39 x40 c4 c8p0 c8p1 c8p2 => (Eq.trans (b := (den C k) cd2 (lq C 21 next Q) (St5 x1 x2 x3 x39 x40 c4 c8p0 c8p1 c8p2)) (by kernel_rfl) (by simp only [j0_eq]))) k x1 x2 x3 x39 x40 x43 x44 x45 c4 c8p0 c8p1 c8p2))
def St6 (x1 x2 x3 : Int) (c4 : D1) (c8p0 c8p1 : D4) (c8p2 : Int) : St := stL 86 [(1, .data T1 x1), (2, .data T1 x2), (3, .data T1 x3), (4, .ref 4 0 []), (8, .ref 8 0 [])] [(4, .cell T7 (.data T7 c4) false), (8, .cell T7 (.agg T7 [.data T5 c8p0, .data T5 c8p1, .data T1 c8p2, .full T8 [], .full T8 []]) false)]
def l0s (k : Nat) (Nx : Int -> Int -> Int -> D16 -> Int -> D1 -> D4 -> D4 -> Int -> Option α) (Rt : Bool -> Int -> D1 -> Option α) (Xt0 : Int -> Int -> Int -> D1 -> D4 -> D4 -> Int -> Option α) (x1 x2 x3 : Int) (x39 : D16) (x40 : Int) (c4 : D1) (c8p0 c8p1 : D4) (c8p2 : Int) : Option α :=
 if (decide (x40 < 2)) = true then
  if 0 <= x40 /\ x40 < (2 : Int) then
   l1 k (fun x9 x10 c8 => Rt x9 x10 c8) (fun x1 x2 x3 x39 x40 c4 c8p0 c8p1 c8p2 => j0 Nx x1 x2 x3 x39 x40 c4 c8p0 c8p1 c8p2) k x1 x2 x3 x39 x40 (List.getD x39 (Int.toNat x40) []) ((List.getD x39 (Int.toNat x40) []).length : Int) 0 c4 c8p0 c8p1 c8p2
  else none
 else
  Xt0 x1 x2 x3 c4 c8p0 c8p1 c8p2
theorem l0s_eq (k : Nat) (next : St -> Option α) (Q : Ex -> St -> Option α) (x1 x2 x3 : Int) (x39 : D16) (x40 : Int) (c4 : D1) (c8p0 c8p1 : D4) (c8p2 : Int) :
  rnd C k cd0 21 Q next (St2 x1 x2 x3 x39 x40 c4 c8p0 c8p1 c8p2) = l0s k (fun x1 x2 x3 x39 x40 c4 c8p0 c8p1 c8p2 => next (St2 x1 x2 x3 x39 x40 c4 c8p0 c8p1 c8p2)) (fun x9 x10 c8 => Q .ret (St1 x9 x10 c8)) (fun x1 x2 x3 c4 c8p0 c8p1 c8p2 => Q (.exit 0) (St6 x1 x2 x3 c4 c8p0 c8p1 c8p2)) x1 x2 x3 x39 x40 c4 c8p0 c8p1 c8p2 := by
 have h : ∀ (D L : DT α), denJ D L Js C cd0 (lq C 21 next Q) (St2 x1 x2 x3 x39 x40 c4 c8p0 c8p1 c8p2) =
    if (decide (x40 < 2)) = true then
     if 0 <= x40 /\ x40 < (2 : Int) then
      L cd1 (blkQ C 2 (blkQ C 1 (sq D L Js C cd2 (lq C 21 next Q)))) (St3 x1 x2 x3 x39 x40 (List.getD x39 (Int.toNat x40) []) ((List.getD x39 (Int.toNat x40) []).length : Int) 0 c4 c8p0 c8p1 c8p2)
     else none
    else
     Q (.exit 0) (St6 x1 x2 x3 c4 c8p0 c8p1 c8p2) := by
  intro D L; kernel_rfl
 have h2 := via (k := k) h
 refine h2.trans ?_
 simp only [a0]
 first | rfl | kernel_rfl
def l0 (k : Nat) (Rt : Bool -> Int -> D1 -> Option α) (Xt0 : Int -> Int -> Int -> D1 -> D4 -> D4 -> Int -> Option α) : Nat -> Int -> Int -> Int -> D16 -> Int -> D1 -> D4 -> D4 -> Int -> Option α
 | 0, _, _, _, _, _, _, _, _, _ => none
 | n + 1, x1, x2, x3, x39, x40, c4, c8p0, c8p1, c8p2 => l0s k (l0 k Rt Xt0 n) Rt Xt0 x1 x2 x3 x39 x40 c4 c8p0 c8p1 c8p2
theorem l0_eq (k : Nat) (Q : Ex -> St -> Option α) : ∀ (n : Nat) (x1 x2 x3 : Int) (x39 : D16) (x40 : Int) (c4 : D1) (c8p0 c8p1 : D4) (c8p2 : Int), iter (rnd C k cd0 21 Q) n (St2 x1 x2 x3 x39 x40 c4 c8p0 c8p1 c8p2) = l0 k (fun x9 x10 c8 => Q .ret (St1 x9 x10 c8)) (fun x1 x2 x3 c4 c8p0 c8p1 c8p2 => Q (.exit 0) (St6 x1 x2 x3 c4 c8p0 c8p1 c8p2)) n x1 x2 x3 x39 x40 c4 c8p0 c8p1 c8p2
 | 0, _, _, _, _, _, _, _, _, _ => rfl
 | n + 1, x1, x2, x3, x39, x40, c4, c8p0, c8p1, c8p2 => (iter_succ _ _ _).trans ((l0s_eq k _ Q x1 x2 x3 x39 x40 c4 c8p0 c8p1 c8p2).trans (congrArg (fun N => l0s k N (fun x9 x10 c8 => Q .ret (St1 x9 x10 c8)) (fun x1 x2 x3 c4 c8p0 c8p1 c8p2 => Q (.exit 0) (St6 x1 x2 x3 c4 c8p0 c8p1 c8p2)) x1 x2 x3 x39 x40 c4 c8p0 c8p1 c8p2) (by funext; exact l0_eq k Q n _ _ _ _ _ _ _ _ _)))
theorem l0_congr (k : Nat) (Rt : Bool -> Int -> D1 -> Option α) (Xt0 : Int -> Int -> Int -> D1 -> D4 -> D4 -> Int -> Option α) (Rtq : Bool -> Int -> D1 -> Option α) (Xt0q : Int -> Int -> Int -> D1 -> D4 -> D4 -> Int -> Option α) (hRt : ∀ (x9 : Bool) (x10 : Int) (c8 : D1), Rt x9 x10 c8 = Rtq x9 x10 c8) (hXt0 : ∀ (x1 x2 x3 : Int) (c4 : D1) (c8p0 c8p1 : D4) (c8p2 : Int), Xt0 x1 x2 x3 c4 c8p0 c8p1 c8p2 = Xt0q x1 x2 x3 c4 c8p0 c8p1 c8p2) (n : Nat) (x1 x2 x3 : Int) (x39 : D16) (x40 : Int) (c4 : D1) (c8p0 c8p1 : D4) (c8p2 : Int) : l0 k Rt Xt0 n x1 x2 x3 x39 x40 c4 c8p0 c8p1 c8p2 = l0 k Rtq Xt0q n x1 x2 x3 x39 x40 c4 c8p0 c8p1 c8p2 := by
 obtain rfl : Rt = Rtq := by funext x9; funext x10; funext c8; exact hRt x9 x10 c8
 obtain rfl : Xt0 = Xt0q := by funext x1; funext x2; funext x3; funext c4; funext c8p0; funext c8p1; funext c8p2; exact hXt0 x1 x2 x3 c4 c8p0 c8p1 c8p2
 rfl
noncomputable def cd3 : Code := cR (cR (cR (cR (cB Try.f126))))
def St7 (x1 x2 x3 : Int) (c4 : D1) (c8p0 c8p1 : D4) (c8p2 : Int) : St := stL 86 [(1, .data T1 x1), (2, .data T1 x2), (3, .data T1 x3), (4, .ref 4 0 []), (8, .ref 8 0 [])] [(4, .cell T7 (.data T7 c4) false), (8, .cell T7 (.agg T7 [.data T5 c8p0, .data T5 c8p1, .data T1 c8p2, .full T8 [], .full T8 []]) false)]
def j1 (Rt : Bool -> Int -> D1 -> Option α) (x1 x2 x3 : Int) (c4 : D1) (c8p0 c8p1 : D4) (c8p2 : Int) : Option α :=
 (gate_fresh_s0.run c4).bind fun y3 =>
 (gate_fits.run (y3.1, y3.2.1, y3.2.2.1, y3.2.2.2.2.2.2.1, y3.2.2.2.2.2.2.2.1, ()) (x1, x2, x3, c4.2.2.1, ())).bind fun y4 =>
 if y4 = true then
  if fitB (y3.2.2.2.2.2.2.1.length + 1) 32 = true then
   Rt true 0 (y3.1, y3.2.1, y3.2.2.1, (y3.2.2.2.2.2.2.1 ++ [(x1, x2, x3, c4.2.2.1, ())]), y3.2.2.2.2.2.2.2.1, ())
  else none
 else
  if ((y3.2.2.2.2.2.2.2.1.length : Int) == 40) = true then
   Rt false 9 ([0, 0, 0], [0, 0, 0], 0, [], [], ())
  else
   if fitB (y3.2.2.2.2.2.2.2.1.length + 1) 32 = true then
    Rt false 0 (y3.1, y3.2.1, y3.2.2.1, y3.2.2.2.2.2.2.1, (y3.2.2.2.2.2.2.2.1 ++ [(x1, x2, x3, c4.2.2.1, ())]), ())
   else none
theorem j1_eq (k : Nat) (Q : Ex -> St -> Option α) (x1 x2 x3 : Int) (c4 : D1) (c8p0 c8p1 : D4) (c8p2 : Int) :
  (den C k) cd3 Q (St7 x1 x2 x3 c4 c8p0 c8p1 c8p2) = j1 (fun x9 x10 c8 => Q .ret (St1 x9 x10 c8)) x1 x2 x3 c4 c8p0 c8p1 c8p2 := plainly Js (by kernel_rfl)
theorem a1 (k : Nat) (Q : Ex -> St -> Option α) (x1 x2 x3 : Int) (x39 : D16) (x40 : Int) (c4 : D1) (c8p0 c8p1 : D4) (c8p2 : Int) :
  (lp C k) cd0 (blkQ C 0 (sq (den C k) (lp C k) Js C cd3 Q)) (St2 x1 x2 x3 x39 x40 c4 c8p0 c8p1 c8p2) = l0 k (fun x9 x10 c8 => (fun x9 x10 c8 => Q .ret (St1 x9 x10 c8)) x9 x10 c8) (fun x1 x2 x3 c4 c8p0 c8p1 c8p2 => j1 (fun x9 x10 c8 => Q .ret (St1 x9 x10 c8)) x1 x2 x3 c4 c8p0 c8p1 c8p2) k x1 x2 x3 x39 x40 c4 c8p0 c8p1 c8p2 :=
 (lp_iter 21 (by kernel_rfl)).trans ((l0_eq k _ k x1 x2 x3 x39 x40 c4 c8p0 c8p1 c8p2).trans (l0_congr k _ _ _ _ (fun x9 x10 c8 => (by kernel_rfl)) (fun x1 x2 x3 c4 c8p0 c8p1 c8p2 => (Eq.trans (b := (den C k) cd3 Q (St7 x1 x2 x3 c4 c8p0 c8p1 c8p2)) (by kernel_rfl) (by simp only [j1_eq]))) k x1 x2 x3 x39 x40 c4 c8p0 c8p1 c8p2))
def top (k : Nat) (Rt : Bool -> Int -> D1 -> Option α) (x0 : D1) (x1 x2 x3 : Int) : Option α :=
 (gate_Check.run x0).bind fun y1 =>
 if (y1 != 0) = true then
  Rt false y1 ([0, 0, 0], [0, 0, 0], 0, [], [], ())
 else
  (gate_value.run x2).bind fun y2 =>
  if (cond (cond (not y2) true (decide (x3 < 0))) true (decide (x3 >= 3))) = true then
   Rt false 6 ([0, 0, 0], [0, 0, 0], 0, [], [], ())
  else
   l0 k (fun x9 x10 c8 => Rt x9 x10 c8) (fun x1 x2 x3 c4 c8p0 c8p1 c8p2 => j1 Rt x1 x2 x3 c4 c8p0 c8p1 c8p2) k x1 x2 x3 [x0.2.2.2.1, x0.2.2.2.2.1] 0 x0 [0, 0, 0] [0, 0, 0] 0
theorem top_eq (k : Nat) (Q : Ex -> St -> Option α) (x0 : D1) (x1 x2 x3 : Int) :
  (den C k) (cB Try.f126) Q (St0 x0 x1 x2 x3) = top k (fun x9 x10 c8 => Q .ret (St1 x9 x10 c8)) x0 x1 x2 x3 := by
 have h : ∀ (D L : DT α), denJ D L Js C (cB Try.f126) Q (St0 x0 x1 x2 x3) =
    (gate_Check.run x0).bind fun y1 =>
    if (y1 != 0) = true then
     Q .ret (St1 false y1 ([0, 0, 0], [0, 0, 0], 0, [], [], ()))
    else
     (gate_value.run x2).bind fun y2 =>
     if (cond (cond (not y2) true (decide (x3 < 0))) true (decide (x3 >= 3))) = true then
      Q .ret (St1 false 6 ([0, 0, 0], [0, 0, 0], 0, [], [], ()))
     else
      L cd0 (blkQ C 0 (sq D L Js C cd3 Q)) (St2 x1 x2 x3 [x0.2.2.2.1, x0.2.2.2.2.1] 0 x0 [0, 0, 0] [0, 0, 0] 0) := by
  intro D L; kernel_rfl
 have h2 := via (k := k) h
 refine h2.trans ?_
 simp only [a1]
 first | rfl | kernel_rfl
def run (x0 : D1) (x1 x2 x3 : Int) : Option D35 := top (α := D1 × Bool × Int × Unit) fuel (fun x9 x10 c8 => some (c8, x9, x10, ())) x0 x1 x2 x3
def F : Fn := ⟨T91, T92, true, fun x => run x.1 x.2.1 x.2.2.1 x.2.2.2.1⟩
theorem con : Con Try.prog 126 F /\ Named Try.prog 126 :=
 con_of2 (C := C) (ctx_ok_sh (by kernel_rfl) (by kernel_rfl) (by kernel_rfl) (by kernel_rfl) ⟨.inl gate_Check.con, ⟨.inl gate_fits.con, ⟨.inl gate_value.con, trivial⟩⟩⟩ ⟨⟨⟨gate_fresh_s0.sok, trivial⟩, gate_fresh_s0.named⟩, trivial⟩) (by kernel_rfl) Try.func126 (by kernel_rfl) (c := cB Try.f126) (by kernel_rfl) (by kernel_rfl) F (fun x => by simp [F, spread, Try.ntmps126]) (fun x => (St0 x.1 x.2.1 x.2.2.1 x.2.2.2.1)) (fun x => by kernel_rfl) fun x => (top_eq fuel _ x.1 x.2.1 x.2.2.1 x.2.2.2.1).trans (by kernel_rfl)
end Go.Bx.gate_Offer
namespace Go.Bx.basculeref_Offered
def Js : List Nat := [13]
def C : Ctx := ⟨[(3, T1), (4, .bool), (26, T6), (28, T7), (35, T1), (165, T8)], [], [], fnL [(129, basculeref_GateFault.F), (135, basculeref_passes.F), (149, basculeref_upTo.F)], noSh, [], invL [], [(2, [8, 9, 10]), (1, [1, 2, 3, 4, 8]), (4, [1, 2, 3, 4, 8, 36, 37, 38]), (21, [1, 2, 3, 4, 8, 36, 37, 38]), (36, [1, 2, 3, 4, 8])], [(2, [.dat false 8 []])], [33, 60, 74], 0, 0⟩
def St0 (x0 : D1) (x1 x2 x3 : Int) : St := stL 80 [(0, .data T7 x0), (1, .data T1 x1), (2, .data T1 x2), (3, .data T1 x3)] []
def St1 (x9 : Bool) (x10 : Int) (c8 : D1) : St := stL 80 [(8, .ref 8 0 []), (9, .data .bool x9), (10, .data T1 x10)] [(8, .cell T7 (.data T7 c8) false)]
def St2 (x1 x2 : Int) (x3 x37 x38 : Int) (c4 : D1) (c8p0 c8p1 : D4) (c8p2 : Int) (c33 : D2) : St := stL 80 [(1, .data T1 x1), (2, .data T1 x2), (3, .data T1 x3), (4, .ref 4 0 []), (8, .ref 8 0 []), (36, .app 33 0), (37, .data T1 x37), (38, .data T1 x38)] [(4, .cell T7 (.data T7 c4) false), (8, .cell T7 (.agg T7 [.data T5 c8p0, .data T5 c8p1, .data T1 c8p2, .full T8 [], .full T8 []]) false), (33, .buf T8 c33 0 true)]
noncomputable def cd0 : Code := cL (cL (cR (cL (cR (cR (cR (cB Try.f118)))))))
def St3 (x1 x2 x3 : Int) (c4 : D1) (c8p0 c8p1 : D4) (c8p2 : Int) : St := stL 80 [(1, .data T1 x1), (2, .data T1 x2), (3, .data T1 x3), (4, .ref 4 0 []), (8, .ref 8 0 [])] [(4, .cell T7 (.data T7 c4) false), (8, .cell T7 (.agg T7 [.data T5 c8p0, .data T5 c8p1, .data T1 c8p2, .full T8 [], .full T8 []]) false)]
def l0s (Nx : Int -> Int -> Int -> Int -> Int -> D1 -> D4 -> D4 -> Int -> D2 -> Option α) (Rt : Bool -> Int -> D1 -> Option α) (Xt0 : Int -> Int -> Int -> D1 -> D4 -> D4 -> Int -> Option α) (x1 x2 : Int) (x3 x37 x38 : Int) (c4 : D1) (c8p0 c8p1 : D4) (c8p2 : Int) (c33 : D2) : Option α :=
 if (decide (x38 < x37)) = true then
  if 0 <= x38 /\ x38 < (c33.length : Int) then
   if ((List.getD c33 (Int.toNat x38) (0, 0, 0, 0, ())).1 == x1) = true then
    Rt false 8 ([0, 0, 0], [0, 0, 0], 0, [], [], ())
   else
    Nx x1 x2 x3 x37 (IntKind.i64.wrap (x38 + 1)) c4 c8p0 c8p1 c8p2 c33
  else none
 else
  Xt0 x1 x2 x3 c4 c8p0 c8p1 c8p2
theorem l0s_eq (k : Nat) (next : St -> Option α) (Q : Ex -> St -> Option α) (x1 x2 : Int) (x3 x37 x38 : Int) (c4 : D1) (c8p0 c8p1 : D4) (c8p2 : Int) (c33 : D2) :
  rnd C k cd0 21 Q next (St2 x1 x2 x3 x37 x38 c4 c8p0 c8p1 c8p2 c33) = l0s (fun x1 x2 x3 x37 x38 c4 c8p0 c8p1 c8p2 c33 => next (St2 x1 x2 x3 x37 x38 c4 c8p0 c8p1 c8p2 c33)) (fun x9 x10 c8 => Q .ret (St1 x9 x10 c8)) (fun x1 x2 x3 c4 c8p0 c8p1 c8p2 => Q (.exit 0) (St3 x1 x2 x3 c4 c8p0 c8p1 c8p2)) x1 x2 x3 x37 x38 c4 c8p0 c8p1 c8p2 c33 := plainly Js (by kernel_rfl)
def l0 (k : Nat) (Rt : Bool -> Int -> D1 -> Option α) (Xt0 : Int -> Int -> Int -> D1 -> D4 -> D4 -> Int -> Option α) : Nat -> Int -> Int -> Int -> Int -> Int -> D1 -> D4 -> D4 -> Int -> D2 -> Option α
 | 0, _, _, _, _, _, _, _, _, _, _ => none
 | n + 1, x1, x2, x3, x37, x38, c4, c8p0, c8p1, c8p2, c33 => l0s (l0 k Rt Xt0 n) Rt Xt0 x1 x2 x3 x37 x38 c4 c8p0 c8p1 c8p2 c33
theorem l0_eq (k : Nat) (Q : Ex -> St -> Option α) : ∀ (n : Nat) (x1 x2 : Int) (x3 x37 x38 : Int) (c4 : D1) (c8p0 c8p1 : D4) (c8p2 : Int) (c33 : D2), iter (rnd C k cd0 21 Q) n (St2 x1 x2 x3 x37 x38 c4 c8p0 c8p1 c8p2 c33) = l0 k (fun x9 x10 c8 => Q .ret (St1 x9 x10 c8)) (fun x1 x2 x3 c4 c8p0 c8p1 c8p2 => Q (.exit 0) (St3 x1 x2 x3 c4 c8p0 c8p1 c8p2)) n x1 x2 x3 x37 x38 c4 c8p0 c8p1 c8p2 c33
 | 0, _, _, _, _, _, _, _, _, _, _ => rfl
 | n + 1, x1, x2, x3, x37, x38, c4, c8p0, c8p1, c8p2, c33 => (iter_succ _ _ _).trans ((l0s_eq k _ Q x1 x2 x3 x37 x38 c4 c8p0 c8p1 c8p2 c33).trans (congrArg (fun N => l0s N (fun x9 x10 c8 => Q .ret (St1 x9 x10 c8)) (fun x1 x2 x3 c4 c8p0 c8p1 c8p2 => Q (.exit 0) (St3 x1 x2 x3 c4 c8p0 c8p1 c8p2)) x1 x2 x3 x37 x38 c4 c8p0 c8p1 c8p2 c33) (by funext; exact l0_eq k Q n _ _ _ _ _ _ _ _ _ _)))
theorem l0_congr (k : Nat) (Rt : Bool -> Int -> D1 -> Option α) (Xt0 : Int -> Int -> Int -> D1 -> D4 -> D4 -> Int -> Option α) (Rtq : Bool -> Int -> D1 -> Option α) (Xt0q : Int -> Int -> Int -> D1 -> D4 -> D4 -> Int -> Option α) (hRt : ∀ (x9 : Bool) (x10 : Int) (c8 : D1), Rt x9 x10 c8 = Rtq x9 x10 c8) (hXt0 : ∀ (x1 x2 x3 : Int) (c4 : D1) (c8p0 c8p1 : D4) (c8p2 : Int), Xt0 x1 x2 x3 c4 c8p0 c8p1 c8p2 = Xt0q x1 x2 x3 c4 c8p0 c8p1 c8p2) (n : Nat) (x1 x2 : Int) (x3 x37 x38 : Int) (c4 : D1) (c8p0 c8p1 : D4) (c8p2 : Int) (c33 : D2) : l0 k Rt Xt0 n x1 x2 x3 x37 x38 c4 c8p0 c8p1 c8p2 c33 = l0 k Rtq Xt0q n x1 x2 x3 x37 x38 c4 c8p0 c8p1 c8p2 c33 := by
 obtain rfl : Rt = Rtq := by funext x9; funext x10; funext c8; exact hRt x9 x10 c8
 obtain rfl : Xt0 = Xt0q := by funext x1; funext x2; funext x3; funext c4; funext c8p0; funext c8p1; funext c8p2; exact hXt0 x1 x2 x3 c4 c8p0 c8p1 c8p2
 rfl
noncomputable def cd1 : Code := cR (cR (cR (cR (cB Try.f118))))
def St4 (x1 x2 x3 : Int) (c4 : D1) (c8p0 c8p1 : D4) (c8p2 : Int) : St := stL 80 [(1, .data T1 x1), (2, .data T1 x2), (3, .data T1 x3), (4, .ref 4 0 []), (8, .ref 8 0 [])] [(4, .cell T7 (.data T7 c4) false), (8, .cell T7 (.agg T7 [.data T5 c8p0, .data T5 c8p1, .data T1 c8p2, .full T8 [], .full T8 []]) false)]
def j0 (Rt : Bool -> Int -> D1 -> Option α) (x1 x2 x3 : Int) (c4 : D1) (c8p0 c8p1 : D4) (c8p2 : Int) : Option α :=
 (basculeref_passes.run c4 (x1, x2, x3, c4.2.2.1, ())).bind fun y4 =>
 if y4 = true then
  if fitB (0 + c4.2.2.2.1.length) 32 = true then
   if fitB (c4.2.2.2.1.length + 1) 32 = true then
    Rt true 0 (c4.1, c4.2.1, c4.2.2.1, (c4.2.2.2.1 ++ [(x1, x2, x3, c4.2.2.1, ())]), c4.2.2.2.2.1, ())
   else none
  else none
 else
  if (decide ((c4.2.2.2.2.1.length : Int) >= 40)) = true then
   Rt false 9 ([0, 0, 0], [0, 0, 0], 0, [], [], ())
  else
   if fitB (0 + c4.2.2.2.2.1.length) 32 = true then
    if fitB (c4.2.2.2.2.1.length + 1) 32 = true then
     Rt false 0 (c4.1, c4.2.1, c4.2.2.1, c4.2.2.2.1, (c4.2.2.2.2.1 ++ [(x1, x2, x3, c4.2.2.1, ())]), ())
    else none
   else none
theorem j0_eq (k : Nat) (Q : Ex -> St -> Option α) (x1 x2 x3 : Int) (c4 : D1) (c8p0 c8p1 : D4) (c8p2 : Int) :
  (den C k) cd1 Q (St4 x1 x2 x3 c4 c8p0 c8p1 c8p2) = j0 (fun x9 x10 c8 => Q .ret (St1 x9 x10 c8)) x1 x2 x3 c4 c8p0 c8p1 c8p2 := plainly Js (by kernel_rfl)
theorem a0 (k : Nat) (Q : Ex -> St -> Option α) (x1 x2 : Int) (x3 x37 x38 : Int) (c4 : D1) (c8p0 c8p1 : D4) (c8p2 : Int) (c33 : D2) :
  (lp C k) cd0 (blkQ C 0 (sq (den C k) (lp C k) Js C cd1 Q)) (St2 x1 x2 x3 x37 x38 c4 c8p0 c8p1 c8p2 c33) = l0 k (fun x9 x10 c8 => (fun x9 x10 c8 => Q .ret (St1 x9 x10 c8)) x9 x10 c8) (fun x1 x2 x3 c4 c8p0 c8p1 c8p2 => j0 (fun x9 x10 c8 => Q .ret (St1 x9 x10 c8)) x1 x2 x3 c4 c8p0 c8p1 c8p2) k x1 x2 x3 x37 x38 c4 c8p0 c8p1 c8p2 c33 :=
 (lp_iter 21 (by kernel_rfl)).trans ((l0_eq k _ k x1 x2 x3 x37 x38 c4 c8p0 c8p1 c8p2 c33).trans (l0_congr k _ _ _ _ (fun x9 x10 c8 => (by kernel_rfl)) (fun x1 x2 x3 c4 c8p0 c8p1 c8p2 => (Eq.trans (b := (den C k) cd1 Q (St4 x1 x2 x3 c4 c8p0 c8p1 c8p2)) (by kernel_rfl) (by simp only [j0_eq]))) k x1 x2 x3 x37 x38 c4 c8p0 c8p1 c8p2 c33))
def top (k : Nat) (Rt : Bool -> Int -> D1 -> Option α) (x0 : D1) (x1 x2 x3 : Int) : Option α :=
 (basculeref_GateFault.run x0).bind fun y1 =>
 if (y1 != 0) = true then
  Rt false y1 ([0, 0, 0], [0, 0, 0], 0, [], [], ())
 else
  (basculeref_upTo.run x2 1073741824).bind fun y2 =>
  (if ((not y2) == false) = true then basculeref_upTo.run x3 2 else some false).bind fun y3 =>
  if (cond (not y2) true (not y3)) = true then
   Rt false 6 ([0, 0, 0], [0, 0, 0], 0, [], [], ())
  else
   if fitB (0 + x0.2.2.2.1.length) 32 = true then
    if fitB (x0.2.2.2.1.length + x0.2.2.2.2.1.length) 32 = true then
     l0 k (fun x9 x10 c8 => Rt x9 x10 c8) (fun x1 x2 x3 c4 c8p0 c8p1 c8p2 => j0 Rt x1 x2 x3 c4 c8p0 c8p1 c8p2) k x1 x2 x3 ((x0.2.2.2.1 ++ x0.2.2.2.2.1).length : Int) 0 x0 [0, 0, 0] [0, 0, 0] 0 (x0.2.2.2.1 ++ x0.2.2.2.2.1)
    else none
   else none
theorem top_eq (k : Nat) (Q : Ex -> St -> Option α) (x0 : D1) (x1 x2 x3 : Int) :
  (den C k) (cB Try.f118) Q (St0 x0 x1 x2 x3) = top k (fun x9 x10 c8 => Q .ret (St1 x9 x10 c8)) x0 x1 x2 x3 := by
 have h : ∀ (D L : DT α), denJ D L Js C (cB Try.f118) Q (St0 x0 x1 x2 x3) =
    (basculeref_GateFault.run x0).bind fun y1 =>
    if (y1 != 0) = true then
     Q .ret (St1 false y1 ([0, 0, 0], [0, 0, 0], 0, [], [], ()))
    else
     (basculeref_upTo.run x2 1073741824).bind fun y2 =>
     (if ((not y2) == false) = true then basculeref_upTo.run x3 2 else some false).bind fun y3 =>
     if (cond (not y2) true (not y3)) = true then
      Q .ret (St1 false 6 ([0, 0, 0], [0, 0, 0], 0, [], [], ()))
     else
      if fitB (0 + x0.2.2.2.1.length) 32 = true then
       if fitB (x0.2.2.2.1.length + x0.2.2.2.2.1.length) 32 = true then
        L cd0 (blkQ C 0 (sq D L Js C cd1 Q)) (St2 x1 x2 x3 ((x0.2.2.2.1 ++ x0.2.2.2.2.1).length : Int) 0 x0 [0, 0, 0] [0, 0, 0] 0 (x0.2.2.2.1 ++ x0.2.2.2.2.1))
       else none
      else none := by
  intro D L; kernel_rfl
 have h2 := via (k := k) h
 refine h2.trans ?_
 simp only [a0]
 first | rfl | kernel_rfl
def run (x0 : D1) (x1 x2 x3 : Int) : Option D35 := top (α := D1 × Bool × Int × Unit) fuel (fun x9 x10 c8 => some (c8, x9, x10, ())) x0 x1 x2 x3
def F : Fn := ⟨T91, T92, true, fun x => run x.1 x.2.1 x.2.2.1 x.2.2.2.1⟩
theorem con : Con Try.prog 118 F /\ Named Try.prog 118 :=
 con_of2 (C := C) (ctx_ok (by kernel_rfl) (by kernel_rfl) (by kernel_rfl) (by kernel_rfl) ⟨.inl basculeref_GateFault.con, ⟨.inl basculeref_passes.con, ⟨.inl basculeref_upTo.con, trivial⟩⟩⟩) (by kernel_rfl) Try.func118 (by kernel_rfl) (c := cB Try.f118) (by kernel_rfl) (by kernel_rfl) F (fun x => by simp [F, spread, Try.ntmps118]) (fun x => (St0 x.1 x.2.1 x.2.2.1 x.2.2.2.1)) (fun x => by kernel_rfl) fun x => (top_eq fuel _ x.1 x.2.1 x.2.2.1 x.2.2.2.1).trans (by kernel_rfl)
end Go.Bx.basculeref_Offered
namespace Go.Bx.basculeref_of
def Js : List Nat := [8]
def C : Ctx := ⟨[(24, T23), (84, T80)], [], [], fnL [], noSh, [], invL [], [(2, [2]), (1, [3]), (4, [3, 6, 7]), (9, [3, 6, 7]), (21, [3])], [(9, [.melt true 3 [] 16 true])], [], 0, 0⟩
def St0 (x0 : D4) : St := stL 19 [(0, .data T23 x0)] []
def St1 (x6 : D4) (x7 : Int) (c16 : D4) : St := stL 19 [(3, .app 16 0), (6, .data T23 x6), (7, .data T1 x7)] [(16, .buf T36 c16 0 true)]
noncomputable def cd0 : Code := cL (cL (cR (cL (cR (cR (cB Try.f43))))))
def St2 (c16 : D4) : St := stL 19 [(3, .app 16 0)] [(16, .buf T36 c16 0 true)]
def l0s (Nx : D4 -> Int -> D4 -> Option α) (Xt0 : D4 -> Option α) (x6 : D4) (x7 : Int) (c16 : D4) : Option α :=
 if (decide (x7 < 4)) = true then
  if 0 <= x7 /\ x7 < (4 : Int) then
   if fitB (c16.length + 2) 8 = true then
    Nx x6 (IntKind.i64.wrap (x7 + 1)) (c16 ++ [(Int.tmod (List.getD x6 (Int.toNat x7) 0) 4294967296), (IntKind.u64.wrap (Int.tdiv (List.getD x6 (Int.toNat x7) 0) 4294967296))])
   else none
  else none
 else
  Xt0 c16
theorem l0s_eq (k : Nat) (next : St -> Option α) (Q : Ex -> St -> Option α) (x6 : D4) (x7 : Int) (c16 : D4) :
  rnd C k cd0 9 Q next (St1 x6 x7 c16) = l0s (fun x6 x7 c16 => next (St1 x6 x7 c16)) (fun c16 => Q (.exit 0) (St2 c16)) x6 x7 c16 := plainly Js (by kernel_rfl)
def l0 (k : Nat) (Xt0 : D4 -> Option α) : Nat -> D4 -> Int -> D4 -> Option α
 | 0, _, _, _ => none
 | n + 1, x6, x7, c16 => l0s (l0 k Xt0 n) Xt0 x6 x7 c16
theorem l0_eq (k : Nat) (Q : Ex -> St -> Option α) : ∀ (n : Nat) (x6 : D4) (x7 : Int) (c16 : D4), iter (rnd C k cd0 9 Q) n (St1 x6 x7 c16) = l0 k (fun c16 => Q (.exit 0) (St2 c16)) n x6 x7 c16
 | 0, _, _, _ => rfl
 | n + 1, x6, x7, c16 => (iter_succ _ _ _).trans ((l0s_eq k _ Q x6 x7 c16).trans (congrArg (fun N => l0s N (fun c16 => Q (.exit 0) (St2 c16)) x6 x7 c16) (by funext; exact l0_eq k Q n _ _ _)))
noncomputable def cd1 : Code := cR (cR (cR (cB Try.f43)))
def St3 (c16 : D4) : St := stL 19 [(3, .app 16 0)] [(16, .buf T36 c16 0 true)]
def St4 (c16 : D4) : St := stL 19 [(2, .app 16 0)] [(16, .buf T36 c16 0 true)]
def j0 (Rt : D4 -> Option α) (c16 : D4) : Option α :=
 Rt c16
theorem j0_eq (k : Nat) (Q : Ex -> St -> Option α) (c16 : D4) :
  (den C k) cd1 Q (St3 c16) = j0 (fun c16 => Q .ret (St4 c16)) c16 := plainly Js (by kernel_rfl)
theorem a0 (k : Nat) (Q : Ex -> St -> Option α) (x6 : D4) (x7 : Int) (c16 : D4) :
  (lp C k) cd0 (blkQ C 0 (sq (den C k) (lp C k) Js C cd1 Q)) (St1 x6 x7 c16) = l0 k (fun c16 => j0 (fun c16 => Q .ret (St4 c16)) c16) k x6 x7 c16 :=
 (lp_iter 9 (by kernel_rfl)).trans ((l0_eq k _ k x6 x7 c16).trans (congrArg (fun X => l0 k X k x6 x7 c16) (funext fun c16 => (Eq.trans (b := (den C k) cd1 Q (St3 c16)) (by kernel_rfl) (by simp only [j0_eq])))))
def top (k : Nat) (Rt : D4 -> Option α) (x0 : D4) : Option α :=
 l0 k (fun c16 => j0 Rt c16) k x0 0 []
theorem top_eq (k : Nat) (Q : Ex -> St -> Option α) (x0 : D4) :
  (den C k) (cB Try.f43) Q (St0 x0) = top k (fun c16 => Q .ret (St4 c16)) x0 := by
 have h : ∀ (D L : DT α), denJ D L Js C (cB Try.f43) Q (St0 x0) =
    L cd0 (blkQ C 0 (sq D L Js C cd1 Q)) (St1 x0 0 []) := by
  intro D L; kernel_rfl
 have h2 := via (k := k) h
 refine h2.trans ?_
 simp only [a0]
 first | rfl | kernel_rfl
def run (x0 : D4) : Option D4 := top (α := List Int) fuel (fun c16 => some c16) x0
def F : Fn := ⟨T65, T80, false, fun x => run x.1⟩
theorem con : Con Try.prog 43 F /\ Named Try.prog 43 :=
 con_of2 (C := C) (ctx_ok (by kernel_rfl) (by kernel_rfl) (by kernel_rfl) (by kernel_rfl) trivial) (by kernel_rfl) Try.func43 (by kernel_rfl) (c := cB Try.f43) (by kernel_rfl) (by kernel_rfl) F (fun x => by simp [F, spread, Try.ntmps43]) (fun x => (St0 x.1)) (fun x => by kernel_rfl) fun x => (top_eq fuel _ x.1).trans (by kernel_rfl)
end Go.Bx.basculeref_of
namespace Go.Bx.basculeref_plus
end Go.Bx.basculeref_plus
namespace Go.Bx.basculeref_less
end Go.Bx.basculeref_less
namespace Go.Bx.basculeref_compare
def Js : List Nat := [8, 10, 14]
def C : Ctx := ⟨[(3, T1), (22, T36), (84, T80)], [], [], fnL [], noSh, [], invL [], [(2, [4]), (1, []), (4, [0, 1, 5]), (6, [0, 1, 5]), (21, [0, 1, 5, 6, 7]), (27, [0, 1, 5, 6, 7]), (39, [])], [], [], 0, 0⟩
def St0 (x0 x1 : D4) : St := stL 40 [(0, .data T80 x0), (1, .data T80 x1)] []
def St1 (x0 x1 : D4) (x5 : Int) : St := stL 40 [(0, .data T80 x0), (1, .data T80 x1), (5, .data T1 x5)] []
noncomputable def cd0 : Code := cL (cL (cR (cL (cR (cB Try.f114)))))
def St2 (x0 x1 : D4) (x5 x6 x7 : Int) : St := stL 40 [(0, .data T80 x0), (1, .data T80 x1), (5, .data T1 x5), (6, .data T36 x6), (7, .data T36 x7)] []
noncomputable def cd1 : Code := cR (cR (cL (cL (cR (cL (cR (cB Try.f114)))))))
noncomputable def cd2 : Code := cR (cR (cL (cL (cR (cL (cL (cR (cL (cR (cB Try.f114))))))))))
def St3 (x0 x1 : D4) (x5 x6 x7 : Int) : St := stL 40 [(0, .data T80 x0), (1, .data T80 x1), (5, .data T1 x5), (6, .data T36 x6), (7, .data T36 x7)] []
noncomputable def cd3 : Code := cR (cR (cR (cL (cL (cR (cL (cL (cR (cL (cR (cB Try.f114)))))))))))
def St4 (x4 : Int) : St := stL 40 [(4, .data T1 x4)] []
def j1 (Nx : D4 -> D4 -> Int -> Option α) (Rt : Int -> Option α) (x0 x1 : D4) (x5 x6 x7 : Int) : Option α :=
 if (decide (x6 < x7)) = true then
  Rt (-1)
 else
  if (decide (x6 > x7)) = true then
   Rt 1
  else
   Nx x0 x1 (IntKind.i64.wrap (x5 - 1))
theorem j1_eq (k : Nat) (next : St -> Option α) (Q : Ex -> St -> Option α) (x0 x1 : D4) (x5 x6 x7 : Int) :
  (den C k) cd3 (blkQ C 1 (sq (den C k) (lp C k) Js C cd1 (lq C 6 next Q))) (St3 x0 x1 x5 x6 x7) = j1 (fun x0 x1 x5 => next (St1 x0 x1 x5)) (fun x4 => Q .ret (St4 x4)) x0 x1 x5 x6 x7 := plainly Js (by kernel_rfl)
def j0 (Nx : D4 -> D4 -> Int -> Option α) (Rt : Int -> Option α) (x0 x1 : D4) (x5 x6 x7 : Int) : Option α :=
 if (decide (x5 < (x1.length : Int))) = true then
  if 0 <= x5 /\ x5 < (x1.length : Int) then
   j1 Nx Rt x0 x1 x5 x6 (List.getD x1 (Int.toNat x5) 0)
  else none
 else
  j1 Nx Rt x0 x1 x5 x6 x7
theorem j0_eq (k : Nat) (next : St -> Option α) (Q : Ex -> St -> Option α) (x0 x1 : D4) (x5 x6 x7 : Int) :
  (den C k) cd2 (blkQ C 1 (sq (den C k) (lp C k) Js C cd1 (lq C 6 next Q))) (St2 x0 x1 x5 x6 x7) = j0 (fun x0 x1 x5 => next (St1 x0 x1 x5)) (fun x4 => Q .ret (St4 x4)) x0 x1 x5 x6 x7 := by
 have h : ∀ (D L : DT α), denJ D L Js C cd2 (blkQ C 1 (sq D L Js C cd1 (lq C 6 next Q))) (St2 x0 x1 x5 x6 x7) =
    if (decide (x5 < (x1.length : Int))) = true then
     if 0 <= x5 /\ x5 < (x1.length : Int) then
      D cd3 (blkQ C 1 (sq D L Js C cd1 (lq C 6 next Q))) (St3 x0 x1 x5 x6 (List.getD x1 (Int.toNat x5) 0))
     else none
    else
     D cd3 (blkQ C 1 (sq D L Js C cd1 (lq C 6 next Q))) (St3 x0 x1 x5 x6 x7) := by
  intro D L; kernel_rfl
 have h2 := via (k := k) h
 refine h2.trans ?_
 simp only [j1_eq]
 first | rfl | kernel_rfl
def St5 : St := stL 40 [] []
def l0s (Nx : D4 -> D4 -> Int -> Option α) (Rt : Int -> Option α) (Xt0 : Option α) (x0 x1 : D4) (x5 : Int) : Option α :=
 if (decide (x5 >= 0)) = true then
  if (decide (x5 < (x0.length : Int))) = true then
   if 0 <= x5 /\ x5 < (x0.length : Int) then
    j0 Nx Rt x0 x1 x5 (List.getD x0 (Int.toNat x5) 0) 0
   else none
  else
   j0 Nx Rt x0 x1 x5 0 0
 else
  Xt0
theorem l0s_eq (k : Nat) (next : St -> Option α) (Q : Ex -> St -> Option α) (x0 x1 : D4) (x5 : Int) :
  rnd C k cd0 6 Q next (St1 x0 x1 x5) = l0s (fun x0 x1 x5 => next (St1 x0 x1 x5)) (fun x4 => Q .ret (St4 x4)) (Q (.exit 0) St5) x0 x1 x5 := by
 have h : ∀ (D L : DT α), denJ D L Js C cd0 (lq C 6 next Q) (St1 x0 x1 x5) =
    if (decide (x5 >= 0)) = true then
     if (decide (x5 < (x0.length : Int))) = true then
      if 0 <= x5 /\ x5 < (x0.length : Int) then
       D cd2 (blkQ C 1 (sq D L Js C cd1 (lq C 6 next Q))) (St2 x0 x1 x5 (List.getD x0 (Int.toNat x5) 0) 0)
      else none
     else
      D cd2 (blkQ C 1 (sq D L Js C cd1 (lq C 6 next Q))) (St2 x0 x1 x5 0 0)
    else
     Q (.exit 0) St5 := by
  intro D L; kernel_rfl
 have h2 := via (k := k) h
 refine h2.trans ?_
 simp only [j0_eq]
 first | rfl | kernel_rfl
def l0 (k : Nat) (Rt : Int -> Option α) (Xt0 : Option α) : Nat -> D4 -> D4 -> Int -> Option α
 | 0, _, _, _ => none
 | n + 1, x0, x1, x5 => l0s (l0 k Rt Xt0 n) Rt Xt0 x0 x1 x5
theorem l0_eq (k : Nat) (Q : Ex -> St -> Option α) : ∀ (n : Nat) (x0 x1 : D4) (x5 : Int), iter (rnd C k cd0 6 Q) n (St1 x0 x1 x5) = l0 k (fun x4 => Q .ret (St4 x4)) (Q (.exit 0) St5) n x0 x1 x5
 | 0, _, _, _ => rfl
 | n + 1, x0, x1, x5 => (iter_succ _ _ _).trans ((l0s_eq k _ Q x0 x1 x5).trans (congrArg (fun N => l0s N (fun x4 => Q .ret (St4 x4)) (Q (.exit 0) St5) x0 x1 x5) (by funext; exact l0_eq k Q n _ _ _)))
theorem l0_congr (k : Nat) (Rt : Int -> Option α) (Xt0 : Option α) (Rtq : Int -> Option α) (Xt0q : Option α) (hRt : ∀ (x4 : Int), Rt x4 = Rtq x4) (hXt0 : Xt0 = Xt0q) (n : Nat) (x0 x1 : D4) (x5 : Int) : l0 k Rt Xt0 n x0 x1 x5 = l0 k Rtq Xt0q n x0 x1 x5 := by
 obtain rfl : Rt = Rtq := by funext x4; exact hRt x4
 obtain rfl : Xt0 = Xt0q := hXt0
 rfl
noncomputable def cd4 : Code := cR (cR (cB Try.f114))
def St6 : St := stL 40 [] []
def j2 (Rt : Int -> Option α) : Option α :=
 Rt 0
theorem j2_eq (k : Nat) (Q : Ex -> St -> Option α) :
  (den C k) cd4 Q St6 = j2 (fun x4 => Q .ret (St4 x4)) := plainly Js (by kernel_rfl)
theorem a0 (k : Nat) (Q : Ex -> St -> Option α) (x0 x1 : D4) (x5 : Int) :
  (lp C k) cd0 (blkQ C 0 (sq (den C k) (lp C k) Js C cd4 Q)) (St1 x0 x1 x5) = l0 k (fun x4 => (fun x4 => Q .ret (St4 x4)) x4) (j2 (fun x4 => Q .ret (St4 x4))) k x0 x1 x5 :=
 (lp_iter 6 (by kernel_rfl)).trans ((l0_eq k _ k x0 x1 x5).trans (l0_congr k _ _ _ _ (fun x4 => (by kernel_rfl)) (Eq.trans (b := (den C k) cd4 Q St6) (by kernel_rfl) (by simp only [j2_eq])) k x0 x1 x5))
def top (k : Nat) (Rt : Int -> Option α) (x0 x1 : D4) : Option α :=
 l0 k (fun x4 => Rt x4) (j2 Rt) k x0 x1 (IntKind.i64.wrap ((if (x1.length : Int) > (x0.length : Int) then (x1.length : Int) else (x0.length : Int)) - 1))
theorem top_eq (k : Nat) (Q : Ex -> St -> Option α) (x0 x1 : D4) :
  (den C k) (cB Try.f114) Q (St0 x0 x1) = top k (fun x4 => Q .ret (St4 x4)) x0 x1 := by
 have h : ∀ (D L : DT α), denJ D L Js C (cB Try.f114) Q (St0 x0 x1) =
    L cd0 (blkQ C 0 (sq D L Js C cd4 Q)) (St1 x0 x1 (IntKind.i64.wrap ((if (x1.length : Int) > (x0.length : Int) then (x1.length : Int) else (x0.length : Int)) - 1))) := by
  intro D L; kernel_rfl
 have h2 := via (k := k) h
 refine h2.trans ?_
 simp only [a0]
 first | rfl | kernel_rfl
def run (x0 x1 : D4) : Option (Int) := top (α := Int) fuel (fun x4 => some x4) x0 x1
def F : Fn := ⟨T81, T1, false, fun x => run x.1 x.2.1⟩
theorem con : Con Try.prog 114 F /\ Named Try.prog 114 :=
 con_of2 (C := C) (ctx_ok (by kernel_rfl) (by kernel_rfl) (by kernel_rfl) (by kernel_rfl) trivial) (by kernel_rfl) Try.func114 (by kernel_rfl) (c := cB Try.f114) (by kernel_rfl) (by kernel_rfl) F (fun x => by simp [F, spread, Try.ntmps114]) (fun x => (St0 x.1 x.2.1)) (fun x => by kernel_rfl) fun x => (top_eq fuel _ x.1 x.2.1).trans (by kernel_rfl)
end Go.Bx.basculeref_compare
