/- Go functions of this seat in their own words of Lean, each tied to its code by a contract. -/
import Derived.Test.YtbkkahkikjifkaaGBase
open Go Go.Proofs Go.Bx
set_option maxRecDepth 100000
set_option linter.unusedVariables false
variable {α : Type}
namespace Go.Bx.basculeref_upTo
def Js : List Nat := []
def C : Ctx := ⟨[(3, T1), (4, .bool)], [], [], fnL [], noSh, [], invL [], [(2, [4])], [], [], 0, 0⟩
def St0 (x0 x1 : Int) : St := stL 12 [(0, .data T1 x0), (1, .data T1 x1)] []
def St1 (x4 : Bool) : St := stL 12 [(4, .data .bool x4)] []
def top (Rt : Bool -> Option α) (x0 x1 : Int) : Option α :=
 Rt (cond (decide (0 <= x0)) (decide (x0 <= x1)) false)
theorem top_eq (k : Nat) (Q : Ex -> St -> Option α) (x0 x1 : Int) :
  (den C k) (cB Try.f149) Q (St0 x0 x1) = top (fun x4 => Q .ret (St1 x4)) x0 x1 := plainly Js (by kernel_rfl)
def run (x0 x1 : Int) : Option (Bool) := top (α := Bool) (fun x4 => some x4) x0 x1
def F : Fn := ⟨T34, .bool, false, fun x => run x.1 x.2.1⟩
theorem con : Con Try.prog 149 F /\ Named Try.prog 149 :=
 con_of2 (C := C) (ctx_ok (by kernel_rfl) (by kernel_rfl) (by kernel_rfl) (by kernel_rfl) trivial) (by kernel_rfl) Try.func149 (by kernel_rfl) (c := cB Try.f149) (by kernel_rfl) (by kernel_rfl) F (fun x => by simp [F, spread, Try.ntmps149]) (fun x => (St0 x.1 x.2.1)) (fun x => by kernel_rfl) fun x => (top_eq fuel _ x.1 x.2.1).trans (by kernel_rfl)
end Go.Bx.basculeref_upTo
namespace Go.Bx.gate_value
def Js : List Nat := []
def C : Ctx := ⟨[(3, T1), (4, .bool)], [], [], fnL [], noSh, [], invL [], [(2, [2])], [], [], 0, 0⟩
def St0 (x0 : Int) : St := stL 9 [(0, .data T1 x0)] []
def St1 (x2 : Bool) : St := stL 9 [(2, .data .bool x2)] []
def top (Rt : Bool -> Option α) (x0 : Int) : Option α :=
 Rt (cond (decide (x0 >= 0)) (decide (x0 <= 1073741824)) false)
theorem top_eq (k : Nat) (Q : Ex -> St -> Option α) (x0 : Int) :
  (den C k) (cB Try.f151) Q (St0 x0) = top (fun x2 => Q .ret (St1 x2)) x0 := plainly Js (by kernel_rfl)
def run (x0 : Int) : Option (Bool) := top (α := Bool) (fun x2 => some x2) x0
def F : Fn := ⟨T4, .bool, false, fun x => run x.1⟩
theorem con : Con Try.prog 151 F /\ Named Try.prog 151 :=
 con_of2 (C := C) (ctx_ok (by kernel_rfl) (by kernel_rfl) (by kernel_rfl) (by kernel_rfl) trivial) (by kernel_rfl) Try.func151 (by kernel_rfl) (c := cB Try.f151) (by kernel_rfl) (by kernel_rfl) F (fun x => by simp [F, spread, Try.ntmps151]) (fun x => (St0 x.1)) (fun x => by kernel_rfl) fun x => (top_eq fuel _ x.1).trans (by kernel_rfl)
end Go.Bx.gate_value
namespace Go.Bx.gate_Check
def Js : List Nat := [10, 20, 21]
def C : Ctx := ⟨[(3, T1), (25, T5), (26, T6), (28, T7), (35, T1), (165, T8)], [], [], fnL [(151, gate_value.F)], noSh, [], invL [], [(2, [2]), (7, [3]), (10, [1, 3, 5, 54, 55, 56]), (13, [1, 3, 5, 54, 55, 56]), (16, [1, 3, 5, 7, 54, 55, 56, 91, 92, 93]), (1, [1, 3]), (4, [1, 3, 28]), (15, [1, 3, 28]), (27, [1, 3]), (33, [1, 3, 5, 54, 55, 56]), (45, [1, 3, 5, 7, 54, 55, 56, 91, 92, 93]), (57, [1, 3, 5, 54, 55, 56]), (60, [3])], [], [50], 0, 0⟩
def St0 (x0 : D1) : St := stL 109 [(0, .data T7 x0)] []
def St1 (x2 : Int) : St := stL 109 [(2, .data T1 x2)] []
def St2 (x3 : Bool) (x28 : Int) (c1 : D1) : St := stL 109 [(1, .ref 1 0 []), (3, .data .bool x3), (28, .data T1 x28)] [(1, .cell T7 (.data T7 c1) false)]
noncomputable def cd0 : Code := cL (cL (cR (cL (cR (cR (cR (cB Try.f120)))))))
def St3 (x3 : Bool) (c1 : D1) : St := stL 109 [(1, .ref 1 0 []), (3, .data .bool x3)] [(1, .cell T7 (.data T7 c1) false)]
def l0s (Nx : Bool -> Int -> D1 -> Option α) (Xt0 : Bool -> D1 -> Option α) (x3 : Bool) (x28 : Int) (c1 : D1) : Option α :=
 if (decide (x28 < 3)) = true then
  cond (decide (0 <= x28 /\ x28 < (3 : Int)) || !(x3 == true)) (
   (if (x3 == true) = true then gate_value.run (List.getD c1.1 (Int.toNat x28) 0) else some false).bind fun y1 =>
   cond (decide (0 <= x28 /\ x28 < (3 : Int)) || !((cond x3 y1 false) == true)) (
    (if ((cond x3 y1 false) == true) = true then gate_value.run (List.getD c1.2.1 (Int.toNat x28) 0) else some false).bind fun y2 =>
    Nx (cond (cond x3 y1 false) y2 false) (IntKind.i64.wrap (x28 + 1)) c1) none) none
 else
  Xt0 x3 c1
theorem l0s_eq (k : Nat) (next : St -> Option α) (Q : Ex -> St -> Option α) (x3 : Bool) (x28 : Int) (c1 : D1) :
  rnd C k cd0 15 Q next (St2 x3 x28 c1) = l0s (fun x3 x28 c1 => next (St2 x3 x28 c1)) (fun x3 c1 => Q (.exit 0) (St3 x3 c1)) x3 x28 c1 := plainly Js (by kernel_rfl)
def l0 (k : Nat) (Xt0 : Bool -> D1 -> Option α) : Nat -> Bool -> Int -> D1 -> Option α
 | 0, _, _, _ => none
 | n + 1, x3, x28, c1 => l0s (l0 k Xt0 n) Xt0 x3 x28 c1
theorem l0_eq (k : Nat) (Q : Ex -> St -> Option α) : ∀ (n : Nat) (x3 : Bool) (x28 : Int) (c1 : D1), iter (rnd C k cd0 15 Q) n (St2 x3 x28 c1) = l0 k (fun x3 c1 => Q (.exit 0) (St3 x3 c1)) n x3 x28 c1
 | 0, _, _, _ => rfl
 | n + 1, x3, x28, c1 => (iter_succ _ _ _).trans ((l0s_eq k _ Q x3 x28 c1).trans (congrArg (fun N => l0s N (fun x3 c1 => Q (.exit 0) (St3 x3 c1)) x3 x28 c1) (by funext; exact l0_eq k Q n _ _ _)))
noncomputable def cd1 : Code := cR (cR (cR (cR (cB Try.f120))))
def St4 (x3 : Bool) (c1 : D1) : St := stL 109 [(1, .ref 1 0 []), (3, .data .bool x3)] [(1, .cell T7 (.data T7 c1) false)]
def St5 (x3 : Bool) (x55 x56 : Int) (c1 : D1) (c50 : D2) : St := stL 109 [(1, .ref 1 0 []), (3, .data .bool x3), (5, .app 50 0), (54, .app 50 0), (55, .data T1 x55), (56, .data T1 x56)] [(1, .cell T7 (.data T7 c1) false), (50, .buf T8 c50 0 true)]
noncomputable def cd2 : Code := cL (cL (cR (cL (cR (cR (cR (cR (cR (cB Try.f120)))))))))
def St6 (x3 : Bool) (x55 x56 : Int) (x91 : D2) (x92 x93 : Int) (c1 : D1) (c7 : D3) (c50 : D2) : St := stL 109 [(1, .ref 1 0 []), (3, .data .bool x3), (5, .app 50 0), (7, .ref 7 0 []), (54, .app 50 0), (55, .data T1 x55), (56, .data T1 x56), (91, .data T6 x91), (92, .data T1 x92), (93, .data T1 x93)] [(1, .cell T7 (.data T7 c1) false), (7, .cell T8 (.data T8 c7) false), (50, .buf T8 c50 0 true)]
noncomputable def cd3 : Code := cL (cL (cR (cR (cR (cL (cL (cR (cR (cL (cL (cR (cL (cR (cR (cR (cR (cR (cB Try.f120))))))))))))))))))
def St7 (x3 : Bool) (x55 x56 : Int) (c1 : D1) (c50 : D2) : St := stL 109 [(1, .ref 1 0 []), (3, .data .bool x3), (5, .app 50 0), (54, .app 50 0), (55, .data T1 x55), (56, .data T1 x56)] [(1, .cell T7 (.data T7 c1) false), (50, .buf T8 c50 0 true)]
def l2s (Nx : Bool -> Int -> Int -> D2 -> Int -> Int -> D1 -> D3 -> D2 -> Option α) (Xt4 : Bool -> Int -> Int -> D1 -> D2 -> Option α) (x3 : Bool) (x55 x56 : Int) (x91 : D2) (x92 x93 : Int) (c1 : D1) (c7 : D3) (c50 : D2) : Option α :=
 if (decide (x93 < x92)) = true then
  if 0 <= x93 /\ x93 < (x91.length : Int) then
   Nx (cond x3 (c7.1 != (List.getD x91 (Int.toNat x93) (0, 0, 0, 0, ())).1) false) x55 x56 x91 x92 (IntKind.i64.wrap (x93 + 1)) c1 c7 c50
  else none
 else
  Xt4 x3 x55 x56 c1 c50
theorem l2s_eq (k : Nat) (next : St -> Option α) (Q : Ex -> St -> Option α) (x3 : Bool) (x55 x56 : Int) (x91 : D2) (x92 x93 : Int) (c1 : D1) (c7 : D3) (c50 : D2) :
  rnd C k cd3 45 Q next (St6 x3 x55 x56 x91 x92 x93 c1 c7 c50) = l2s (fun x3 x55 x56 x91 x92 x93 c1 c7 c50 => next (St6 x3 x55 x56 x91 x92 x93 c1 c7 c50)) (fun x3 x55 x56 c1 c50 => Q (.exit 4) (St7 x3 x55 x56 c1 c50)) x3 x55 x56 x91 x92 x93 c1 c7 c50 := plainly Js (by kernel_rfl)
def l2 (k : Nat) (Xt4 : Bool -> Int -> Int -> D1 -> D2 -> Option α) : Nat -> Bool -> Int -> Int -> D2 -> Int -> Int -> D1 -> D3 -> D2 -> Option α
 | 0, _, _, _, _, _, _, _, _, _ => none
 | n + 1, x3, x55, x56, x91, x92, x93, c1, c7, c50 => l2s (l2 k Xt4 n) Xt4 x3 x55 x56 x91 x92 x93 c1 c7 c50
theorem l2_eq (k : Nat) (Q : Ex -> St -> Option α) : ∀ (n : Nat) (x3 : Bool) (x55 x56 : Int) (x91 : D2) (x92 x93 : Int) (c1 : D1) (c7 : D3) (c50 : D2), iter (rnd C k cd3 45 Q) n (St6 x3 x55 x56 x91 x92 x93 c1 c7 c50) = l2 k (fun x3 x55 x56 c1 c50 => Q (.exit 4) (St7 x3 x55 x56 c1 c50)) n x3 x55 x56 x91 x92 x93 c1 c7 c50
 | 0, _, _, _, _, _, _, _, _, _ => rfl
 | n + 1, x3, x55, x56, x91, x92, x93, c1, c7, c50 => (iter_succ _ _ _).trans ((l2s_eq k _ Q x3 x55 x56 x91 x92 x93 c1 c7 c50).trans (congrArg (fun N => l2s N (fun x3 x55 x56 c1 c50 => Q (.exit 4) (St7 x3 x55 x56 c1 c50)) x3 x55 x56 x91 x92 x93 c1 c7 c50) (by funext; exact l2_eq k Q n _ _ _ _ _ _ _ _ _)))
noncomputable def cd4 : Code := cR (cR (cR (cL (cL (cR (cL (cR (cR (cR (cR (cR (cB Try.f120))))))))))))
def St8 (x3 : Bool) (x55 x56 : Int) (c1 : D1) (c50 : D2) : St := stL 109 [(1, .ref 1 0 []), (3, .data .bool x3), (5, .app 50 0), (54, .app 50 0), (55, .data T1 x55), (56, .data T1 x56)] [(1, .cell T7 (.data T7 c1) false), (50, .buf T8 c50 0 true)]
def j1 (Nx : Bool -> Int -> Int -> D1 -> D2 -> Option α) (x3 : Bool) (x55 x56 : Int) (c1 : D1) (c50 : D2) : Option α :=
 Nx x3 x55 (IntKind.i64.wrap (x56 + 1)) c1 c50
theorem j1_eq (k : Nat) (next : St -> Option α) (Q : Ex -> St -> Option α) (x3 : Bool) (x55 x56 : Int) (c1 : D1) (c50 : D2) :
  (den C k) cd4 (lq C 33 next Q) (St8 x3 x55 x56 c1 c50) = j1 (fun x3 x55 x56 c1 c50 => next (St5 x3 x55 x56 c1 c50)) x3 x55 x56 c1 c50 := plainly Js (by kernel_rfl)
theorem a0 (k : Nat) (next : St -> Option α) (Q : Ex -> St -> Option α) (x3 : Bool) (x55 x56 : Int) (x91 : D2) (x92 x93 : Int) (c1 : D1) (c7 : D3) (c50 : D2) :
  (lp C k) cd3 (blkQ C 4 (blkQ C 3 (sq (den C k) (lp C k) Js C cd4 (lq C 33 next Q)))) (St6 x3 x55 x56 x91 x92 x93 c1 c7 c50) = l2 k (fun x3 x55 x56 c1 c50 => j1 (fun x3 x55 x56 c1 c50 => next (St5 x3 x55 x56 c1 c50)) x3 x55 x56 c1 c50) k x3 x55 x56 x91 x92 x93 c1 c7 c50 :=
 (lp_iter 45 (by kernel_rfl)).trans ((l2_eq k _ k x3 x55 x56 x91 x92 x93 c1 c7 c50).trans (congrArg (fun X => l2 k X k x3 x55 x56 x91 x92 x93 c1 c7 c50) (funext fun x3 => funext fun x55 => funext fun x56 => funext fun c1 => funext fun c50 => (Eq.trans (b := (den C k) cd4 (lq C 33 next Q) (St8 x3 x55 x56 c1 c50)) (by kernel_rfl) (by simp only [j1_eq])))))
def St9 (x3 : Bool) : St := stL 109 [(3, .data .bool x3)] []
def l1s (k : Nat) (Nx : Bool -> Int -> Int -> D1 -> D2 -> Option α) (Xt2 : Bool -> Option α) (x3 : Bool) (x55 x56 : Int) (c1 : D1) (c50 : D2) : Option α :=
 if (decide (x56 < x55)) = true then
  if 0 <= x56 /\ x56 < (c50.length : Int) then
   (if (x3 == true) = true then gate_value.run (List.getD c50 (Int.toNat x56) (0, 0, 0, 0, ())).2.1 else some false).bind fun y3 =>
   if 0 <= (0 : Int) /\ (0 : Int) <= x56 /\ x56 <= (c50.length : Int) then
    l2 k (fun x3 x55 x56 c1 c50 => j1 Nx x3 x55 x56 c1 c50) k (cond (cond (cond (cond (cond x3 y3 false) (decide ((List.getD c50 (Int.toNat x56) (0, 0, 0, 0, ())).2.2.1 >= 0)) false) (decide ((List.getD c50 (Int.toNat x56) (0, 0, 0, 0, ())).2.2.1 < 3)) false) (decide ((List.getD c50 (Int.toNat x56) (0, 0, 0, 0, ())).2.2.2.1 >= 0)) false) (decide ((List.getD c50 (Int.toNat x56) (0, 0, 0, 0, ())).2.2.2.1 <= c1.2.2.1)) false) x55 x56 (cutL c50 0 x56) ((cutL c50 0 x56).length : Int) 0 c1 (List.getD c50 (Int.toNat x56) (0, 0, 0, 0, ())) c50
   else none
  else none
 else
  Xt2 x3
theorem l1s_eq (k : Nat) (next : St -> Option α) (Q : Ex -> St -> Option α) (x3 : Bool) (x55 x56 : Int) (c1 : D1) (c50 : D2) :
  rnd C k cd2 33 Q next (St5 x3 x55 x56 c1 c50) = l1s k (fun x3 x55 x56 c1 c50 => next (St5 x3 x55 x56 c1 c50)) (fun x3 => Q (.exit 2) (St9 x3)) x3 x55 x56 c1 c50 := by
 have h : ∀ (D L : DT α), denJ D L Js C cd2 (lq C 33 next Q) (St5 x3 x55 x56 c1 c50) =
    if (decide (x56 < x55)) = true then
     if 0 <= x56 /\ x56 < (c50.length : Int) then
      (if (x3 == true) = true then gate_value.run (List.getD c50 (Int.toNat x56) (0, 0, 0, 0, ())).2.1 else some false).bind fun y3 =>
      if 0 <= (0 : Int) /\ (0 : Int) <= x56 /\ x56 <= (c50.length : Int) then
       L cd3 (blkQ C 4 (blkQ C 3 (sq D L Js C cd4 (lq C 33 next Q)))) (St6 (cond (cond (cond (cond (cond x3 y3 false) (decide ((List.getD c50 (Int.toNat x56) (0, 0, 0, 0, ())).2.2.1 >= 0)) false) (decide ((List.getD c50 (Int.toNat x56) (0, 0, 0, 0, ())).2.2.1 < 3)) false) (decide ((List.getD c50 (Int.toNat x56) (0, 0, 0, 0, ())).2.2.2.1 >= 0)) false) (decide ((List.getD c50 (Int.toNat x56) (0, 0, 0, 0, ())).2.2.2.1 <= c1.2.2.1)) false) x55 x56 (cutL c50 0 x56) ((cutL c50 0 x56).length : Int) 0 c1 (List.getD c50 (Int.toNat x56) (0, 0, 0, 0, ())) c50)
      else none
     else none
    else
     Q (.exit 2) (St9 x3) := by
  intro D L; kernel_rfl
 have h2 := via (k := k) h
 refine h2.trans ?_
 simp only [a0]
 first | rfl | kernel_rfl
def l1 (k : Nat) (Xt2 : Bool -> Option α) : Nat -> Bool -> Int -> Int -> D1 -> D2 -> Option α
 | 0, _, _, _, _, _ => none
 | n + 1, x3, x55, x56, c1, c50 => l1s k (l1 k Xt2 n) Xt2 x3 x55 x56 c1 c50
theorem l1_eq (k : Nat) (Q : Ex -> St -> Option α) : ∀ (n : Nat) (x3 : Bool) (x55 x56 : Int) (c1 : D1) (c50 : D2), iter (rnd C k cd2 33 Q) n (St5 x3 x55 x56 c1 c50) = l1 k (fun x3 => Q (.exit 2) (St9 x3)) n x3 x55 x56 c1 c50
 | 0, _, _, _, _, _ => rfl
 | n + 1, x3, x55, x56, c1, c50 => (iter_succ _ _ _).trans ((l1s_eq k _ Q x3 x55 x56 c1 c50).trans (congrArg (fun N => l1s k N (fun x3 => Q (.exit 2) (St9 x3)) x3 x55 x56 c1 c50) (by funext; exact l1_eq k Q n _ _ _ _ _)))
noncomputable def cd5 : Code := cR (cR (cR (cR (cR (cR (cB Try.f120))))))
def St10 (x3 : Bool) : St := stL 109 [(3, .data .bool x3)] []
def j2 (Rt : Int -> Option α) (x3 : Bool) : Option α :=
 if (not x3) = true then
  Rt 12
 else
  Rt 0
theorem j2_eq (k : Nat) (Q : Ex -> St -> Option α) (x3 : Bool) :
  (den C k) cd5 Q (St10 x3) = j2 (fun x2 => Q .ret (St1 x2)) x3 := plainly Js (by kernel_rfl)
theorem a1 (k : Nat) (Q : Ex -> St -> Option α) (x3 : Bool) (x55 x56 : Int) (c1 : D1) (c50 : D2) :
  (lp C k) cd2 (blkQ C 2 (sq (den C k) (lp C k) Js C cd5 Q)) (St5 x3 x55 x56 c1 c50) = l1 k (fun x3 => j2 (fun x2 => Q .ret (St1 x2)) x3) k x3 x55 x56 c1 c50 :=
 (lp_iter 33 (by kernel_rfl)).trans ((l1_eq k _ k x3 x55 x56 c1 c50).trans (congrArg (fun X => l1 k X k x3 x55 x56 c1 c50) (funext fun x3 => (Eq.trans (b := (den C k) cd5 Q (St10 x3)) (by kernel_rfl) (by simp only [j2_eq])))))
def j0 (k : Nat) (Rt : Int -> Option α) (x3 : Bool) (c1 : D1) : Option α :=
 if fitB (0 + c1.2.2.2.1.length) 32 = true then
  if fitB (c1.2.2.2.1.length + c1.2.2.2.2.1.length) 32 = true then
   l1 k (fun x3 => j2 Rt x3) k x3 ((c1.2.2.2.1 ++ c1.2.2.2.2.1).length : Int) 0 c1 (c1.2.2.2.1 ++ c1.2.2.2.2.1)
  else none
 else none
theorem j0_eq (k : Nat) (Q : Ex -> St -> Option α) (x3 : Bool) (c1 : D1) :
  (den C k) cd1 Q (St4 x3 c1) = j0 k (fun x2 => Q .ret (St1 x2)) x3 c1 := by
 have h : ∀ (D L : DT α), denJ D L Js C cd1 Q (St4 x3 c1) =
    if fitB (0 + c1.2.2.2.1.length) 32 = true then
     if fitB (c1.2.2.2.1.length + c1.2.2.2.2.1.length) 32 = true then
      L cd2 (blkQ C 2 (sq D L Js C cd5 Q)) (St5 x3 ((c1.2.2.2.1 ++ c1.2.2.2.2.1).length : Int) 0 c1 (c1.2.2.2.1 ++ c1.2.2.2.2.1))
     else none
    else none := by
  intro D L; kernel_rfl
 have h2 := via (k := k) h
 refine h2.trans ?_
 simp only [a1]
 first | rfl | kernel_rfl
theorem a2 (k : Nat) (Q : Ex -> St -> Option α) (x3 : Bool) (x28 : Int) (c1 : D1) :
  (lp C k) cd0 (blkQ C 0 (sq (den C k) (lp C k) Js C cd1 Q)) (St2 x3 x28 c1) = l0 k (fun x3 c1 => j0 k (fun x2 => Q .ret (St1 x2)) x3 c1) k x3 x28 c1 :=
 (lp_iter 15 (by kernel_rfl)).trans ((l0_eq k _ k x3 x28 c1).trans (congrArg (fun X => l0 k X k x3 x28 c1) (funext fun x3 => funext fun c1 => (Eq.trans (b := (den C k) cd1 Q (St4 x3 c1)) (by kernel_rfl) (by simp only [j0_eq])))))
def top (k : Nat) (Rt : Int -> Option α) (x0 : D1) : Option α :=
 if (cond (decide ((x0.2.2.2.1.length : Int) > 40)) true (decide ((x0.2.2.2.2.1.length : Int) > 40))) = true then
  Rt 1
 else
  l0 k (fun x3 c1 => j0 k Rt x3 c1) k (cond (decide (x0.2.2.1 >= 0)) (decide (x0.2.2.1 <= 1099511627776)) false) 0 x0
theorem top_eq (k : Nat) (Q : Ex -> St -> Option α) (x0 : D1) :
  (den C k) (cB Try.f120) Q (St0 x0) = top k (fun x2 => Q .ret (St1 x2)) x0 := by
 have h : ∀ (D L : DT α), denJ D L Js C (cB Try.f120) Q (St0 x0) =
    if (cond (decide ((x0.2.2.2.1.length : Int) > 40)) true (decide ((x0.2.2.2.2.1.length : Int) > 40))) = true then
     Q .ret (St1 1)
    else
     L cd0 (blkQ C 0 (sq D L Js C cd1 Q)) (St2 (cond (decide (x0.2.2.1 >= 0)) (decide (x0.2.2.1 <= 1099511627776)) false) 0 x0) := by
  intro D L; kernel_rfl
 have h2 := via (k := k) h
 refine h2.trans ?_
 simp only [a2]
 first | rfl | kernel_rfl
def run (x0 : D1) : Option (Int) := top (α := Int) fuel (fun x2 => some x2) x0
def F : Fn := ⟨T9, T1, false, fun x => run x.1⟩
theorem con : Con Try.prog 120 F /\ Named Try.prog 120 :=
 con_of2 (C := C) (ctx_ok (by kernel_rfl) (by kernel_rfl) (by kernel_rfl) (by kernel_rfl) ⟨.inl gate_value.con, trivial⟩) (by kernel_rfl) Try.func120 (by kernel_rfl) (c := cB Try.f120) (by kernel_rfl) (by kernel_rfl) F (fun x => by simp [F, spread, Try.ntmps120]) (fun x => (St0 x.1)) (fun x => by kernel_rfl) fun x => (top_eq fuel _ x.1).trans (by kernel_rfl)
end Go.Bx.gate_Check
namespace Go.Bx.basculeref_GateFault
def Js : List Nat := [10, 22, 23]
def C : Ctx := ⟨[(3, T1), (25, T5), (26, T6), (28, T7), (35, T1), (165, T8), (188, T35)], [], [(187, (3, 3))], fnL [(149, basculeref_upTo.F)], noSh, [], invL [], [(2, [2]), (7, [3, 5, 6]), (10, [1, 3, 5, 6, 48, 49, 50]), (13, [1, 3, 5, 6, 48, 49, 50]), (16, [1, 3, 5, 6, 48, 49, 50, 54, 55, 56]), (1, [1, 3]), (4, [1, 3, 24]), (15, [1, 3, 24]), (27, [1, 3]), (36, [1, 3, 5, 6, 48, 49, 50]), (45, [1, 3, 5, 6, 48, 49, 50, 54, 55, 56]), (63, [1, 3, 5, 6, 48, 49, 50]), (66, [3, 5, 6])], [], [], 0, 0⟩
def St0 (x0 : D1) : St := stL 95 [(0, .data T7 x0)] []
def St1 (x2 : Int) : St := stL 95 [(2, .data T1 x2)] []
def St2 (x3 : Bool) (x24 : Int) (c1 : D1) : St := stL 95 [(1, .ref 1 0 []), (3, .data .bool x3), (24, .data T1 x24)] [(1, .cell T7 (.data T7 c1) false)]
noncomputable def cd0 : Code := cL (cL (cR (cL (cR (cR (cR (cB Try.f129)))))))
def St3 (x3 : Bool) (c1 : D1) : St := stL 95 [(1, .ref 1 0 []), (3, .data .bool x3)] [(1, .cell T7 (.data T7 c1) false)]
def l0s (Nx : Bool -> Int -> D1 -> Option α) (Xt0 : Bool -> D1 -> Option α) (x3 : Bool) (x24 : Int) (c1 : D1) : Option α :=
 if (decide (x24 < 3)) = true then
  cond (decide (0 <= x24 /\ x24 < (3 : Int)) || !(x3 == true)) (
   (if (x3 == true) = true then basculeref_upTo.run (List.getD c1.1 (Int.toNat x24) 0) 1073741824 else some false).bind fun y2 =>
   cond (decide (0 <= x24 /\ x24 < (3 : Int)) || !((cond x3 y2 false) == true)) (
    (if ((cond x3 y2 false) == true) = true then basculeref_upTo.run (List.getD c1.2.1 (Int.toNat x24) 0) 1073741824 else some false).bind fun y3 =>
    Nx (cond (cond x3 y2 false) y3 false) (IntKind.i64.wrap (x24 + 1)) c1) none) none
 else
  Xt0 x3 c1
theorem l0s_eq (k : Nat) (next : St -> Option α) (Q : Ex -> St -> Option α) (x3 : Bool) (x24 : Int) (c1 : D1) :
  rnd C k cd0 15 Q next (St2 x3 x24 c1) = l0s (fun x3 x24 c1 => next (St2 x3 x24 c1)) (fun x3 c1 => Q (.exit 0) (St3 x3 c1)) x3 x24 c1 := plainly Js (by kernel_rfl)
def l0 (k : Nat) (Xt0 : Bool -> D1 -> Option α) : Nat -> Bool -> Int -> D1 -> Option α
 | 0, _, _, _ => none
 | n + 1, x3, x24, c1 => l0s (l0 k Xt0 n) Xt0 x3 x24 c1
theorem l0_eq (k : Nat) (Q : Ex -> St -> Option α) : ∀ (n : Nat) (x3 : Bool) (x24 : Int) (c1 : D1), iter (rnd C k cd0 15 Q) n (St2 x3 x24 c1) = l0 k (fun x3 c1 => Q (.exit 0) (St3 x3 c1)) n x3 x24 c1
 | 0, _, _, _ => rfl
 | n + 1, x3, x24, c1 => (iter_succ _ _ _).trans ((l0s_eq k _ Q x3 x24 c1).trans (congrArg (fun N => l0s N (fun x3 c1 => Q (.exit 0) (St3 x3 c1)) x3 x24 c1) (by funext; exact l0_eq k Q n _ _ _)))
noncomputable def cd1 : Code := cR (cR (cR (cR (cB Try.f129))))
def St4 (x3 : Bool) (c1 : D1) : St := stL 95 [(1, .ref 1 0 []), (3, .data .bool x3)] [(1, .cell T7 (.data T7 c1) false)]
def St5 (x3 : Bool) (x6 : Int) (x48 : D16) (x49 x50 : Int) (c1 : D1) (c43 : D17) : St := stL 95 [(1, .ref 1 0 []), (3, .data .bool x3), (5, .map 43), (6, .data T1 x6), (48, .full T6 x48), (49, .data T1 x49), (50, .data T1 x50)] [(1, .cell T7 (.data T7 c1) false), (43, .map T1 T1 c43)]
noncomputable def cd2 : Code := cL (cL (cR (cL (cR (cR (cR (cR (cR (cR (cB Try.f129))))))))))
def St6 (x3 : Bool) (x6 : Int) (x48 : D16) (x49 x50 : Int) (x54 : D2) (x55 x56 : Int) (c1 : D1) (c43 : D17) : St := stL 95 [(1, .ref 1 0 []), (3, .data .bool x3), (5, .map 43), (6, .data T1 x6), (48, .full T6 x48), (49, .data T1 x49), (50, .data T1 x50), (54, .data T6 x54), (55, .data T1 x55), (56, .data T1 x56)] [(1, .cell T7 (.data T7 c1) false), (43, .map T1 T1 c43)]
noncomputable def cd3 : Code := cL (cL (cR (cR (cL (cL (cR (cR (cL (cL (cR (cL (cR (cR (cR (cR (cR (cR (cB Try.f129))))))))))))))))))
def St7 (x3 : Bool) (x6 : Int) (x48 : D16) (x49 x50 : Int) (c1 : D1) (c43 : D17) : St := stL 95 [(1, .ref 1 0 []), (3, .data .bool x3), (5, .map 43), (6, .data T1 x6), (48, .full T6 x48), (49, .data T1 x49), (50, .data T1 x50)] [(1, .cell T7 (.data T7 c1) false), (43, .map T1 T1 c43)]
def l2s (Nx : Bool -> Int -> D16 -> Int -> Int -> D2 -> Int -> Int -> D1 -> D17 -> Option α) (Xt4 : Bool -> Int -> D16 -> Int -> Int -> D1 -> D17 -> Option α) (x3 : Bool) (x6 : Int) (x48 : D16) (x49 x50 : Int) (x54 : D2) (x55 x56 : Int) (c1 : D1) (c43 : D17) : Option α :=
 if (decide (x56 < x55)) = true then
  if 0 <= x56 /\ x56 < (x54.length : Int) then
   (if (x3 == true) = true then basculeref_upTo.run (List.getD x54 (Int.toNat x56) (0, 0, 0, 0, ())).2.1 1073741824 else some false).bind fun y4 =>
   (if ((cond x3 y4 false) == true) = true then basculeref_upTo.run (List.getD x54 (Int.toNat x56) (0, 0, 0, 0, ())).2.2.1 2 else some false).bind fun y5 =>
   (if ((cond (cond x3 y4 false) y5 false) == true) = true then basculeref_upTo.run (List.getD x54 (Int.toNat x56) (0, 0, 0, 0, ())).2.2.2.1 c1.2.2.1 else some false).bind fun y6 =>
   Nx (cond (cond (cond x3 y4 false) y5 false) y6 false) (IntKind.i64.wrap (x6 + 1)) x48 x49 x50 x54 x55 (IntKind.i64.wrap (x56 + 1)) c1 (setM (beqD T1) (List.getD x54 (Int.toNat x56) (0, 0, 0, 0, ())).1 (IntKind.i64.wrap ((getM (beqD T1) (List.getD x54 (Int.toNat x56) (0, 0, 0, 0, ())).1 0 c43) + 1)) c43)
  else none
 else
  Xt4 x3 x6 x48 x49 x50 c1 c43
theorem l2s_eq (k : Nat) (next : St -> Option α) (Q : Ex -> St -> Option α) (x3 : Bool) (x6 : Int) (x48 : D16) (x49 x50 : Int) (x54 : D2) (x55 x56 : Int) (c1 : D1) (c43 : D17) :
  rnd C k cd3 45 Q next (St6 x3 x6 x48 x49 x50 x54 x55 x56 c1 c43) = l2s (fun x3 x6 x48 x49 x50 x54 x55 x56 c1 c43 => next (St6 x3 x6 x48 x49 x50 x54 x55 x56 c1 c43)) (fun x3 x6 x48 x49 x50 c1 c43 => Q (.exit 4) (St7 x3 x6 x48 x49 x50 c1 c43)) x3 x6 x48 x49 x50 x54 x55 x56 c1 c43 := plainly Js (by kernel_rfl)
def l2 (k : Nat) (Xt4 : Bool -> Int -> D16 -> Int -> Int -> D1 -> D17 -> Option α) : Nat -> Bool -> Int -> D16 -> Int -> Int -> D2 -> Int -> Int -> D1 -> D17 -> Option α
 | 0, _, _, _, _, _, _, _, _, _, _ => none
 | n + 1, x3, x6, x48, x49, x50, x54, x55, x56, c1, c43 => l2s (l2 k Xt4 n) Xt4 x3 x6 x48 x49 x50 x54 x55 x56 c1 c43
theorem l2_eq (k : Nat) (Q : Ex -> St -> Option α) : ∀ (n : Nat) (x3 : Bool) (x6 : Int) (x48 : D16) (x49 x50 : Int) (x54 : D2) (x55 x56 : Int) (c1 : D1) (c43 : D17), iter (rnd C k cd3 45 Q) n (St6 x3 x6 x48 x49 x50 x54 x55 x56 c1 c43) = l2 k (fun x3 x6 x48 x49 x50 c1 c43 => Q (.exit 4) (St7 x3 x6 x48 x49 x50 c1 c43)) n x3 x6 x48 x49 x50 x54 x55 x56 c1 c43
 | 0, _, _, _, _, _, _, _, _, _, _ => rfl
 | n + 1, x3, x6, x48, x49, x50, x54, x55, x56, c1, c43 => (iter_succ _ _ _).trans ((l2s_eq k _ Q x3 x6 x48 x49 x50 x54 x55 x56 c1 c43).trans (congrArg (fun N => l2s N (fun x3 x6 x48 x49 x50 c1 c43 => Q (.exit 4) (St7 x3 x6 x48 x49 x50 c1 c43)) x3 x6 x48 x49 x50 x54 x55 x56 c1 c43) (by funext; exact l2_eq k Q n _ _ _ _ _ _ _ _ _ _)))
noncomputable def cd4 : Code := cR (cR (cR (cL (cL (cR (cL (cR (cR (cR (cR (cR (cR (cB Try.f129)))))))))))))
def St8 (x3 : Bool) (x6 : Int) (x48 : D16) (x49 x50 : Int) (c1 : D1) (c43 : D17) : St := stL 95 [(1, .ref 1 0 []), (3, .data .bool x3), (5, .map 43), (6, .data T1 x6), (48, .full T6 x48), (49, .data T1 x49), (50, .data T1 x50)] [(1, .cell T7 (.data T7 c1) false), (43, .map T1 T1 c43)]
def j1 (Nx : Bool -> Int -> D16 -> Int -> Int -> D1 -> D17 -> Option α) (x3 : Bool) (x6 : Int) (x48 : D16) (x49 x50 : Int) (c1 : D1) (c43 : D17) : Option α :=
 Nx x3 x6 x48 x49 (IntKind.i64.wrap (x50 + 1)) c1 c43
theorem j1_eq (k : Nat) (next : St -> Option α) (Q : Ex -> St -> Option α) (x3 : Bool) (x6 : Int) (x48 : D16) (x49 x50 : Int) (c1 : D1) (c43 : D17) :
  (den C k) cd4 (lq C 36 next Q) (St8 x3 x6 x48 x49 x50 c1 c43) = j1 (fun x3 x6 x48 x49 x50 c1 c43 => next (St5 x3 x6 x48 x49 x50 c1 c43)) x3 x6 x48 x49 x50 c1 c43 := plainly Js (by kernel_rfl)
theorem a0 (k : Nat) (next : St -> Option α) (Q : Ex -> St -> Option α) (x3 : Bool) (x6 : Int) (x48 : D16) (x49 x50 : Int) (x54 : D2) (x55 x56 : Int) (c1 : D1) (c43 : D17) :
  (lp C k) cd3 (blkQ C 4 (blkQ C 3 (sq (den C k) (lp C k) Js C cd4 (lq C 36 next Q)))) (St6 x3 x6 x48 x49 x50 x54 x55 x56 c1 c43) = l2 k (fun x3 x6 x48 x49 x50 c1 c43 => j1 (fun x3 x6 x48 x49 x50 c1 c43 => next (St5 x3 x6 x48 x49 x50 c1 c43)) x3 x6 x48 x49 x50 c1 c43) k x3 x6 x48 x49 x50 x54 x55 x56 c1 c43 :=
 (lp_iter 45 (by kernel_rfl)).trans ((l2_eq k _ k x3 x6 x48 x49 x50 x54 x55 x56 c1 c43).trans (congrArg (fun X => l2 k X k x3 x6 x48 x49 x50 x54 x55 x56 c1 c43) (funext fun x3 => funext fun x6 => funext fun x48 => funext fun x49 => funext fun x50 => funext fun c1 => funext fun c43 => (Eq.trans (b := (den C k) cd4 (lq C 36 next Q) (St8 x3 x6 x48 x49 x50 c1 c43)) (by kernel_rfl) (by simp only [j1_eq])))))
def St9 (x3 : Bool) (x6 : Int) (c43 : D17) : St := stL 95 [(3, .data .bool x3), (5, .map 43), (6, .data T1 x6)] [(43, .map T1 T1 c43)]
def l1s (k : Nat) (Nx : Bool -> Int -> D16 -> Int -> Int -> D1 -> D17 -> Option α) (Xt2 : Bool -> Int -> D17 -> Option α) (x3 : Bool) (x6 : Int) (x48 : D16) (x49 x50 : Int) (c1 : D1) (c43 : D17) : Option α :=
 if (decide (x50 < x49)) = true then
  if 0 <= x50 /\ x50 < (x48.length : Int) then
   l2 k (fun x3 x6 x48 x49 x50 c1 c43 => j1 Nx x3 x6 x48 x49 x50 c1 c43) k x3 x6 x48 x49 x50 (List.getD x48 (Int.toNat x50) []) ((List.getD x48 (Int.toNat x50) []).length : Int) 0 c1 c43
  else none
 else
  Xt2 x3 x6 c43
theorem l1s_eq (k : Nat) (next : St -> Option α) (Q : Ex -> St -> Option α) (x3 : Bool) (x6 : Int) (x48 : D16) (x49 x50 : Int) (c1 : D1) (c43 : D17) :
  rnd C k cd2 36 Q next (St5 x3 x6 x48 x49 x50 c1 c43) = l1s k (fun x3 x6 x48 x49 x50 c1 c43 => next (St5 x3 x6 x48 x49 x50 c1 c43)) (fun x3 x6 c43 => Q (.exit 2) (St9 x3 x6 c43)) x3 x6 x48 x49 x50 c1 c43 := by
 have h : ∀ (D L : DT α), denJ D L Js C cd2 (lq C 36 next Q) (St5 x3 x6 x48 x49 x50 c1 c43) =
    if (decide (x50 < x49)) = true then
     if 0 <= x50 /\ x50 < (x48.length : Int) then
      L cd3 (blkQ C 4 (blkQ C 3 (sq D L Js C cd4 (lq C 36 next Q)))) (St6 x3 x6 x48 x49 x50 (List.getD x48 (Int.toNat x50) []) ((List.getD x48 (Int.toNat x50) []).length : Int) 0 c1 c43)
     else none
    else
     Q (.exit 2) (St9 x3 x6 c43) := by
  intro D L; kernel_rfl
 have h2 := via (k := k) h
 refine h2.trans ?_
 simp only [a0]
 first | rfl | kernel_rfl
def l1 (k : Nat) (Xt2 : Bool -> Int -> D17 -> Option α) : Nat -> Bool -> Int -> D16 -> Int -> Int -> D1 -> D17 -> Option α
 | 0, _, _, _, _, _, _, _ => none
 | n + 1, x3, x6, x48, x49, x50, c1, c43 => l1s k (l1 k Xt2 n) Xt2 x3 x6 x48 x49 x50 c1 c43
theorem l1_eq (k : Nat) (Q : Ex -> St -> Option α) : ∀ (n : Nat) (x3 : Bool) (x6 : Int) (x48 : D16) (x49 x50 : Int) (c1 : D1) (c43 : D17), iter (rnd C k cd2 36 Q) n (St5 x3 x6 x48 x49 x50 c1 c43) = l1 k (fun x3 x6 c43 => Q (.exit 2) (St9 x3 x6 c43)) n x3 x6 x48 x49 x50 c1 c43
 | 0, _, _, _, _, _, _, _ => rfl
 | n + 1, x3, x6, x48, x49, x50, c1, c43 => (iter_succ _ _ _).trans ((l1s_eq k _ Q x3 x6 x48 x49 x50 c1 c43).trans (congrArg (fun N => l1s k N (fun x3 x6 c43 => Q (.exit 2) (St9 x3 x6 c43)) x3 x6 x48 x49 x50 c1 c43) (by funext; exact l1_eq k Q n _ _ _ _ _ _ _)))
noncomputable def cd5 : Code := cR (cR (cR (cR (cR (cR (cR (cB Try.f129)))))))
def St10 (x3 : Bool) (x6 : Int) (c43 : D17) : St := stL 95 [(3, .data .bool x3), (5, .map 43), (6, .data T1 x6)] [(43, .map T1 T1 c43)]
def j2 (Rt : Int -> Option α) (x3 : Bool) (x6 : Int) (c43 : D17) : Option α :=
 cond (decide (Nat.ble c43.length 9223372036854775807 = true) || !((not x3) == false)) (
  if (cond (not x3) true ((c43.length : Int) != x6)) = true then
   Rt 12
  else
   Rt 0) none
theorem j2_eq (k : Nat) (Q : Ex -> St -> Option α) (x3 : Bool) (x6 : Int) (c43 : D17) :
  (den C k) cd5 Q (St10 x3 x6 c43) = j2 (fun x2 => Q .ret (St1 x2)) x3 x6 c43 := plainly Js (by kernel_rfl)
theorem a1 (k : Nat) (Q : Ex -> St -> Option α) (x3 : Bool) (x6 : Int) (x48 : D16) (x49 x50 : Int) (c1 : D1) (c43 : D17) :
  (lp C k) cd2 (blkQ C 2 (sq (den C k) (lp C k) Js C cd5 Q)) (St5 x3 x6 x48 x49 x50 c1 c43) = l1 k (fun x3 x6 c43 => j2 (fun x2 => Q .ret (St1 x2)) x3 x6 c43) k x3 x6 x48 x49 x50 c1 c43 :=
 (lp_iter 36 (by kernel_rfl)).trans ((l1_eq k _ k x3 x6 x48 x49 x50 c1 c43).trans (congrArg (fun X => l1 k X k x3 x6 x48 x49 x50 c1 c43) (funext fun x3 => funext fun x6 => funext fun c43 => (Eq.trans (b := (den C k) cd5 Q (St10 x3 x6 c43)) (by kernel_rfl) (by simp only [j2_eq])))))
def j0 (k : Nat) (Rt : Int -> Option α) (x3 : Bool) (c1 : D1) : Option α :=
 l1 k (fun x3 x6 c43 => j2 Rt x3 x6 c43) k x3 0 [c1.2.2.2.1, c1.2.2.2.2.1] 2 0 c1 []
theorem j0_eq (k : Nat) (Q : Ex -> St -> Option α) (x3 : Bool) (c1 : D1) :
  (den C k) cd1 Q (St4 x3 c1) = j0 k (fun x2 => Q .ret (St1 x2)) x3 c1 := by
 have h : ∀ (D L : DT α), denJ D L Js C cd1 Q (St4 x3 c1) =
    L cd2 (blkQ C 2 (sq D L Js C cd5 Q)) (St5 x3 0 [c1.2.2.2.1, c1.2.2.2.2.1] 2 0 c1 []) := by
  intro D L; kernel_rfl
 have h2 := via (k := k) h
 refine h2.trans ?_
 simp only [a1]
 first | rfl | kernel_rfl
theorem a2 (k : Nat) (Q : Ex -> St -> Option α) (x3 : Bool) (x24 : Int) (c1 : D1) :
  (lp C k) cd0 (blkQ C 0 (sq (den C k) (lp C k) Js C cd1 Q)) (St2 x3 x24 c1) = l0 k (fun x3 c1 => j0 k (fun x2 => Q .ret (St1 x2)) x3 c1) k x3 x24 c1 :=
 (lp_iter 15 (by kernel_rfl)).trans ((l0_eq k _ k x3 x24 c1).trans (congrArg (fun X => l0 k X k x3 x24 c1) (funext fun x3 => funext fun c1 => (Eq.trans (b := (den C k) cd1 Q (St4 x3 c1)) (by kernel_rfl) (by simp only [j0_eq])))))
def top (k : Nat) (Rt : Int -> Option α) (x0 : D1) : Option α :=
 if (cond (decide ((x0.2.2.2.1.length : Int) > 40)) true (decide ((x0.2.2.2.2.1.length : Int) > 40))) = true then
  Rt 1
 else
  (basculeref_upTo.run x0.2.2.1 1099511627776).bind fun y1 =>
  l0 k (fun x3 c1 => j0 k Rt x3 c1) k y1 0 x0
theorem top_eq (k : Nat) (Q : Ex -> St -> Option α) (x0 : D1) :
  (den C k) (cB Try.f129) Q (St0 x0) = top k (fun x2 => Q .ret (St1 x2)) x0 := by
 have h : ∀ (D L : DT α), denJ D L Js C (cB Try.f129) Q (St0 x0) =
    if (cond (decide ((x0.2.2.2.1.length : Int) > 40)) true (decide ((x0.2.2.2.2.1.length : Int) > 40))) = true then
     Q .ret (St1 1)
    else
     (basculeref_upTo.run x0.2.2.1 1099511627776).bind fun y1 =>
     L cd0 (blkQ C 0 (sq D L Js C cd1 Q)) (St2 y1 0 x0) := by
  intro D L; kernel_rfl
 have h2 := via (k := k) h
 refine h2.trans ?_
 simp only [a2]
 first | rfl | kernel_rfl
def run (x0 : D1) : Option (Int) := top (α := Int) fuel (fun x2 => some x2) x0
def F : Fn := ⟨T9, T1, false, fun x => run x.1⟩
theorem con : Con Try.prog 129 F /\ Named Try.prog 129 :=
 con_of2 (C := C) (ctx_ok (by kernel_rfl) (by kernel_rfl) (by kernel_rfl) (by kernel_rfl) ⟨.inl basculeref_upTo.con, trivial⟩) (by kernel_rfl) Try.func129 (by kernel_rfl) (c := cB Try.f129) (by kernel_rfl) (by kernel_rfl) F (fun x => by simp [F, spread, Try.ntmps129]) (fun x => (St0 x.1)) (fun x => by kernel_rfl) fun x => (top_eq fuel _ x.1).trans (by kernel_rfl)
end Go.Bx.basculeref_GateFault
namespace Go.Bx.gate_used
def Js : List Nat := [8, 9]
def C : Ctx := ⟨[(3, T1), (26, T6), (28, T7), (165, T8)], [], [], fnL [], noSh, [], invL [], [(2, [4]), (1, [5]), (4, [1, 2, 5, 9, 10, 11]), (9, [1, 2, 5, 9, 10, 11]), (21, [1, 2, 5, 9, 10, 11]), (24, [5])], [], [], 0, 0⟩
def St0 (x0 : D1) (x1 : Int) : St := stL 33 [(0, .data T7 x0), (1, .data T1 x1)] []
def St1 (x1 x5 : Int) (x9 : D2) (x10 x11 : Int) (c2 : D1) : St := stL 33 [(1, .data T1 x1), (2, .ref 2 0 []), (5, .data T1 x5), (9, .data T6 x9), (10, .data T1 x10), (11, .data T1 x11)] [(2, .cell T7 (.data T7 c2) false)]
noncomputable def cd0 : Code := cL (cL (cR (cL (cR (cR (cB Try.f156))))))
def St2 (x1 x5 : Int) (x9 : D2) (x10 x11 : Int) (c2 : D1) : St := stL 33 [(1, .data T1 x1), (2, .ref 2 0 []), (5, .data T1 x5), (9, .data T6 x9), (10, .data T1 x10), (11, .data T1 x11)] [(2, .cell T7 (.data T7 c2) false)]
noncomputable def cd1 : Code := cR (cR (cR (cL (cL (cR (cL (cR (cR (cB Try.f156)))))))))
def j0 (Nx : Int -> Int -> D2 -> Int -> Int -> D1 -> Option α) (x1 x5 : Int) (x9 : D2) (x10 x11 : Int) (c2 : D1) : Option α :=
 Nx x1 x5 x9 x10 (IntKind.i64.wrap (x11 + 1)) c2
theorem j0_eq (k : Nat) (next : St -> Option α) (Q : Ex -> St -> Option α) (x1 x5 : Int) (x9 : D2) (x10 x11 : Int) (c2 : D1) :
  (den C k) cd1 (lq C 9 next Q) (St2 x1 x5 x9 x10 x11 c2) = j0 (fun x1 x5 x9 x10 x11 c2 => next (St1 x1 x5 x9 x10 x11 c2)) x1 x5 x9 x10 x11 c2 := plainly Js (by kernel_rfl)
def St3 (x5 : Int) : St := stL 33 [(5, .data T1 x5)] []
def l0s (Nx : Int -> Int -> D2 -> Int -> Int -> D1 -> Option α) (Xt0 : Int -> Option α) (x1 x5 : Int) (x9 : D2) (x10 x11 : Int) (c2 : D1) : Option α :=
 if (decide (x11 < x10)) = true then
  if 0 <= x11 /\ x11 < (x9.length : Int) then
   if (cond ((List.getD x9 (Int.toNat x11) (0, 0, 0, 0, ())).2.2.1 == x1) (decide ((IntKind.i64.wrap (c2.2.2.1 - (List.getD x9 (Int.toNat x11) (0, 0, 0, 0, ())).2.2.2.1)) < 24)) false) = true then
    j0 Nx x1 (IntKind.i64.wrap (x5 + (List.getD x9 (Int.toNat x11) (0, 0, 0, 0, ())).2.1)) x9 x10 x11 c2
   else
    j0 Nx x1 x5 x9 x10 x11 c2
  else none
 else
  Xt0 x5
theorem l0s_eq (k : Nat) (next : St -> Option α) (Q : Ex -> St -> Option α) (x1 x5 : Int) (x9 : D2) (x10 x11 : Int) (c2 : D1) :
  rnd C k cd0 9 Q next (St1 x1 x5 x9 x10 x11 c2) = l0s (fun x1 x5 x9 x10 x11 c2 => next (St1 x1 x5 x9 x10 x11 c2)) (fun x5 => Q (.exit 0) (St3 x5)) x1 x5 x9 x10 x11 c2 := by
 have h : ∀ (D L : DT α), denJ D L Js C cd0 (lq C 9 next Q) (St1 x1 x5 x9 x10 x11 c2) =
    if (decide (x11 < x10)) = true then
     if 0 <= x11 /\ x11 < (x9.length : Int) then
      if (cond ((List.getD x9 (Int.toNat x11) (0, 0, 0, 0, ())).2.2.1 == x1) (decide ((IntKind.i64.wrap (c2.2.2.1 - (List.getD x9 (Int.toNat x11) (0, 0, 0, 0, ())).2.2.2.1)) < 24)) false) = true then
       D cd1 (lq C 9 next Q) (St2 x1 (IntKind.i64.wrap (x5 + (List.getD x9 (Int.toNat x11) (0, 0, 0, 0, ())).2.1)) x9 x10 x11 c2)
      else
       D cd1 (lq C 9 next Q) (St2 x1 x5 x9 x10 x11 c2)
     else none
    else
     Q (.exit 0) (St3 x5) := by
  intro D L; kernel_rfl
 have h2 := via (k := k) h
 refine h2.trans ?_
 simp only [j0_eq]
 first | rfl | kernel_rfl
def l0 (k : Nat) (Xt0 : Int -> Option α) : Nat -> Int -> Int -> D2 -> Int -> Int -> D1 -> Option α
 | 0, _, _, _, _, _, _ => none
 | n + 1, x1, x5, x9, x10, x11, c2 => l0s (l0 k Xt0 n) Xt0 x1 x5 x9 x10 x11 c2
theorem l0_eq (k : Nat) (Q : Ex -> St -> Option α) : ∀ (n : Nat) (x1 x5 : Int) (x9 : D2) (x10 x11 : Int) (c2 : D1), iter (rnd C k cd0 9 Q) n (St1 x1 x5 x9 x10 x11 c2) = l0 k (fun x5 => Q (.exit 0) (St3 x5)) n x1 x5 x9 x10 x11 c2
 | 0, _, _, _, _, _, _ => rfl
 | n + 1, x1, x5, x9, x10, x11, c2 => (iter_succ _ _ _).trans ((l0s_eq k _ Q x1 x5 x9 x10 x11 c2).trans (congrArg (fun N => l0s N (fun x5 => Q (.exit 0) (St3 x5)) x1 x5 x9 x10 x11 c2) (by funext; exact l0_eq k Q n _ _ _ _ _ _)))
noncomputable def cd2 : Code := cR (cR (cR (cB Try.f156)))
def St4 (x5 : Int) : St := stL 33 [(5, .data T1 x5)] []
def St5 (x4 : Int) : St := stL 33 [(4, .data T1 x4)] []
def j1 (Rt : Int -> Option α) (x5 : Int) : Option α :=
 Rt x5
theorem j1_eq (k : Nat) (Q : Ex -> St -> Option α) (x5 : Int) :
  (den C k) cd2 Q (St4 x5) = j1 (fun x4 => Q .ret (St5 x4)) x5 := plainly Js (by kernel_rfl)
theorem a0 (k : Nat) (Q : Ex -> St -> Option α) (x1 x5 : Int) (x9 : D2) (x10 x11 : Int) (c2 : D1) :
  (lp C k) cd0 (blkQ C 0 (sq (den C k) (lp C k) Js C cd2 Q)) (St1 x1 x5 x9 x10 x11 c2) = l0 k (fun x5 => j1 (fun x4 => Q .ret (St5 x4)) x5) k x1 x5 x9 x10 x11 c2 :=
 (lp_iter 9 (by kernel_rfl)).trans ((l0_eq k _ k x1 x5 x9 x10 x11 c2).trans (congrArg (fun X => l0 k X k x1 x5 x9 x10 x11 c2) (funext fun x5 => (Eq.trans (b := (den C k) cd2 Q (St4 x5)) (by kernel_rfl) (by simp only [j1_eq])))))
def top (k : Nat) (Rt : Int -> Option α) (x0 : D1) (x1 : Int) : Option α :=
 l0 k (fun x5 => j1 Rt x5) k x1 0 x0.2.2.2.1 (x0.2.2.2.1.length : Int) 0 x0
theorem top_eq (k : Nat) (Q : Ex -> St -> Option α) (x0 : D1) (x1 : Int) :
  (den C k) (cB Try.f156) Q (St0 x0 x1) = top k (fun x4 => Q .ret (St5 x4)) x0 x1 := by
 have h : ∀ (D L : DT α), denJ D L Js C (cB Try.f156) Q (St0 x0 x1) =
    L cd0 (blkQ C 0 (sq D L Js C cd2 Q)) (St1 x1 0 x0.2.2.2.1 (x0.2.2.2.1.length : Int) 0 x0) := by
  intro D L; kernel_rfl
 have h2 := via (k := k) h
 refine h2.trans ?_
 simp only [a0]
 first | rfl | kernel_rfl
def run (x0 : D1) (x1 : Int) : Option (Int) := top (α := Int) fuel (fun x4 => some x4) x0 x1
def F : Fn := ⟨T10, T1, false, fun x => run x.1 x.2.1⟩
theorem con : Con Try.prog 156 F /\ Named Try.prog 156 :=
 con_of2 (C := C) (ctx_ok (by kernel_rfl) (by kernel_rfl) (by kernel_rfl) (by kernel_rfl) trivial) (by kernel_rfl) Try.func156 (by kernel_rfl) (c := cB Try.f156) (by kernel_rfl) (by kernel_rfl) F (fun x => by simp [F, spread, Try.ntmps156]) (fun x => (St0 x.1 x.2.1)) (fun x => by kernel_rfl) fun x => (top_eq fuel _ x.1 x.2.1).trans (by kernel_rfl)
end Go.Bx.gate_used
namespace Go.Bx.gate_fits
def Js : List Nat := []
def C : Ctx := ⟨[(3, T1), (4, .bool), (25, T5), (26, T6), (28, T7), (165, T8)], [], [], fnL [(156, gate_used.F)], noSh, [], invL [], [(2, [4])], [], [], 0, 0⟩
def St0 (x0 : D1) (x1 : D3) : St := stL 34 [(0, .data T7 x0), (1, .data T8 x1)] []
def St1 (x4 : Bool) : St := stL 34 [(4, .data .bool x4)] []
def top (Rt : Bool -> Option α) (x0 : D1) (x1 : D3) : Option α :=
 if 0 <= x1.2.2.1 /\ x1.2.2.1 < (3 : Int) then
  (if ((decide (x1.2.1 < (List.getD x0.2.1 (Int.toNat x1.2.2.1) 0))) == true) = true then gate_used.run x0 x1.2.2.1 else some 0).bind fun y1 =>
  cond (decide (0 <= x1.2.2.1 /\ x1.2.2.1 < (3 : Int)) || !((decide (x1.2.1 < (List.getD x0.2.1 (Int.toNat x1.2.2.1) 0))) == true)) (
   Rt (cond (cond (decide (x1.2.1 < (List.getD x0.2.1 (Int.toNat x1.2.2.1) 0))) (decide ((IntKind.i64.wrap (y1 + x1.2.1)) <= (List.getD x0.1 (Int.toNat x1.2.2.1) 0))) false) (decide ((x0.2.2.2.1.length : Int) < 40)) false)) none
 else none
theorem top_eq (k : Nat) (Q : Ex -> St -> Option α) (x0 : D1) (x1 : D3) :
  (den C k) (cB Try.f134) Q (St0 x0 x1) = top (fun x4 => Q .ret (St1 x4)) x0 x1 := plainly Js (by kernel_rfl)
def run (x0 : D1) (x1 : D3) : Option (Bool) := top (α := Bool) (fun x4 => some x4) x0 x1
def F : Fn := ⟨T11, .bool, false, fun x => run x.1 x.2.1⟩
theorem con : Con Try.prog 134 F /\ Named Try.prog 134 :=
 con_of2 (C := C) (ctx_ok (by kernel_rfl) (by kernel_rfl) (by kernel_rfl) (by kernel_rfl) ⟨.inl gate_used.con, trivial⟩) (by kernel_rfl) Try.func134 (by kernel_rfl) (c := cB Try.f134) (by kernel_rfl) (by kernel_rfl) F (fun x => by simp [F, spread, Try.ntmps134]) (fun x => (St0 x.1 x.2.1)) (fun x => by kernel_rfl) fun x => (top_eq fuel _ x.1 x.2.1).trans (by kernel_rfl)
end Go.Bx.gate_fits
namespace Go.Bx.basculeref_passes
def Js : List Nat := [8, 9]
def C : Ctx := ⟨[(3, T1), (4, .bool), (25, T5), (26, T6), (28, T7), (165, T8)], [], [], fnL [], noSh, [], invL [], [(2, [4]), (1, [2, 3, 5]), (4, [2, 3, 5, 11, 12, 13]), (9, [2, 3, 5, 11, 12, 13]), (21, [2, 3, 5, 11, 12, 13]), (24, [2, 3, 5])], [], [], 0, 0⟩
def St0 (x0 : D1) (x1 : D3) : St := stL 58 [(0, .data T7 x0), (1, .data T8 x1)] []
def St1 (x5 : Int) (x11 : D2) (x12 x13 : Int) (c2 : D1) (c3 : D3) : St := stL 58 [(2, .ref 2 0 []), (3, .ref 3 0 []), (5, .data T1 x5), (11, .data T6 x11), (12, .data T1 x12), (13, .data T1 x13)] [(2, .cell T7 (.data T7 c2) false), (3, .cell T8 (.data T8 c3) false)]
noncomputable def cd0 : Code := cL (cL (cR (cL (cR (cR (cB Try.f135))))))
def St2 (x5 : Int) (x11 : D2) (x12 x13 : Int) (c2 : D1) (c3 : D3) : St := stL 58 [(2, .ref 2 0 []), (3, .ref 3 0 []), (5, .data T1 x5), (11, .data T6 x11), (12, .data T1 x12), (13, .data T1 x13)] [(2, .cell T7 (.data T7 c2) false), (3, .cell T8 (.data T8 c3) false)]
noncomputable def cd1 : Code := cR (cR (cR (cL (cL (cR (cL (cR (cR (cB Try.f135)))))))))
def j0 (Nx : Int -> D2 -> Int -> Int -> D1 -> D3 -> Option α) (x5 : Int) (x11 : D2) (x12 x13 : Int) (c2 : D1) (c3 : D3) : Option α :=
 Nx x5 x11 x12 (IntKind.i64.wrap (x13 + 1)) c2 c3
theorem j0_eq (k : Nat) (next : St -> Option α) (Q : Ex -> St -> Option α) (x5 : Int) (x11 : D2) (x12 x13 : Int) (c2 : D1) (c3 : D3) :
  (den C k) cd1 (lq C 9 next Q) (St2 x5 x11 x12 x13 c2 c3) = j0 (fun x5 x11 x12 x13 c2 c3 => next (St1 x5 x11 x12 x13 c2 c3)) x5 x11 x12 x13 c2 c3 := plainly Js (by kernel_rfl)
def St3 (x5 : Int) (c2 : D1) (c3 : D3) : St := stL 58 [(2, .ref 2 0 []), (3, .ref 3 0 []), (5, .data T1 x5)] [(2, .cell T7 (.data T7 c2) false), (3, .cell T8 (.data T8 c3) false)]
def l0s (Nx : Int -> D2 -> Int -> Int -> D1 -> D3 -> Option α) (Xt0 : Int -> D1 -> D3 -> Option α) (x5 : Int) (x11 : D2) (x12 x13 : Int) (c2 : D1) (c3 : D3) : Option α :=
 if (decide (x13 < x12)) = true then
  if 0 <= x13 /\ x13 < (x11.length : Int) then
   if (cond ((List.getD x11 (Int.toNat x13) (0, 0, 0, 0, ())).2.2.1 == c3.2.2.1) (decide ((IntKind.i64.wrap ((List.getD x11 (Int.toNat x13) (0, 0, 0, 0, ())).2.2.2.1 + 24)) > c2.2.2.1)) false) = true then
    j0 Nx (IntKind.i64.wrap (x5 + (List.getD x11 (Int.toNat x13) (0, 0, 0, 0, ())).2.1)) x11 x12 x13 c2 c3
   else
    j0 Nx x5 x11 x12 x13 c2 c3
  else none
 else
  Xt0 x5 c2 c3
theorem l0s_eq (k : Nat) (next : St -> Option α) (Q : Ex -> St -> Option α) (x5 : Int) (x11 : D2) (x12 x13 : Int) (c2 : D1) (c3 : D3) :
  rnd C k cd0 9 Q next (St1 x5 x11 x12 x13 c2 c3) = l0s (fun x5 x11 x12 x13 c2 c3 => next (St1 x5 x11 x12 x13 c2 c3)) (fun x5 c2 c3 => Q (.exit 0) (St3 x5 c2 c3)) x5 x11 x12 x13 c2 c3 := by
 have h : ∀ (D L : DT α), denJ D L Js C cd0 (lq C 9 next Q) (St1 x5 x11 x12 x13 c2 c3) =
    if (decide (x13 < x12)) = true then
     if 0 <= x13 /\ x13 < (x11.length : Int) then
      if (cond ((List.getD x11 (Int.toNat x13) (0, 0, 0, 0, ())).2.2.1 == c3.2.2.1) (decide ((IntKind.i64.wrap ((List.getD x11 (Int.toNat x13) (0, 0, 0, 0, ())).2.2.2.1 + 24)) > c2.2.2.1)) false) = true then
       D cd1 (lq C 9 next Q) (St2 (IntKind.i64.wrap (x5 + (List.getD x11 (Int.toNat x13) (0, 0, 0, 0, ())).2.1)) x11 x12 x13 c2 c3)
      else
       D cd1 (lq C 9 next Q) (St2 x5 x11 x12 x13 c2 c3)
     else none
    else
     Q (.exit 0) (St3 x5 c2 c3) := by
  intro D L; kernel_rfl
 have h2 := via (k := k) h
 refine h2.trans ?_
 simp only [j0_eq]
 first | rfl | kernel_rfl
def l0 (k : Nat) (Xt0 : Int -> D1 -> D3 -> Option α) : Nat -> Int -> D2 -> Int -> Int -> D1 -> D3 -> Option α
 | 0, _, _, _, _, _, _ => none
 | n + 1, x5, x11, x12, x13, c2, c3 => l0s (l0 k Xt0 n) Xt0 x5 x11 x12 x13 c2 c3
theorem l0_eq (k : Nat) (Q : Ex -> St -> Option α) : ∀ (n : Nat) (x5 : Int) (x11 : D2) (x12 x13 : Int) (c2 : D1) (c3 : D3), iter (rnd C k cd0 9 Q) n (St1 x5 x11 x12 x13 c2 c3) = l0 k (fun x5 c2 c3 => Q (.exit 0) (St3 x5 c2 c3)) n x5 x11 x12 x13 c2 c3
 | 0, _, _, _, _, _, _ => rfl
 | n + 1, x5, x11, x12, x13, c2, c3 => (iter_succ _ _ _).trans ((l0s_eq k _ Q x5 x11 x12 x13 c2 c3).trans (congrArg (fun N => l0s N (fun x5 c2 c3 => Q (.exit 0) (St3 x5 c2 c3)) x5 x11 x12 x13 c2 c3) (by funext; exact l0_eq k Q n _ _ _ _ _ _)))
noncomputable def cd2 : Code := cR (cR (cR (cB Try.f135)))
def St4 (x5 : Int) (c2 : D1) (c3 : D3) : St := stL 58 [(2, .ref 2 0 []), (3, .ref 3 0 []), (5, .data T1 x5)] [(2, .cell T7 (.data T7 c2) false), (3, .cell T8 (.data T8 c3) false)]
def St5 (x4 : Bool) : St := stL 58 [(4, .data .bool x4)] []
def j1 (Rt : Bool -> Option α) (x5 : Int) (c2 : D1) (c3 : D3) : Option α :=
 if 0 <= c3.2.2.1 /\ c3.2.2.1 < (3 : Int) then
  cond (decide (0 <= c3.2.2.1 /\ c3.2.2.1 < (3 : Int)) || !((decide (c3.2.1 < (List.getD c2.2.1 (Int.toNat c3.2.2.1) 0))) == true)) (
   Rt (cond (cond (decide (c3.2.1 < (List.getD c2.2.1 (Int.toNat c3.2.2.1) 0))) (decide (x5 <= (List.getD c2.1 (Int.toNat c3.2.2.1) 0))) false) (decide ((c2.2.2.2.1.length : Int) < 40)) false)) none
 else none
theorem j1_eq (k : Nat) (Q : Ex -> St -> Option α) (x5 : Int) (c2 : D1) (c3 : D3) :
  (den C k) cd2 Q (St4 x5 c2 c3) = j1 (fun x4 => Q .ret (St5 x4)) x5 c2 c3 := plainly Js (by kernel_rfl)
theorem a0 (k : Nat) (Q : Ex -> St -> Option α) (x5 : Int) (x11 : D2) (x12 x13 : Int) (c2 : D1) (c3 : D3) :
  (lp C k) cd0 (blkQ C 0 (sq (den C k) (lp C k) Js C cd2 Q)) (St1 x5 x11 x12 x13 c2 c3) = l0 k (fun x5 c2 c3 => j1 (fun x4 => Q .ret (St5 x4)) x5 c2 c3) k x5 x11 x12 x13 c2 c3 :=
 (lp_iter 9 (by kernel_rfl)).trans ((l0_eq k _ k x5 x11 x12 x13 c2 c3).trans (congrArg (fun X => l0 k X k x5 x11 x12 x13 c2 c3) (funext fun x5 => funext fun c2 => funext fun c3 => (Eq.trans (b := (den C k) cd2 Q (St4 x5 c2 c3)) (by kernel_rfl) (by simp only [j1_eq])))))
def top (k : Nat) (Rt : Bool -> Option α) (x0 : D1) (x1 : D3) : Option α :=
 l0 k (fun x5 c2 c3 => j1 Rt x5 c2 c3) k x1.2.1 x0.2.2.2.1 (x0.2.2.2.1.length : Int) 0 x0 x1
theorem top_eq (k : Nat) (Q : Ex -> St -> Option α) (x0 : D1) (x1 : D3) :
  (den C k) (cB Try.f135) Q (St0 x0 x1) = top k (fun x4 => Q .ret (St5 x4)) x0 x1 := by
 have h : ∀ (D L : DT α), denJ D L Js C (cB Try.f135) Q (St0 x0 x1) =
    L cd0 (blkQ C 0 (sq D L Js C cd2 Q)) (St1 x1.2.1 x0.2.2.2.1 (x0.2.2.2.1.length : Int) 0 x0 x1) := by
  intro D L; kernel_rfl
 have h2 := via (k := k) h
 refine h2.trans ?_
 simp only [a0]
 first | rfl | kernel_rfl
def run (x0 : D1) (x1 : D3) : Option (Bool) := top (α := Bool) fuel (fun x4 => some x4) x0 x1
def F : Fn := ⟨T11, .bool, false, fun x => run x.1 x.2.1⟩
theorem con : Con Try.prog 135 F /\ Named Try.prog 135 :=
 con_of2 (C := C) (ctx_ok (by kernel_rfl) (by kernel_rfl) (by kernel_rfl) (by kernel_rfl) trivial) (by kernel_rfl) Try.func135 (by kernel_rfl) (c := cB Try.f135) (by kernel_rfl) (by kernel_rfl) F (fun x => by simp [F, spread, Try.ntmps135]) (fun x => (St0 x.1 x.2.1)) (fun x => by kernel_rfl) fun x => (top_eq fuel _ x.1 x.2.1).trans (by kernel_rfl)
end Go.Bx.basculeref_passes
namespace Go.Bx.basculelaw_sameQueue
def Js : List Nat := [10]
def C : Ctx := ⟨[(4, .bool), (26, T6), (165, T8)], [], [], fnL [], noSh, [], invL [], [(2, [4]), (1, []), (4, [0, 1, 12, 13]), (12, [0, 1, 12, 13]), (27, [])], [], [], 0, 0⟩
def St0 (x0 x1 : D2) : St := stL 26 [(0, .data T6 x0), (1, .data T6 x1)] []
def St1 (x4 : Bool) : St := stL 26 [(4, .data .bool x4)] []
def St2 (x0 x1 : D2) (x12 x13 : Int) : St := stL 26 [(0, .data T6 x0), (1, .data T6 x1), (12, .data T1 x12), (13, .data T1 x13)] []
noncomputable def cd0 : Code := cL (cL (cR (cL (cR (cR (cB Try.f79))))))
def St3 : St := stL 26 [] []
def l0s (Nx : D2 -> D2 -> Int -> Int -> Option α) (Rt : Bool -> Option α) (Xt0 : Option α) (x0 x1 : D2) (x12 x13 : Int) : Option α :=
 if (decide (x13 < x12)) = true then
  if 0 <= x13 /\ x13 < (x0.length : Int) then
   if 0 <= x13 /\ x13 < (x1.length : Int) then
    if (not (beqD T8 (List.getD x0 (Int.toNat x13) (0, 0, 0, 0, ())) (List.getD x1 (Int.toNat x13) (0, 0, 0, 0, ())))) = true then
     Rt false
    else
     Nx x0 x1 x12 (IntKind.i64.wrap (x13 + 1))
   else none
  else none
 else
  Xt0
theorem l0s_eq (k : Nat) (next : St -> Option α) (Q : Ex -> St -> Option α) (x0 x1 : D2) (x12 x13 : Int) :
  rnd C k cd0 12 Q next (St2 x0 x1 x12 x13) = l0s (fun x0 x1 x12 x13 => next (St2 x0 x1 x12 x13)) (fun x4 => Q .ret (St1 x4)) (Q (.exit 0) St3) x0 x1 x12 x13 := plainly Js (by kernel_rfl)
def l0 (k : Nat) (Rt : Bool -> Option α) (Xt0 : Option α) : Nat -> D2 -> D2 -> Int -> Int -> Option α
 | 0, _, _, _, _ => none
 | n + 1, x0, x1, x12, x13 => l0s (l0 k Rt Xt0 n) Rt Xt0 x0 x1 x12 x13
theorem l0_eq (k : Nat) (Q : Ex -> St -> Option α) : ∀ (n : Nat) (x0 x1 : D2) (x12 x13 : Int), iter (rnd C k cd0 12 Q) n (St2 x0 x1 x12 x13) = l0 k (fun x4 => Q .ret (St1 x4)) (Q (.exit 0) St3) n x0 x1 x12 x13
 | 0, _, _, _, _ => rfl
 | n + 1, x0, x1, x12, x13 => (iter_succ _ _ _).trans ((l0s_eq k _ Q x0 x1 x12 x13).trans (congrArg (fun N => l0s N (fun x4 => Q .ret (St1 x4)) (Q (.exit 0) St3) x0 x1 x12 x13) (by funext; exact l0_eq k Q n _ _ _ _)))
theorem l0_congr (k : Nat) (Rt : Bool -> Option α) (Xt0 : Option α) (Rtq : Bool -> Option α) (Xt0q : Option α) (hRt : ∀ (x4 : Bool), Rt x4 = Rtq x4) (hXt0 : Xt0 = Xt0q) (n : Nat) (x0 x1 : D2) (x12 x13 : Int) : l0 k Rt Xt0 n x0 x1 x12 x13 = l0 k Rtq Xt0q n x0 x1 x12 x13 := by
 obtain rfl : Rt = Rtq := by funext x4; exact hRt x4
 obtain rfl : Xt0 = Xt0q := hXt0
 rfl
noncomputable def cd1 : Code := cR (cR (cR (cB Try.f79)))
def St4 : St := stL 26 [] []
def j0 (Rt : Bool -> Option α) : Option α :=
 Rt true
theorem j0_eq (k : Nat) (Q : Ex -> St -> Option α) :
  (den C k) cd1 Q St4 = j0 (fun x4 => Q .ret (St1 x4)) := plainly Js (by kernel_rfl)
theorem a0 (k : Nat) (Q : Ex -> St -> Option α) (x0 x1 : D2) (x12 x13 : Int) :
  (lp C k) cd0 (blkQ C 0 (sq (den C k) (lp C k) Js C cd1 Q)) (St2 x0 x1 x12 x13) = l0 k (fun x4 => (fun x4 => Q .ret (St1 x4)) x4) (j0 (fun x4 => Q .ret (St1 x4))) k x0 x1 x12 x13 :=
 (lp_iter 12 (by kernel_rfl)).trans ((l0_eq k _ k x0 x1 x12 x13).trans (l0_congr k _ _ _ _ (fun x4 => (by kernel_rfl)) (Eq.trans (b := (den C k) cd1 Q St4) (by kernel_rfl) (by simp only [j0_eq])) k x0 x1 x12 x13))
def top (k : Nat) (Rt : Bool -> Option α) (x0 x1 : D2) : Option α :=
 if ((x0.length : Int) != (x1.length : Int)) = true then
  Rt false
 else
  l0 k (fun x4 => Rt x4) (j0 Rt) k x0 x1 (x0.length : Int) 0
theorem top_eq (k : Nat) (Q : Ex -> St -> Option α) (x0 x1 : D2) :
  (den C k) (cB Try.f79) Q (St0 x0 x1) = top k (fun x4 => Q .ret (St1 x4)) x0 x1 := by
 have h : ∀ (D L : DT α), denJ D L Js C (cB Try.f79) Q (St0 x0 x1) =
    if ((x0.length : Int) != (x1.length : Int)) = true then
     Q .ret (St1 false)
    else
     L cd0 (blkQ C 0 (sq D L Js C cd1 Q)) (St2 x0 x1 (x0.length : Int) 0) := by
  intro D L; kernel_rfl
 have h2 := via (k := k) h
 refine h2.trans ?_
 simp only [a0]
 first | rfl | kernel_rfl
def run (x0 x1 : D2) : Option (Bool) := top (α := Bool) fuel (fun x4 => some x4) x0 x1
def F : Fn := ⟨T40, .bool, false, fun x => run x.1 x.2.1⟩
theorem con : Con Try.prog 79 F /\ Named Try.prog 79 :=
 con_of2 (C := C) (ctx_ok (by kernel_rfl) (by kernel_rfl) (by kernel_rfl) (by kernel_rfl) trivial) (by kernel_rfl) Try.func79 (by kernel_rfl) (c := cB Try.f79) (by kernel_rfl) (by kernel_rfl) F (fun x => by simp [F, spread, Try.ntmps79]) (fun x => (St0 x.1 x.2.1)) (fun x => by kernel_rfl) fun x => (top_eq fuel _ x.1 x.2.1).trans (by kernel_rfl)
end Go.Bx.basculelaw_sameQueue
namespace Go.Bx.basculelaw_sameGate
def Js : List Nat := []
def C : Ctx := ⟨[(3, T1), (4, .bool), (25, T5), (26, T6), (28, T7)], [], [], fnL [(79, basculelaw_sameQueue.F)], noSh, [], invL [], [(2, [4])], [], [], 0, 0⟩
def St0 (x0 x1 : D1) : St := stL 38 [(0, .data T7 x0), (1, .data T7 x1)] []
def St1 (x4 : Bool) : St := stL 38 [(4, .data .bool x4)] []
def top (Rt : Bool -> Option α) (x0 x1 : D1) : Option α :=
 (if ((cond (cond (beqD T5 x0.1 x1.1) (beqD T5 x0.2.1 x1.2.1) false) (x0.2.2.1 == x1.2.2.1) false) == true) = true then basculelaw_sameQueue.run x0.2.2.2.1 x1.2.2.2.1 else some false).bind fun y1 =>
 (if ((cond (cond (cond (beqD T5 x0.1 x1.1) (beqD T5 x0.2.1 x1.2.1) false) (x0.2.2.1 == x1.2.2.1) false) y1 false) == true) = true then basculelaw_sameQueue.run x0.2.2.2.2.1 x1.2.2.2.2.1 else some false).bind fun y2 =>
 Rt (cond (cond (cond (cond (beqD T5 x0.1 x1.1) (beqD T5 x0.2.1 x1.2.1) false) (x0.2.2.1 == x1.2.2.1) false) y1 false) y2 false)
theorem top_eq (k : Nat) (Q : Ex -> St -> Option α) (x0 x1 : D1) :
  (den C k) (cB Try.f27) Q (St0 x0 x1) = top (fun x4 => Q .ret (St1 x4)) x0 x1 := plainly Js (by kernel_rfl)
def run (x0 x1 : D1) : Option (Bool) := top (α := Bool) (fun x4 => some x4) x0 x1
def F : Fn := ⟨T41, .bool, false, fun x => run x.1 x.2.1⟩
theorem con : Con Try.prog 27 F /\ Named Try.prog 27 :=
 con_of2 (C := C) (ctx_ok (by kernel_rfl) (by kernel_rfl) (by kernel_rfl) (by kernel_rfl) ⟨.inl basculelaw_sameQueue.con, trivial⟩) (by kernel_rfl) Try.func27 (by kernel_rfl) (c := cB Try.f27) (by kernel_rfl) (by kernel_rfl) F (fun x => by simp [F, spread, Try.ntmps27]) (fun x => (St0 x.1 x.2.1)) (fun x => by kernel_rfl) fun x => (top_eq fuel _ x.1 x.2.1).trans (by kernel_rfl)
end Go.Bx.basculelaw_sameGate
namespace Go.Bx.basculelaw_sameBytes
def Js : List Nat := []
def C : Ctx := ⟨[(4, .bool), (9, .str), (29, T16)], [], [], fnL [], noSh, [], invL [], [(2, [4])], [], [], 0, 0⟩
def St0 (x0 x1 : D4) : St := stL 10 [(0, .data T16 x0), (1, .data T16 x1)] []
def St1 (x4 : Bool) : St := stL 10 [(4, .data .bool x4)] []
def top (Rt : Bool -> Option α) (x0 x1 : D4) : Option α :=
 Rt (beqD .str x0 x1)
theorem top_eq (k : Nat) (Q : Ex -> St -> Option α) (x0 x1 : D4) :
  (den C k) (cB Try.f80) Q (St0 x0 x1) = top (fun x4 => Q .ret (St1 x4)) x0 x1 := plainly Js (by kernel_rfl)
def run (x0 x1 : D4) : Option (Bool) := top (α := Bool) (fun x4 => some x4) x0 x1
def F : Fn := ⟨T21, .bool, false, fun x => run x.1 x.2.1⟩
theorem con : Con Try.prog 80 F /\ Named Try.prog 80 :=
 con_of2 (C := C) (ctx_ok (by kernel_rfl) (by kernel_rfl) (by kernel_rfl) (by kernel_rfl) trivial) (by kernel_rfl) Try.func80 (by kernel_rfl) (c := cB Try.f80) (by kernel_rfl) (by kernel_rfl) F (fun x => by simp [F, spread, Try.ntmps80]) (fun x => (St0 x.1 x.2.1)) (fun x => by kernel_rfl) fun x => (top_eq fuel _ x.1 x.2.1).trans (by kernel_rfl)
end Go.Bx.basculelaw_sameBytes
namespace Go.Bx.basculeref_SameBody
def Js : List Nat := []
def C : Ctx := ⟨[(3, T1), (4, .bool), (9, .str), (29, T16), (38, T17), (40, T2)], [], [], fnL [], noSh, [], invL [], [(2, [4])], [], [], 0, 0⟩
def St0 (x0 x1 : D0) : St := stL 54 [(0, .data T2 x0), (1, .data T2 x1)] []
def St1 (x4 : Bool) : St := stL 54 [(4, .data .bool x4)] []
def top (Rt : Bool -> Option α) (x0 x1 : D0) : Option α :=
 Rt (cond (cond (cond (cond (cond (cond (x0.1 == x1.1) (x0.2.1 == x1.2.1) false) (x0.2.2.1 == x1.2.2.1) false) (beqD T17 x0.2.2.2.1 x1.2.2.2.1) false) (x0.2.2.2.2.1 == x1.2.2.2.2.1) false) (x0.2.2.2.2.2.1 == x1.2.2.2.2.2.1) false) (beqD .str x0.2.2.2.2.2.2.1 x1.2.2.2.2.2.2.1) false)
theorem top_eq (k : Nat) (Q : Ex -> St -> Option α) (x0 x1 : D0) :
  (den C k) (cB Try.f81) Q (St0 x0 x1) = top (fun x4 => Q .ret (St1 x4)) x0 x1 := plainly Js (by kernel_rfl)
def run (x0 x1 : D0) : Option (Bool) := top (α := Bool) (fun x4 => some x4) x0 x1
def F : Fn := ⟨T43, .bool, false, fun x => run x.1 x.2.1⟩
theorem con : Con Try.prog 81 F /\ Named Try.prog 81 :=
 con_of2 (C := C) (ctx_ok (by kernel_rfl) (by kernel_rfl) (by kernel_rfl) (by kernel_rfl) trivial) (by kernel_rfl) Try.func81 (by kernel_rfl) (c := cB Try.f81) (by kernel_rfl) (by kernel_rfl) F (fun x => by simp [F, spread, Try.ntmps81]) (fun x => (St0 x.1 x.2.1)) (fun x => by kernel_rfl) fun x => (top_eq fuel _ x.1 x.2.1).trans (by kernel_rfl)
end Go.Bx.basculeref_SameBody
namespace Go.Bx.basculelaw_sameLog
def Js : List Nat := []
def C : Ctx := ⟨[(4, .bool), (29, T16), (31, T21)], [], [], fnL [(80, basculelaw_sameBytes.F)], noSh, [], invL [], [(2, [4])], [], [], 0, 0⟩
def St0 (x0 x1 : D9) : St := stL 17 [(0, .data T21 x0), (1, .data T21 x1)] []
def St1 (x4 : Bool) : St := stL 17 [(4, .data .bool x4)] []
def top (Rt : Bool -> Option α) (x0 x1 : D9) : Option α :=
 (basculelaw_sameBytes.run x0.1 x1.1).bind fun y1 =>
 (if (y1 == true) = true then basculelaw_sameBytes.run x0.2.1 x1.2.1 else some false).bind fun y2 =>
 Rt (cond y1 y2 false)
theorem top_eq (k : Nat) (Q : Ex -> St -> Option α) (x0 x1 : D9) :
  (den C k) (cB Try.f28) Q (St0 x0 x1) = top (fun x4 => Q .ret (St1 x4)) x0 x1 := plainly Js (by kernel_rfl)
def run (x0 x1 : D9) : Option (Bool) := top (α := Bool) (fun x4 => some x4) x0 x1
def F : Fn := ⟨T42, .bool, false, fun x => run x.1 x.2.1⟩
theorem con : Con Try.prog 28 F /\ Named Try.prog 28 :=
 con_of2 (C := C) (ctx_ok (by kernel_rfl) (by kernel_rfl) (by kernel_rfl) (by kernel_rfl) ⟨.inl basculelaw_sameBytes.con, trivial⟩) (by kernel_rfl) Try.func28 (by kernel_rfl) (c := cB Try.f28) (by kernel_rfl) (by kernel_rfl) F (fun x => by simp [F, spread, Try.ntmps28]) (fun x => (St0 x.1 x.2.1)) (fun x => by kernel_rfl) fun x => (top_eq fuel _ x.1 x.2.1).trans (by kernel_rfl)
end Go.Bx.basculelaw_sameLog
namespace Go.Bx.basculelaw_sameBodies
def Js : List Nat := [10]
def C : Ctx := ⟨[(4, .bool), (32, T19), (40, T2)], [], [], fnL [(81, basculeref_SameBody.F)], noSh, [], invL [], [(2, [4]), (1, []), (4, [0, 1, 12, 13]), (12, [0, 1, 12, 13]), (27, [])], [], [], 0, 0⟩
def St0 (x0 x1 : D7) : St := stL 27 [(0, .data T19 x0), (1, .data T19 x1)] []
def St1 (x4 : Bool) : St := stL 27 [(4, .data .bool x4)] []
def St2 (x0 x1 : D7) (x12 x13 : Int) : St := stL 27 [(0, .data T19 x0), (1, .data T19 x1), (12, .data T1 x12), (13, .data T1 x13)] []
noncomputable def cd0 : Code := cL (cL (cR (cL (cR (cR (cB Try.f29))))))
def St3 : St := stL 27 [] []
def l0s (Nx : D7 -> D7 -> Int -> Int -> Option α) (Rt : Bool -> Option α) (Xt0 : Option α) (x0 x1 : D7) (x12 x13 : Int) : Option α :=
 if (decide (x13 < x12)) = true then
  if 0 <= x13 /\ x13 < (x0.length : Int) then
   if 0 <= x13 /\ x13 < (x1.length : Int) then
    (basculeref_SameBody.run (List.getD x0 (Int.toNat x13) (0, 0, 0, (List.replicate 32 0), 0, 0, [], ())) (List.getD x1 (Int.toNat x13) (0, 0, 0, (List.replicate 32 0), 0, 0, [], ()))).bind fun y1 =>
    if (not y1) = true then
     Rt false
    else
     Nx x0 x1 x12 (IntKind.i64.wrap (x13 + 1))
   else none
  else none
 else
  Xt0
theorem l0s_eq (k : Nat) (next : St -> Option α) (Q : Ex -> St -> Option α) (x0 x1 : D7) (x12 x13 : Int) :
  rnd C k cd0 12 Q next (St2 x0 x1 x12 x13) = l0s (fun x0 x1 x12 x13 => next (St2 x0 x1 x12 x13)) (fun x4 => Q .ret (St1 x4)) (Q (.exit 0) St3) x0 x1 x12 x13 := plainly Js (by kernel_rfl)
def l0 (k : Nat) (Rt : Bool -> Option α) (Xt0 : Option α) : Nat -> D7 -> D7 -> Int -> Int -> Option α
 | 0, _, _, _, _ => none
 | n + 1, x0, x1, x12, x13 => l0s (l0 k Rt Xt0 n) Rt Xt0 x0 x1 x12 x13
theorem l0_eq (k : Nat) (Q : Ex -> St -> Option α) : ∀ (n : Nat) (x0 x1 : D7) (x12 x13 : Int), iter (rnd C k cd0 12 Q) n (St2 x0 x1 x12 x13) = l0 k (fun x4 => Q .ret (St1 x4)) (Q (.exit 0) St3) n x0 x1 x12 x13
 | 0, _, _, _, _ => rfl
 | n + 1, x0, x1, x12, x13 => (iter_succ _ _ _).trans ((l0s_eq k _ Q x0 x1 x12 x13).trans (congrArg (fun N => l0s N (fun x4 => Q .ret (St1 x4)) (Q (.exit 0) St3) x0 x1 x12 x13) (by funext; exact l0_eq k Q n _ _ _ _)))
theorem l0_congr (k : Nat) (Rt : Bool -> Option α) (Xt0 : Option α) (Rtq : Bool -> Option α) (Xt0q : Option α) (hRt : ∀ (x4 : Bool), Rt x4 = Rtq x4) (hXt0 : Xt0 = Xt0q) (n : Nat) (x0 x1 : D7) (x12 x13 : Int) : l0 k Rt Xt0 n x0 x1 x12 x13 = l0 k Rtq Xt0q n x0 x1 x12 x13 := by
 obtain rfl : Rt = Rtq := by funext x4; exact hRt x4
 obtain rfl : Xt0 = Xt0q := hXt0
 rfl
noncomputable def cd1 : Code := cR (cR (cR (cB Try.f29)))
def St4 : St := stL 27 [] []
def j0 (Rt : Bool -> Option α) : Option α :=
 Rt true
theorem j0_eq (k : Nat) (Q : Ex -> St -> Option α) :
  (den C k) cd1 Q St4 = j0 (fun x4 => Q .ret (St1 x4)) := plainly Js (by kernel_rfl)
theorem a0 (k : Nat) (Q : Ex -> St -> Option α) (x0 x1 : D7) (x12 x13 : Int) :
  (lp C k) cd0 (blkQ C 0 (sq (den C k) (lp C k) Js C cd1 Q)) (St2 x0 x1 x12 x13) = l0 k (fun x4 => (fun x4 => Q .ret (St1 x4)) x4) (j0 (fun x4 => Q .ret (St1 x4))) k x0 x1 x12 x13 :=
 (lp_iter 12 (by kernel_rfl)).trans ((l0_eq k _ k x0 x1 x12 x13).trans (l0_congr k _ _ _ _ (fun x4 => (by kernel_rfl)) (Eq.trans (b := (den C k) cd1 Q St4) (by kernel_rfl) (by simp only [j0_eq])) k x0 x1 x12 x13))
def top (k : Nat) (Rt : Bool -> Option α) (x0 x1 : D7) : Option α :=
 if ((x0.length : Int) != (x1.length : Int)) = true then
  Rt false
 else
  l0 k (fun x4 => Rt x4) (j0 Rt) k x0 x1 (x0.length : Int) 0
theorem top_eq (k : Nat) (Q : Ex -> St -> Option α) (x0 x1 : D7) :
  (den C k) (cB Try.f29) Q (St0 x0 x1) = top k (fun x4 => Q .ret (St1 x4)) x0 x1 := by
 have h : ∀ (D L : DT α), denJ D L Js C (cB Try.f29) Q (St0 x0 x1) =
    if ((x0.length : Int) != (x1.length : Int)) = true then
     Q .ret (St1 false)
    else
     L cd0 (blkQ C 0 (sq D L Js C cd1 Q)) (St2 x0 x1 (x0.length : Int) 0) := by
  intro D L; kernel_rfl
 have h2 := via (k := k) h
 refine h2.trans ?_
 simp only [a0]
 first | rfl | kernel_rfl
def run (x0 x1 : D7) : Option (Bool) := top (α := Bool) fuel (fun x4 => some x4) x0 x1
def F : Fn := ⟨T44, .bool, false, fun x => run x.1 x.2.1⟩
theorem con : Con Try.prog 29 F /\ Named Try.prog 29 :=
 con_of2 (C := C) (ctx_ok (by kernel_rfl) (by kernel_rfl) (by kernel_rfl) (by kernel_rfl) ⟨.inl basculeref_SameBody.con, trivial⟩) (by kernel_rfl) Try.func29 (by kernel_rfl) (c := cB Try.f29) (by kernel_rfl) (by kernel_rfl) F (fun x => by simp [F, spread, Try.ntmps29]) (fun x => (St0 x.1 x.2.1)) (fun x => by kernel_rfl) fun x => (top_eq fuel _ x.1 x.2.1).trans (by kernel_rfl)
end Go.Bx.basculelaw_sameBodies
namespace Go.Bx.basculelaw_sameGuard
def Js : List Nat := []
def C : Ctx := ⟨[(4, .bool), (24, T23), (28, T7), (31, T21), (32, T19), (34, T22)], [], [], fnL [(27, basculelaw_sameGate.F), (28, basculelaw_sameLog.F), (29, basculelaw_sameBodies.F)], noSh, [], invL [], [(2, [4])], [], [], 0, 0⟩
def St0 (x0 x1 : D8) : St := stL 45 [(0, .data T22 x0), (1, .data T22 x1)] []
def St1 (x4 : Bool) : St := stL 45 [(4, .data .bool x4)] []
def top (Rt : Bool -> Option α) (x0 x1 : D8) : Option α :=
 (if ((beqD T23 x0.1 x1.1) == true) = true then basculelaw_sameGate.run x0.2.1 x1.2.1 else some false).bind fun y1 =>
 (if ((cond (beqD T23 x0.1 x1.1) y1 false) == true) = true then basculelaw_sameGate.run x0.2.2.1 x1.2.2.1 else some false).bind fun y2 =>
 (if ((cond (cond (beqD T23 x0.1 x1.1) y1 false) y2 false) == true) = true then basculelaw_sameLog.run x0.2.2.2.1 x1.2.2.2.1 else some false).bind fun y3 =>
 (if ((cond (cond (cond (beqD T23 x0.1 x1.1) y1 false) y2 false) y3 false) == true) = true then basculelaw_sameBodies.run x0.2.2.2.2.1 x1.2.2.2.2.1 else some false).bind fun y4 =>
 (if ((cond (cond (cond (cond (beqD T23 x0.1 x1.1) y1 false) y2 false) y3 false) y4 false) == true) = true then basculelaw_sameBodies.run x0.2.2.2.2.2.1 x1.2.2.2.2.2.1 else some false).bind fun y5 =>
 Rt (cond (cond (cond (cond (cond (beqD T23 x0.1 x1.1) y1 false) y2 false) y3 false) y4 false) y5 false)
theorem top_eq (k : Nat) (Q : Ex -> St -> Option α) (x0 x1 : D8) :
  (den C k) (cB Try.f11) Q (St0 x0 x1) = top (fun x4 => Q .ret (St1 x4)) x0 x1 := plainly Js (by kernel_rfl)
def run (x0 x1 : D8) : Option (Bool) := top (α := Bool) (fun x4 => some x4) x0 x1
def F : Fn := ⟨T45, .bool, false, fun x => run x.1 x.2.1⟩
theorem con : Con Try.prog 11 F /\ Named Try.prog 11 :=
 con_of2 (C := C) (ctx_ok (by kernel_rfl) (by kernel_rfl) (by kernel_rfl) (by kernel_rfl) ⟨.inl basculelaw_sameGate.con, ⟨.inl basculelaw_sameLog.con, ⟨.inl basculelaw_sameBodies.con, trivial⟩⟩⟩) (by kernel_rfl) Try.func11 (by kernel_rfl) (c := cB Try.f11) (by kernel_rfl) (by kernel_rfl) F (fun x => by simp [F, spread, Try.ntmps11]) (fun x => (St0 x.1 x.2.1)) (fun x => by kernel_rfl) fun x => (top_eq fuel _ x.1 x.2.1).trans (by kernel_rfl)
end Go.Bx.basculelaw_sameGuard
namespace Go.Bx.guard_Id
def Js : List Nat := []
def C : Ctx := ⟨[(3, T1), (40, T2)], [], [], fnL [], noSh, [], invL [], [(2, [2])], [], [], 0, 0⟩
def St0 (x0 : D0) : St := stL 9 [(0, .data T2 x0)] []
def St1 (x2 : Int) : St := stL 9 [(2, .data T1 x2)] []
def top (Rt : Int -> Option α) (x0 : D0) : Option α :=
 Rt (IntKind.i64.wrap ((IntKind.i64.wrap (x0.2.2.1 * 256)) + x0.2.2.2.2.1))
theorem top_eq (k : Nat) (Q : Ex -> St -> Option α) (x0 : D0) :
  (den C k) (cB Try.f64) Q (St0 x0) = top (fun x2 => Q .ret (St1 x2)) x0 := plainly Js (by kernel_rfl)
def run (x0 : D0) : Option (Int) := top (α := Int) (fun x2 => some x2) x0
def F : Fn := ⟨T3, T1, false, fun x => run x.1⟩
theorem con : Con Try.prog 64 F /\ Named Try.prog 64 :=
 con_of2 (C := C) (ctx_ok (by kernel_rfl) (by kernel_rfl) (by kernel_rfl) (by kernel_rfl) trivial) (by kernel_rfl) Try.func64 (by kernel_rfl) (c := cB Try.f64) (by kernel_rfl) (by kernel_rfl) F (fun x => by simp [F, spread, Try.ntmps64]) (fun x => (St0 x.1)) (fun x => by kernel_rfl) fun x => (top_eq fuel _ x.1).trans (by kernel_rfl)
end Go.Bx.guard_Id
namespace Go.Bx.gate_Tick
def Js : List Nat := [15, 16, 27, 28]
def C : Ctx := ⟨[(3, T1), (26, T6), (28, T7), (35, T1), (107, T12), (165, T8)], [], [], fnL [(120, gate_Check.F), (134, gate_fits.F)], noSh, [], invL [], [(2, [4, 5, 6]), (7, [2, 4, 12]), (10, [2, 4, 12, 65, 66, 67]), (13, [2, 4, 12, 65, 66, 67]), (1, [2, 4, 9]), (4, [2, 4, 9, 46, 47, 48]), (30, [2, 4, 9, 46, 47, 48]), (42, [2, 4, 9, 46, 47, 48]), (45, [2, 4, 9]), (51, [2, 4, 12, 65, 66, 67]), (78, [2, 4, 12, 65, 66, 67]), (81, [2, 4, 12])], [(2, [.dat true 5 [], .dat false 4 [3], .dat false 4 [4]]), (30, [.melt false 2 [3] 62 true]), (51, [.melt true 12 [] 88 true, .melt false 2 [4] 75 true]), (78, [.melt false 2 [4] 75 true])], [], 0, 0⟩
def St0 (x0 : D1) (x1 : Int) : St := stL 110 [(0, .data T7 x0), (1, .data T1 x1)] []
def St1 (x5 : D4) (x6 : Int) (c4 : D1) : St := stL 110 [(4, .ref 4 0 []), (5, .data T12 x5), (6, .data T1 x6)] [(4, .cell T7 (.data T7 c4) false)]
def St2 (x9 x46 : D2) (x47 x48 : Int) (c2p0 c2p1 : D4) (c2p2 : Int) (c4p0 c4p1 : D4) (c4p2 : Int) (c62 : D2) : St := stL 110 [(2, .ref 2 0 []), (4, .ref 4 0 []), (9, .data T6 x9), (46, .data T6 x46), (47, .data T1 x47), (48, .data T1 x48)] [(2, .cell T7 (.agg T7 [.data T5 c2p0, .data T5 c2p1, .data T1 c2p2, .app 62 0, .full T8 []]) false), (4, .cell T7 (.agg T7 [.data T5 c4p0, .data T5 c4p1, .data T1 c4p2, .full T8 [], .full T8 []]) false), (62, .buf T8 c62 0 true)]
noncomputable def cd0 : Code := cL (cL (cR (cL (cR (cR (cR (cR (cR (cR (cB Try.f71))))))))))
def St3 (x9 x46 : D2) (x47 x48 : Int) (c2p0 c2p1 : D4) (c2p2 : Int) (c4p0 c4p1 : D4) (c4p2 : Int) (c62 : D2) : St := stL 110 [(2, .ref 2 0 []), (4, .ref 4 0 []), (9, .data T6 x9), (46, .data T6 x46), (47, .data T1 x47), (48, .data T1 x48)] [(2, .cell T7 (.agg T7 [.data T5 c2p0, .data T5 c2p1, .data T1 c2p2, .app 62 0, .full T8 []]) false), (4, .cell T7 (.agg T7 [.data T5 c4p0, .data T5 c4p1, .data T1 c4p2, .full T8 [], .full T8 []]) false), (62, .buf T8 c62 0 true)]
noncomputable def cd1 : Code := cR (cR (cR (cL (cL (cR (cL (cR (cR (cR (cR (cR (cR (cB Try.f71)))))))))))))
def j0 (Nx : D2 -> D2 -> Int -> Int -> D4 -> D4 -> Int -> D4 -> D4 -> Int -> D2 -> Option α) (x9 x46 : D2) (x47 x48 : Int) (c2p0 c2p1 : D4) (c2p2 : Int) (c4p0 c4p1 : D4) (c4p2 : Int) (c62 : D2) : Option α :=
 Nx x9 x46 x47 (IntKind.i64.wrap (x48 + 1)) c2p0 c2p1 c2p2 c4p0 c4p1 c4p2 c62
theorem j0_eq (k : Nat) (next : St -> Option α) (Q : Ex -> St -> Option α) (x9 x46 : D2) (x47 x48 : Int) (c2p0 c2p1 : D4) (c2p2 : Int) (c4p0 c4p1 : D4) (c4p2 : Int) (c62 : D2) :
  (den C k) cd1 (lq C 30 next Q) (St3 x9 x46 x47 x48 c2p0 c2p1 c2p2 c4p0 c4p1 c4p2 c62) = j0 (fun x9 x46 x47 x48 c2p0 c2p1 c2p2 c4p0 c4p1 c4p2 c62 => next (St2 x9 x46 x47 x48 c2p0 c2p1 c2p2 c4p0 c4p1 c4p2 c62)) x9 x46 x47 x48 c2p0 c2p1 c2p2 c4p0 c4p1 c4p2 c62 := plainly Js (by kernel_rfl)
def St4 (x9 : D2) (c2p0 c2p1 : D4) (c2p2 : Int) (c4p0 c4p1 : D4) (c4p2 : Int) (c62 : D2) : St := stL 110 [(2, .ref 2 0 []), (4, .ref 4 0 []), (9, .data T6 x9)] [(2, .cell T7 (.agg T7 [.data T5 c2p0, .data T5 c2p1, .data T1 c2p2, .app 62 0, .full T8 []]) false), (4, .cell T7 (.agg T7 [.data T5 c4p0, .data T5 c4p1, .data T1 c4p2, .full T8 [], .full T8 []]) false), (62, .buf T8 c62 0 true)]
def l0s (Nx : D2 -> D2 -> Int -> Int -> D4 -> D4 -> Int -> D4 -> D4 -> Int -> D2 -> Option α) (Xt0 : D2 -> D4 -> D4 -> Int -> D4 -> D4 -> Int -> D2 -> Option α) (x9 x46 : D2) (x47 x48 : Int) (c2p0 c2p1 : D4) (c2p2 : Int) (c4p0 c4p1 : D4) (c4p2 : Int) (c62 : D2) : Option α :=
 if (decide (x48 < x47)) = true then
  if 0 <= x48 /\ x48 < (x46.length : Int) then
   if (decide ((IntKind.i64.wrap (c2p2 - (List.getD x46 (Int.toNat x48) (0, 0, 0, 0, ())).2.2.2.1)) < 24)) = true then
    if fitB (c62.length + 1) 32 = true then
     j0 Nx x9 x46 x47 x48 c2p0 c2p1 c2p2 c4p0 c4p1 c4p2 (c62 ++ [(List.getD x46 (Int.toNat x48) (0, 0, 0, 0, ()))])
    else none
   else
    j0 Nx x9 x46 x47 x48 c2p0 c2p1 c2p2 c4p0 c4p1 c4p2 c62
  else none
 else
  Xt0 x9 c2p0 c2p1 c2p2 c4p0 c4p1 c4p2 c62
theorem l0s_eq (k : Nat) (next : St -> Option α) (Q : Ex -> St -> Option α) (x9 x46 : D2) (x47 x48 : Int) (c2p0 c2p1 : D4) (c2p2 : Int) (c4p0 c4p1 : D4) (c4p2 : Int) (c62 : D2) :
  rnd C k cd0 30 Q next (St2 x9 x46 x47 x48 c2p0 c2p1 c2p2 c4p0 c4p1 c4p2 c62) = l0s (fun x9 x46 x47 x48 c2p0 c2p1 c2p2 c4p0 c4p1 c4p2 c62 => next (St2 x9 x46 x47 x48 c2p0 c2p1 c2p2 c4p0 c4p1 c4p2 c62)) (fun x9 c2p0 c2p1 c2p2 c4p0 c4p1 c4p2 c62 => Q (.exit 0) (St4 x9 c2p0 c2p1 c2p2 c4p0 c4p1 c4p2 c62)) x9 x46 x47 x48 c2p0 c2p1 c2p2 c4p0 c4p1 c4p2 c62 := by
 have h : ∀ (D L : DT α), denJ D L Js C cd0 (lq C 30 next Q) (St2 x9 x46 x47 x48 c2p0 c2p1 c2p2 c4p0 c4p1 c4p2 c62) =
    if (decide (x48 < x47)) = true then
     if 0 <= x48 /\ x48 < (x46.length : Int) then
      if (decide ((IntKind.i64.wrap (c2p2 - (List.getD x46 (Int.toNat x48) (0, 0, 0, 0, ())).2.2.2.1)) < 24)) = true then
       if fitB (c62.length + 1) 32 = true then
        D cd1 (lq C 30 next Q) (St3 x9 x46 x47 x48 c2p0 c2p1 c2p2 c4p0 c4p1 c4p2 (c62 ++ [(List.getD x46 (Int.toNat x48) (0, 0, 0, 0, ()))]))
       else none
      else
       D cd1 (lq C 30 next Q) (St3 x9 x46 x47 x48 c2p0 c2p1 c2p2 c4p0 c4p1 c4p2 c62)
     else none
    else
     Q (.exit 0) (St4 x9 c2p0 c2p1 c2p2 c4p0 c4p1 c4p2 c62) := by
  intro D L; kernel_rfl
 have h2 := via (k := k) h
 refine h2.trans ?_
 simp only [j0_eq]
 first | rfl | kernel_rfl
def l0 (k : Nat) (Xt0 : D2 -> D4 -> D4 -> Int -> D4 -> D4 -> Int -> D2 -> Option α) : Nat -> D2 -> D2 -> Int -> Int -> D4 -> D4 -> Int -> D4 -> D4 -> Int -> D2 -> Option α
 | 0, _, _, _, _, _, _, _, _, _, _, _ => none
 | n + 1, x9, x46, x47, x48, c2p0, c2p1, c2p2, c4p0, c4p1, c4p2, c62 => l0s (l0 k Xt0 n) Xt0 x9 x46 x47 x48 c2p0 c2p1 c2p2 c4p0 c4p1 c4p2 c62
theorem l0_eq (k : Nat) (Q : Ex -> St -> Option α) : ∀ (n : Nat) (x9 x46 : D2) (x47 x48 : Int) (c2p0 c2p1 : D4) (c2p2 : Int) (c4p0 c4p1 : D4) (c4p2 : Int) (c62 : D2), iter (rnd C k cd0 30 Q) n (St2 x9 x46 x47 x48 c2p0 c2p1 c2p2 c4p0 c4p1 c4p2 c62) = l0 k (fun x9 c2p0 c2p1 c2p2 c4p0 c4p1 c4p2 c62 => Q (.exit 0) (St4 x9 c2p0 c2p1 c2p2 c4p0 c4p1 c4p2 c62)) n x9 x46 x47 x48 c2p0 c2p1 c2p2 c4p0 c4p1 c4p2 c62
 | 0, _, _, _, _, _, _, _, _, _, _, _ => rfl
 | n + 1, x9, x46, x47, x48, c2p0, c2p1, c2p2, c4p0, c4p1, c4p2, c62 => (iter_succ _ _ _).trans ((l0s_eq k _ Q x9 x46 x47 x48 c2p0 c2p1 c2p2 c4p0 c4p1 c4p2 c62).trans (congrArg (fun N => l0s N (fun x9 c2p0 c2p1 c2p2 c4p0 c4p1 c4p2 c62 => Q (.exit 0) (St4 x9 c2p0 c2p1 c2p2 c4p0 c4p1 c4p2 c62)) x9 x46 x47 x48 c2p0 c2p1 c2p2 c4p0 c4p1 c4p2 c62) (by funext; exact l0_eq k Q n _ _ _ _ _ _ _ _ _ _ _)))
noncomputable def cd2 : Code := cR (cR (cR (cR (cR (cR (cR (cB Try.f71)))))))
def St5 (x9 : D2) (c2p0 c2p1 : D4) (c2p2 : Int) (c4p0 c4p1 : D4) (c4p2 : Int) (c62 : D2) : St := stL 110 [(2, .ref 2 0 []), (4, .ref 4 0 []), (9, .data T6 x9)] [(2, .cell T7 (.agg T7 [.data T5 c2p0, .data T5 c2p1, .data T1 c2p2, .app 62 0, .full T8 []]) false), (4, .cell T7 (.agg T7 [.data T5 c4p0, .data T5 c4p1, .data T1 c4p2, .full T8 [], .full T8 []]) false), (62, .buf T8 c62 0 true)]
def St6 (x65 : D2) (x66 x67 : Int) (c2p0 c2p1 : D4) (c2p2 : Int) (c4p0 c4p1 : D4) (c4p2 : Int) (c62 c75 : D2) (c88 : D4) : St := stL 110 [(2, .ref 2 0 []), (4, .ref 4 0 []), (12, .app 88 0), (65, .data T6 x65), (66, .data T1 x66), (67, .data T1 x67)] [(2, .cell T7 (.agg T7 [.data T5 c2p0, .data T5 c2p1, .data T1 c2p2, .app 62 0, .app 75 0]) false), (4, .cell T7 (.agg T7 [.data T5 c4p0, .data T5 c4p1, .data T1 c4p2, .full T8 [], .full T8 []]) false), (62, .buf T8 c62 0 true), (75, .buf T8 c75 0 true), (88, .buf T1 c88 0 true)]
noncomputable def cd3 : Code := cL (cL (cR (cL (cR (cR (cR (cR (cR (cR (cR (cR (cB Try.f71))))))))))))
def St7 (x65 : D2) (x66 x67 : Int) (c2p0 c2p1 : D4) (c2p2 : Int) (c4p0 c4p1 : D4) (c4p2 : Int) (c62 c75 : D2) (c88 : D4) : St := stL 110 [(2, .ref 2 0 []), (4, .ref 4 0 []), (12, .app 88 0), (65, .data T6 x65), (66, .data T1 x66), (67, .data T1 x67)] [(2, .cell T7 (.agg T7 [.data T5 c2p0, .data T5 c2p1, .data T1 c2p2, .app 62 0, .app 75 0]) false), (4, .cell T7 (.agg T7 [.data T5 c4p0, .data T5 c4p1, .data T1 c4p2, .full T8 [], .full T8 []]) false), (62, .buf T8 c62 0 true), (75, .buf T8 c75 0 true), (88, .buf T1 c88 0 true)]
noncomputable def cd4 : Code := cR (cR (cR (cL (cL (cR (cL (cR (cR (cR (cR (cR (cR (cR (cR (cB Try.f71)))))))))))))))
def j2 (Nx : D2 -> Int -> Int -> D4 -> D4 -> Int -> D4 -> D4 -> Int -> D2 -> D2 -> D4 -> Option α) (x65 : D2) (x66 x67 : Int) (c2p0 c2p1 : D4) (c2p2 : Int) (c4p0 c4p1 : D4) (c4p2 : Int) (c62 c75 : D2) (c88 : D4) : Option α :=
 Nx x65 x66 (IntKind.i64.wrap (x67 + 1)) c2p0 c2p1 c2p2 c4p0 c4p1 c4p2 c62 c75 c88
theorem j2_eq (k : Nat) (next : St -> Option α) (Q : Ex -> St -> Option α) (x65 : D2) (x66 x67 : Int) (c2p0 c2p1 : D4) (c2p2 : Int) (c4p0 c4p1 : D4) (c4p2 : Int) (c62 c75 : D2) (c88 : D4) :
  (den C k) cd4 (lq C 51 next Q) (St7 x65 x66 x67 c2p0 c2p1 c2p2 c4p0 c4p1 c4p2 c62 c75 c88) = j2 (fun x65 x66 x67 c2p0 c2p1 c2p2 c4p0 c4p1 c4p2 c62 c75 c88 => next (St6 x65 x66 x67 c2p0 c2p1 c2p2 c4p0 c4p1 c4p2 c62 c75 c88)) x65 x66 x67 c2p0 c2p1 c2p2 c4p0 c4p1 c4p2 c62 c75 c88 := plainly Js (by kernel_rfl)
def St8 (c2p0 c2p1 : D4) (c2p2 : Int) (c4p0 c4p1 : D4) (c4p2 : Int) (c62 c75 : D2) (c88 : D4) : St := stL 110 [(2, .ref 2 0 []), (4, .ref 4 0 []), (12, .app 88 0)] [(2, .cell T7 (.agg T7 [.data T5 c2p0, .data T5 c2p1, .data T1 c2p2, .app 62 0, .app 75 0]) false), (4, .cell T7 (.agg T7 [.data T5 c4p0, .data T5 c4p1, .data T1 c4p2, .full T8 [], .full T8 []]) false), (62, .buf T8 c62 0 true), (75, .buf T8 c75 0 true), (88, .buf T1 c88 0 true)]
def l1s (Nx : D2 -> Int -> Int -> D4 -> D4 -> Int -> D4 -> D4 -> Int -> D2 -> D2 -> D4 -> Option α) (Xt2 : D4 -> D4 -> Int -> D4 -> D4 -> Int -> D2 -> D2 -> D4 -> Option α) (x65 : D2) (x66 x67 : Int) (c2p0 c2p1 : D4) (c2p2 : Int) (c4p0 c4p1 : D4) (c4p2 : Int) (c62 c75 : D2) (c88 : D4) : Option α :=
 if (decide (x67 < x66)) = true then
  if 0 <= x67 /\ x67 < (x65.length : Int) then
   if (decide ((IntKind.i64.wrap (c2p2 - (List.getD x65 (Int.toNat x67) (0, 0, 0, 0, ())).2.2.2.1)) >= 24)) = true then
    if fitB (c88.length + 1) 8 = true then
     j2 Nx x65 x66 x67 c2p0 c2p1 c2p2 c4p0 c4p1 c4p2 c62 c75 (c88 ++ [(List.getD x65 (Int.toNat x67) (0, 0, 0, 0, ())).1])
    else none
   else
    (gate_fits.run (c2p0, c2p1, c2p2, c62, c75, ()) (List.getD x65 (Int.toNat x67) (0, 0, 0, 0, ()))).bind fun y2 =>
    if y2 = true then
     if fitB (c62.length + 1) 32 = true then
      if fitB (c88.length + 1) 8 = true then
       j2 Nx x65 x66 x67 c2p0 c2p1 c2p2 c4p0 c4p1 c4p2 (c62 ++ [((List.getD x65 (Int.toNat x67) (0, 0, 0, 0, ())).1, (List.getD x65 (Int.toNat x67) (0, 0, 0, 0, ())).2.1, (List.getD x65 (Int.toNat x67) (0, 0, 0, 0, ())).2.2.1, c2p2, (List.getD x65 (Int.toNat x67) (0, 0, 0, 0, ())).2.2.2.2)]) c75 (c88 ++ [(List.getD x65 (Int.toNat x67) (0, 0, 0, 0, ())).1])
      else none
     else none
    else
     if fitB (c75.length + 1) 32 = true then
      j2 Nx x65 x66 x67 c2p0 c2p1 c2p2 c4p0 c4p1 c4p2 c62 (c75 ++ [(List.getD x65 (Int.toNat x67) (0, 0, 0, 0, ()))]) c88
     else none
  else none
 else
  Xt2 c2p0 c2p1 c2p2 c4p0 c4p1 c4p2 c62 c75 c88
theorem l1s_eq (k : Nat) (next : St -> Option α) (Q : Ex -> St -> Option α) (x65 : D2) (x66 x67 : Int) (c2p0 c2p1 : D4) (c2p2 : Int) (c4p0 c4p1 : D4) (c4p2 : Int) (c62 c75 : D2) (c88 : D4) :
  rnd C k cd3 51 Q next (St6 x65 x66 x67 c2p0 c2p1 c2p2 c4p0 c4p1 c4p2 c62 c75 c88) = l1s (fun x65 x66 x67 c2p0 c2p1 c2p2 c4p0 c4p1 c4p2 c62 c75 c88 => next (St6 x65 x66 x67 c2p0 c2p1 c2p2 c4p0 c4p1 c4p2 c62 c75 c88)) (fun c2p0 c2p1 c2p2 c4p0 c4p1 c4p2 c62 c75 c88 => Q (.exit 2) (St8 c2p0 c2p1 c2p2 c4p0 c4p1 c4p2 c62 c75 c88)) x65 x66 x67 c2p0 c2p1 c2p2 c4p0 c4p1 c4p2 c62 c75 c88 := by
 have h : ∀ (D L : DT α), denJ D L Js C cd3 (lq C 51 next Q) (St6 x65 x66 x67 c2p0 c2p1 c2p2 c4p0 c4p1 c4p2 c62 c75 c88) =
    if (decide (x67 < x66)) = true then
     if 0 <= x67 /\ x67 < (x65.length : Int) then
      if (decide ((IntKind.i64.wrap (c2p2 - (List.getD x65 (Int.toNat x67) (0, 0, 0, 0, ())).2.2.2.1)) >= 24)) = true then
       if fitB (c88.length + 1) 8 = true then
        D cd4 (lq C 51 next Q) (St7 x65 x66 x67 c2p0 c2p1 c2p2 c4p0 c4p1 c4p2 c62 c75 (c88 ++ [(List.getD x65 (Int.toNat x67) (0, 0, 0, 0, ())).1]))
       else none
      else
       (gate_fits.run (c2p0, c2p1, c2p2, c62, c75, ()) (List.getD x65 (Int.toNat x67) (0, 0, 0, 0, ()))).bind fun y2 =>
       if y2 = true then
        if fitB (c62.length + 1) 32 = true then
         if fitB (c88.length + 1) 8 = true then
          D cd4 (lq C 51 next Q) (St7 x65 x66 x67 c2p0 c2p1 c2p2 c4p0 c4p1 c4p2 (c62 ++ [((List.getD x65 (Int.toNat x67) (0, 0, 0, 0, ())).1, (List.getD x65 (Int.toNat x67) (0, 0, 0, 0, ())).2.1, (List.getD x65 (Int.toNat x67) (0, 0, 0, 0, ())).2.2.1, c2p2, (List.getD x65 (Int.toNat x67) (0, 0, 0, 0, ())).2.2.2.2)]) c75 (c88 ++ [(List.getD x65 (Int.toNat x67) (0, 0, 0, 0, ())).1]))
         else none
        else none
       else
        if fitB (c75.length + 1) 32 = true then
         D cd4 (lq C 51 next Q) (St7 x65 x66 x67 c2p0 c2p1 c2p2 c4p0 c4p1 c4p2 c62 (c75 ++ [(List.getD x65 (Int.toNat x67) (0, 0, 0, 0, ()))]) c88)
        else none
     else none
    else
     Q (.exit 2) (St8 c2p0 c2p1 c2p2 c4p0 c4p1 c4p2 c62 c75 c88) := by
  intro D L; kernel_rfl
 have h2 := via (k := k) h
 refine h2.trans ?_
 simp only [j2_eq]
 first | rfl | kernel_rfl
def l1 (k : Nat) (Xt2 : D4 -> D4 -> Int -> D4 -> D4 -> Int -> D2 -> D2 -> D4 -> Option α) : Nat -> D2 -> Int -> Int -> D4 -> D4 -> Int -> D4 -> D4 -> Int -> D2 -> D2 -> D4 -> Option α
 | 0, _, _, _, _, _, _, _, _, _, _, _, _ => none
 | n + 1, x65, x66, x67, c2p0, c2p1, c2p2, c4p0, c4p1, c4p2, c62, c75, c88 => l1s (l1 k Xt2 n) Xt2 x65 x66 x67 c2p0 c2p1 c2p2 c4p0 c4p1 c4p2 c62 c75 c88
theorem l1_eq (k : Nat) (Q : Ex -> St -> Option α) : ∀ (n : Nat) (x65 : D2) (x66 x67 : Int) (c2p0 c2p1 : D4) (c2p2 : Int) (c4p0 c4p1 : D4) (c4p2 : Int) (c62 c75 : D2) (c88 : D4), iter (rnd C k cd3 51 Q) n (St6 x65 x66 x67 c2p0 c2p1 c2p2 c4p0 c4p1 c4p2 c62 c75 c88) = l1 k (fun c2p0 c2p1 c2p2 c4p0 c4p1 c4p2 c62 c75 c88 => Q (.exit 2) (St8 c2p0 c2p1 c2p2 c4p0 c4p1 c4p2 c62 c75 c88)) n x65 x66 x67 c2p0 c2p1 c2p2 c4p0 c4p1 c4p2 c62 c75 c88
 | 0, _, _, _, _, _, _, _, _, _, _, _, _ => rfl
 | n + 1, x65, x66, x67, c2p0, c2p1, c2p2, c4p0, c4p1, c4p2, c62, c75, c88 => (iter_succ _ _ _).trans ((l1s_eq k _ Q x65 x66 x67 c2p0 c2p1 c2p2 c4p0 c4p1 c4p2 c62 c75 c88).trans (congrArg (fun N => l1s N (fun c2p0 c2p1 c2p2 c4p0 c4p1 c4p2 c62 c75 c88 => Q (.exit 2) (St8 c2p0 c2p1 c2p2 c4p0 c4p1 c4p2 c62 c75 c88)) x65 x66 x67 c2p0 c2p1 c2p2 c4p0 c4p1 c4p2 c62 c75 c88) (by funext; exact l1_eq k Q n _ _ _ _ _ _ _ _ _ _ _ _)))
noncomputable def cd5 : Code := cR (cR (cR (cR (cR (cR (cR (cR (cR (cB Try.f71)))))))))
def St9 (c2p0 c2p1 : D4) (c2p2 : Int) (c4p0 c4p1 : D4) (c4p2 : Int) (c62 c75 : D2) (c88 : D4) : St := stL 110 [(2, .ref 2 0 []), (4, .ref 4 0 []), (12, .app 88 0)] [(2, .cell T7 (.agg T7 [.data T5 c2p0, .data T5 c2p1, .data T1 c2p2, .app 62 0, .app 75 0]) false), (4, .cell T7 (.agg T7 [.data T5 c4p0, .data T5 c4p1, .data T1 c4p2, .full T8 [], .full T8 []]) false), (62, .buf T8 c62 0 true), (75, .buf T8 c75 0 true), (88, .buf T1 c88 0 true)]
def j3 (Rt : D4 -> Int -> D1 -> Option α) (c2p0 c2p1 : D4) (c2p2 : Int) (c4p0 c4p1 : D4) (c4p2 : Int) (c62 c75 : D2) (c88 : D4) : Option α :=
 Rt c88 0 (c2p0, c2p1, c2p2, c62, c75, ())
theorem j3_eq (k : Nat) (Q : Ex -> St -> Option α) (c2p0 c2p1 : D4) (c2p2 : Int) (c4p0 c4p1 : D4) (c4p2 : Int) (c62 c75 : D2) (c88 : D4) :
  (den C k) cd5 Q (St9 c2p0 c2p1 c2p2 c4p0 c4p1 c4p2 c62 c75 c88) = j3 (fun x5 x6 c4 => Q .ret (St1 x5 x6 c4)) c2p0 c2p1 c2p2 c4p0 c4p1 c4p2 c62 c75 c88 := plainly Js (by kernel_rfl)
theorem a0 (k : Nat) (Q : Ex -> St -> Option α) (x65 : D2) (x66 x67 : Int) (c2p0 c2p1 : D4) (c2p2 : Int) (c4p0 c4p1 : D4) (c4p2 : Int) (c62 c75 : D2) (c88 : D4) :
  (lp C k) cd3 (blkQ C 2 (sq (den C k) (lp C k) Js C cd5 Q)) (St6 x65 x66 x67 c2p0 c2p1 c2p2 c4p0 c4p1 c4p2 c62 c75 c88) = l1 k (fun c2p0 c2p1 c2p2 c4p0 c4p1 c4p2 c62 c75 c88 => j3 (fun x5 x6 c4 => Q .ret (St1 x5 x6 c4)) c2p0 c2p1 c2p2 c4p0 c4p1 c4p2 c62 c75 c88) k x65 x66 x67 c2p0 c2p1 c2p2 c4p0 c4p1 c4p2 c62 c75 c88 :=
 (lp_iter 51 (by kernel_rfl)).trans ((l1_eq k _ k x65 x66 x67 c2p0 c2p1 c2p2 c4p0 c4p1 c4p2 c62 c75 c88).trans (congrArg (fun X => l1 k X k x65 x66 x67 c2p0 c2p1 c2p2 c4p0 c4p1 c4p2 c62 c75 c88) (funext fun c2p0 => funext fun c2p1 => funext fun c2p2 => funext fun c4p0 => funext fun c4p1 => funext fun c4p2 => funext fun c62 => funext fun c75 => funext fun c88 => (Eq.trans (b := (den C k) cd5 Q (St9 c2p0 c2p1 c2p2 c4p0 c4p1 c4p2 c62 c75 c88)) (by kernel_rfl) (by simp only [j3_eq])))))
def j1 (k : Nat) (Rt : D4 -> Int -> D1 -> Option α) (x9 : D2) (c2p0 c2p1 : D4) (c2p2 : Int) (c4p0 c4p1 : D4) (c4p2 : Int) (c62 : D2) : Option α :=
 l1 k (fun c2p0 c2p1 c2p2 c4p0 c4p1 c4p2 c62 c75 c88 => j3 Rt c2p0 c2p1 c2p2 c4p0 c4p1 c4p2 c62 c75 c88) k x9 (x9.length : Int) 0 c2p0 c2p1 c2p2 c4p0 c4p1 c4p2 c62 [] []
theorem j1_eq (k : Nat) (Q : Ex -> St -> Option α) (x9 : D2) (c2p0 c2p1 : D4) (c2p2 : Int) (c4p0 c4p1 : D4) (c4p2 : Int) (c62 : D2) :
  (den C k) cd2 Q (St5 x9 c2p0 c2p1 c2p2 c4p0 c4p1 c4p2 c62) = j1 k (fun x5 x6 c4 => Q .ret (St1 x5 x6 c4)) x9 c2p0 c2p1 c2p2 c4p0 c4p1 c4p2 c62 := by
 have h : ∀ (D L : DT α), denJ D L Js C cd2 Q (St5 x9 c2p0 c2p1 c2p2 c4p0 c4p1 c4p2 c62) =
    L cd3 (blkQ C 2 (sq D L Js C cd5 Q)) (St6 x9 (x9.length : Int) 0 c2p0 c2p1 c2p2 c4p0 c4p1 c4p2 c62 [] []) := by
  intro D L; kernel_rfl
 have h2 := via (k := k) h
 refine h2.trans ?_
 simp only [a0]
 first | rfl | kernel_rfl
theorem a1 (k : Nat) (Q : Ex -> St -> Option α) (x9 x46 : D2) (x47 x48 : Int) (c2p0 c2p1 : D4) (c2p2 : Int) (c4p0 c4p1 : D4) (c4p2 : Int) (c62 : D2) :
  (lp C k) cd0 (blkQ C 0 (sq (den C k) (lp C k) Js C cd2 Q)) (St2 x9 x46 x47 x48 c2p0 c2p1 c2p2 c4p0 c4p1 c4p2 c62) = l0 k (fun x9 c2p0 c2p1 c2p2 c4p0 c4p1 c4p2 c62 => j1 k (fun x5 x6 c4 => Q .ret (St1 x5 x6 c4)) x9 c2p0 c2p1 c2p2 c4p0 c4p1 c4p2 c62) k x9 x46 x47 x48 c2p0 c2p1 c2p2 c4p0 c4p1 c4p2 c62 :=
 (lp_iter 30 (by kernel_rfl)).trans ((l0_eq k _ k x9 x46 x47 x48 c2p0 c2p1 c2p2 c4p0 c4p1 c4p2 c62).trans (congrArg (fun X => l0 k X k x9 x46 x47 x48 c2p0 c2p1 c2p2 c4p0 c4p1 c4p2 c62) (funext fun x9 => funext fun c2p0 => funext fun c2p1 => funext fun c2p2 => funext fun c4p0 => funext fun c4p1 => funext fun c4p2 => funext fun c62 => (Eq.trans (b := (den C k) cd2 Q (St5 x9 c2p0 c2p1 c2p2 c4p0 c4p1 c4p2 c62)) (by kernel_rfl) (by simp only [j1_eq])))))
def top (k : Nat) (Rt : D4 -> Int -> D1 -> Option α) (x0 : D1) (x1 : Int) : Option α :=
 (gate_Check.run x0).bind fun y1 =>
 if (y1 != 0) = true then
  Rt [] y1 ([0, 0, 0], [0, 0, 0], 0, [], [], ())
 else
  if (cond (cond (decide (x1 < 1)) true (decide (x1 > 1000))) true (decide ((IntKind.i64.wrap (x0.2.2.1 + x1)) > 1099511627776))) = true then
   Rt [] 6 ([0, 0, 0], [0, 0, 0], 0, [], [], ())
  else
   l0 k (fun x9 c2p0 c2p1 c2p2 c4p0 c4p1 c4p2 c62 => j1 k Rt x9 c2p0 c2p1 c2p2 c4p0 c4p1 c4p2 c62) k x0.2.2.2.2.1 x0.2.2.2.1 (x0.2.2.2.1.length : Int) 0 x0.1 x0.2.1 (IntKind.i64.wrap (x0.2.2.1 + x1)) [0, 0, 0] [0, 0, 0] 0 []
theorem top_eq (k : Nat) (Q : Ex -> St -> Option α) (x0 : D1) (x1 : Int) :
  (den C k) (cB Try.f71) Q (St0 x0 x1) = top k (fun x5 x6 c4 => Q .ret (St1 x5 x6 c4)) x0 x1 := by
 have h : ∀ (D L : DT α), denJ D L Js C (cB Try.f71) Q (St0 x0 x1) =
    (gate_Check.run x0).bind fun y1 =>
    if (y1 != 0) = true then
     Q .ret (St1 [] y1 ([0, 0, 0], [0, 0, 0], 0, [], [], ()))
    else
     if (cond (cond (decide (x1 < 1)) true (decide (x1 > 1000))) true (decide ((IntKind.i64.wrap (x0.2.2.1 + x1)) > 1099511627776))) = true then
      Q .ret (St1 [] 6 ([0, 0, 0], [0, 0, 0], 0, [], [], ()))
     else
      L cd0 (blkQ C 0 (sq D L Js C cd2 Q)) (St2 x0.2.2.2.2.1 x0.2.2.2.1 (x0.2.2.2.1.length : Int) 0 x0.1 x0.2.1 (IntKind.i64.wrap (x0.2.2.1 + x1)) [0, 0, 0] [0, 0, 0] 0 []) := by
  intro D L; kernel_rfl
 have h2 := via (k := k) h
 refine h2.trans ?_
 simp only [a1]
 first | rfl | kernel_rfl
def run (x0 : D1) (x1 : Int) : Option D5 := top (α := D1 × List Int × Int × Unit) fuel (fun x5 x6 c4 => some (c4, x5, x6, ())) x0 x1
def F : Fn := ⟨T10, T13, true, fun x => run x.1 x.2.1⟩
theorem con : Con Try.prog 71 F /\ Named Try.prog 71 :=
 con_of2 (C := C) (ctx_ok (by kernel_rfl) (by kernel_rfl) (by kernel_rfl) (by kernel_rfl) ⟨.inl gate_Check.con, ⟨.inl gate_fits.con, trivial⟩⟩) (by kernel_rfl) Try.func71 (by kernel_rfl) (c := cB Try.f71) (by kernel_rfl) (by kernel_rfl) F (fun x => by simp [F, spread, Try.ntmps71]) (fun x => (St0 x.1 x.2.1)) (fun x => by kernel_rfl) fun x => (top_eq fuel _ x.1 x.2.1).trans (by kernel_rfl)
end Go.Bx.gate_Tick
namespace Go.Bx.guard_passed_s1
def Js : List Nat := [16, 17]
def C : Ctx := ⟨[(3, T1), (28, T7), (32, T19), (34, T22), (40, T2), (107, T12)], [], [], fnL [(64, guard_Id.F), (71, gate_Tick.F)], noSh, [], invL [], [(2, [4, 5]), (1, [2, 4]), (4, [2, 4, 27, 28, 29]), (7, [2, 4, 27, 28, 29]), (10, [2, 4, 10, 27, 28, 29, 34, 35, 36]), (18, [2, 4, 27, 28, 29]), (27, [2, 4, 10, 27, 28, 29, 34, 35, 36]), (45, [2, 4, 27, 28, 29]), (48, [2, 4])], [(2, [.dat false 12 [2], .dat false 12 [4]]), (7, [.dat false 10 [4]]), (18, [.dat false 10 [4]])], [61], 8, 0⟩
def St0 (x0p0 x0p1p0 x0p1p1 : D4) (x0p1p2 : Int) (x0p2p0 x0p2p1 : D4) (x0p2p2 x1 : Int) (c0 c1 : D2) (c2 c3 : D2) (c4 c5 : D4) (c6 c7 : D7) : St := stL 66 [(0, .agg T22 [.data T23 x0p0, .agg T7 [.data T5 x0p1p0, .data T5 x0p1p1, .data T1 x0p1p2, .app 0 0, .app 1 0], .agg T7 [.data T5 x0p2p0, .data T5 x0p2p1, .data T1 x0p2p2, .app 2 0, .app 3 0], .agg T21 [.app 4 0, .app 5 0], .app 6 0, .app 7 0]), (1, .data T1 x1)] [(0, .buf T8 c0 0 true), (1, .buf T8 c1 0 true), (2, .buf T8 c2 0 true), (3, .buf T8 c3 0 true), (4, .buf T18 c4 0 true), (5, .buf T18 c5 0 true), (6, .buf T2 c6 0 true), (7, .buf T2 c7 0 true)]
def St1 (x5 : Int) (c0 c1 : D2) (c2 c3 : D2) (c4 c5 : D4) (c6 c7 : D7) (c12p0 c12p1p0 c12p1p1 : D4) (c12p1p2 : Int) (c12p2 : D1) (c12p4 : D7) : St := stL 66 [(4, .ref 12 0 []), (5, .data T1 x5)] [(0, .buf T8 c0 1 true), (1, .buf T8 c1 1 true), (2, .buf T8 c2 1 true), (3, .buf T8 c3 1 true), (4, .buf T18 c4 1 true), (5, .buf T18 c5 1 true), (6, .buf T2 c6 1 true), (7, .buf T2 c7 1 true), (12, .cell T22 (.agg T22 [.data T23 c12p0, .agg T7 [.data T5 c12p1p0, .data T5 c12p1p1, .data T1 c12p1p2, .app 0 1, .app 1 1], .data T7 c12p2, .agg T21 [.app 4 1, .app 5 1], .data T19 c12p4, .app 7 1]) false)]
def St2 (x27 : D4) (x28 x29 : Int) (c0 c1 : D2) (c2 c3 : D2) (c4 c5 : D4) (c6 c7 : D7) (c10p0 c10p1p0 c10p1p1 : D4) (c10p1p2 : Int) (c10p2 : D1) (c10p4 : D7) (c12p0 c12p1p0 c12p1p1 : D4) (c12p1p2 : Int) (c12p2p0 c12p2p1 : D4) (c12p2p2 : Int) : St := stL 66 [(2, .ref 10 0 []), (4, .ref 12 0 []), (27, .data T12 x27), (28, .data T1 x28), (29, .data T1 x29)] [(0, .buf T8 c0 1 true), (1, .buf T8 c1 1 true), (2, .buf T8 c2 1 true), (3, .buf T8 c3 1 true), (4, .buf T18 c4 1 true), (5, .buf T18 c5 1 true), (6, .buf T2 c6 1 true), (7, .buf T2 c7 1 true), (10, .cell T22 (.agg T22 [.data T23 c10p0, .agg T7 [.data T5 c10p1p0, .data T5 c10p1p1, .data T1 c10p1p2, .app 0 1, .app 1 1], .data T7 c10p2, .agg T21 [.app 4 1, .app 5 1], .data T19 c10p4, .app 7 1]) false), (12, .cell T22 (.agg T22 [.data T23 c12p0, .agg T7 [.data T5 c12p1p0, .data T5 c12p1p1, .data T1 c12p1p2, .full T8 [], .full T8 []], .agg T7 [.data T5 c12p2p0, .data T5 c12p2p1, .data T1 c12p2p2, .full T8 [], .full T8 []], .agg T21 [.full T18 [], .full T18 []], .full T2 [], .full T2 []]) false)]
noncomputable def cd0 : Code := cL (cL (cR (cL (cR (cR (cR (cR (cB Try.f20))))))))
def St3 (x10 : Int) (x27 : D4) (x28 x29 : Int) (x34 : D7) (x35 x36 : Int) (c0 c1 : D2) (c2 c3 : D2) (c4 c5 : D4) (c6 c7 : D7) (c10p0 c10p1p0 c10p1p1 : D4) (c10p1p2 : Int) (c10p2 : D1) (c10p4 : D7) (c12p0 c12p1p0 c12p1p1 : D4) (c12p1p2 : Int) (c12p2p0 c12p2p1 : D4) (c12p2p2 : Int) : St := stL 66 [(2, .ref 10 0 []), (4, .ref 12 0 []), (10, .data T1 x10), (27, .data T12 x27), (28, .data T1 x28), (29, .data T1 x29), (34, .data T19 x34), (35, .data T1 x35), (36, .data T1 x36)] [(0, .buf T8 c0 1 true), (1, .buf T8 c1 1 true), (2, .buf T8 c2 1 true), (3, .buf T8 c3 1 true), (4, .buf T18 c4 1 true), (5, .buf T18 c5 1 true), (6, .buf T2 c6 1 true), (7, .buf T2 c7 1 true), (10, .cell T22 (.agg T22 [.data T23 c10p0, .agg T7 [.data T5 c10p1p0, .data T5 c10p1p1, .data T1 c10p1p2, .app 0 1, .app 1 1], .data T7 c10p2, .agg T21 [.app 4 1, .app 5 1], .data T19 c10p4, .app 7 1]) false), (12, .cell T22 (.agg T22 [.data T23 c12p0, .agg T7 [.data T5 c12p1p0, .data T5 c12p1p1, .data T1 c12p1p2, .full T8 [], .full T8 []], .agg T7 [.data T5 c12p2p0, .data T5 c12p2p1, .data T1 c12p2p2, .full T8 [], .full T8 []], .agg T21 [.full T18 [], .full T18 []], .full T2 [], .full T2 []]) false)]
noncomputable def cd1 : Code := cL (cL (cR (cR (cL (cL (cR (cR (cL (cL (cR (cL (cR (cR (cR (cR (cB Try.f20))))))))))))))))
def St4 (x27 : D4) (x28 x29 : Int) (c0 c1 : D2) (c2 c3 : D2) (c4 c5 : D4) (c6 c7 : D7) (c10p0 c10p1p0 c10p1p1 : D4) (c10p1p2 : Int) (c10p2 : D1) (c10p4 : D7) (c12p0 c12p1p0 c12p1p1 : D4) (c12p1p2 : Int) (c12p2p0 c12p2p1 : D4) (c12p2p2 : Int) : St := stL 66 [(2, .ref 10 0 []), (4, .ref 12 0 []), (27, .data T12 x27), (28, .data T1 x28), (29, .data T1 x29)] [(0, .buf T8 c0 1 true), (1, .buf T8 c1 1 true), (2, .buf T8 c2 1 true), (3, .buf T8 c3 1 true), (4, .buf T18 c4 1 true), (5, .buf T18 c5 1 true), (6, .buf T2 c6 1 true), (7, .buf T2 c7 1 true), (10, .cell T22 (.agg T22 [.data T23 c10p0, .agg T7 [.data T5 c10p1p0, .data T5 c10p1p1, .data T1 c10p1p2, .app 0 1, .app 1 1], .data T7 c10p2, .agg T21 [.app 4 1, .app 5 1], .data T19 c10p4, .app 7 1]) false), (12, .cell T22 (.agg T22 [.data T23 c12p0, .agg T7 [.data T5 c12p1p0, .data T5 c12p1p1, .data T1 c12p1p2, .full T8 [], .full T8 []], .agg T7 [.data T5 c12p2p0, .data T5 c12p2p1, .data T1 c12p2p2, .full T8 [], .full T8 []], .agg T21 [.full T18 [], .full T18 []], .full T2 [], .full T2 []]) false)]
def l1s (Nx : Int -> D4 -> Int -> Int -> D7 -> Int -> Int -> D2 -> D2 -> D2 -> D2 -> D4 -> D4 -> D7 -> D7 -> D4 -> D4 -> D4 -> Int -> D1 -> D7 -> D4 -> D4 -> D4 -> Int -> D4 -> D4 -> Int -> Option α) (Xt2 : D4 -> Int -> Int -> D2 -> D2 -> D2 -> D2 -> D4 -> D4 -> D7 -> D7 -> D4 -> D4 -> D4 -> Int -> D1 -> D7 -> D4 -> D4 -> D4 -> Int -> D4 -> D4 -> Int -> Option α) (x10 : Int) (x27 : D4) (x28 x29 : Int) (x34 : D7) (x35 x36 : Int) (c0 c1 : D2) (c2 c3 : D2) (c4 c5 : D4) (c6 c7 : D7) (c10p0 c10p1p0 c10p1p1 : D4) (c10p1p2 : Int) (c10p2 : D1) (c10p4 : D7) (c12p0 c12p1p0 c12p1p1 : D4) (c12p1p2 : Int) (c12p2p0 c12p2p1 : D4) (c12p2p2 : Int) : Option α :=
 if (decide (x36 < x35)) = true then
  if 0 <= x36 /\ x36 < (x34.length : Int) then
   (guard_Id.run (List.getD x34 (Int.toNat x36) (0, 0, 0, (List.replicate 32 0), 0, 0, [], ()))).bind fun y2 =>
   if (y2 == x10) = true then
    if fitB (c7.length + 1) 96 = true then
     if 0 <= (0 : Int) /\ (0 : Int) <= x36 /\ x36 <= (c10p4.length : Int) /\ x36 = x36 then
      if 0 <= (IntKind.i64.wrap (x36 + 1)) /\ (IntKind.i64.wrap (x36 + 1)) <= (c10p4.length : Int) /\ (c10p4.length : Int) <= (c10p4.length : Int) then
       if fitB ((cutL c10p4 0 x36).length + (cutL c10p4 (IntKind.i64.wrap (x36 + 1)) (c10p4.length : Int)).length) 96 = true then
        Xt2 x27 x28 x29 c0 c1 c2 c3 c4 c5 c6 (c7 ++ [(List.getD x34 (Int.toNat x36) (0, 0, 0, (List.replicate 32 0), 0, 0, [], ()))]) c10p0 c10p1p0 c10p1p1 c10p1p2 c10p2 ((cutL c10p4 0 x36) ++ (cutL c10p4 (IntKind.i64.wrap (x36 + 1)) (c10p4.length : Int))) c12p0 c12p1p0 c12p1p1 c12p1p2 c12p2p0 c12p2p1 c12p2p2
       else none
      else none
     else none
    else none
   else
    Nx x10 x27 x28 x29 x34 x35 (IntKind.i64.wrap (x36 + 1)) c0 c1 c2 c3 c4 c5 c6 c7 c10p0 c10p1p0 c10p1p1 c10p1p2 c10p2 c10p4 c12p0 c12p1p0 c12p1p1 c12p1p2 c12p2p0 c12p2p1 c12p2p2
  else none
 else
  Xt2 x27 x28 x29 c0 c1 c2 c3 c4 c5 c6 c7 c10p0 c10p1p0 c10p1p1 c10p1p2 c10p2 c10p4 c12p0 c12p1p0 c12p1p1 c12p1p2 c12p2p0 c12p2p1 c12p2p2
theorem l1s_eq (k : Nat) (next : St -> Option α) (Q : Ex -> St -> Option α) (x10 : Int) (x27 : D4) (x28 x29 : Int) (x34 : D7) (x35 x36 : Int) (c0 c1 : D2) (c2 c3 : D2) (c4 c5 : D4) (c6 c7 : D7) (c10p0 c10p1p0 c10p1p1 : D4) (c10p1p2 : Int) (c10p2 : D1) (c10p4 : D7) (c12p0 c12p1p0 c12p1p1 : D4) (c12p1p2 : Int) (c12p2p0 c12p2p1 : D4) (c12p2p2 : Int) :
  rnd C k cd1 27 Q next (St3 x10 x27 x28 x29 x34 x35 x36 c0 c1 c2 c3 c4 c5 c6 c7 c10p0 c10p1p0 c10p1p1 c10p1p2 c10p2 c10p4 c12p0 c12p1p0 c12p1p1 c12p1p2 c12p2p0 c12p2p1 c12p2p2) = l1s (fun x10 x27 x28 x29 x34 x35 x36 c0 c1 c2 c3 c4 c5 c6 c7 c10p0 c10p1p0 c10p1p1 c10p1p2 c10p2 c10p4 c12p0 c12p1p0 c12p1p1 c12p1p2 c12p2p0 c12p2p1 c12p2p2 => next (St3 x10 x27 x28 x29 x34 x35 x36 c0 c1 c2 c3 c4 c5 c6 c7 c10p0 c10p1p0 c10p1p1 c10p1p2 c10p2 c10p4 c12p0 c12p1p0 c12p1p1 c12p1p2 c12p2p0 c12p2p1 c12p2p2)) (fun x27 x28 x29 c0 c1 c2 c3 c4 c5 c6 c7 c10p0 c10p1p0 c10p1p1 c10p1p2 c10p2 c10p4 c12p0 c12p1p0 c12p1p1 c12p1p2 c12p2p0 c12p2p1 c12p2p2 => Q (.exit 2) (St4 x27 x28 x29 c0 c1 c2 c3 c4 c5 c6 c7 c10p0 c10p1p0 c10p1p1 c10p1p2 c10p2 c10p4 c12p0 c12p1p0 c12p1p1 c12p1p2 c12p2p0 c12p2p1 c12p2p2)) x10 x27 x28 x29 x34 x35 x36 c0 c1 c2 c3 c4 c5 c6 c7 c10p0 c10p1p0 c10p1p1 c10p1p2 c10p2 c10p4 c12p0 c12p1p0 c12p1p1 c12p1p2 c12p2p0 c12p2p1 c12p2p2 := plainly Js (by kernel_rfl)
def l1 (k : Nat) (Xt2 : D4 -> Int -> Int -> D2 -> D2 -> D2 -> D2 -> D4 -> D4 -> D7 -> D7 -> D4 -> D4 -> D4 -> Int -> D1 -> D7 -> D4 -> D4 -> D4 -> Int -> D4 -> D4 -> Int -> Option α) : Nat -> Int -> D4 -> Int -> Int -> D7 -> Int -> Int -> D2 -> D2 -> D2 -> D2 -> D4 -> D4 -> D7 -> D7 -> D4 -> D4 -> D4 -> Int -> D1 -> D7 -> D4 -> D4 -> D4 -> Int -> D4 -> D4 -> Int -> Option α
 | 0, _, _, _, _, _, _, _, _, _, _, _, _, _, _, _, _, _, _, _, _, _, _, _, _, _, _, _, _ => none
 | n + 1, x10, x27, x28, x29, x34, x35, x36, c0, c1, c2, c3, c4, c5, c6, c7, c10p0, c10p1p0, c10p1p1, c10p1p2, c10p2, c10p4, c12p0, c12p1p0, c12p1p1, c12p1p2, c12p2p0, c12p2p1, c12p2p2 => l1s (l1 k Xt2 n) Xt2 x10 x27 x28 x29 x34 x35 x36 c0 c1 c2 c3 c4 c5 c6 c7 c10p0 c10p1p0 c10p1p1 c10p1p2 c10p2 c10p4 c12p0 c12p1p0 c12p1p1 c12p1p2 c12p2p0 c12p2p1 c12p2p2
theorem l1_eq (k : Nat) (Q : Ex -> St -> Option α) : ∀ (n : Nat) (x10 : Int) (x27 : D4) (x28 x29 : Int) (x34 : D7) (x35 x36 : Int) (c0 c1 : D2) (c2 c3 : D2) (c4 c5 : D4) (c6 c7 : D7) (c10p0 c10p1p0 c10p1p1 : D4) (c10p1p2 : Int) (c10p2 : D1) (c10p4 : D7) (c12p0 c12p1p0 c12p1p1 : D4) (c12p1p2 : Int) (c12p2p0 c12p2p1 : D4) (c12p2p2 : Int), iter (rnd C k cd1 27 Q) n (St3 x10 x27 x28 x29 x34 x35 x36 c0 c1 c2 c3 c4 c5 c6 c7 c10p0 c10p1p0 c10p1p1 c10p1p2 c10p2 c10p4 c12p0 c12p1p0 c12p1p1 c12p1p2 c12p2p0 c12p2p1 c12p2p2) = l1 k (fun x27 x28 x29 c0 c1 c2 c3 c4 c5 c6 c7 c10p0 c10p1p0 c10p1p1 c10p1p2 c10p2 c10p4 c12p0 c12p1p0 c12p1p1 c12p1p2 c12p2p0 c12p2p1 c12p2p2 => Q (.exit 2) (St4 x27 x28 x29 c0 c1 c2 c3 c4 c5 c6 c7 c10p0 c10p1p0 c10p1p1 c10p1p2 c10p2 c10p4 c12p0 c12p1p0 c12p1p1 c12p1p2 c12p2p0 c12p2p1 c12p2p2)) n x10 x27 x28 x29 x34 x35 x36 c0 c1 c2 c3 c4 c5 c6 c7 c10p0 c10p1p0 c10p1p1 c10p1p2 c10p2 c10p4 c12p0 c12p1p0 c12p1p1 c12p1p2 c12p2p0 c12p2p1 c12p2p2
 | 0, _, _, _, _, _, _, _, _, _, _, _, _, _, _, _, _, _, _, _, _, _, _, _, _, _, _, _, _ => rfl
 | n + 1, x10, x27, x28, x29, x34, x35, x36, c0, c1, c2, c3, c4, c5, c6, c7, c10p0, c10p1p0, c10p1p1, c10p1p2, c10p2, c10p4, c12p0, c12p1p0, c12p1p1, c12p1p2, c12p2p0, c12p2p1, c12p2p2 => (iter_succ _ _ _).trans ((l1s_eq k _ Q x10 x27 x28 x29 x34 x35 x36 c0 c1 c2 c3 c4 c5 c6 c7 c10p0 c10p1p0 c10p1p1 c10p1p2 c10p2 c10p4 c12p0 c12p1p0 c12p1p1 c12p1p2 c12p2p0 c12p2p1 c12p2p2).trans (congrArg (fun N => l1s N (fun x27 x28 x29 c0 c1 c2 c3 c4 c5 c6 c7 c10p0 c10p1p0 c10p1p1 c10p1p2 c10p2 c10p4 c12p0 c12p1p0 c12p1p1 c12p1p2 c12p2p0 c12p2p1 c12p2p2 => Q (.exit 2) (St4 x27 x28 x29 c0 c1 c2 c3 c4 c5 c6 c7 c10p0 c10p1p0 c10p1p1 c10p1p2 c10p2 c10p4 c12p0 c12p1p0 c12p1p1 c12p1p2 c12p2p0 c12p2p1 c12p2p2)) x10 x27 x28 x29 x34 x35 x36 c0 c1 c2 c3 c4 c5 c6 c7 c10p0 c10p1p0 c10p1p1 c10p1p2 c10p2 c10p4 c12p0 c12p1p0 c12p1p1 c12p1p2 c12p2p0 c12p2p1 c12p2p2) (by funext; exact l1_eq k Q n _ _ _ _ _ _ _ _ _ _ _ _ _ _ _ _ _ _ _ _ _ _ _ _ _ _ _ _)))
noncomputable def cd2 : Code := cR (cR (cR (cL (cL (cR (cL (cR (cR (cR (cR (cB Try.f20)))))))))))
def St5 (x27 : D4) (x28 x29 : Int) (c0 c1 : D2) (c2 c3 : D2) (c4 c5 : D4) (c6 c7 : D7) (c10p0 c10p1p0 c10p1p1 : D4) (c10p1p2 : Int) (c10p2 : D1) (c10p4 : D7) (c12p0 c12p1p0 c12p1p1 : D4) (c12p1p2 : Int) (c12p2p0 c12p2p1 : D4) (c12p2p2 : Int) : St := stL 66 [(2, .ref 10 0 []), (4, .ref 12 0 []), (27, .data T12 x27), (28, .data T1 x28), (29, .data T1 x29)] [(0, .buf T8 c0 1 true), (1, .buf T8 c1 1 true), (2, .buf T8 c2 1 true), (3, .buf T8 c3 1 true), (4, .buf T18 c4 1 true), (5, .buf T18 c5 1 true), (6, .buf T2 c6 1 true), (7, .buf T2 c7 1 true), (10, .cell T22 (.agg T22 [.data T23 c10p0, .agg T7 [.data T5 c10p1p0, .data T5 c10p1p1, .data T1 c10p1p2, .app 0 1, .app 1 1], .data T7 c10p2, .agg T21 [.app 4 1, .app 5 1], .data T19 c10p4, .app 7 1]) false), (12, .cell T22 (.agg T22 [.data T23 c12p0, .agg T7 [.data T5 c12p1p0, .data T5 c12p1p1, .data T1 c12p1p2, .full T8 [], .full T8 []], .agg T7 [.data T5 c12p2p0, .data T5 c12p2p1, .data T1 c12p2p2, .full T8 [], .full T8 []], .agg T21 [.full T18 [], .full T18 []], .full T2 [], .full T2 []]) false)]
def j0 (Nx : D4 -> Int -> Int -> D2 -> D2 -> D2 -> D2 -> D4 -> D4 -> D7 -> D7 -> D4 -> D4 -> D4 -> Int -> D1 -> D7 -> D4 -> D4 -> D4 -> Int -> D4 -> D4 -> Int -> Option α) (x27 : D4) (x28 x29 : Int) (c0 c1 : D2) (c2 c3 : D2) (c4 c5 : D4) (c6 c7 : D7) (c10p0 c10p1p0 c10p1p1 : D4) (c10p1p2 : Int) (c10p2 : D1) (c10p4 : D7) (c12p0 c12p1p0 c12p1p1 : D4) (c12p1p2 : Int) (c12p2p0 c12p2p1 : D4) (c12p2p2 : Int) : Option α :=
 Nx x27 x28 (IntKind.i64.wrap (x29 + 1)) c0 c1 c2 c3 c4 c5 c6 c7 c10p0 c10p1p0 c10p1p1 c10p1p2 c10p2 c10p4 c12p0 c12p1p0 c12p1p1 c12p1p2 c12p2p0 c12p2p1 c12p2p2
theorem j0_eq (k : Nat) (next : St -> Option α) (Q : Ex -> St -> Option α) (x27 : D4) (x28 x29 : Int) (c0 c1 : D2) (c2 c3 : D2) (c4 c5 : D4) (c6 c7 : D7) (c10p0 c10p1p0 c10p1p1 : D4) (c10p1p2 : Int) (c10p2 : D1) (c10p4 : D7) (c12p0 c12p1p0 c12p1p1 : D4) (c12p1p2 : Int) (c12p2p0 c12p2p1 : D4) (c12p2p2 : Int) :
  (den C k) cd2 (lq C 18 next Q) (St5 x27 x28 x29 c0 c1 c2 c3 c4 c5 c6 c7 c10p0 c10p1p0 c10p1p1 c10p1p2 c10p2 c10p4 c12p0 c12p1p0 c12p1p1 c12p1p2 c12p2p0 c12p2p1 c12p2p2) = j0 (fun x27 x28 x29 c0 c1 c2 c3 c4 c5 c6 c7 c10p0 c10p1p0 c10p1p1 c10p1p2 c10p2 c10p4 c12p0 c12p1p0 c12p1p1 c12p1p2 c12p2p0 c12p2p1 c12p2p2 => next (St2 x27 x28 x29 c0 c1 c2 c3 c4 c5 c6 c7 c10p0 c10p1p0 c10p1p1 c10p1p2 c10p2 c10p4 c12p0 c12p1p0 c12p1p1 c12p1p2 c12p2p0 c12p2p1 c12p2p2)) x27 x28 x29 c0 c1 c2 c3 c4 c5 c6 c7 c10p0 c10p1p0 c10p1p1 c10p1p2 c10p2 c10p4 c12p0 c12p1p0 c12p1p1 c12p1p2 c12p2p0 c12p2p1 c12p2p2 := plainly Js (by kernel_rfl)
theorem a0 (k : Nat) (next : St -> Option α) (Q : Ex -> St -> Option α) (x10 : Int) (x27 : D4) (x28 x29 : Int) (x34 : D7) (x35 x36 : Int) (c0 c1 : D2) (c2 c3 : D2) (c4 c5 : D4) (c6 c7 : D7) (c10p0 c10p1p0 c10p1p1 : D4) (c10p1p2 : Int) (c10p2 : D1) (c10p4 : D7) (c12p0 c12p1p0 c12p1p1 : D4) (c12p1p2 : Int) (c12p2p0 c12p2p1 : D4) (c12p2p2 : Int) :
  (lp C k) cd1 (blkQ C 2 (blkQ C 1 (sq (den C k) (lp C k) Js C cd2 (lq C 18 next Q)))) (St3 x10 x27 x28 x29 x34 x35 x36 c0 c1 c2 c3 c4 c5 c6 c7 c10p0 c10p1p0 c10p1p1 c10p1p2 c10p2 c10p4 c12p0 c12p1p0 c12p1p1 c12p1p2 c12p2p0 c12p2p1 c12p2p2) = l1 k (fun x27 x28 x29 c0 c1 c2 c3 c4 c5 c6 c7 c10p0 c10p1p0 c10p1p1 c10p1p2 c10p2 c10p4 c12p0 c12p1p0 c12p1p1 c12p1p2 c12p2p0 c12p2p1 c12p2p2 => j0 (fun x27 x28 x29 c0 c1 c2 c3 c4 c5 c6 c7 c10p0 c10p1p0 c10p1p1 c10p1p2 c10p2 c10p4 c12p0 c12p1p0 c12p1p1 c12p1p2 c12p2p0 c12p2p1 c12p2p2 => next (St2 x27 x28 x29 c0 c1 c2 c3 c4 c5 c6 c7 c10p0 c10p1p0 c10p1p1 c10p1p2 c10p2 c10p4 c12p0 c12p1p0 c12p1p1 c12p1p2 c12p2p0 c12p2p1 c12p2p2)) x27 x28 x29 c0 c1 c2 c3 c4 c5 c6 c7 c10p0 c10p1p0 c10p1p1 c10p1p2 c10p2 c10p4 c12p0 c12p1p0 c12p1p1 c12p1p2 c12p2p0 c12p2p1 c12p2p2) k x10 x27 x28 x29 x34 x35 x36 c0 c1 c2 c3 c4 c5 c6 c7 c10p0 c10p1p0 c10p1p1 c10p1p2 c10p2 c10p4 c12p0 c12p1p0 c12p1p1 c12p1p2 c12p2p0 c12p2p1 c12p2p2 :=
 (lp_iter 27 (by kernel_rfl)).trans ((l1_eq k _ k x10 x27 x28 x29 x34 x35 x36 c0 c1 c2 c3 c4 c5 c6 c7 c10p0 c10p1p0 c10p1p1 c10p1p2 c10p2 c10p4 c12p0 c12p1p0 c12p1p1 c12p1p2 c12p2p0 c12p2p1 c12p2p2).trans (congrArg (fun X => l1 k X k x10 x27 x28 x29 x34 x35 x36 c0 c1 c2 c3 c4 c5 c6 c7 c10p0 c10p1p0 c10p1p1 c10p1p2 c10p2 c10p4 c12p0 c12p1p0 c12p1p1 c12p1p2 c12p2p0 c12p2p1 c12p2p2) (funext fun x27 => funext fun x28 => funext fun x29 => funext fun c0 => funext fun c1 => funext fun c2 => funext fun c3 => funext fun c4 => funext fun c5 => funext fun c6 => funext fun c7 => funext fun c10p0 => funext fun c10p1p0 => funext fun c10p1p1 => funext fun c10p1p2 => funext fun c10p2 => funext fun c10p4 => funext fun c12p0 => funext fun c12p1p0 => funext fun c12p1p1 => funext fun c12p1p2 => funext fun c12p2p0 => funext fun c12p2p1 => funext fun c12p2p2 => (Eq.trans (b := (den C k) cd2 (lq C 18 next Q) (St5 x27 x28 x29 c0 c1 c2 c3 c4 c5 c6 c7 c10p0 c10p1p0 c10p1p1 c10p1p2 c10p2 c10p4 c12p0 c12p1p0 c12p1p1 c12p1p2 c12p2p0 c12p2p1 c12p2p2)) (by kernel_rfl) (by simp only [j0_eq])))))
def St6 (c0 c1 : D2) (c2 c3 : D2) (c4 c5 : D4) (c6 c7 : D7) (c10p0 c10p1p0 c10p1p1 : D4) (c10p1p2 : Int) (c10p2 : D1) (c10p4 : D7) (c12p0 c12p1p0 c12p1p1 : D4) (c12p1p2 : Int) (c12p2p0 c12p2p1 : D4) (c12p2p2 : Int) : St := stL 66 [(2, .ref 10 0 []), (4, .ref 12 0 [])] [(0, .buf T8 c0 1 true), (1, .buf T8 c1 1 true), (2, .buf T8 c2 1 true), (3, .buf T8 c3 1 true), (4, .buf T18 c4 1 true), (5, .buf T18 c5 1 true), (6, .buf T2 c6 1 true), (7, .buf T2 c7 1 true), (10, .cell T22 (.agg T22 [.data T23 c10p0, .agg T7 [.data T5 c10p1p0, .data T5 c10p1p1, .data T1 c10p1p2, .app 0 1, .app 1 1], .data T7 c10p2, .agg T21 [.app 4 1, .app 5 1], .data T19 c10p4, .app 7 1]) false), (12, .cell T22 (.agg T22 [.data T23 c12p0, .agg T7 [.data T5 c12p1p0, .data T5 c12p1p1, .data T1 c12p1p2, .full T8 [], .full T8 []], .agg T7 [.data T5 c12p2p0, .data T5 c12p2p1, .data T1 c12p2p2, .full T8 [], .full T8 []], .agg T21 [.full T18 [], .full T18 []], .full T2 [], .full T2 []]) false)]
def l0s (k : Nat) (Nx : D4 -> Int -> Int -> D2 -> D2 -> D2 -> D2 -> D4 -> D4 -> D7 -> D7 -> D4 -> D4 -> D4 -> Int -> D1 -> D7 -> D4 -> D4 -> D4 -> Int -> D4 -> D4 -> Int -> Option α) (Xt0 : D2 -> D2 -> D2 -> D2 -> D4 -> D4 -> D7 -> D7 -> D4 -> D4 -> D4 -> Int -> D1 -> D7 -> D4 -> D4 -> D4 -> Int -> D4 -> D4 -> Int -> Option α) (x27 : D4) (x28 x29 : Int) (c0 c1 : D2) (c2 c3 : D2) (c4 c5 : D4) (c6 c7 : D7) (c10p0 c10p1p0 c10p1p1 : D4) (c10p1p2 : Int) (c10p2 : D1) (c10p4 : D7) (c12p0 c12p1p0 c12p1p1 : D4) (c12p1p2 : Int) (c12p2p0 c12p2p1 : D4) (c12p2p2 : Int) : Option α :=
 if (decide (x29 < x28)) = true then
  if 0 <= x29 /\ x29 < (x27.length : Int) then
   l1 k (fun x27 x28 x29 c0 c1 c2 c3 c4 c5 c6 c7 c10p0 c10p1p0 c10p1p1 c10p1p2 c10p2 c10p4 c12p0 c12p1p0 c12p1p1 c12p1p2 c12p2p0 c12p2p1 c12p2p2 => j0 Nx x27 x28 x29 c0 c1 c2 c3 c4 c5 c6 c7 c10p0 c10p1p0 c10p1p1 c10p1p2 c10p2 c10p4 c12p0 c12p1p0 c12p1p1 c12p1p2 c12p2p0 c12p2p1 c12p2p2) k (List.getD x27 (Int.toNat x29) 0) x27 x28 x29 c10p4 (c10p4.length : Int) 0 c0 c1 c2 c3 c4 c5 c6 c7 c10p0 c10p1p0 c10p1p1 c10p1p2 c10p2 c10p4 c12p0 c12p1p0 c12p1p1 c12p1p2 c12p2p0 c12p2p1 c12p2p2
  else none
 else
  Xt0 c0 c1 c2 c3 c4 c5 c6 c7 c10p0 c10p1p0 c10p1p1 c10p1p2 c10p2 c10p4 c12p0 c12p1p0 c12p1p1 c12p1p2 c12p2p0 c12p2p1 c12p2p2
theorem l0s_eq (k : Nat) (next : St -> Option α) (Q : Ex -> St -> Option α) (x27 : D4) (x28 x29 : Int) (c0 c1 : D2) (c2 c3 : D2) (c4 c5 : D4) (c6 c7 : D7) (c10p0 c10p1p0 c10p1p1 : D4) (c10p1p2 : Int) (c10p2 : D1) (c10p4 : D7) (c12p0 c12p1p0 c12p1p1 : D4) (c12p1p2 : Int) (c12p2p0 c12p2p1 : D4) (c12p2p2 : Int) :
  rnd C k cd0 18 Q next (St2 x27 x28 x29 c0 c1 c2 c3 c4 c5 c6 c7 c10p0 c10p1p0 c10p1p1 c10p1p2 c10p2 c10p4 c12p0 c12p1p0 c12p1p1 c12p1p2 c12p2p0 c12p2p1 c12p2p2) = l0s k (fun x27 x28 x29 c0 c1 c2 c3 c4 c5 c6 c7 c10p0 c10p1p0 c10p1p1 c10p1p2 c10p2 c10p4 c12p0 c12p1p0 c12p1p1 c12p1p2 c12p2p0 c12p2p1 c12p2p2 => next (St2 x27 x28 x29 c0 c1 c2 c3 c4 c5 c6 c7 c10p0 c10p1p0 c10p1p1 c10p1p2 c10p2 c10p4 c12p0 c12p1p0 c12p1p1 c12p1p2 c12p2p0 c12p2p1 c12p2p2)) (fun c0 c1 c2 c3 c4 c5 c6 c7 c10p0 c10p1p0 c10p1p1 c10p1p2 c10p2 c10p4 c12p0 c12p1p0 c12p1p1 c12p1p2 c12p2p0 c12p2p1 c12p2p2 => Q (.exit 0) (St6 c0 c1 c2 c3 c4 c5 c6 c7 c10p0 c10p1p0 c10p1p1 c10p1p2 c10p2 c10p4 c12p0 c12p1p0 c12p1p1 c12p1p2 c12p2p0 c12p2p1 c12p2p2)) x27 x28 x29 c0 c1 c2 c3 c4 c5 c6 c7 c10p0 c10p1p0 c10p1p1 c10p1p2 c10p2 c10p4 c12p0 c12p1p0 c12p1p1 c12p1p2 c12p2p0 c12p2p1 c12p2p2 := by
 have h : ∀ (D L : DT α), denJ D L Js C cd0 (lq C 18 next Q) (St2 x27 x28 x29 c0 c1 c2 c3 c4 c5 c6 c7 c10p0 c10p1p0 c10p1p1 c10p1p2 c10p2 c10p4 c12p0 c12p1p0 c12p1p1 c12p1p2 c12p2p0 c12p2p1 c12p2p2) =
    if (decide (x29 < x28)) = true then
     if 0 <= x29 /\ x29 < (x27.length : Int) then
      L cd1 (blkQ C 2 (blkQ C 1 (sq D L Js C cd2 (lq C 18 next Q)))) (St3 (List.getD x27 (Int.toNat x29) 0) x27 x28 x29 c10p4 (c10p4.length : Int) 0 c0 c1 c2 c3 c4 c5 c6 c7 c10p0 c10p1p0 c10p1p1 c10p1p2 c10p2 c10p4 c12p0 c12p1p0 c12p1p1 c12p1p2 c12p2p0 c12p2p1 c12p2p2)
     else none
    else
     Q (.exit 0) (St6 c0 c1 c2 c3 c4 c5 c6 c7 c10p0 c10p1p0 c10p1p1 c10p1p2 c10p2 c10p4 c12p0 c12p1p0 c12p1p1 c12p1p2 c12p2p0 c12p2p1 c12p2p2) := by
  intro D L; kernel_rfl
 have h2 := via (k := k) h
 refine h2.trans ?_
 simp only [a0]
 first | rfl | kernel_rfl
def l0 (k : Nat) (Xt0 : D2 -> D2 -> D2 -> D2 -> D4 -> D4 -> D7 -> D7 -> D4 -> D4 -> D4 -> Int -> D1 -> D7 -> D4 -> D4 -> D4 -> Int -> D4 -> D4 -> Int -> Option α) : Nat -> D4 -> Int -> Int -> D2 -> D2 -> D2 -> D2 -> D4 -> D4 -> D7 -> D7 -> D4 -> D4 -> D4 -> Int -> D1 -> D7 -> D4 -> D4 -> D4 -> Int -> D4 -> D4 -> Int -> Option α
 | 0, _, _, _, _, _, _, _, _, _, _, _, _, _, _, _, _, _, _, _, _, _, _, _, _ => none
 | n + 1, x27, x28, x29, c0, c1, c2, c3, c4, c5, c6, c7, c10p0, c10p1p0, c10p1p1, c10p1p2, c10p2, c10p4, c12p0, c12p1p0, c12p1p1, c12p1p2, c12p2p0, c12p2p1, c12p2p2 => l0s k (l0 k Xt0 n) Xt0 x27 x28 x29 c0 c1 c2 c3 c4 c5 c6 c7 c10p0 c10p1p0 c10p1p1 c10p1p2 c10p2 c10p4 c12p0 c12p1p0 c12p1p1 c12p1p2 c12p2p0 c12p2p1 c12p2p2
theorem l0_eq (k : Nat) (Q : Ex -> St -> Option α) : ∀ (n : Nat) (x27 : D4) (x28 x29 : Int) (c0 c1 : D2) (c2 c3 : D2) (c4 c5 : D4) (c6 c7 : D7) (c10p0 c10p1p0 c10p1p1 : D4) (c10p1p2 : Int) (c10p2 : D1) (c10p4 : D7) (c12p0 c12p1p0 c12p1p1 : D4) (c12p1p2 : Int) (c12p2p0 c12p2p1 : D4) (c12p2p2 : Int), iter (rnd C k cd0 18 Q) n (St2 x27 x28 x29 c0 c1 c2 c3 c4 c5 c6 c7 c10p0 c10p1p0 c10p1p1 c10p1p2 c10p2 c10p4 c12p0 c12p1p0 c12p1p1 c12p1p2 c12p2p0 c12p2p1 c12p2p2) = l0 k (fun c0 c1 c2 c3 c4 c5 c6 c7 c10p0 c10p1p0 c10p1p1 c10p1p2 c10p2 c10p4 c12p0 c12p1p0 c12p1p1 c12p1p2 c12p2p0 c12p2p1 c12p2p2 => Q (.exit 0) (St6 c0 c1 c2 c3 c4 c5 c6 c7 c10p0 c10p1p0 c10p1p1 c10p1p2 c10p2 c10p4 c12p0 c12p1p0 c12p1p1 c12p1p2 c12p2p0 c12p2p1 c12p2p2)) n x27 x28 x29 c0 c1 c2 c3 c4 c5 c6 c7 c10p0 c10p1p0 c10p1p1 c10p1p2 c10p2 c10p4 c12p0 c12p1p0 c12p1p1 c12p1p2 c12p2p0 c12p2p1 c12p2p2
 | 0, _, _, _, _, _, _, _, _, _, _, _, _, _, _, _, _, _, _, _, _, _, _, _, _ => rfl
 | n + 1, x27, x28, x29, c0, c1, c2, c3, c4, c5, c6, c7, c10p0, c10p1p0, c10p1p1, c10p1p2, c10p2, c10p4, c12p0, c12p1p0, c12p1p1, c12p1p2, c12p2p0, c12p2p1, c12p2p2 => (iter_succ _ _ _).trans ((l0s_eq k _ Q x27 x28 x29 c0 c1 c2 c3 c4 c5 c6 c7 c10p0 c10p1p0 c10p1p1 c10p1p2 c10p2 c10p4 c12p0 c12p1p0 c12p1p1 c12p1p2 c12p2p0 c12p2p1 c12p2p2).trans (congrArg (fun N => l0s k N (fun c0 c1 c2 c3 c4 c5 c6 c7 c10p0 c10p1p0 c10p1p1 c10p1p2 c10p2 c10p4 c12p0 c12p1p0 c12p1p1 c12p1p2 c12p2p0 c12p2p1 c12p2p2 => Q (.exit 0) (St6 c0 c1 c2 c3 c4 c5 c6 c7 c10p0 c10p1p0 c10p1p1 c10p1p2 c10p2 c10p4 c12p0 c12p1p0 c12p1p1 c12p1p2 c12p2p0 c12p2p1 c12p2p2)) x27 x28 x29 c0 c1 c2 c3 c4 c5 c6 c7 c10p0 c10p1p0 c10p1p1 c10p1p2 c10p2 c10p4 c12p0 c12p1p0 c12p1p1 c12p1p2 c12p2p0 c12p2p1 c12p2p2) (by funext; exact l0_eq k Q n _ _ _ _ _ _ _ _ _ _ _ _ _ _ _ _ _ _ _ _ _ _ _ _)))
noncomputable def cd3 : Code := cR (cR (cR (cR (cR (cB Try.f20)))))
def St7 (c0 c1 : D2) (c2 c3 : D2) (c4 c5 : D4) (c6 c7 : D7) (c10p0 c10p1p0 c10p1p1 : D4) (c10p1p2 : Int) (c10p2 : D1) (c10p4 : D7) (c12p0 c12p1p0 c12p1p1 : D4) (c12p1p2 : Int) (c12p2p0 c12p2p1 : D4) (c12p2p2 : Int) : St := stL 66 [(2, .ref 10 0 []), (4, .ref 12 0 [])] [(0, .buf T8 c0 1 true), (1, .buf T8 c1 1 true), (2, .buf T8 c2 1 true), (3, .buf T8 c3 1 true), (4, .buf T18 c4 1 true), (5, .buf T18 c5 1 true), (6, .buf T2 c6 1 true), (7, .buf T2 c7 1 true), (10, .cell T22 (.agg T22 [.data T23 c10p0, .agg T7 [.data T5 c10p1p0, .data T5 c10p1p1, .data T1 c10p1p2, .app 0 1, .app 1 1], .data T7 c10p2, .agg T21 [.app 4 1, .app 5 1], .data T19 c10p4, .app 7 1]) false), (12, .cell T22 (.agg T22 [.data T23 c12p0, .agg T7 [.data T5 c12p1p0, .data T5 c12p1p1, .data T1 c12p1p2, .full T8 [], .full T8 []], .agg T7 [.data T5 c12p2p0, .data T5 c12p2p1, .data T1 c12p2p2, .full T8 [], .full T8 []], .agg T21 [.full T18 [], .full T18 []], .full T2 [], .full T2 []]) false)]
def j1 (Rt : Int -> D2 -> D2 -> D2 -> D2 -> D4 -> D4 -> D7 -> D7 -> D4 -> D4 -> D4 -> Int -> D1 -> D7 -> Option α) (c0 c1 : D2) (c2 c3 : D2) (c4 c5 : D4) (c6 c7 : D7) (c10p0 c10p1p0 c10p1p1 : D4) (c10p1p2 : Int) (c10p2 : D1) (c10p4 : D7) (c12p0 c12p1p0 c12p1p1 : D4) (c12p1p2 : Int) (c12p2p0 c12p2p1 : D4) (c12p2p2 : Int) : Option α :=
 Rt 0 c0 c1 c2 c3 c4 c5 c6 c7 c10p0 c10p1p0 c10p1p1 c10p1p2 c10p2 c10p4
theorem j1_eq (k : Nat) (Q : Ex -> St -> Option α) (c0 c1 : D2) (c2 c3 : D2) (c4 c5 : D4) (c6 c7 : D7) (c10p0 c10p1p0 c10p1p1 : D4) (c10p1p2 : Int) (c10p2 : D1) (c10p4 : D7) (c12p0 c12p1p0 c12p1p1 : D4) (c12p1p2 : Int) (c12p2p0 c12p2p1 : D4) (c12p2p2 : Int) :
  (den C k) cd3 (endQ C Q) (St7 c0 c1 c2 c3 c4 c5 c6 c7 c10p0 c10p1p0 c10p1p1 c10p1p2 c10p2 c10p4 c12p0 c12p1p0 c12p1p1 c12p1p2 c12p2p0 c12p2p1 c12p2p2) = j1 (fun x5 c0 c1 c2 c3 c4 c5 c6 c7 c12p0 c12p1p0 c12p1p1 c12p1p2 c12p2 c12p4 => Q .ret (St1 x5 c0 c1 c2 c3 c4 c5 c6 c7 c12p0 c12p1p0 c12p1p1 c12p1p2 c12p2 c12p4)) c0 c1 c2 c3 c4 c5 c6 c7 c10p0 c10p1p0 c10p1p1 c10p1p2 c10p2 c10p4 c12p0 c12p1p0 c12p1p1 c12p1p2 c12p2p0 c12p2p1 c12p2p2 := plainly Js (by kernel_rfl)
theorem a1 (k : Nat) (Q : Ex -> St -> Option α) (x27 : D4) (x28 x29 : Int) (c0 c1 : D2) (c2 c3 : D2) (c4 c5 : D4) (c6 c7 : D7) (c10p0 c10p1p0 c10p1p1 : D4) (c10p1p2 : Int) (c10p2 : D1) (c10p4 : D7) (c12p0 c12p1p0 c12p1p1 : D4) (c12p1p2 : Int) (c12p2p0 c12p2p1 : D4) (c12p2p2 : Int) :
  (lp C k) cd0 (blkQ C 0 (sq (den C k) (lp C k) Js C cd3 (endQ C Q))) (St2 x27 x28 x29 c0 c1 c2 c3 c4 c5 c6 c7 c10p0 c10p1p0 c10p1p1 c10p1p2 c10p2 c10p4 c12p0 c12p1p0 c12p1p1 c12p1p2 c12p2p0 c12p2p1 c12p2p2) = l0 k (fun c0 c1 c2 c3 c4 c5 c6 c7 c10p0 c10p1p0 c10p1p1 c10p1p2 c10p2 c10p4 c12p0 c12p1p0 c12p1p1 c12p1p2 c12p2p0 c12p2p1 c12p2p2 => j1 (fun x5 c0 c1 c2 c3 c4 c5 c6 c7 c12p0 c12p1p0 c12p1p1 c12p1p2 c12p2 c12p4 => Q .ret (St1 x5 c0 c1 c2 c3 c4 c5 c6 c7 c12p0 c12p1p0 c12p1p1 c12p1p2 c12p2 c12p4)) c0 c1 c2 c3 c4 c5 c6 c7 c10p0 c10p1p0 c10p1p1 c10p1p2 c10p2 c10p4 c12p0 c12p1p0 c12p1p1 c12p1p2 c12p2p0 c12p2p1 c12p2p2) k x27 x28 x29 c0 c1 c2 c3 c4 c5 c6 c7 c10p0 c10p1p0 c10p1p1 c10p1p2 c10p2 c10p4 c12p0 c12p1p0 c12p1p1 c12p1p2 c12p2p0 c12p2p1 c12p2p2 :=
 (lp_iter 18 (by kernel_rfl)).trans ((l0_eq k _ k x27 x28 x29 c0 c1 c2 c3 c4 c5 c6 c7 c10p0 c10p1p0 c10p1p1 c10p1p2 c10p2 c10p4 c12p0 c12p1p0 c12p1p1 c12p1p2 c12p2p0 c12p2p1 c12p2p2).trans (congrArg (fun X => l0 k X k x27 x28 x29 c0 c1 c2 c3 c4 c5 c6 c7 c10p0 c10p1p0 c10p1p1 c10p1p2 c10p2 c10p4 c12p0 c12p1p0 c12p1p1 c12p1p2 c12p2p0 c12p2p1 c12p2p2) (funext fun c0 => funext fun c1 => funext fun c2 => funext fun c3 => funext fun c4 => funext fun c5 => funext fun c6 => funext fun c7 => funext fun c10p0 => funext fun c10p1p0 => funext fun c10p1p1 => funext fun c10p1p2 => funext fun c10p2 => funext fun c10p4 => funext fun c12p0 => funext fun c12p1p0 => funext fun c12p1p1 => funext fun c12p1p2 => funext fun c12p2p0 => funext fun c12p2p1 => funext fun c12p2p2 => (Eq.trans (b := (den C k) cd3 (endQ C Q) (St7 c0 c1 c2 c3 c4 c5 c6 c7 c10p0 c10p1p0 c10p1p1 c10p1p2 c10p2 c10p4 c12p0 c12p1p0 c12p1p1 c12p1p2 c12p2p0 c12p2p1 c12p2p2)) (by kernel_rfl) (by simp only [j1_eq])))))
def top (k : Nat) (Rt : Int -> D2 -> D2 -> D2 -> D2 -> D4 -> D4 -> D7 -> D7 -> D4 -> D4 -> D4 -> Int -> D1 -> D7 -> Option α) (x0p0 x0p1p0 x0p1p1 : D4) (x0p1p2 : Int) (x0p2p0 x0p2p1 : D4) (x0p2p2 x1 : Int) (c0 c1 : D2) (c2 c3 : D2) (c4 c5 : D4) (c6 c7 : D7) : Option α :=
 (gate_Tick.run (x0p2p0, x0p2p1, x0p2p2, c2, c3, ()) x1).bind fun y1 =>
 if (y1.2.2.1 != 0) = true then
  Rt y1.2.2.1 c0 c1 c2 c3 c4 c5 c6 c7 x0p0 x0p1p0 x0p1p1 x0p1p2 (x0p2p0, x0p2p1, x0p2p2, c2, c3, ()) c6
 else
  l0 k (fun c0 c1 c2 c3 c4 c5 c6 c7 c10p0 c10p1p0 c10p1p1 c10p1p2 c10p2 c10p4 c12p0 c12p1p0 c12p1p1 c12p1p2 c12p2p0 c12p2p1 c12p2p2 => j1 Rt c0 c1 c2 c3 c4 c5 c6 c7 c10p0 c10p1p0 c10p1p1 c10p1p2 c10p2 c10p4 c12p0 c12p1p0 c12p1p1 c12p1p2 c12p2p0 c12p2p1 c12p2p2) k y1.2.1 (y1.2.1.length : Int) 0 c0 c1 c2 c3 c4 c5 c6 c7 x0p0 x0p1p0 x0p1p1 x0p1p2 y1.1 c6 [0, 0, 0, 0] [0, 0, 0] [0, 0, 0] 0 [0, 0, 0] [0, 0, 0] 0
theorem top_eq (k : Nat) (Q : Ex -> St -> Option α) (x0p0 x0p1p0 x0p1p1 : D4) (x0p1p2 : Int) (x0p2p0 x0p2p1 : D4) (x0p2p2 x1 : Int) (c0 c1 : D2) (c2 c3 : D2) (c4 c5 : D4) (c6 c7 : D7) :
  (den C k) (cB Try.f20) (endQ C Q) (St0 x0p0 x0p1p0 x0p1p1 x0p1p2 x0p2p0 x0p2p1 x0p2p2 x1 c0 c1 c2 c3 c4 c5 c6 c7) = top k (fun x5 c0 c1 c2 c3 c4 c5 c6 c7 c12p0 c12p1p0 c12p1p1 c12p1p2 c12p2 c12p4 => Q .ret (St1 x5 c0 c1 c2 c3 c4 c5 c6 c7 c12p0 c12p1p0 c12p1p1 c12p1p2 c12p2 c12p4)) x0p0 x0p1p0 x0p1p1 x0p1p2 x0p2p0 x0p2p1 x0p2p2 x1 c0 c1 c2 c3 c4 c5 c6 c7 := by
 have h : ∀ (D L : DT α), denJ D L Js C (cB Try.f20) (endQ C Q) (St0 x0p0 x0p1p0 x0p1p1 x0p1p2 x0p2p0 x0p2p1 x0p2p2 x1 c0 c1 c2 c3 c4 c5 c6 c7) =
    (gate_Tick.run (x0p2p0, x0p2p1, x0p2p2, c2, c3, ()) x1).bind fun y1 =>
    if (y1.2.2.1 != 0) = true then
     Q .ret (St1 y1.2.2.1 c0 c1 c2 c3 c4 c5 c6 c7 x0p0 x0p1p0 x0p1p1 x0p1p2 (x0p2p0, x0p2p1, x0p2p2, c2, c3, ()) c6)
    else
     L cd0 (blkQ C 0 (sq D L Js C cd3 (endQ C Q))) (St2 y1.2.1 (y1.2.1.length : Int) 0 c0 c1 c2 c3 c4 c5 c6 c7 x0p0 x0p1p0 x0p1p1 x0p1p2 y1.1 c6 [0, 0, 0, 0] [0, 0, 0] [0, 0, 0] 0 [0, 0, 0] [0, 0, 0] 0) := by
  intro D L; kernel_rfl
 have h2 := via (k := k) h
 refine h2.trans ?_
 simp only [a1]
 first | rfl | kernel_rfl
def run (x0p0 x0p1p0 x0p1p1 : D4) (x0p1p2 : Int) (x0p2p0 x0p2p1 : D4) (x0p2p2 x1 : Int) (c0 c1 : D2) (c2 c3 : D2) (c4 c5 : D4) (c6 c7 : D7) : Option D15 := top (α := List Int × List Int × List Int × Int × D1 × D7 × Int × D2 × D2 × D2 × D2 × List Int × List Int × D7 × D7 × List Int × List Int × List Int × Int × D1 × D7 × Unit) fuel (fun x5 c0 c1 c2 c3 c4 c5 c6 c7 c12p0 c12p1p0 c12p1p1 c12p1p2 c12p2 c12p4 => some (c12p0, c12p1p0, c12p1p1, c12p1p2, c12p2, c12p4, x5, c0, c1, c2, c3, c4, c5, c6, c7, c12p0, c12p1p0, c12p1p1, c12p1p2, c12p2, c12p4, ())) x0p0 x0p1p0 x0p1p1 x0p1p2 x0p2p0 x0p2p1 x0p2p2 x1 c0 c1 c2 c3 c4 c5 c6 c7
def Sp : Spec := ⟨[.agg T22 [hD T23, .agg T7 [hD T5, hD T5, hD T1, .app 0 0, .app 1 0], .agg T7 [hD T5, hD T5, hD T1, .app 2 0, .app 3 0], .agg T21 [.app 4 0, .app 5 0], .app 6 0, .app 7 0], hD T1], [(0, hB T8 0 true), (1, hB T8 0 true), (2, hB T8 0 true), (3, hB T8 0 true), (4, hB T18 0 true), (5, hB T18 0 true), (6, hB T2 0 true), (7, hB T2 0 true)], T32, .tup [.agg T22 [hD T23, .agg T7 [hD T5, hD T5, hD T1, .app 0 1, .app 1 1], hD T7, .agg T21 [.app 4 1, .app 5 1], hD T19, .app 7 1], hD T1], [(0, hB T8 1 true), (1, hB T8 1 true), (2, hB T8 1 true), (3, hB T8 1 true), (4, hB T18 1 true), (5, hB T18 1 true), (6, hB T2 1 true), (7, hB T2 1 true), (12, hC T22 (.agg T22 [hD T23, .agg T7 [hD T5, hD T5, hD T1, .app 0 1, .app 1 1], hD T7, .agg T21 [.app 4 1, .app 5 1], hD T19, .app 7 1]) false)], T33, fun x => run x.1 x.2.1 x.2.2.1 x.2.2.2.1 x.2.2.2.2.1 x.2.2.2.2.2.1 x.2.2.2.2.2.2.1 x.2.2.2.2.2.2.2.1 x.2.2.2.2.2.2.2.2.1 x.2.2.2.2.2.2.2.2.2.1 x.2.2.2.2.2.2.2.2.2.2.1 x.2.2.2.2.2.2.2.2.2.2.2.1 x.2.2.2.2.2.2.2.2.2.2.2.2.1 x.2.2.2.2.2.2.2.2.2.2.2.2.2.1 x.2.2.2.2.2.2.2.2.2.2.2.2.2.2.1 x.2.2.2.2.2.2.2.2.2.2.2.2.2.2.2.1⟩
set_option maxRecDepth 100000 in
theorem sok : SOk Try.prog 20 Sp.h := by
 refine sok_of_den (C := C) (ctx_ok (by kernel_rfl) (by kernel_rfl) (by kernel_rfl) (by kernel_rfl) ⟨.inl guard_Id.con, ⟨.inl gate_Tick.con, trivial⟩⟩) (by kernel_rfl) Try.func20 (c := cB Try.f20) (by kernel_rfl) (by kernel_rfl) Sp fuel (by kernel_rfl) (by kernel_rfl) ?_
 intro x r h
 rw [<- h]
 have h1 : Sp.start x Try.f20.ntmps = (St0 x.1 x.2.1 x.2.2.1 x.2.2.2.1 x.2.2.2.2.1 x.2.2.2.2.2.1 x.2.2.2.2.2.2.1 x.2.2.2.2.2.2.2.1 x.2.2.2.2.2.2.2.2.1 x.2.2.2.2.2.2.2.2.2.1 x.2.2.2.2.2.2.2.2.2.2.1 x.2.2.2.2.2.2.2.2.2.2.2.1 x.2.2.2.2.2.2.2.2.2.2.2.2.1 x.2.2.2.2.2.2.2.2.2.2.2.2.2.1 x.2.2.2.2.2.2.2.2.2.2.2.2.2.2.1 x.2.2.2.2.2.2.2.2.2.2.2.2.2.2.2.1) := by kernel_rfl
 rw [h1]
 refine (top_eq fuel (finS C Try.f20.results.toList Sp.read) x.1 x.2.1 x.2.2.1 x.2.2.2.1 x.2.2.2.2.1 x.2.2.2.2.2.1 x.2.2.2.2.2.2.1 x.2.2.2.2.2.2.2.1 x.2.2.2.2.2.2.2.2.1 x.2.2.2.2.2.2.2.2.2.1 x.2.2.2.2.2.2.2.2.2.2.1 x.2.2.2.2.2.2.2.2.2.2.2.1 x.2.2.2.2.2.2.2.2.2.2.2.2.1 x.2.2.2.2.2.2.2.2.2.2.2.2.2.1 x.2.2.2.2.2.2.2.2.2.2.2.2.2.2.1 x.2.2.2.2.2.2.2.2.2.2.2.2.2.2.2.1).trans ?_
 kernel_rfl
theorem named : Named Try.prog 20 := named_of Try.func20 (by kernel_rfl) (by kernel_rfl)
end Go.Bx.guard_passed_s1
namespace Go.Bx.basculeref_IdOf
def Js : List Nat := []
def C : Ctx := ⟨[(3, T1), (40, T2)], [], [], fnL [], noSh, [], invL [], [(2, [2])], [], [], 0, 0⟩
def St0 (x0 : D0) : St := stL 9 [(0, .data T2 x0)] []
def St1 (x2 : Int) : St := stL 9 [(2, .data T1 x2)] []
def top (Rt : Int -> Option α) (x0 : D0) : Option α :=
 Rt (IntKind.i64.wrap ((IntKind.i64.wrap (256 * x0.2.2.1)) + x0.2.2.2.2.1))
theorem top_eq (k : Nat) (Q : Ex -> St -> Option α) (x0 : D0) :
  (den C k) (cB Try.f10) Q (St0 x0) = top (fun x2 => Q .ret (St1 x2)) x0 := plainly Js (by kernel_rfl)
def run (x0 : D0) : Option (Int) := top (α := Int) (fun x2 => some x2) x0
def F : Fn := ⟨T3, T1, false, fun x => run x.1⟩
theorem con : Con Try.prog 10 F /\ Named Try.prog 10 :=
 con_of2 (C := C) (ctx_ok (by kernel_rfl) (by kernel_rfl) (by kernel_rfl) (by kernel_rfl) trivial) (by kernel_rfl) Try.func10 (by kernel_rfl) (c := cB Try.f10) (by kernel_rfl) (by kernel_rfl) F (fun x => by simp [F, spread, Try.ntmps10]) (fun x => (St0 x.1)) (fun x => by kernel_rfl) fun x => (top_eq fuel _ x.1).trans (by kernel_rfl)
end Go.Bx.basculeref_IdOf
namespace Go.Bx.basculeref_Ticked
def Js : List Nat := [13, 14, 24, 25]
def C : Ctx := ⟨[(3, T1), (25, T5), (26, T6), (28, T7), (35, T1), (107, T12), (165, T8)], [], [], fnL [(129, basculeref_GateFault.F), (135, basculeref_passes.F)], noSh, [], invL [], [(2, [4, 5, 6]), (7, [4, 8, 11]), (10, [4, 8, 11, 65, 66, 67]), (1, [2, 4, 8]), (4, [2, 4, 8, 45, 46, 47]), (24, [2, 4, 8, 45, 46, 47]), (36, [2, 4, 8, 45, 46, 47]), (39, [2, 4, 8]), (45, [4, 8, 11, 65, 66, 67]), (69, [4, 8, 11, 65, 66, 67]), (72, [4, 8, 11])], [(2, [.dat true 5 [], .dat false 4 [3], .dat false 4 [4]]), (24, [.melt false 8 [3] 61 true]), (45, [.melt false 8 [4] 89 true, .melt true 11 [] 95 true]), (69, [.melt true 11 [] 95 true])], [], 0, 0⟩
def St0 (x0 : D1) (x1 : Int) : St := stL 115 [(0, .data T7 x0), (1, .data T1 x1)] []
def St1 (x5 : D4) (x6 : Int) (c4 : D1) : St := stL 115 [(4, .ref 4 0 []), (5, .data T12 x5), (6, .data T1 x6)] [(4, .cell T7 (.data T7 c4) false)]
def St2 (x45 : D2) (x46 x47 : Int) (c2 : D1) (c4p0 c4p1 : D4) (c4p2 : Int) (c8p0 c8p1 : D4) (c8p2 : Int) (c61 : D2) : St := stL 115 [(2, .ref 2 0 []), (4, .ref 4 0 []), (8, .ref 8 0 []), (45, .data T6 x45), (46, .data T1 x46), (47, .data T1 x47)] [(2, .cell T7 (.data T7 c2) false), (4, .cell T7 (.agg T7 [.data T5 c4p0, .data T5 c4p1, .data T1 c4p2, .full T8 [], .full T8 []]) false), (8, .cell T7 (.agg T7 [.data T5 c8p0, .data T5 c8p1, .data T1 c8p2, .app 61 0, .full T8 []]) false), (61, .buf T8 c61 0 true)]
noncomputable def cd0 : Code := cL (cL (cR (cL (cR (cR (cR (cR (cB Try.f76))))))))
def St3 (x45 : D2) (x46 x47 : Int) (c2 : D1) (c4p0 c4p1 : D4) (c4p2 : Int) (c8p0 c8p1 : D4) (c8p2 : Int) (c61 : D2) : St := stL 115 [(2, .ref 2 0 []), (4, .ref 4 0 []), (8, .ref 8 0 []), (45, .data T6 x45), (46, .data T1 x46), (47, .data T1 x47)] [(2, .cell T7 (.data T7 c2) false), (4, .cell T7 (.agg T7 [.data T5 c4p0, .data T5 c4p1, .data T1 c4p2, .full T8 [], .full T8 []]) false), (8, .cell T7 (.agg T7 [.data T5 c8p0, .data T5 c8p1, .data T1 c8p2, .app 61 0, .full T8 []]) false), (61, .buf T8 c61 0 true)]
noncomputable def cd1 : Code := cR (cR (cR (cL (cL (cR (cL (cR (cR (cR (cR (cB Try.f76)))))))))))
def j0 (Nx : D2 -> Int -> Int -> D1 -> D4 -> D4 -> Int -> D4 -> D4 -> Int -> D2 -> Option α) (x45 : D2) (x46 x47 : Int) (c2 : D1) (c4p0 c4p1 : D4) (c4p2 : Int) (c8p0 c8p1 : D4) (c8p2 : Int) (c61 : D2) : Option α :=
 Nx x45 x46 (IntKind.i64.wrap (x47 + 1)) c2 c4p0 c4p1 c4p2 c8p0 c8p1 c8p2 c61
theorem j0_eq (k : Nat) (next : St -> Option α) (Q : Ex -> St -> Option α) (x45 : D2) (x46 x47 : Int) (c2 : D1) (c4p0 c4p1 : D4) (c4p2 : Int) (c8p0 c8p1 : D4) (c8p2 : Int) (c61 : D2) :
  (den C k) cd1 (lq C 24 next Q) (St3 x45 x46 x47 c2 c4p0 c4p1 c4p2 c8p0 c8p1 c8p2 c61) = j0 (fun x45 x46 x47 c2 c4p0 c4p1 c4p2 c8p0 c8p1 c8p2 c61 => next (St2 x45 x46 x47 c2 c4p0 c4p1 c4p2 c8p0 c8p1 c8p2 c61)) x45 x46 x47 c2 c4p0 c4p1 c4p2 c8p0 c8p1 c8p2 c61 := plainly Js (by kernel_rfl)
def St4 (c2 : D1) (c4p0 c4p1 : D4) (c4p2 : Int) (c8p0 c8p1 : D4) (c8p2 : Int) (c61 : D2) : St := stL 115 [(2, .ref 2 0 []), (4, .ref 4 0 []), (8, .ref 8 0 [])] [(2, .cell T7 (.data T7 c2) false), (4, .cell T7 (.agg T7 [.data T5 c4p0, .data T5 c4p1, .data T1 c4p2, .full T8 [], .full T8 []]) false), (8, .cell T7 (.agg T7 [.data T5 c8p0, .data T5 c8p1, .data T1 c8p2, .app 61 0, .full T8 []]) false), (61, .buf T8 c61 0 true)]
def l0s (Nx : D2 -> Int -> Int -> D1 -> D4 -> D4 -> Int -> D4 -> D4 -> Int -> D2 -> Option α) (Xt0 : D1 -> D4 -> D4 -> Int -> D4 -> D4 -> Int -> D2 -> Option α) (x45 : D2) (x46 x47 : Int) (c2 : D1) (c4p0 c4p1 : D4) (c4p2 : Int) (c8p0 c8p1 : D4) (c8p2 : Int) (c61 : D2) : Option α :=
 if (decide (x47 < x46)) = true then
  if 0 <= x47 /\ x47 < (x45.length : Int) then
   if (decide ((IntKind.i64.wrap ((List.getD x45 (Int.toNat x47) (0, 0, 0, 0, ())).2.2.2.1 + 24)) > c8p2)) = true then
    if fitB (c61.length + 1) 32 = true then
     j0 Nx x45 x46 x47 c2 c4p0 c4p1 c4p2 c8p0 c8p1 c8p2 (c61 ++ [(List.getD x45 (Int.toNat x47) (0, 0, 0, 0, ()))])
    else none
   else
    j0 Nx x45 x46 x47 c2 c4p0 c4p1 c4p2 c8p0 c8p1 c8p2 c61
  else none
 else
  Xt0 c2 c4p0 c4p1 c4p2 c8p0 c8p1 c8p2 c61
theorem l0s_eq (k : Nat) (next : St -> Option α) (Q : Ex -> St -> Option α) (x45 : D2) (x46 x47 : Int) (c2 : D1) (c4p0 c4p1 : D4) (c4p2 : Int) (c8p0 c8p1 : D4) (c8p2 : Int) (c61 : D2) :
  rnd C k cd0 24 Q next (St2 x45 x46 x47 c2 c4p0 c4p1 c4p2 c8p0 c8p1 c8p2 c61) = l0s (fun x45 x46 x47 c2 c4p0 c4p1 c4p2 c8p0 c8p1 c8p2 c61 => next (St2 x45 x46 x47 c2 c4p0 c4p1 c4p2 c8p0 c8p1 c8p2 c61)) (fun c2 c4p0 c4p1 c4p2 c8p0 c8p1 c8p2 c61 => Q (.exit 0) (St4 c2 c4p0 c4p1 c4p2 c8p0 c8p1 c8p2 c61)) x45 x46 x47 c2 c4p0 c4p1 c4p2 c8p0 c8p1 c8p2 c61 := by
 have h : ∀ (D L : DT α), denJ D L Js C cd0 (lq C 24 next Q) (St2 x45 x46 x47 c2 c4p0 c4p1 c4p2 c8p0 c8p1 c8p2 c61) =
    if (decide (x47 < x46)) = true then
     if 0 <= x47 /\ x47 < (x45.length : Int) then
      if (decide ((IntKind.i64.wrap ((List.getD x45 (Int.toNat x47) (0, 0, 0, 0, ())).2.2.2.1 + 24)) > c8p2)) = true then
       if fitB (c61.length + 1) 32 = true then
        D cd1 (lq C 24 next Q) (St3 x45 x46 x47 c2 c4p0 c4p1 c4p2 c8p0 c8p1 c8p2 (c61 ++ [(List.getD x45 (Int.toNat x47) (0, 0, 0, 0, ()))]))
       else none
      else
       D cd1 (lq C 24 next Q) (St3 x45 x46 x47 c2 c4p0 c4p1 c4p2 c8p0 c8p1 c8p2 c61)
     else none
    else
     Q (.exit 0) (St4 c2 c4p0 c4p1 c4p2 c8p0 c8p1 c8p2 c61) := by
  intro D L; kernel_rfl
 have h2 := via (k := k) h
 refine h2.trans ?_
 simp only [j0_eq]
 first | rfl | kernel_rfl
def l0 (k : Nat) (Xt0 : D1 -> D4 -> D4 -> Int -> D4 -> D4 -> Int -> D2 -> Option α) : Nat -> D2 -> Int -> Int -> D1 -> D4 -> D4 -> Int -> D4 -> D4 -> Int -> D2 -> Option α
 | 0, _, _, _, _, _, _, _, _, _, _, _ => none
 | n + 1, x45, x46, x47, c2, c4p0, c4p1, c4p2, c8p0, c8p1, c8p2, c61 => l0s (l0 k Xt0 n) Xt0 x45 x46 x47 c2 c4p0 c4p1 c4p2 c8p0 c8p1 c8p2 c61
theorem l0_eq (k : Nat) (Q : Ex -> St -> Option α) : ∀ (n : Nat) (x45 : D2) (x46 x47 : Int) (c2 : D1) (c4p0 c4p1 : D4) (c4p2 : Int) (c8p0 c8p1 : D4) (c8p2 : Int) (c61 : D2), iter (rnd C k cd0 24 Q) n (St2 x45 x46 x47 c2 c4p0 c4p1 c4p2 c8p0 c8p1 c8p2 c61) = l0 k (fun c2 c4p0 c4p1 c4p2 c8p0 c8p1 c8p2 c61 => Q (.exit 0) (St4 c2 c4p0 c4p1 c4p2 c8p0 c8p1 c8p2 c61)) n x45 x46 x47 c2 c4p0 c4p1 c4p2 c8p0 c8p1 c8p2 c61
 | 0, _, _, _, _, _, _, _, _, _, _, _ => rfl
 | n + 1, x45, x46, x47, c2, c4p0, c4p1, c4p2, c8p0, c8p1, c8p2, c61 => (iter_succ _ _ _).trans ((l0s_eq k _ Q x45 x46 x47 c2 c4p0 c4p1 c4p2 c8p0 c8p1 c8p2 c61).trans (congrArg (fun N => l0s N (fun c2 c4p0 c4p1 c4p2 c8p0 c8p1 c8p2 c61 => Q (.exit 0) (St4 c2 c4p0 c4p1 c4p2 c8p0 c8p1 c8p2 c61)) x45 x46 x47 c2 c4p0 c4p1 c4p2 c8p0 c8p1 c8p2 c61) (by funext; exact l0_eq k Q n _ _ _ _ _ _ _ _ _ _ _)))
noncomputable def cd2 : Code := cR (cR (cR (cR (cR (cB Try.f76)))))
def St5 (c2 : D1) (c4p0 c4p1 : D4) (c4p2 : Int) (c8p0 c8p1 : D4) (c8p2 : Int) (c61 : D2) : St := stL 115 [(2, .ref 2 0 []), (4, .ref 4 0 []), (8, .ref 8 0 [])] [(2, .cell T7 (.data T7 c2) false), (4, .cell T7 (.agg T7 [.data T5 c4p0, .data T5 c4p1, .data T1 c4p2, .full T8 [], .full T8 []]) false), (8, .cell T7 (.agg T7 [.data T5 c8p0, .data T5 c8p1, .data T1 c8p2, .app 61 0, .full T8 []]) false), (61, .buf T8 c61 0 true)]
def St6 (x65 : D2) (x66 x67 : Int) (c4p0 c4p1 : D4) (c4p2 : Int) (c8p0 c8p1 : D4) (c8p2 : Int) (c61 c89 : D2) (c95 : D4) : St := stL 115 [(4, .ref 4 0 []), (8, .ref 8 0 []), (11, .app 95 0), (65, .data T6 x65), (66, .data T1 x66), (67, .data T1 x67)] [(4, .cell T7 (.agg T7 [.data T5 c4p0, .data T5 c4p1, .data T1 c4p2, .full T8 [], .full T8 []]) false), (8, .cell T7 (.agg T7 [.data T5 c8p0, .data T5 c8p1, .data T1 c8p2, .app 61 0, .app 89 0]) false), (61, .buf T8 c61 0 true), (89, .buf T8 c89 0 true), (95, .buf T1 c95 0 true)]
noncomputable def cd3 : Code := cL (cL (cR (cL (cR (cR (cR (cR (cR (cR (cB Try.f76))))))))))
def St7 (x65 : D2) (x66 x67 : Int) (c4p0 c4p1 : D4) (c4p2 : Int) (c8p0 c8p1 : D4) (c8p2 : Int) (c61 c89 : D2) (c95 : D4) : St := stL 115 [(4, .ref 4 0 []), (8, .ref 8 0 []), (11, .app 95 0), (65, .data T6 x65), (66, .data T1 x66), (67, .data T1 x67)] [(4, .cell T7 (.agg T7 [.data T5 c4p0, .data T5 c4p1, .data T1 c4p2, .full T8 [], .full T8 []]) false), (8, .cell T7 (.agg T7 [.data T5 c8p0, .data T5 c8p1, .data T1 c8p2, .app 61 0, .app 89 0]) false), (61, .buf T8 c61 0 true), (89, .buf T8 c89 0 true), (95, .buf T1 c95 0 true)]
noncomputable def cd4 : Code := cR (cR (cR (cL (cL (cR (cL (cR (cR (cR (cR (cR (cR (cB Try.f76)))))))))))))
def j2 (Nx : D2 -> Int -> Int -> D4 -> D4 -> Int -> D4 -> D4 -> Int -> D2 -> D2 -> D4 -> Option α) (x65 : D2) (x66 x67 : Int) (c4p0 c4p1 : D4) (c4p2 : Int) (c8p0 c8p1 : D4) (c8p2 : Int) (c61 c89 : D2) (c95 : D4) : Option α :=
 Nx x65 x66 (IntKind.i64.wrap (x67 + 1)) c4p0 c4p1 c4p2 c8p0 c8p1 c8p2 c61 c89 c95
theorem j2_eq (k : Nat) (next : St -> Option α) (Q : Ex -> St -> Option α) (x65 : D2) (x66 x67 : Int) (c4p0 c4p1 : D4) (c4p2 : Int) (c8p0 c8p1 : D4) (c8p2 : Int) (c61 c89 : D2) (c95 : D4) :
  (den C k) cd4 (lq C 45 next Q) (St7 x65 x66 x67 c4p0 c4p1 c4p2 c8p0 c8p1 c8p2 c61 c89 c95) = j2 (fun x65 x66 x67 c4p0 c4p1 c4p2 c8p0 c8p1 c8p2 c61 c89 c95 => next (St6 x65 x66 x67 c4p0 c4p1 c4p2 c8p0 c8p1 c8p2 c61 c89 c95)) x65 x66 x67 c4p0 c4p1 c4p2 c8p0 c8p1 c8p2 c61 c89 c95 := plainly Js (by kernel_rfl)
def St8 (c4p0 c4p1 : D4) (c4p2 : Int) (c8p0 c8p1 : D4) (c8p2 : Int) (c61 c89 : D2) (c95 : D4) : St := stL 115 [(4, .ref 4 0 []), (8, .ref 8 0 []), (11, .app 95 0)] [(4, .cell T7 (.agg T7 [.data T5 c4p0, .data T5 c4p1, .data T1 c4p2, .full T8 [], .full T8 []]) false), (8, .cell T7 (.agg T7 [.data T5 c8p0, .data T5 c8p1, .data T1 c8p2, .app 61 0, .app 89 0]) false), (61, .buf T8 c61 0 true), (89, .buf T8 c89 0 true), (95, .buf T1 c95 0 true)]
def l1s (Nx : D2 -> Int -> Int -> D4 -> D4 -> Int -> D4 -> D4 -> Int -> D2 -> D2 -> D4 -> Option α) (Xt2 : D4 -> D4 -> Int -> D4 -> D4 -> Int -> D2 -> D2 -> D4 -> Option α) (x65 : D2) (x66 x67 : Int) (c4p0 c4p1 : D4) (c4p2 : Int) (c8p0 c8p1 : D4) (c8p2 : Int) (c61 c89 : D2) (c95 : D4) : Option α :=
 if (decide (x67 < x66)) = true then
  if 0 <= x67 /\ x67 < (x65.length : Int) then
   (if ((not (decide ((IntKind.i64.wrap ((List.getD x65 (Int.toNat x67) (0, 0, 0, 0, ())).2.2.2.1 + 24)) <= c8p2))) == true) = true then basculeref_passes.run (c8p0, c8p1, c8p2, c61, c89, ()) (List.getD x65 (Int.toNat x67) (0, 0, 0, 0, ())) else some false).bind fun y2 =>
   if (cond (not (decide ((IntKind.i64.wrap ((List.getD x65 (Int.toNat x67) (0, 0, 0, 0, ())).2.2.2.1 + 24)) <= c8p2))) (not y2) false) = true then
    if fitB (c89.length + 1) 32 = true then
     j2 Nx x65 x66 x67 c4p0 c4p1 c4p2 c8p0 c8p1 c8p2 c61 (c89 ++ [(List.getD x65 (Int.toNat x67) (0, 0, 0, 0, ()))]) c95
    else none
   else
    if fitB (c95.length + 1) 8 = true then
     if (not (decide ((IntKind.i64.wrap ((List.getD x65 (Int.toNat x67) (0, 0, 0, 0, ())).2.2.2.1 + 24)) <= c8p2))) = true then
      if fitB (c61.length + 1) 32 = true then
       j2 Nx x65 x66 x67 c4p0 c4p1 c4p2 c8p0 c8p1 c8p2 (c61 ++ [((List.getD x65 (Int.toNat x67) (0, 0, 0, 0, ())).1, (List.getD x65 (Int.toNat x67) (0, 0, 0, 0, ())).2.1, (List.getD x65 (Int.toNat x67) (0, 0, 0, 0, ())).2.2.1, c8p2, ())]) c89 (c95 ++ [(List.getD x65 (Int.toNat x67) (0, 0, 0, 0, ())).1])
      else none
     else
      j2 Nx x65 x66 x67 c4p0 c4p1 c4p2 c8p0 c8p1 c8p2 c61 c89 (c95 ++ [(List.getD x65 (Int.toNat x67) (0, 0, 0, 0, ())).1])
    else none
  else none
 else
  Xt2 c4p0 c4p1 c4p2 c8p0 c8p1 c8p2 c61 c89 c95
theorem l1s_eq (k : Nat) (next : St -> Option α) (Q : Ex -> St -> Option α) (x65 : D2) (x66 x67 : Int) (c4p0 c4p1 : D4) (c4p2 : Int) (c8p0 c8p1 : D4) (c8p2 : Int) (c61 c89 : D2) (c95 : D4) :
  rnd C k cd3 45 Q next (St6 x65 x66 x67 c4p0 c4p1 c4p2 c8p0 c8p1 c8p2 c61 c89 c95) = l1s (fun x65 x66 x67 c4p0 c4p1 c4p2 c8p0 c8p1 c8p2 c61 c89 c95 => next (St6 x65 x66 x67 c4p0 c4p1 c4p2 c8p0 c8p1 c8p2 c61 c89 c95)) (fun c4p0 c4p1 c4p2 c8p0 c8p1 c8p2 c61 c89 c95 => Q (.exit 2) (St8 c4p0 c4p1 c4p2 c8p0 c8p1 c8p2 c61 c89 c95)) x65 x66 x67 c4p0 c4p1 c4p2 c8p0 c8p1 c8p2 c61 c89 c95 := by
 have h : ∀ (D L : DT α), denJ D L Js C cd3 (lq C 45 next Q) (St6 x65 x66 x67 c4p0 c4p1 c4p2 c8p0 c8p1 c8p2 c61 c89 c95) =
    if (decide (x67 < x66)) = true then
     if 0 <= x67 /\ x67 < (x65.length : Int) then
      (if ((not (decide ((IntKind.i64.wrap ((List.getD x65 (Int.toNat x67) (0, 0, 0, 0, ())).2.2.2.1 + 24)) <= c8p2))) == true) = true then basculeref_passes.run (c8p0, c8p1, c8p2, c61, c89, ()) (List.getD x65 (Int.toNat x67) (0, 0, 0, 0, ())) else some false).bind fun y2 =>
      if (cond (not (decide ((IntKind.i64.wrap ((List.getD x65 (Int.toNat x67) (0, 0, 0, 0, ())).2.2.2.1 + 24)) <= c8p2))) (not y2) false) = true then
       if fitB (c89.length + 1) 32 = true then
        D cd4 (lq C 45 next Q) (St7 x65 x66 x67 c4p0 c4p1 c4p2 c8p0 c8p1 c8p2 c61 (c89 ++ [(List.getD x65 (Int.toNat x67) (0, 0, 0, 0, ()))]) c95)
       else none
      else
       if fitB (c95.length + 1) 8 = true then
        if (not (decide ((IntKind.i64.wrap ((List.getD x65 (Int.toNat x67) (0, 0, 0, 0, ())).2.2.2.1 + 24)) <= c8p2))) = true then
         if fitB (c61.length + 1) 32 = true then
          D cd4 (lq C 45 next Q) (St7 x65 x66 x67 c4p0 c4p1 c4p2 c8p0 c8p1 c8p2 (c61 ++ [((List.getD x65 (Int.toNat x67) (0, 0, 0, 0, ())).1, (List.getD x65 (Int.toNat x67) (0, 0, 0, 0, ())).2.1, (List.getD x65 (Int.toNat x67) (0, 0, 0, 0, ())).2.2.1, c8p2, ())]) c89 (c95 ++ [(List.getD x65 (Int.toNat x67) (0, 0, 0, 0, ())).1]))
         else none
        else
         D cd4 (lq C 45 next Q) (St7 x65 x66 x67 c4p0 c4p1 c4p2 c8p0 c8p1 c8p2 c61 c89 (c95 ++ [(List.getD x65 (Int.toNat x67) (0, 0, 0, 0, ())).1]))
       else none
     else none
    else
     Q (.exit 2) (St8 c4p0 c4p1 c4p2 c8p0 c8p1 c8p2 c61 c89 c95) := by
  intro D L; kernel_rfl
 have h2 := via (k := k) h
 refine h2.trans ?_
 simp only [j2_eq]
 first | rfl | kernel_rfl
def l1 (k : Nat) (Xt2 : D4 -> D4 -> Int -> D4 -> D4 -> Int -> D2 -> D2 -> D4 -> Option α) : Nat -> D2 -> Int -> Int -> D4 -> D4 -> Int -> D4 -> D4 -> Int -> D2 -> D2 -> D4 -> Option α
 | 0, _, _, _, _, _, _, _, _, _, _, _, _ => none
 | n + 1, x65, x66, x67, c4p0, c4p1, c4p2, c8p0, c8p1, c8p2, c61, c89, c95 => l1s (l1 k Xt2 n) Xt2 x65 x66 x67 c4p0 c4p1 c4p2 c8p0 c8p1 c8p2 c61 c89 c95
theorem l1_eq (k : Nat) (Q : Ex -> St -> Option α) : ∀ (n : Nat) (x65 : D2) (x66 x67 : Int) (c4p0 c4p1 : D4) (c4p2 : Int) (c8p0 c8p1 : D4) (c8p2 : Int) (c61 c89 : D2) (c95 : D4), iter (rnd C k cd3 45 Q) n (St6 x65 x66 x67 c4p0 c4p1 c4p2 c8p0 c8p1 c8p2 c61 c89 c95) = l1 k (fun c4p0 c4p1 c4p2 c8p0 c8p1 c8p2 c61 c89 c95 => Q (.exit 2) (St8 c4p0 c4p1 c4p2 c8p0 c8p1 c8p2 c61 c89 c95)) n x65 x66 x67 c4p0 c4p1 c4p2 c8p0 c8p1 c8p2 c61 c89 c95
 | 0, _, _, _, _, _, _, _, _, _, _, _, _ => rfl
 | n + 1, x65, x66, x67, c4p0, c4p1, c4p2, c8p0, c8p1, c8p2, c61, c89, c95 => (iter_succ _ _ _).trans ((l1s_eq k _ Q x65 x66 x67 c4p0 c4p1 c4p2 c8p0 c8p1 c8p2 c61 c89 c95).trans (congrArg (fun N => l1s N (fun c4p0 c4p1 c4p2 c8p0 c8p1 c8p2 c61 c89 c95 => Q (.exit 2) (St8 c4p0 c4p1 c4p2 c8p0 c8p1 c8p2 c61 c89 c95)) x65 x66 x67 c4p0 c4p1 c4p2 c8p0 c8p1 c8p2 c61 c89 c95) (by funext; exact l1_eq k Q n _ _ _ _ _ _ _ _ _ _ _ _)))
noncomputable def cd5 : Code := cR (cR (cR (cR (cR (cR (cR (cB Try.f76)))))))
def St9 (c4p0 c4p1 : D4) (c4p2 : Int) (c8p0 c8p1 : D4) (c8p2 : Int) (c61 c89 : D2) (c95 : D4) : St := stL 115 [(4, .ref 4 0 []), (8, .ref 8 0 []), (11, .app 95 0)] [(4, .cell T7 (.agg T7 [.data T5 c4p0, .data T5 c4p1, .data T1 c4p2, .full T8 [], .full T8 []]) false), (8, .cell T7 (.agg T7 [.data T5 c8p0, .data T5 c8p1, .data T1 c8p2, .app 61 0, .app 89 0]) false), (61, .buf T8 c61 0 true), (89, .buf T8 c89 0 true), (95, .buf T1 c95 0 true)]
def j3 (Rt : D4 -> Int -> D1 -> Option α) (c4p0 c4p1 : D4) (c4p2 : Int) (c8p0 c8p1 : D4) (c8p2 : Int) (c61 c89 : D2) (c95 : D4) : Option α :=
 Rt c95 0 (c8p0, c8p1, c8p2, c61, c89, ())
theorem j3_eq (k : Nat) (Q : Ex -> St -> Option α) (c4p0 c4p1 : D4) (c4p2 : Int) (c8p0 c8p1 : D4) (c8p2 : Int) (c61 c89 : D2) (c95 : D4) :
  (den C k) cd5 Q (St9 c4p0 c4p1 c4p2 c8p0 c8p1 c8p2 c61 c89 c95) = j3 (fun x5 x6 c4 => Q .ret (St1 x5 x6 c4)) c4p0 c4p1 c4p2 c8p0 c8p1 c8p2 c61 c89 c95 := plainly Js (by kernel_rfl)
theorem a0 (k : Nat) (Q : Ex -> St -> Option α) (x65 : D2) (x66 x67 : Int) (c4p0 c4p1 : D4) (c4p2 : Int) (c8p0 c8p1 : D4) (c8p2 : Int) (c61 c89 : D2) (c95 : D4) :
  (lp C k) cd3 (blkQ C 2 (sq (den C k) (lp C k) Js C cd5 Q)) (St6 x65 x66 x67 c4p0 c4p1 c4p2 c8p0 c8p1 c8p2 c61 c89 c95) = l1 k (fun c4p0 c4p1 c4p2 c8p0 c8p1 c8p2 c61 c89 c95 => j3 (fun x5 x6 c4 => Q .ret (St1 x5 x6 c4)) c4p0 c4p1 c4p2 c8p0 c8p1 c8p2 c61 c89 c95) k x65 x66 x67 c4p0 c4p1 c4p2 c8p0 c8p1 c8p2 c61 c89 c95 :=
 (lp_iter 45 (by kernel_rfl)).trans ((l1_eq k _ k x65 x66 x67 c4p0 c4p1 c4p2 c8p0 c8p1 c8p2 c61 c89 c95).trans (congrArg (fun X => l1 k X k x65 x66 x67 c4p0 c4p1 c4p2 c8p0 c8p1 c8p2 c61 c89 c95) (funext fun c4p0 => funext fun c4p1 => funext fun c4p2 => funext fun c8p0 => funext fun c8p1 => funext fun c8p2 => funext fun c61 => funext fun c89 => funext fun c95 => (Eq.trans (b := (den C k) cd5 Q (St9 c4p0 c4p1 c4p2 c8p0 c8p1 c8p2 c61 c89 c95)) (by kernel_rfl) (by simp only [j3_eq])))))
def j1 (k : Nat) (Rt : D4 -> Int -> D1 -> Option α) (c2 : D1) (c4p0 c4p1 : D4) (c4p2 : Int) (c8p0 c8p1 : D4) (c8p2 : Int) (c61 : D2) : Option α :=
 l1 k (fun c4p0 c4p1 c4p2 c8p0 c8p1 c8p2 c61 c89 c95 => j3 Rt c4p0 c4p1 c4p2 c8p0 c8p1 c8p2 c61 c89 c95) k c2.2.2.2.2.1 (c2.2.2.2.2.1.length : Int) 0 c4p0 c4p1 c4p2 c8p0 c8p1 c8p2 c61 [] []
theorem j1_eq (k : Nat) (Q : Ex -> St -> Option α) (c2 : D1) (c4p0 c4p1 : D4) (c4p2 : Int) (c8p0 c8p1 : D4) (c8p2 : Int) (c61 : D2) :
  (den C k) cd2 Q (St5 c2 c4p0 c4p1 c4p2 c8p0 c8p1 c8p2 c61) = j1 k (fun x5 x6 c4 => Q .ret (St1 x5 x6 c4)) c2 c4p0 c4p1 c4p2 c8p0 c8p1 c8p2 c61 := by
 have h : ∀ (D L : DT α), denJ D L Js C cd2 Q (St5 c2 c4p0 c4p1 c4p2 c8p0 c8p1 c8p2 c61) =
    L cd3 (blkQ C 2 (sq D L Js C cd5 Q)) (St6 c2.2.2.2.2.1 (c2.2.2.2.2.1.length : Int) 0 c4p0 c4p1 c4p2 c8p0 c8p1 c8p2 c61 [] []) := by
  intro D L; kernel_rfl
 have h2 := via (k := k) h
 refine h2.trans ?_
 simp only [a0]
 first | rfl | kernel_rfl
theorem a1 (k : Nat) (Q : Ex -> St -> Option α) (x45 : D2) (x46 x47 : Int) (c2 : D1) (c4p0 c4p1 : D4) (c4p2 : Int) (c8p0 c8p1 : D4) (c8p2 : Int) (c61 : D2) :
  (lp C k) cd0 (blkQ C 0 (sq (den C k) (lp C k) Js C cd2 Q)) (St2 x45 x46 x47 c2 c4p0 c4p1 c4p2 c8p0 c8p1 c8p2 c61) = l0 k (fun c2 c4p0 c4p1 c4p2 c8p0 c8p1 c8p2 c61 => j1 k (fun x5 x6 c4 => Q .ret (St1 x5 x6 c4)) c2 c4p0 c4p1 c4p2 c8p0 c8p1 c8p2 c61) k x45 x46 x47 c2 c4p0 c4p1 c4p2 c8p0 c8p1 c8p2 c61 :=
 (lp_iter 24 (by kernel_rfl)).trans ((l0_eq k _ k x45 x46 x47 c2 c4p0 c4p1 c4p2 c8p0 c8p1 c8p2 c61).trans (congrArg (fun X => l0 k X k x45 x46 x47 c2 c4p0 c4p1 c4p2 c8p0 c8p1 c8p2 c61) (funext fun c2 => funext fun c4p0 => funext fun c4p1 => funext fun c4p2 => funext fun c8p0 => funext fun c8p1 => funext fun c8p2 => funext fun c61 => (Eq.trans (b := (den C k) cd2 Q (St5 c2 c4p0 c4p1 c4p2 c8p0 c8p1 c8p2 c61)) (by kernel_rfl) (by simp only [j1_eq])))))
def top (k : Nat) (Rt : D4 -> Int -> D1 -> Option α) (x0 : D1) (x1 : Int) : Option α :=
 (basculeref_GateFault.run x0).bind fun y1 =>
 if (y1 != 0) = true then
  Rt [] y1 ([0, 0, 0], [0, 0, 0], 0, [], [], ())
 else
  if (cond (cond (decide (x1 < 1)) true (decide (x1 > 1000))) true (decide (x0.2.2.1 > (IntKind.i64.wrap (1099511627776 - x1))))) = true then
   Rt [] 6 ([0, 0, 0], [0, 0, 0], 0, [], [], ())
  else
   l0 k (fun c2 c4p0 c4p1 c4p2 c8p0 c8p1 c8p2 c61 => j1 k Rt c2 c4p0 c4p1 c4p2 c8p0 c8p1 c8p2 c61) k x0.2.2.2.1 (x0.2.2.2.1.length : Int) 0 x0 [0, 0, 0] [0, 0, 0] 0 x0.1 x0.2.1 (IntKind.i64.wrap (x0.2.2.1 + x1)) []
theorem top_eq (k : Nat) (Q : Ex -> St -> Option α) (x0 : D1) (x1 : Int) :
  (den C k) (cB Try.f76) Q (St0 x0 x1) = top k (fun x5 x6 c4 => Q .ret (St1 x5 x6 c4)) x0 x1 := by
 have h : ∀ (D L : DT α), denJ D L Js C (cB Try.f76) Q (St0 x0 x1) =
    (basculeref_GateFault.run x0).bind fun y1 =>
    if (y1 != 0) = true then
     Q .ret (St1 [] y1 ([0, 0, 0], [0, 0, 0], 0, [], [], ()))
    else
     if (cond (cond (decide (x1 < 1)) true (decide (x1 > 1000))) true (decide (x0.2.2.1 > (IntKind.i64.wrap (1099511627776 - x1))))) = true then
      Q .ret (St1 [] 6 ([0, 0, 0], [0, 0, 0], 0, [], [], ()))
     else
      L cd0 (blkQ C 0 (sq D L Js C cd2 Q)) (St2 x0.2.2.2.1 (x0.2.2.2.1.length : Int) 0 x0 [0, 0, 0] [0, 0, 0] 0 x0.1 x0.2.1 (IntKind.i64.wrap (x0.2.2.1 + x1)) []) := by
  intro D L; kernel_rfl
 have h2 := via (k := k) h
 refine h2.trans ?_
 simp only [a1]
 first | rfl | kernel_rfl
def run (x0 : D1) (x1 : Int) : Option D5 := top (α := D1 × List Int × Int × Unit) fuel (fun x5 x6 c4 => some (c4, x5, x6, ())) x0 x1
def F : Fn := ⟨T10, T13, true, fun x => run x.1 x.2.1⟩
theorem con : Con Try.prog 76 F /\ Named Try.prog 76 :=
 con_of2 (C := C) (ctx_ok (by kernel_rfl) (by kernel_rfl) (by kernel_rfl) (by kernel_rfl) ⟨.inl basculeref_GateFault.con, ⟨.inl basculeref_passes.con, trivial⟩⟩) (by kernel_rfl) Try.func76 (by kernel_rfl) (c := cB Try.f76) (by kernel_rfl) (by kernel_rfl) F (fun x => by simp [F, spread, Try.ntmps76]) (fun x => (St0 x.1 x.2.1)) (fun x => by kernel_rfl) fun x => (top_eq fuel _ x.1 x.2.1).trans (by kernel_rfl)
end Go.Bx.basculeref_Ticked
namespace Go.Bx.basculeref_waits
def Js : List Nat := [17, 18, 19, 20]
def C : Ctx := ⟨[(3, T1), (28, T7), (32, T19), (34, T22), (35, T1), (40, T2), (107, T12)], [], [], fnL [(10, basculeref_IdOf.F), (76, basculeref_Ticked.F)], noSh, [], invL [], [(2, [4, 5]), (1, [2, 4, 9]), (4, [2, 4, 9, 33, 34, 35]), (7, [2, 4, 9, 12, 33, 34, 35]), (10, [2, 4, 9, 11, 12, 33, 34, 35, 40, 41, 42]), (21, [2, 4, 9, 33, 34, 35]), (33, [2, 4, 9, 11, 12, 33, 34, 35, 40, 41, 42]), (48, [2, 4, 9, 11, 12, 33, 34, 35, 40, 41, 42]), (51, [2, 4, 9, 12, 33, 34, 35]), (54, [2, 4, 9, 33, 34, 35]), (57, [2, 4, 9])], [(2, [.dat false 4 []]), (21, [.dat false 2 []]), (33, [.melt true 12 [] 57 true]), (48, [.melt true 12 [] 57 true])], [32], 0, 0⟩
def St0 (x0 : D8) (x1 : Int) : St := stL 65 [(0, .data T22 x0), (1, .data T1 x1)] []
def St1 (x5 : Int) (c4 : D8) : St := stL 65 [(4, .ref 4 0 []), (5, .data T1 x5)] [(4, .cell T22 (.data T22 c4) false)]
def St2 (x33 : D4) (x34 x35 : Int) (c2 : D8) (c4p0 c4p1p0 c4p1p1 : D4) (c4p1p2 : Int) (c4p2p0 c4p2p1 : D4) (c4p2p2 : Int) (c32 : D7) : St := stL 65 [(2, .ref 2 0 []), (4, .ref 4 0 []), (9, .app 32 0), (33, .data T12 x33), (34, .data T1 x34), (35, .data T1 x35)] [(2, .cell T22 (.data T22 c2) false), (4, .cell T22 (.agg T22 [.data T23 c4p0, .agg T7 [.data T5 c4p1p0, .data T5 c4p1p1, .data T1 c4p1p2, .full T8 [], .full T8 []], .agg T7 [.data T5 c4p2p0, .data T5 c4p2p1, .data T1 c4p2p2, .full T8 [], .full T8 []], .agg T21 [.full T18 [], .full T18 []], .full T2 [], .full T2 []]) false), (32, .buf T2 c32 0 true)]
noncomputable def cd0 : Code := cL (cL (cR (cL (cR (cR (cR (cR (cR (cB Try.f24)))))))))
def St3 (x11 : Int) (x33 : D4) (x34 x35 : Int) (x40 : D7) (x41 x42 : Int) (c2 : D8) (c4p0 c4p1p0 c4p1p1 : D4) (c4p1p2 : Int) (c4p2p0 c4p2p1 : D4) (c4p2p2 : Int) (c32 c57 : D7) : St := stL 65 [(2, .ref 2 0 []), (4, .ref 4 0 []), (9, .app 32 0), (11, .data T1 x11), (12, .app 57 0), (33, .data T12 x33), (34, .data T1 x34), (35, .data T1 x35), (40, .data T19 x40), (41, .data T1 x41), (42, .data T1 x42)] [(2, .cell T22 (.data T22 c2) false), (4, .cell T22 (.agg T22 [.data T23 c4p0, .agg T7 [.data T5 c4p1p0, .data T5 c4p1p1, .data T1 c4p1p2, .full T8 [], .full T8 []], .agg T7 [.data T5 c4p2p0, .data T5 c4p2p1, .data T1 c4p2p2, .full T8 [], .full T8 []], .agg T21 [.full T18 [], .full T18 []], .full T2 [], .full T2 []]) false), (32, .buf T2 c32 0 true), (57, .buf T2 c57 0 true)]
noncomputable def cd1 : Code := cL (cL (cR (cL (cR (cR (cL (cL (cR (cR (cL (cL (cR (cL (cR (cR (cR (cR (cR (cB Try.f24)))))))))))))))))))
def St4 (x11 : Int) (x33 : D4) (x34 x35 : Int) (x40 : D7) (x41 x42 : Int) (c2 : D8) (c4p0 c4p1p0 c4p1p1 : D4) (c4p1p2 : Int) (c4p2p0 c4p2p1 : D4) (c4p2p2 : Int) (c32 c57 : D7) : St := stL 65 [(2, .ref 2 0 []), (4, .ref 4 0 []), (9, .app 32 0), (11, .data T1 x11), (12, .app 57 0), (33, .data T12 x33), (34, .data T1 x34), (35, .data T1 x35), (40, .data T19 x40), (41, .data T1 x41), (42, .data T1 x42)] [(2, .cell T22 (.data T22 c2) false), (4, .cell T22 (.agg T22 [.data T23 c4p0, .agg T7 [.data T5 c4p1p0, .data T5 c4p1p1, .data T1 c4p1p2, .full T8 [], .full T8 []], .agg T7 [.data T5 c4p2p0, .data T5 c4p2p1, .data T1 c4p2p2, .full T8 [], .full T8 []], .agg T21 [.full T18 [], .full T18 []], .full T2 [], .full T2 []]) false), (32, .buf T2 c32 0 true), (57, .buf T2 c57 0 true)]
noncomputable def cd2 : Code := cR (cR (cR (cL (cL (cR (cL (cR (cR (cL (cL (cR (cR (cL (cL (cR (cL (cR (cR (cR (cR (cR (cB Try.f24))))))))))))))))))))))
def j0 (Nx : Int -> D4 -> Int -> Int -> D7 -> Int -> Int -> D8 -> D4 -> D4 -> D4 -> Int -> D4 -> D4 -> Int -> D7 -> D7 -> Option α) (x11 : Int) (x33 : D4) (x34 x35 : Int) (x40 : D7) (x41 x42 : Int) (c2 : D8) (c4p0 c4p1p0 c4p1p1 : D4) (c4p1p2 : Int) (c4p2p0 c4p2p1 : D4) (c4p2p2 : Int) (c32 c57 : D7) : Option α :=
 Nx x11 x33 x34 x35 x40 x41 (IntKind.i64.wrap (x42 + 1)) c2 c4p0 c4p1p0 c4p1p1 c4p1p2 c4p2p0 c4p2p1 c4p2p2 c32 c57
theorem j0_eq (k : Nat) (next : St -> Option α) (Q : Ex -> St -> Option α) (x11 : Int) (x33 : D4) (x34 x35 : Int) (x40 : D7) (x41 x42 : Int) (c2 : D8) (c4p0 c4p1p0 c4p1p1 : D4) (c4p1p2 : Int) (c4p2p0 c4p2p1 : D4) (c4p2p2 : Int) (c32 c57 : D7) :
  (den C k) cd2 (lq C 33 next Q) (St4 x11 x33 x34 x35 x40 x41 x42 c2 c4p0 c4p1p0 c4p1p1 c4p1p2 c4p2p0 c4p2p1 c4p2p2 c32 c57) = j0 (fun x11 x33 x34 x35 x40 x41 x42 c2 c4p0 c4p1p0 c4p1p1 c4p1p2 c4p2p0 c4p2p1 c4p2p2 c32 c57 => next (St3 x11 x33 x34 x35 x40 x41 x42 c2 c4p0 c4p1p0 c4p1p1 c4p1p2 c4p2p0 c4p2p1 c4p2p2 c32 c57)) x11 x33 x34 x35 x40 x41 x42 c2 c4p0 c4p1p0 c4p1p1 c4p1p2 c4p2p0 c4p2p1 c4p2p2 c32 c57 := plainly Js (by kernel_rfl)
def St5 (x33 : D4) (x34 x35 : Int) (c2 : D8) (c4p0 c4p1p0 c4p1p1 : D4) (c4p1p2 : Int) (c4p2p0 c4p2p1 : D4) (c4p2p2 : Int) (c32 c57 : D7) : St := stL 65 [(2, .ref 2 0 []), (4, .ref 4 0 []), (9, .app 32 0), (12, .app 57 0), (33, .data T12 x33), (34, .data T1 x34), (35, .data T1 x35)] [(2, .cell T22 (.data T22 c2) false), (4, .cell T22 (.agg T22 [.data T23 c4p0, .agg T7 [.data T5 c4p1p0, .data T5 c4p1p1, .data T1 c4p1p2, .full T8 [], .full T8 []], .agg T7 [.data T5 c4p2p0, .data T5 c4p2p1, .data T1 c4p2p2, .full T8 [], .full T8 []], .agg T21 [.full T18 [], .full T18 []], .full T2 [], .full T2 []]) false), (32, .buf T2 c32 0 true), (57, .buf T2 c57 0 true)]
def l1s (Nx : Int -> D4 -> Int -> Int -> D7 -> Int -> Int -> D8 -> D4 -> D4 -> D4 -> Int -> D4 -> D4 -> Int -> D7 -> D7 -> Option α) (Xt2 : D4 -> Int -> Int -> D8 -> D4 -> D4 -> D4 -> Int -> D4 -> D4 -> Int -> D7 -> D7 -> Option α) (x11 : Int) (x33 : D4) (x34 x35 : Int) (x40 : D7) (x41 x42 : Int) (c2 : D8) (c4p0 c4p1p0 c4p1p1 : D4) (c4p1p2 : Int) (c4p2p0 c4p2p1 : D4) (c4p2p2 : Int) (c32 c57 : D7) : Option α :=
 if (decide (x42 < x41)) = true then
  if 0 <= x42 /\ x42 < (x40.length : Int) then
   (basculeref_IdOf.run (List.getD x40 (Int.toNat x42) (0, 0, 0, (List.replicate 32 0), 0, 0, [], ()))).bind fun y2 =>
   if (y2 == x11) = true then
    if fitB (c32.length + 1) 96 = true then
     j0 Nx x11 x33 x34 x35 x40 x41 x42 c2 c4p0 c4p1p0 c4p1p1 c4p1p2 c4p2p0 c4p2p1 c4p2p2 (c32 ++ [(List.getD x40 (Int.toNat x42) (0, 0, 0, (List.replicate 32 0), 0, 0, [], ()))]) c57
    else none
   else
    if fitB (c57.length + 1) 96 = true then
     j0 Nx x11 x33 x34 x35 x40 x41 x42 c2 c4p0 c4p1p0 c4p1p1 c4p1p2 c4p2p0 c4p2p1 c4p2p2 c32 (c57 ++ [(List.getD x40 (Int.toNat x42) (0, 0, 0, (List.replicate 32 0), 0, 0, [], ()))])
    else none
  else none
 else
  Xt2 x33 x34 x35 c2 c4p0 c4p1p0 c4p1p1 c4p1p2 c4p2p0 c4p2p1 c4p2p2 c32 c57
theorem l1s_eq (k : Nat) (next : St -> Option α) (Q : Ex -> St -> Option α) (x11 : Int) (x33 : D4) (x34 x35 : Int) (x40 : D7) (x41 x42 : Int) (c2 : D8) (c4p0 c4p1p0 c4p1p1 : D4) (c4p1p2 : Int) (c4p2p0 c4p2p1 : D4) (c4p2p2 : Int) (c32 c57 : D7) :
  rnd C k cd1 33 Q next (St3 x11 x33 x34 x35 x40 x41 x42 c2 c4p0 c4p1p0 c4p1p1 c4p1p2 c4p2p0 c4p2p1 c4p2p2 c32 c57) = l1s (fun x11 x33 x34 x35 x40 x41 x42 c2 c4p0 c4p1p0 c4p1p1 c4p1p2 c4p2p0 c4p2p1 c4p2p2 c32 c57 => next (St3 x11 x33 x34 x35 x40 x41 x42 c2 c4p0 c4p1p0 c4p1p1 c4p1p2 c4p2p0 c4p2p1 c4p2p2 c32 c57)) (fun x33 x34 x35 c2 c4p0 c4p1p0 c4p1p1 c4p1p2 c4p2p0 c4p2p1 c4p2p2 c32 c57 => Q (.exit 2) (St5 x33 x34 x35 c2 c4p0 c4p1p0 c4p1p1 c4p1p2 c4p2p0 c4p2p1 c4p2p2 c32 c57)) x11 x33 x34 x35 x40 x41 x42 c2 c4p0 c4p1p0 c4p1p1 c4p1p2 c4p2p0 c4p2p1 c4p2p2 c32 c57 := by
 have h : ∀ (D L : DT α), denJ D L Js C cd1 (lq C 33 next Q) (St3 x11 x33 x34 x35 x40 x41 x42 c2 c4p0 c4p1p0 c4p1p1 c4p1p2 c4p2p0 c4p2p1 c4p2p2 c32 c57) =
    if (decide (x42 < x41)) = true then
     if 0 <= x42 /\ x42 < (x40.length : Int) then
      (basculeref_IdOf.run (List.getD x40 (Int.toNat x42) (0, 0, 0, (List.replicate 32 0), 0, 0, [], ()))).bind fun y2 =>
      if (y2 == x11) = true then
       if fitB (c32.length + 1) 96 = true then
        D cd2 (lq C 33 next Q) (St4 x11 x33 x34 x35 x40 x41 x42 c2 c4p0 c4p1p0 c4p1p1 c4p1p2 c4p2p0 c4p2p1 c4p2p2 (c32 ++ [(List.getD x40 (Int.toNat x42) (0, 0, 0, (List.replicate 32 0), 0, 0, [], ()))]) c57)
       else none
      else
       if fitB (c57.length + 1) 96 = true then
        D cd2 (lq C 33 next Q) (St4 x11 x33 x34 x35 x40 x41 x42 c2 c4p0 c4p1p0 c4p1p1 c4p1p2 c4p2p0 c4p2p1 c4p2p2 c32 (c57 ++ [(List.getD x40 (Int.toNat x42) (0, 0, 0, (List.replicate 32 0), 0, 0, [], ()))]))
       else none
     else none
    else
     Q (.exit 2) (St5 x33 x34 x35 c2 c4p0 c4p1p0 c4p1p1 c4p1p2 c4p2p0 c4p2p1 c4p2p2 c32 c57) := by
  intro D L; kernel_rfl
 have h2 := via (k := k) h
 refine h2.trans ?_
 simp only [j0_eq]
 first | rfl | kernel_rfl
def l1 (k : Nat) (Xt2 : D4 -> Int -> Int -> D8 -> D4 -> D4 -> D4 -> Int -> D4 -> D4 -> Int -> D7 -> D7 -> Option α) : Nat -> Int -> D4 -> Int -> Int -> D7 -> Int -> Int -> D8 -> D4 -> D4 -> D4 -> Int -> D4 -> D4 -> Int -> D7 -> D7 -> Option α
 | 0, _, _, _, _, _, _, _, _, _, _, _, _, _, _, _, _, _ => none
 | n + 1, x11, x33, x34, x35, x40, x41, x42, c2, c4p0, c4p1p0, c4p1p1, c4p1p2, c4p2p0, c4p2p1, c4p2p2, c32, c57 => l1s (l1 k Xt2 n) Xt2 x11 x33 x34 x35 x40 x41 x42 c2 c4p0 c4p1p0 c4p1p1 c4p1p2 c4p2p0 c4p2p1 c4p2p2 c32 c57
theorem l1_eq (k : Nat) (Q : Ex -> St -> Option α) : ∀ (n : Nat) (x11 : Int) (x33 : D4) (x34 x35 : Int) (x40 : D7) (x41 x42 : Int) (c2 : D8) (c4p0 c4p1p0 c4p1p1 : D4) (c4p1p2 : Int) (c4p2p0 c4p2p1 : D4) (c4p2p2 : Int) (c32 c57 : D7), iter (rnd C k cd1 33 Q) n (St3 x11 x33 x34 x35 x40 x41 x42 c2 c4p0 c4p1p0 c4p1p1 c4p1p2 c4p2p0 c4p2p1 c4p2p2 c32 c57) = l1 k (fun x33 x34 x35 c2 c4p0 c4p1p0 c4p1p1 c4p1p2 c4p2p0 c4p2p1 c4p2p2 c32 c57 => Q (.exit 2) (St5 x33 x34 x35 c2 c4p0 c4p1p0 c4p1p1 c4p1p2 c4p2p0 c4p2p1 c4p2p2 c32 c57)) n x11 x33 x34 x35 x40 x41 x42 c2 c4p0 c4p1p0 c4p1p1 c4p1p2 c4p2p0 c4p2p1 c4p2p2 c32 c57
 | 0, _, _, _, _, _, _, _, _, _, _, _, _, _, _, _, _, _ => rfl
 | n + 1, x11, x33, x34, x35, x40, x41, x42, c2, c4p0, c4p1p0, c4p1p1, c4p1p2, c4p2p0, c4p2p1, c4p2p2, c32, c57 => (iter_succ _ _ _).trans ((l1s_eq k _ Q x11 x33 x34 x35 x40 x41 x42 c2 c4p0 c4p1p0 c4p1p1 c4p1p2 c4p2p0 c4p2p1 c4p2p2 c32 c57).trans (congrArg (fun N => l1s N (fun x33 x34 x35 c2 c4p0 c4p1p0 c4p1p1 c4p1p2 c4p2p0 c4p2p1 c4p2p2 c32 c57 => Q (.exit 2) (St5 x33 x34 x35 c2 c4p0 c4p1p0 c4p1p1 c4p1p2 c4p2p0 c4p2p1 c4p2p2 c32 c57)) x11 x33 x34 x35 x40 x41 x42 c2 c4p0 c4p1p0 c4p1p1 c4p1p2 c4p2p0 c4p2p1 c4p2p2 c32 c57) (by funext; exact l1_eq k Q n _ _ _ _ _ _ _ _ _ _ _ _ _ _ _ _ _)))
noncomputable def cd3 : Code := cR (cR (cR (cL (cL (cR (cR (cL (cL (cR (cL (cR (cR (cR (cR (cR (cB Try.f24))))))))))))))))
noncomputable def cd4 : Code := cR (cR (cR (cL (cL (cR (cL (cR (cR (cR (cR (cR (cB Try.f24))))))))))))
def St6 (x33 : D4) (x34 x35 : Int) (c2 : D8) (c4p0 c4p1p0 c4p1p1 : D4) (c4p1p2 : Int) (c4p2p0 c4p2p1 : D4) (c4p2p2 : Int) (c32 c57 : D7) : St := stL 65 [(2, .ref 2 0 []), (4, .ref 4 0 []), (9, .app 32 0), (12, .app 57 0), (33, .data T12 x33), (34, .data T1 x34), (35, .data T1 x35)] [(2, .cell T22 (.data T22 c2) false), (4, .cell T22 (.agg T22 [.data T23 c4p0, .agg T7 [.data T5 c4p1p0, .data T5 c4p1p1, .data T1 c4p1p2, .full T8 [], .full T8 []], .agg T7 [.data T5 c4p2p0, .data T5 c4p2p1, .data T1 c4p2p2, .full T8 [], .full T8 []], .agg T21 [.full T18 [], .full T18 []], .full T2 [], .full T2 []]) false), (32, .buf T2 c32 0 true), (57, .buf T2 c57 0 true)]
def St7 (x33 : D4) (x34 x35 : Int) (c2p0 : D4) (c2p1 c2p2 : D1) (c2p3 : D9) (c2p5 : D7) (c4p0 c4p1p0 c4p1p1 : D4) (c4p1p2 : Int) (c4p2p0 c4p2p1 : D4) (c4p2p2 : Int) (c32 c57 : D7) : St := stL 65 [(2, .ref 2 0 []), (4, .ref 4 0 []), (9, .app 32 0), (33, .data T12 x33), (34, .data T1 x34), (35, .data T1 x35)] [(2, .cell T22 (.agg T22 [.data T23 c2p0, .data T7 c2p1, .data T7 c2p2, .data T21 c2p3, .app 57 0, .data T19 c2p5]) false), (4, .cell T22 (.agg T22 [.data T23 c4p0, .agg T7 [.data T5 c4p1p0, .data T5 c4p1p1, .data T1 c4p1p2, .full T8 [], .full T8 []], .agg T7 [.data T5 c4p2p0, .data T5 c4p2p1, .data T1 c4p2p2, .full T8 [], .full T8 []], .agg T21 [.full T18 [], .full T18 []], .full T2 [], .full T2 []]) false), (32, .buf T2 c32 0 true), (57, .buf T2 c57 0 true)]
def j2 (Nx : D4 -> Int -> Int -> D8 -> D4 -> D4 -> D4 -> Int -> D4 -> D4 -> Int -> D7 -> Option α) (x33 : D4) (x34 x35 : Int) (c2p0 : D4) (c2p1 c2p2 : D1) (c2p3 : D9) (c2p5 : D7) (c4p0 c4p1p0 c4p1p1 : D4) (c4p1p2 : Int) (c4p2p0 c4p2p1 : D4) (c4p2p2 : Int) (c32 c57 : D7) : Option α :=
 Nx x33 x34 (IntKind.i64.wrap (x35 + 1)) (c2p0, c2p1, c2p2, c2p3, c57, c2p5, ()) c4p0 c4p1p0 c4p1p1 c4p1p2 c4p2p0 c4p2p1 c4p2p2 c32
theorem j2_eq (k : Nat) (next : St -> Option α) (Q : Ex -> St -> Option α) (x33 : D4) (x34 x35 : Int) (c2p0 : D4) (c2p1 c2p2 : D1) (c2p3 : D9) (c2p5 : D7) (c4p0 c4p1p0 c4p1p1 : D4) (c4p1p2 : Int) (c4p2p0 c4p2p1 : D4) (c4p2p2 : Int) (c32 c57 : D7) :
  (den C k) cd4 (lq C 21 next Q) (St7 x33 x34 x35 c2p0 c2p1 c2p2 c2p3 c2p5 c4p0 c4p1p0 c4p1p1 c4p1p2 c4p2p0 c4p2p1 c4p2p2 c32 c57) = j2 (fun x33 x34 x35 c2 c4p0 c4p1p0 c4p1p1 c4p1p2 c4p2p0 c4p2p1 c4p2p2 c32 => next (St2 x33 x34 x35 c2 c4p0 c4p1p0 c4p1p1 c4p1p2 c4p2p0 c4p2p1 c4p2p2 c32)) x33 x34 x35 c2p0 c2p1 c2p2 c2p3 c2p5 c4p0 c4p1p0 c4p1p1 c4p1p2 c4p2p0 c4p2p1 c4p2p2 c32 c57 := plainly Js (by kernel_rfl)
def j1 (Nx : D4 -> Int -> Int -> D8 -> D4 -> D4 -> D4 -> Int -> D4 -> D4 -> Int -> D7 -> Option α) (x33 : D4) (x34 x35 : Int) (c2 : D8) (c4p0 c4p1p0 c4p1p1 : D4) (c4p1p2 : Int) (c4p2p0 c4p2p1 : D4) (c4p2p2 : Int) (c32 c57 : D7) : Option α :=
 j2 Nx x33 x34 x35 c2.1 c2.2.1 c2.2.2.1 c2.2.2.2.1 c2.2.2.2.2.2.1 c4p0 c4p1p0 c4p1p1 c4p1p2 c4p2p0 c4p2p1 c4p2p2 c32 c57
theorem j1_eq (k : Nat) (next : St -> Option α) (Q : Ex -> St -> Option α) (x33 : D4) (x34 x35 : Int) (c2 : D8) (c4p0 c4p1p0 c4p1p1 : D4) (c4p1p2 : Int) (c4p2p0 c4p2p1 : D4) (c4p2p2 : Int) (c32 c57 : D7) :
  (den C k) cd3 (blkQ C 1 (sq (den C k) (lp C k) Js C cd4 (lq C 21 next Q))) (St6 x33 x34 x35 c2 c4p0 c4p1p0 c4p1p1 c4p1p2 c4p2p0 c4p2p1 c4p2p2 c32 c57) = j1 (fun x33 x34 x35 c2 c4p0 c4p1p0 c4p1p1 c4p1p2 c4p2p0 c4p2p1 c4p2p2 c32 => next (St2 x33 x34 x35 c2 c4p0 c4p1p0 c4p1p1 c4p1p2 c4p2p0 c4p2p1 c4p2p2 c32)) x33 x34 x35 c2 c4p0 c4p1p0 c4p1p1 c4p1p2 c4p2p0 c4p2p1 c4p2p2 c32 c57 := by
 have h : ∀ (D L : DT α), denJ D L Js C cd3 (blkQ C 1 (sq D L Js C cd4 (lq C 21 next Q))) (St6 x33 x34 x35 c2 c4p0 c4p1p0 c4p1p1 c4p1p2 c4p2p0 c4p2p1 c4p2p2 c32 c57) =
    D cd4 (lq C 21 next Q) (St7 x33 x34 x35 c2.1 c2.2.1 c2.2.2.1 c2.2.2.2.1 c2.2.2.2.2.2.1 c4p0 c4p1p0 c4p1p1 c4p1p2 c4p2p0 c4p2p1 c4p2p2 c32 c57) := by
  intro D L; kernel_rfl
 have h2 := via (k := k) h
 refine h2.trans ?_
 simp only [j2_eq]
 first | rfl | kernel_rfl
theorem a0 (k : Nat) (next : St -> Option α) (Q : Ex -> St -> Option α) (x11 : Int) (x33 : D4) (x34 x35 : Int) (x40 : D7) (x41 x42 : Int) (c2 : D8) (c4p0 c4p1p0 c4p1p1 : D4) (c4p1p2 : Int) (c4p2p0 c4p2p1 : D4) (c4p2p2 : Int) (c32 c57 : D7) :
  (lp C k) cd1 (blkQ C 2 (sq (den C k) (lp C k) Js C cd3 (blkQ C 1 (sq (den C k) (lp C k) Js C cd4 (lq C 21 next Q))))) (St3 x11 x33 x34 x35 x40 x41 x42 c2 c4p0 c4p1p0 c4p1p1 c4p1p2 c4p2p0 c4p2p1 c4p2p2 c32 c57) = l1 k (fun x33 x34 x35 c2 c4p0 c4p1p0 c4p1p1 c4p1p2 c4p2p0 c4p2p1 c4p2p2 c32 c57 => j1 (fun x33 x34 x35 c2 c4p0 c4p1p0 c4p1p1 c4p1p2 c4p2p0 c4p2p1 c4p2p2 c32 => next (St2 x33 x34 x35 c2 c4p0 c4p1p0 c4p1p1 c4p1p2 c4p2p0 c4p2p1 c4p2p2 c32)) x33 x34 x35 c2 c4p0 c4p1p0 c4p1p1 c4p1p2 c4p2p0 c4p2p1 c4p2p2 c32 c57) k x11 x33 x34 x35 x40 x41 x42 c2 c4p0 c4p1p0 c4p1p1 c4p1p2 c4p2p0 c4p2p1 c4p2p2 c32 c57 :=
 (lp_iter 33 (by kernel_rfl)).trans ((l1_eq k _ k x11 x33 x34 x35 x40 x41 x42 c2 c4p0 c4p1p0 c4p1p1 c4p1p2 c4p2p0 c4p2p1 c4p2p2 c32 c57).trans (congrArg (fun X => l1 k X k x11 x33 x34 x35 x40 x41 x42 c2 c4p0 c4p1p0 c4p1p1 c4p1p2 c4p2p0 c4p2p1 c4p2p2 c32 c57) (funext fun x33 => funext fun x34 => funext fun x35 => funext fun c2 => funext fun c4p0 => funext fun c4p1p0 => funext fun c4p1p1 => funext fun c4p1p2 => funext fun c4p2p0 => funext fun c4p2p1 => funext fun c4p2p2 => funext fun c32 => funext fun c57 => (Eq.trans (b := (den C k) cd3 (blkQ C 1 (sq (den C k) (lp C k) Js C cd4 (lq C 21 next Q))) (St6 x33 x34 x35 c2 c4p0 c4p1p0 c4p1p1 c4p1p2 c4p2p0 c4p2p1 c4p2p2 c32 c57)) (by kernel_rfl) (by simp only [j1_eq])))))
def St8 (c2 : D8) (c4p0 c4p1p0 c4p1p1 : D4) (c4p1p2 : Int) (c4p2p0 c4p2p1 : D4) (c4p2p2 : Int) (c32 : D7) : St := stL 65 [(2, .ref 2 0 []), (4, .ref 4 0 []), (9, .app 32 0)] [(2, .cell T22 (.data T22 c2) false), (4, .cell T22 (.agg T22 [.data T23 c4p0, .agg T7 [.data T5 c4p1p0, .data T5 c4p1p1, .data T1 c4p1p2, .full T8 [], .full T8 []], .agg T7 [.data T5 c4p2p0, .data T5 c4p2p1, .data T1 c4p2p2, .full T8 [], .full T8 []], .agg T21 [.full T18 [], .full T18 []], .full T2 [], .full T2 []]) false), (32, .buf T2 c32 0 true)]
def l0s (k : Nat) (Nx : D4 -> Int -> Int -> D8 -> D4 -> D4 -> D4 -> Int -> D4 -> D4 -> Int -> D7 -> Option α) (Xt0 : D8 -> D4 -> D4 -> D4 -> Int -> D4 -> D4 -> Int -> D7 -> Option α) (x33 : D4) (x34 x35 : Int) (c2 : D8) (c4p0 c4p1p0 c4p1p1 : D4) (c4p1p2 : Int) (c4p2p0 c4p2p1 : D4) (c4p2p2 : Int) (c32 : D7) : Option α :=
 if (decide (x35 < x34)) = true then
  if 0 <= x35 /\ x35 < (x33.length : Int) then
   l1 k (fun x33 x34 x35 c2 c4p0 c4p1p0 c4p1p1 c4p1p2 c4p2p0 c4p2p1 c4p2p2 c32 c57 => j1 Nx x33 x34 x35 c2 c4p0 c4p1p0 c4p1p1 c4p1p2 c4p2p0 c4p2p1 c4p2p2 c32 c57) k (List.getD x33 (Int.toNat x35) 0) x33 x34 x35 c2.2.2.2.2.1 (c2.2.2.2.2.1.length : Int) 0 c2 c4p0 c4p1p0 c4p1p1 c4p1p2 c4p2p0 c4p2p1 c4p2p2 c32 []
  else none
 else
  Xt0 c2 c4p0 c4p1p0 c4p1p1 c4p1p2 c4p2p0 c4p2p1 c4p2p2 c32
theorem l0s_eq (k : Nat) (next : St -> Option α) (Q : Ex -> St -> Option α) (x33 : D4) (x34 x35 : Int) (c2 : D8) (c4p0 c4p1p0 c4p1p1 : D4) (c4p1p2 : Int) (c4p2p0 c4p2p1 : D4) (c4p2p2 : Int) (c32 : D7) :
  rnd C k cd0 21 Q next (St2 x33 x34 x35 c2 c4p0 c4p1p0 c4p1p1 c4p1p2 c4p2p0 c4p2p1 c4p2p2 c32) = l0s k (fun x33 x34 x35 c2 c4p0 c4p1p0 c4p1p1 c4p1p2 c4p2p0 c4p2p1 c4p2p2 c32 => next (St2 x33 x34 x35 c2 c4p0 c4p1p0 c4p1p1 c4p1p2 c4p2p0 c4p2p1 c4p2p2 c32)) (fun c2 c4p0 c4p1p0 c4p1p1 c4p1p2 c4p2p0 c4p2p1 c4p2p2 c32 => Q (.exit 0) (St8 c2 c4p0 c4p1p0 c4p1p1 c4p1p2 c4p2p0 c4p2p1 c4p2p2 c32)) x33 x34 x35 c2 c4p0 c4p1p0 c4p1p1 c4p1p2 c4p2p0 c4p2p1 c4p2p2 c32 := by
 have h : ∀ (D L : DT α), denJ D L Js C cd0 (lq C 21 next Q) (St2 x33 x34 x35 c2 c4p0 c4p1p0 c4p1p1 c4p1p2 c4p2p0 c4p2p1 c4p2p2 c32) =
    if (decide (x35 < x34)) = true then
     if 0 <= x35 /\ x35 < (x33.length : Int) then
      L cd1 (blkQ C 2 (sq D L Js C cd3 (blkQ C 1 (sq D L Js C cd4 (lq C 21 next Q))))) (St3 (List.getD x33 (Int.toNat x35) 0) x33 x34 x35 c2.2.2.2.2.1 (c2.2.2.2.2.1.length : Int) 0 c2 c4p0 c4p1p0 c4p1p1 c4p1p2 c4p2p0 c4p2p1 c4p2p2 c32 [])
     else none
    else
     Q (.exit 0) (St8 c2 c4p0 c4p1p0 c4p1p1 c4p1p2 c4p2p0 c4p2p1 c4p2p2 c32) := by
  intro D L; kernel_rfl
 have h2 := via (k := k) h
 refine h2.trans ?_
 simp only [a0]
 first | rfl | kernel_rfl
def l0 (k : Nat) (Xt0 : D8 -> D4 -> D4 -> D4 -> Int -> D4 -> D4 -> Int -> D7 -> Option α) : Nat -> D4 -> Int -> Int -> D8 -> D4 -> D4 -> D4 -> Int -> D4 -> D4 -> Int -> D7 -> Option α
 | 0, _, _, _, _, _, _, _, _, _, _, _, _ => none
 | n + 1, x33, x34, x35, c2, c4p0, c4p1p0, c4p1p1, c4p1p2, c4p2p0, c4p2p1, c4p2p2, c32 => l0s k (l0 k Xt0 n) Xt0 x33 x34 x35 c2 c4p0 c4p1p0 c4p1p1 c4p1p2 c4p2p0 c4p2p1 c4p2p2 c32
theorem l0_eq (k : Nat) (Q : Ex -> St -> Option α) : ∀ (n : Nat) (x33 : D4) (x34 x35 : Int) (c2 : D8) (c4p0 c4p1p0 c4p1p1 : D4) (c4p1p2 : Int) (c4p2p0 c4p2p1 : D4) (c4p2p2 : Int) (c32 : D7), iter (rnd C k cd0 21 Q) n (St2 x33 x34 x35 c2 c4p0 c4p1p0 c4p1p1 c4p1p2 c4p2p0 c4p2p1 c4p2p2 c32) = l0 k (fun c2 c4p0 c4p1p0 c4p1p1 c4p1p2 c4p2p0 c4p2p1 c4p2p2 c32 => Q (.exit 0) (St8 c2 c4p0 c4p1p0 c4p1p1 c4p1p2 c4p2p0 c4p2p1 c4p2p2 c32)) n x33 x34 x35 c2 c4p0 c4p1p0 c4p1p1 c4p1p2 c4p2p0 c4p2p1 c4p2p2 c32
 | 0, _, _, _, _, _, _, _, _, _, _, _, _ => rfl
 | n + 1, x33, x34, x35, c2, c4p0, c4p1p0, c4p1p1, c4p1p2, c4p2p0, c4p2p1, c4p2p2, c32 => (iter_succ _ _ _).trans ((l0s_eq k _ Q x33 x34 x35 c2 c4p0 c4p1p0 c4p1p1 c4p1p2 c4p2p0 c4p2p1 c4p2p2 c32).trans (congrArg (fun N => l0s k N (fun c2 c4p0 c4p1p0 c4p1p1 c4p1p2 c4p2p0 c4p2p1 c4p2p2 c32 => Q (.exit 0) (St8 c2 c4p0 c4p1p0 c4p1p1 c4p1p2 c4p2p0 c4p2p1 c4p2p2 c32)) x33 x34 x35 c2 c4p0 c4p1p0 c4p1p1 c4p1p2 c4p2p0 c4p2p1 c4p2p2 c32) (by funext; exact l0_eq k Q n _ _ _ _ _ _ _ _ _ _ _ _)))
noncomputable def cd5 : Code := cR (cR (cR (cR (cR (cR (cB Try.f24))))))
def St9 (c2 : D8) (c4p0 c4p1p0 c4p1p1 : D4) (c4p1p2 : Int) (c4p2p0 c4p2p1 : D4) (c4p2p2 : Int) (c32 : D7) : St := stL 65 [(2, .ref 2 0 []), (4, .ref 4 0 []), (9, .app 32 0)] [(2, .cell T22 (.data T22 c2) false), (4, .cell T22 (.agg T22 [.data T23 c4p0, .agg T7 [.data T5 c4p1p0, .data T5 c4p1p1, .data T1 c4p1p2, .full T8 [], .full T8 []], .agg T7 [.data T5 c4p2p0, .data T5 c4p2p1, .data T1 c4p2p2, .full T8 [], .full T8 []], .agg T21 [.full T18 [], .full T18 []], .full T2 [], .full T2 []]) false), (32, .buf T2 c32 0 true)]
def j3 (Rt : Int -> D8 -> Option α) (c2 : D8) (c4p0 c4p1p0 c4p1p1 : D4) (c4p1p2 : Int) (c4p2p0 c4p2p1 : D4) (c4p2p2 : Int) (c32 : D7) : Option α :=
 Rt 0 (c2.1, c2.2.1, c2.2.2.1, c2.2.2.2.1, c2.2.2.2.2.1, c32, ())
theorem j3_eq (k : Nat) (Q : Ex -> St -> Option α) (c2 : D8) (c4p0 c4p1p0 c4p1p1 : D4) (c4p1p2 : Int) (c4p2p0 c4p2p1 : D4) (c4p2p2 : Int) (c32 : D7) :
  (den C k) cd5 Q (St9 c2 c4p0 c4p1p0 c4p1p1 c4p1p2 c4p2p0 c4p2p1 c4p2p2 c32) = j3 (fun x5 c4 => Q .ret (St1 x5 c4)) c2 c4p0 c4p1p0 c4p1p1 c4p1p2 c4p2p0 c4p2p1 c4p2p2 c32 := plainly Js (by kernel_rfl)
theorem a1 (k : Nat) (Q : Ex -> St -> Option α) (x33 : D4) (x34 x35 : Int) (c2 : D8) (c4p0 c4p1p0 c4p1p1 : D4) (c4p1p2 : Int) (c4p2p0 c4p2p1 : D4) (c4p2p2 : Int) (c32 : D7) :
  (lp C k) cd0 (blkQ C 0 (sq (den C k) (lp C k) Js C cd5 Q)) (St2 x33 x34 x35 c2 c4p0 c4p1p0 c4p1p1 c4p1p2 c4p2p0 c4p2p1 c4p2p2 c32) = l0 k (fun c2 c4p0 c4p1p0 c4p1p1 c4p1p2 c4p2p0 c4p2p1 c4p2p2 c32 => j3 (fun x5 c4 => Q .ret (St1 x5 c4)) c2 c4p0 c4p1p0 c4p1p1 c4p1p2 c4p2p0 c4p2p1 c4p2p2 c32) k x33 x34 x35 c2 c4p0 c4p1p0 c4p1p1 c4p1p2 c4p2p0 c4p2p1 c4p2p2 c32 :=
 (lp_iter 21 (by kernel_rfl)).trans ((l0_eq k _ k x33 x34 x35 c2 c4p0 c4p1p0 c4p1p1 c4p1p2 c4p2p0 c4p2p1 c4p2p2 c32).trans (congrArg (fun X => l0 k X k x33 x34 x35 c2 c4p0 c4p1p0 c4p1p1 c4p1p2 c4p2p0 c4p2p1 c4p2p2 c32) (funext fun c2 => funext fun c4p0 => funext fun c4p1p0 => funext fun c4p1p1 => funext fun c4p1p2 => funext fun c4p2p0 => funext fun c4p2p1 => funext fun c4p2p2 => funext fun c32 => (Eq.trans (b := (den C k) cd5 Q (St9 c2 c4p0 c4p1p0 c4p1p1 c4p1p2 c4p2p0 c4p2p1 c4p2p2 c32)) (by kernel_rfl) (by simp only [j3_eq])))))
def top (k : Nat) (Rt : Int -> D8 -> Option α) (x0 : D8) (x1 : Int) : Option α :=
 (basculeref_Ticked.run x0.2.2.1 x1).bind fun y1 =>
 if (y1.2.2.1 != 0) = true then
  Rt y1.2.2.1 x0
 else
  if fitB (0 + x0.2.2.2.2.2.1.length) 96 = true then
   l0 k (fun c2 c4p0 c4p1p0 c4p1p1 c4p1p2 c4p2p0 c4p2p1 c4p2p2 c32 => j3 Rt c2 c4p0 c4p1p0 c4p1p1 c4p1p2 c4p2p0 c4p2p1 c4p2p2 c32) k y1.2.1 (y1.2.1.length : Int) 0 (x0.1, x0.2.1, y1.1, x0.2.2.2) [0, 0, 0, 0] [0, 0, 0] [0, 0, 0] 0 [0, 0, 0] [0, 0, 0] 0 x0.2.2.2.2.2.1
  else none
theorem top_eq (k : Nat) (Q : Ex -> St -> Option α) (x0 : D8) (x1 : Int) :
  (den C k) (cB Try.f24) Q (St0 x0 x1) = top k (fun x5 c4 => Q .ret (St1 x5 c4)) x0 x1 := by
 have h : ∀ (D L : DT α), denJ D L Js C (cB Try.f24) Q (St0 x0 x1) =
    (basculeref_Ticked.run x0.2.2.1 x1).bind fun y1 =>
    if (y1.2.2.1 != 0) = true then
     Q .ret (St1 y1.2.2.1 x0)
    else
     if fitB (0 + x0.2.2.2.2.2.1.length) 96 = true then
      L cd0 (blkQ C 0 (sq D L Js C cd5 Q)) (St2 y1.2.1 (y1.2.1.length : Int) 0 (x0.1, x0.2.1, y1.1, x0.2.2.2) [0, 0, 0, 0] [0, 0, 0] [0, 0, 0] 0 [0, 0, 0] [0, 0, 0] 0 x0.2.2.2.2.2.1)
     else none := by
  intro D L; kernel_rfl
 have h2 := via (k := k) h
 refine h2.trans ?_
 simp only [a1]
 first | rfl | kernel_rfl
def run (x0 : D8) (x1 : Int) : Option D11 := top (α := D8 × Int × Unit) fuel (fun x5 c4 => some (c4, x5, ())) x0 x1
def F : Fn := ⟨T30, T30, true, fun x => run x.1 x.2.1⟩
theorem con : Con Try.prog 24 F /\ Named Try.prog 24 :=
 con_of2 (C := C) (ctx_ok (by kernel_rfl) (by kernel_rfl) (by kernel_rfl) (by kernel_rfl) ⟨.inl basculeref_IdOf.con, ⟨.inl basculeref_Ticked.con, trivial⟩⟩) (by kernel_rfl) Try.func24 (by kernel_rfl) (c := cB Try.f24) (by kernel_rfl) (by kernel_rfl) F (fun x => by simp [F, spread, Try.ntmps24]) (fun x => (St0 x.1 x.2.1)) (fun x => by kernel_rfl) fun x => (top_eq fuel _ x.1 x.2.1).trans (by kernel_rfl)
end Go.Bx.basculeref_waits
namespace Go.Bx.guard_body
def Js : List Nat := []
def C : Ctx := ⟨[(29, T16), (40, T2)], [], [], fnL [], noSh, [], invL [], [(2, [2])], [], [6], 0, 0⟩
def St0 (x0 : D0) : St := stL 9 [(0, .data T2 x0)] []
def St1 (c2p0 c2p1 c2p2 : Int) (c2p3 : D4) (c2p4 c2p5 : Int) (c6 : D4) : St := stL 9 [(2, .ref 2 0 [])] [(2, .cell T2 (.agg T2 [.data T1 c2p0, .data T1 c2p1, .data T1 c2p2, .data T17 c2p3, .data T1 c2p4, .data T1 c2p5, .app 6 0]) false), (6, .buf T18 c6 0 true)]
def top (Rt : Int -> Int -> Int -> D4 -> Int -> Int -> D4 -> Option α) (x0 : D0) : Option α :=
 if fitB (0 + x0.2.2.2.2.2.2.1.length) 1 = true then
  Rt x0.1 x0.2.1 x0.2.2.1 x0.2.2.2.1 x0.2.2.2.2.1 x0.2.2.2.2.2.1 x0.2.2.2.2.2.2.1
 else none
theorem top_eq (k : Nat) (Q : Ex -> St -> Option α) (x0 : D0) :
  (den C k) (cB Try.f128) Q (St0 x0) = top (fun c2p0 c2p1 c2p2 c2p3 c2p4 c2p5 c6 => Q .ret (St1 c2p0 c2p1 c2p2 c2p3 c2p4 c2p5 c6)) x0 := plainly Js (by kernel_rfl)
def run (x0 : D0) : Option D0 := top (α := Int × Int × Int × List Int × Int × Int × List Int × Unit) (fun c2p0 c2p1 c2p2 c2p3 c2p4 c2p5 c6 => some (c2p0, c2p1, c2p2, c2p3, c2p4, c2p5, c6, ())) x0
def F : Fn := ⟨T3, T2, false, fun x => run x.1⟩
theorem con : Con Try.prog 128 F /\ Named Try.prog 128 :=
 con_of2 (C := C) (ctx_ok (by kernel_rfl) (by kernel_rfl) (by kernel_rfl) (by kernel_rfl) trivial) (by kernel_rfl) Try.func128 (by kernel_rfl) (c := cB Try.f128) (by kernel_rfl) (by kernel_rfl) F (fun x => by simp [F, spread, Try.ntmps128]) (fun x => (St0 x.1)) (fun x => by kernel_rfl) fun x => (top_eq fuel _ x.1).trans (by kernel_rfl)
end Go.Bx.guard_body
namespace Go.Bx.guard_bodies_s0
def Js : List Nat := [8]
def C : Ctx := ⟨[(32, T19), (40, T2)], [], [], fnL [(128, guard_body.F)], noSh, [], invL [], [(2, [2]), (1, [3]), (4, [3, 6, 7, 8]), (9, [3, 6, 7, 8]), (21, [3])], [(9, [.melt true 3 [] 16 true])], [], 0, 0⟩
def St0 (x0 : D7) : St := stL 19 [(0, .data T19 x0)] []
def St1 (x6 : D7) (x7 x8 : Int) (c16 : D7) : St := stL 19 [(3, .app 16 0), (6, .data T19 x6), (7, .data T1 x7), (8, .data T1 x8)] [(16, .buf T2 c16 0 true)]
noncomputable def cd0 : Code := cL (cL (cR (cL (cR (cR (cB Try.f73))))))
def St2 (c16 : D7) : St := stL 19 [(3, .app 16 0)] [(16, .buf T2 c16 0 true)]
def l0s (Nx : D7 -> Int -> Int -> D7 -> Option α) (Xt0 : D7 -> Option α) (x6 : D7) (x7 x8 : Int) (c16 : D7) : Option α :=
 if (decide (x8 < x7)) = true then
  if 0 <= x8 /\ x8 < (x6.length : Int) then
   (guard_body.run (List.getD x6 (Int.toNat x8) (0, 0, 0, (List.replicate 32 0), 0, 0, [], ()))).bind fun y1 =>
   if fitB (c16.length + 1) 96 = true then
    Nx x6 x7 (IntKind.i64.wrap (x8 + 1)) (c16 ++ [y1])
   else none
  else none
 else
  Xt0 c16
theorem l0s_eq (k : Nat) (next : St -> Option α) (Q : Ex -> St -> Option α) (x6 : D7) (x7 x8 : Int) (c16 : D7) :
  rnd C k cd0 9 Q next (St1 x6 x7 x8 c16) = l0s (fun x6 x7 x8 c16 => next (St1 x6 x7 x8 c16)) (fun c16 => Q (.exit 0) (St2 c16)) x6 x7 x8 c16 := plainly Js (by kernel_rfl)
def l0 (k : Nat) (Xt0 : D7 -> Option α) : Nat -> D7 -> Int -> Int -> D7 -> Option α
 | 0, _, _, _, _ => none
 | n + 1, x6, x7, x8, c16 => l0s (l0 k Xt0 n) Xt0 x6 x7 x8 c16
theorem l0_eq (k : Nat) (Q : Ex -> St -> Option α) : ∀ (n : Nat) (x6 : D7) (x7 x8 : Int) (c16 : D7), iter (rnd C k cd0 9 Q) n (St1 x6 x7 x8 c16) = l0 k (fun c16 => Q (.exit 0) (St2 c16)) n x6 x7 x8 c16
 | 0, _, _, _, _ => rfl
 | n + 1, x6, x7, x8, c16 => (iter_succ _ _ _).trans ((l0s_eq k _ Q x6 x7 x8 c16).trans (congrArg (fun N => l0s N (fun c16 => Q (.exit 0) (St2 c16)) x6 x7 x8 c16) (by funext; exact l0_eq k Q n _ _ _ _)))
noncomputable def cd1 : Code := cR (cR (cR (cB Try.f73)))
def St3 (c16 : D7) : St := stL 19 [(3, .app 16 0)] [(16, .buf T2 c16 0 true)]
def St4 (c16 : D7) : St := stL 19 [(2, .app 16 0)] [(16, .buf T2 c16 0 true)]
def j0 (Rt : D7 -> Option α) (c16 : D7) : Option α :=
 Rt c16
theorem j0_eq (k : Nat) (Q : Ex -> St -> Option α) (c16 : D7) :
  (den C k) cd1 (endQ C Q) (St3 c16) = j0 (fun c16 => Q .ret (St4 c16)) c16 := plainly Js (by kernel_rfl)
theorem a0 (k : Nat) (Q : Ex -> St -> Option α) (x6 : D7) (x7 x8 : Int) (c16 : D7) :
  (lp C k) cd0 (blkQ C 0 (sq (den C k) (lp C k) Js C cd1 (endQ C Q))) (St1 x6 x7 x8 c16) = l0 k (fun c16 => j0 (fun c16 => Q .ret (St4 c16)) c16) k x6 x7 x8 c16 :=
 (lp_iter 9 (by kernel_rfl)).trans ((l0_eq k _ k x6 x7 x8 c16).trans (congrArg (fun X => l0 k X k x6 x7 x8 c16) (funext fun c16 => (Eq.trans (b := (den C k) cd1 (endQ C Q) (St3 c16)) (by kernel_rfl) (by simp only [j0_eq])))))
def top (k : Nat) (Rt : D7 -> Option α) (x0 : D7) : Option α :=
 l0 k (fun c16 => j0 Rt c16) k x0 (x0.length : Int) 0 []
theorem top_eq (k : Nat) (Q : Ex -> St -> Option α) (x0 : D7) :
  (den C k) (cB Try.f73) (endQ C Q) (St0 x0) = top k (fun c16 => Q .ret (St4 c16)) x0 := by
 have h : ∀ (D L : DT α), denJ D L Js C (cB Try.f73) (endQ C Q) (St0 x0) =
    L cd0 (blkQ C 0 (sq D L Js C cd1 (endQ C Q))) (St1 x0 (x0.length : Int) 0 []) := by
  intro D L; kernel_rfl
 have h2 := via (k := k) h
 refine h2.trans ?_
 simp only [a0]
 first | rfl | kernel_rfl
def run (x0 : D7) : Option D13 := top (α := D7 × Unit) fuel (fun c16 => some (c16, ())) x0
def Sp : Spec := ⟨[hD T19], [], T20, .app 16 0, [(16, hB T2 0 true)], T20, fun x => run x.1⟩
set_option maxRecDepth 100000 in
theorem sok : SOk Try.prog 73 Sp.h := by
 refine sok_of_den (C := C) (ctx_ok (by kernel_rfl) (by kernel_rfl) (by kernel_rfl) (by kernel_rfl) ⟨.inl guard_body.con, trivial⟩) (by kernel_rfl) Try.func73 (c := cB Try.f73) (by kernel_rfl) (by kernel_rfl) Sp fuel (by kernel_rfl) (by kernel_rfl) ?_
 intro x r h
 rw [<- h]
 have h1 : Sp.start x Try.f73.ntmps = (St0 x.1) := by kernel_rfl
 rw [h1]
 refine (top_eq fuel (finS C Try.f73.results.toList Sp.read) x.1).trans ?_
 kernel_rfl
theorem named : Named Try.prog 73 := named_of Try.func73 (by kernel_rfl) (by kernel_rfl)
end Go.Bx.guard_bodies_s0
namespace Go.Bx.guard_fresh_1_s0
def Js : List Nat := []
def C : Ctx := ⟨[(26, T6)], [], [], fnL [], noSh, [], invL [], [(2, [2])], [], [5], 0, 0⟩
def St0 (x0 : D2) : St := stL 6 [(0, .data T6 x0)] []
def St1 (c5 : D2) : St := stL 6 [(2, .app 5 0)] [(5, .buf T8 c5 0 true)]
def top (Rt : D2 -> Option α) (x0 : D2) : Option α :=
 if fitB (0 + x0.length) 32 = true then
  Rt x0
 else none
theorem top_eq (k : Nat) (Q : Ex -> St -> Option α) (x0 : D2) :
  (den C k) (cB Try.f72) (endQ C Q) (St0 x0) = top (fun c5 => Q .ret (St1 c5)) x0 := plainly Js (by kernel_rfl)
def run (x0 : D2) : Option D12 := top (α := D2 × Unit) (fun c5 => some (c5, ())) x0
def Sp : Spec := ⟨[hD T6], [], T15, .app 5 0, [(5, hB T8 0 true)], T15, fun x => run x.1⟩
set_option maxRecDepth 100000 in
theorem sok : SOk Try.prog 72 Sp.h := by
 refine sok_of_den (C := C) (ctx_ok (by kernel_rfl) (by kernel_rfl) (by kernel_rfl) (by kernel_rfl) trivial) (by kernel_rfl) Try.func72 (c := cB Try.f72) (by kernel_rfl) (by kernel_rfl) Sp fuel (by kernel_rfl) (by kernel_rfl) ?_
 intro x r h
 rw [<- h]
 have h1 : Sp.start x Try.f72.ntmps = (St0 x.1) := by kernel_rfl
 rw [h1]
 refine (top_eq fuel (finS C Try.f72.results.toList Sp.read) x.1).trans ?_
 kernel_rfl
theorem named : Named Try.prog 72 := named_of Try.func72 (by kernel_rfl) (by kernel_rfl)
end Go.Bx.guard_fresh_1_s0
namespace Go.Bx.guard_fresh_s0
def Js : List Nat := []
def C : Ctx := ⟨[(26, T6), (28, T7), (29, T16), (31, T21), (32, T19), (34, T22)], [], [], fnL [], shL [(72, [.one guard_fresh_1_s0.Sp]), (73, [.one guard_bodies_s0.Sp])], [(8, 54), (13, 55), (22, 56), (27, 57), (46, 58), (49, 59)], invL [], [(2, [2])], [], [36, 41], 0, 0⟩
def St0 (x0 : D8) : St := stL 53 [(0, .data T22 x0)] []
def St1 (c2p0 c2p1p0 c2p1p1 : D4) (c2p1p2 : Int) (c2p2p0 c2p2p1 : D4) (c2p2p2 : Int) (c36 c41 : D4) (c54 c55 : D2) (c56 c57 : D2) (c58 c59 : D7) : St := stL 53 [(2, .ref 2 0 [])] [(2, .cell T22 (.agg T22 [.data T23 c2p0, .agg T7 [.data T5 c2p1p0, .data T5 c2p1p1, .data T1 c2p1p2, .app 54 0, .app 55 0], .agg T7 [.data T5 c2p2p0, .data T5 c2p2p1, .data T1 c2p2p2, .app 56 0, .app 57 0], .agg T21 [.app 36 0, .app 41 0], .app 58 0, .app 59 0]) false), (36, .buf T18 c36 0 true), (41, .buf T18 c41 0 true), (54, .buf T8 c54 0 true), (55, .buf T8 c55 0 true), (56, .buf T8 c56 0 true), (57, .buf T8 c57 0 true), (58, .buf T2 c58 0 true), (59, .buf T2 c59 0 true)]
def top (Rt : D4 -> D4 -> D4 -> Int -> D4 -> D4 -> Int -> D4 -> D4 -> D2 -> D2 -> D2 -> D2 -> D7 -> D7 -> Option α) (x0 : D8) : Option α :=
 (guard_fresh_1_s0.run x0.2.1.2.2.2.1).bind fun y1 =>
 (guard_fresh_1_s0.run x0.2.1.2.2.2.2.1).bind fun y2 =>
 (guard_fresh_1_s0.run x0.2.2.1.2.2.2.1).bind fun y3 =>
 (guard_fresh_1_s0.run x0.2.2.1.2.2.2.2.1).bind fun y4 =>
 if fitB (0 + x0.2.2.2.1.1.length) 1 = true then
  if fitB (0 + x0.2.2.2.1.2.1.length) 1 = true then
   (guard_bodies_s0.run x0.2.2.2.2.1).bind fun y5 =>
   (guard_bodies_s0.run x0.2.2.2.2.2.1).bind fun y6 =>
   Rt x0.1 x0.2.1.1 x0.2.1.2.1 x0.2.1.2.2.1 x0.2.2.1.1 x0.2.2.1.2.1 x0.2.2.1.2.2.1 x0.2.2.2.1.1 x0.2.2.2.1.2.1 y1.1 y2.1 y3.1 y4.1 y5.1 y6.1
  else none
 else none
theorem top_eq (k : Nat) (Q : Ex -> St -> Option α) (x0 : D8) :
  (den C k) (cB Try.f21) (endQ C Q) (St0 x0) = top (fun c2p0 c2p1p0 c2p1p1 c2p1p2 c2p2p0 c2p2p1 c2p2p2 c36 c41 c54 c55 c56 c57 c58 c59 => Q .ret (St1 c2p0 c2p1p0 c2p1p1 c2p1p2 c2p2p0 c2p2p1 c2p2p2 c36 c41 c54 c55 c56 c57 c58 c59)) x0 := plainly Js (by kernel_rfl)
def run (x0 : D8) : Option D14 := top (α := List Int × List Int × List Int × Int × List Int × List Int × Int × List Int × List Int × List Int × Int × List Int × List Int × Int × List Int × List Int × D2 × D2 × D2 × D2 × D7 × D7 × Unit) (fun c2p0 c2p1p0 c2p1p1 c2p1p2 c2p2p0 c2p2p1 c2p2p2 c36 c41 c54 c55 c56 c57 c58 c59 => some (c2p0, c2p1p0, c2p1p1, c2p1p2, c2p2p0, c2p2p1, c2p2p2, c2p0, c2p1p0, c2p1p1, c2p1p2, c2p2p0, c2p2p1, c2p2p2, c36, c41, c54, c55, c56, c57, c58, c59, ())) x0
def Sp : Spec := ⟨[hD T22], [], T24, .agg T22 [hD T23, .agg T7 [hD T5, hD T5, hD T1, .app 54 0, .app 55 0], .agg T7 [hD T5, hD T5, hD T1, .app 56 0, .app 57 0], .agg T21 [.app 36 0, .app 41 0], .app 58 0, .app 59 0], [(2, hC T22 (.agg T22 [hD T23, .agg T7 [hD T5, hD T5, hD T1, .app 54 0, .app 55 0], .agg T7 [hD T5, hD T5, hD T1, .app 56 0, .app 57 0], .agg T21 [.app 36 0, .app 41 0], .app 58 0, .app 59 0]) false), (36, hB T18 0 true), (41, hB T18 0 true), (54, hB T8 0 true), (55, hB T8 0 true), (56, hB T8 0 true), (57, hB T8 0 true), (58, hB T2 0 true), (59, hB T2 0 true)], T31, fun x => run x.1⟩
set_option maxRecDepth 100000 in
theorem sok : SOk Try.prog 21 Sp.h := by
 refine sok_of_den (C := C) (ctx_ok_sh (by kernel_rfl) (by kernel_rfl) (by kernel_rfl) (by kernel_rfl) trivial ⟨⟨⟨guard_fresh_1_s0.sok, trivial⟩, guard_fresh_1_s0.named⟩, ⟨⟨⟨guard_bodies_s0.sok, trivial⟩, guard_bodies_s0.named⟩, trivial⟩⟩) (by kernel_rfl) Try.func21 (c := cB Try.f21) (by kernel_rfl) (by kernel_rfl) Sp fuel (by kernel_rfl) (by kernel_rfl) ?_
 intro x r h
 rw [<- h]
 have h1 : Sp.start x Try.f21.ntmps = (St0 x.1) := by kernel_rfl
 rw [h1]
 refine (top_eq fuel (finS C Try.f21.results.toList Sp.read) x.1).trans ?_
 kernel_rfl
theorem named : Named Try.prog 21 := named_of Try.func21 (by kernel_rfl) (by kernel_rfl)
end Go.Bx.guard_fresh_s0
namespace Go.Bx.log_tail
def Js : List Nat := [8]
def C : Ctx := ⟨[(5, T18), (29, T16)], [], [], fnL [], noSh, [], invL [], [(2, [2]), (1, [3]), (4, [3, 6, 7, 8]), (9, [3, 6, 7, 8]), (21, [3])], [], [], 0, 0⟩
def St0 (x0 : D4) : St := stL 17 [(0, .data T16 x0)] []
def St1 (x3 : Int) (x6 : D4) (x7 x8 : Int) : St := stL 17 [(3, .data T18 x3), (6, .data T16 x6), (7, .data T1 x7), (8, .data T1 x8)] []
noncomputable def cd0 : Code := cL (cL (cR (cL (cR (cR (cB Try.f121))))))
def St2 (x3 : Int) : St := stL 17 [(3, .data T18 x3)] []
def l0s (Nx : Int -> D4 -> Int -> Int -> Option α) (Xt0 : Int -> Option α) (x3 : Int) (x6 : D4) (x7 x8 : Int) : Option α :=
 if (decide (x8 < x7)) = true then
  if 0 <= x8 /\ x8 < (x6.length : Int) then
   Nx (IntKind.u8.wrap (x3 + (List.getD x6 (Int.toNat x8) 0))) x6 x7 (IntKind.i64.wrap (x8 + 1))
  else none
 else
  Xt0 x3
theorem l0s_eq (k : Nat) (next : St -> Option α) (Q : Ex -> St -> Option α) (x3 : Int) (x6 : D4) (x7 x8 : Int) :
  rnd C k cd0 9 Q next (St1 x3 x6 x7 x8) = l0s (fun x3 x6 x7 x8 => next (St1 x3 x6 x7 x8)) (fun x3 => Q (.exit 0) (St2 x3)) x3 x6 x7 x8 := plainly Js (by kernel_rfl)
def l0 (k : Nat) (Xt0 : Int -> Option α) : Nat -> Int -> D4 -> Int -> Int -> Option α
 | 0, _, _, _, _ => none
 | n + 1, x3, x6, x7, x8 => l0s (l0 k Xt0 n) Xt0 x3 x6 x7 x8
theorem l0_eq (k : Nat) (Q : Ex -> St -> Option α) : ∀ (n : Nat) (x3 : Int) (x6 : D4) (x7 x8 : Int), iter (rnd C k cd0 9 Q) n (St1 x3 x6 x7 x8) = l0 k (fun x3 => Q (.exit 0) (St2 x3)) n x3 x6 x7 x8
 | 0, _, _, _, _ => rfl
 | n + 1, x3, x6, x7, x8 => (iter_succ _ _ _).trans ((l0s_eq k _ Q x3 x6 x7 x8).trans (congrArg (fun N => l0s N (fun x3 => Q (.exit 0) (St2 x3)) x3 x6 x7 x8) (by funext; exact l0_eq k Q n _ _ _ _)))
noncomputable def cd1 : Code := cR (cR (cR (cB Try.f121)))
def St3 (x3 : Int) : St := stL 17 [(3, .data T18 x3)] []
def St4 (x2 : Int) : St := stL 17 [(2, .data T18 x2)] []
def j0 (Rt : Int -> Option α) (x3 : Int) : Option α :=
 Rt x3
theorem j0_eq (k : Nat) (Q : Ex -> St -> Option α) (x3 : Int) :
  (den C k) cd1 Q (St3 x3) = j0 (fun x2 => Q .ret (St4 x2)) x3 := plainly Js (by kernel_rfl)
theorem a0 (k : Nat) (Q : Ex -> St -> Option α) (x3 : Int) (x6 : D4) (x7 x8 : Int) :
  (lp C k) cd0 (blkQ C 0 (sq (den C k) (lp C k) Js C cd1 Q)) (St1 x3 x6 x7 x8) = l0 k (fun x3 => j0 (fun x2 => Q .ret (St4 x2)) x3) k x3 x6 x7 x8 :=
 (lp_iter 9 (by kernel_rfl)).trans ((l0_eq k _ k x3 x6 x7 x8).trans (congrArg (fun X => l0 k X k x3 x6 x7 x8) (funext fun x3 => (Eq.trans (b := (den C k) cd1 Q (St3 x3)) (by kernel_rfl) (by simp only [j0_eq])))))
def top (k : Nat) (Rt : Int -> Option α) (x0 : D4) : Option α :=
 l0 k (fun x3 => j0 Rt x3) k 0 x0 (x0.length : Int) 0
theorem top_eq (k : Nat) (Q : Ex -> St -> Option α) (x0 : D4) :
  (den C k) (cB Try.f121) Q (St0 x0) = top k (fun x2 => Q .ret (St4 x2)) x0 := by
 have h : ∀ (D L : DT α), denJ D L Js C (cB Try.f121) Q (St0 x0) =
    L cd0 (blkQ C 0 (sq D L Js C cd1 Q)) (St1 0 x0 (x0.length : Int) 0) := by
  intro D L; kernel_rfl
 have h2 := via (k := k) h
 refine h2.trans ?_
 simp only [a0]
 first | rfl | kernel_rfl
def run (x0 : D4) : Option (Int) := top (α := Int) fuel (fun x2 => some x2) x0
def F : Fn := ⟨T25, T18, false, fun x => run x.1⟩
theorem con : Con Try.prog 121 F /\ Named Try.prog 121 :=
 con_of2 (C := C) (ctx_ok (by kernel_rfl) (by kernel_rfl) (by kernel_rfl) (by kernel_rfl) trivial) (by kernel_rfl) Try.func121 (by kernel_rfl) (c := cB Try.f121) (by kernel_rfl) (by kernel_rfl) F (fun x => by simp [F, spread, Try.ntmps121]) (fun x => (St0 x.1)) (fun x => by kernel_rfl) fun x => (top_eq fuel _ x.1).trans (by kernel_rfl)
end Go.Bx.log_tail
namespace Go.Bx.basculeref_big
def Js : List Nat := [8]
def C : Ctx := ⟨[(3, T1), (5, T18), (9, .str), (22, T36), (29, T16)], [], [], fnL [], noSh, [], invL [], [(2, [4]), (1, [5]), (4, [0, 5, 6, 7]), (9, [0, 5, 6, 7]), (21, [5])], [], [], 0, 0⟩
def St0 (x0 x1 : Int) : St := stL 19 [(0, .data T36 x0), (1, .data T1 x1)] []
def St1 (x0 : Int) (x5 : D4) (x6 x7 : Int) : St := stL 19 [(0, .data T36 x0), (5, .data .str x5), (6, .data T1 x6), (7, .data T1 x7)] []
noncomputable def cd0 : Code := cL (cL (cR (cL (cR (cR (cB Try.f26))))))
def St2 (x5 : D4) : St := stL 19 [(5, .data .str x5)] []
def l0s (Nx : Int -> D4 -> Int -> Int -> Option α) (Xt0 : D4 -> Option α) (x0 : Int) (x5 : D4) (x6 x7 : Int) : Option α :=
 if (decide (x7 < x6)) = true then
  if Nat.ble (1 + x5.length) 9223372036854775807 = true then
   Nx (shrI .u64 x0 8) ([(IntKind.u8.wrap x0)] ++ x5) x6 (IntKind.i64.wrap (x7 + 1))
  else none
 else
  Xt0 x5
theorem l0s_eq (k : Nat) (next : St -> Option α) (Q : Ex -> St -> Option α) (x0 : Int) (x5 : D4) (x6 x7 : Int) :
  rnd C k cd0 9 Q next (St1 x0 x5 x6 x7) = l0s (fun x0 x5 x6 x7 => next (St1 x0 x5 x6 x7)) (fun x5 => Q (.exit 0) (St2 x5)) x0 x5 x6 x7 := plainly Js (by kernel_rfl)
def l0 (k : Nat) (Xt0 : D4 -> Option α) : Nat -> Int -> D4 -> Int -> Int -> Option α
 | 0, _, _, _, _ => none
 | n + 1, x0, x5, x6, x7 => l0s (l0 k Xt0 n) Xt0 x0 x5 x6 x7
theorem l0_eq (k : Nat) (Q : Ex -> St -> Option α) : ∀ (n : Nat) (x0 : Int) (x5 : D4) (x6 x7 : Int), iter (rnd C k cd0 9 Q) n (St1 x0 x5 x6 x7) = l0 k (fun x5 => Q (.exit 0) (St2 x5)) n x0 x5 x6 x7
 | 0, _, _, _, _ => rfl
 | n + 1, x0, x5, x6, x7 => (iter_succ _ _ _).trans ((l0s_eq k _ Q x0 x5 x6 x7).trans (congrArg (fun N => l0s N (fun x5 => Q (.exit 0) (St2 x5)) x0 x5 x6 x7) (by funext; exact l0_eq k Q n _ _ _ _)))
noncomputable def cd1 : Code := cR (cR (cR (cB Try.f26)))
def St3 (x5 : D4) : St := stL 19 [(5, .data .str x5)] []
def St4 (x4 : D4) : St := stL 19 [(4, .data .str x4)] []
def j0 (Rt : D4 -> Option α) (x5 : D4) : Option α :=
 Rt x5
theorem j0_eq (k : Nat) (Q : Ex -> St -> Option α) (x5 : D4) :
  (den C k) cd1 Q (St3 x5) = j0 (fun x4 => Q .ret (St4 x4)) x5 := plainly Js (by kernel_rfl)
theorem a0 (k : Nat) (Q : Ex -> St -> Option α) (x0 : Int) (x5 : D4) (x6 x7 : Int) :
  (lp C k) cd0 (blkQ C 0 (sq (den C k) (lp C k) Js C cd1 Q)) (St1 x0 x5 x6 x7) = l0 k (fun x5 => j0 (fun x4 => Q .ret (St4 x4)) x5) k x0 x5 x6 x7 :=
 (lp_iter 9 (by kernel_rfl)).trans ((l0_eq k _ k x0 x5 x6 x7).trans (congrArg (fun X => l0 k X k x0 x5 x6 x7) (funext fun x5 => (Eq.trans (b := (den C k) cd1 Q (St3 x5)) (by kernel_rfl) (by simp only [j0_eq])))))
def top (k : Nat) (Rt : D4 -> Option α) (x0 x1 : Int) : Option α :=
 l0 k (fun x5 => j0 Rt x5) k x0 [] x1 0
theorem top_eq (k : Nat) (Q : Ex -> St -> Option α) (x0 x1 : Int) :
  (den C k) (cB Try.f26) Q (St0 x0 x1) = top k (fun x4 => Q .ret (St4 x4)) x0 x1 := by
 have h : ∀ (D L : DT α), denJ D L Js C (cB Try.f26) Q (St0 x0 x1) =
    L cd0 (blkQ C 0 (sq D L Js C cd1 Q)) (St1 x0 [] x1 0) := by
  intro D L; kernel_rfl
 have h2 := via (k := k) h
 refine h2.trans ?_
 simp only [a0]
 first | rfl | kernel_rfl
def run (x0 x1 : Int) : Option D4 := top (α := List Int) fuel (fun x4 => some x4) x0 x1
def F : Fn := ⟨T37, .str, false, fun x => run x.1 x.2.1⟩
theorem con : Con Try.prog 26 F /\ Named Try.prog 26 :=
 con_of2 (C := C) (ctx_ok (by kernel_rfl) (by kernel_rfl) (by kernel_rfl) (by kernel_rfl) trivial) (by kernel_rfl) Try.func26 (by kernel_rfl) (c := cB Try.f26) (by kernel_rfl) (by kernel_rfl) F (fun x => by simp [F, spread, Try.ntmps26]) (fun x => (St0 x.1 x.2.1)) (fun x => by kernel_rfl) fun x => (top_eq fuel _ x.1 x.2.1).trans (by kernel_rfl)
end Go.Bx.basculeref_big
namespace Go.Bx.basculeref_logText
def Js : List Nat := [8]
def C : Ctx := ⟨[(3, T1), (5, T18), (9, .str), (22, T36), (29, T16)], [], [], fnL [(26, basculeref_big.F)], noSh, [], invL [], [(2, [2]), (1, [0, 3]), (4, [0, 3, 6, 7, 8]), (9, [0, 3, 6, 7, 8]), (21, [0, 3])], [], [], 0, 0⟩
def St0 (x0 : D4) : St := stL 28 [(0, .data T16 x0)] []
def St1 (x0 : D4) (x3 : Int) (x6 : D4) (x7 x8 : Int) : St := stL 28 [(0, .data T16 x0), (3, .data T1 x3), (6, .data T16 x6), (7, .data T1 x7), (8, .data T1 x8)] []
noncomputable def cd0 : Code := cL (cL (cR (cL (cR (cR (cB Try.f130))))))
def St2 (x0 : D4) (x3 : Int) : St := stL 28 [(0, .data T16 x0), (3, .data T1 x3)] []
def l0s (Nx : D4 -> Int -> D4 -> Int -> Int -> Option α) (Xt0 : D4 -> Int -> Option α) (x0 : D4) (x3 : Int) (x6 : D4) (x7 x8 : Int) : Option α :=
 if (decide (x8 < x7)) = true then
  if 0 <= x8 /\ x8 < (x6.length : Int) then
   Nx x0 (IntKind.i64.wrap (x3 + (IntKind.i64.wrap (List.getD x6 (Int.toNat x8) 0)))) x6 x7 (IntKind.i64.wrap (x8 + 1))
  else none
 else
  Xt0 x0 x3
theorem l0s_eq (k : Nat) (next : St -> Option α) (Q : Ex -> St -> Option α) (x0 : D4) (x3 : Int) (x6 : D4) (x7 x8 : Int) :
  rnd C k cd0 9 Q next (St1 x0 x3 x6 x7 x8) = l0s (fun x0 x3 x6 x7 x8 => next (St1 x0 x3 x6 x7 x8)) (fun x0 x3 => Q (.exit 0) (St2 x0 x3)) x0 x3 x6 x7 x8 := plainly Js (by kernel_rfl)
def l0 (k : Nat) (Xt0 : D4 -> Int -> Option α) : Nat -> D4 -> Int -> D4 -> Int -> Int -> Option α
 | 0, _, _, _, _, _ => none
 | n + 1, x0, x3, x6, x7, x8 => l0s (l0 k Xt0 n) Xt0 x0 x3 x6 x7 x8
theorem l0_eq (k : Nat) (Q : Ex -> St -> Option α) : ∀ (n : Nat) (x0 : D4) (x3 : Int) (x6 : D4) (x7 x8 : Int), iter (rnd C k cd0 9 Q) n (St1 x0 x3 x6 x7 x8) = l0 k (fun x0 x3 => Q (.exit 0) (St2 x0 x3)) n x0 x3 x6 x7 x8
 | 0, _, _, _, _, _ => rfl
 | n + 1, x0, x3, x6, x7, x8 => (iter_succ _ _ _).trans ((l0s_eq k _ Q x0 x3 x6 x7 x8).trans (congrArg (fun N => l0s N (fun x0 x3 => Q (.exit 0) (St2 x0 x3)) x0 x3 x6 x7 x8) (by funext; exact l0_eq k Q n _ _ _ _ _)))
noncomputable def cd1 : Code := cR (cR (cR (cB Try.f130)))
def St3 (x0 : D4) (x3 : Int) : St := stL 28 [(0, .data T16 x0), (3, .data T1 x3)] []
def St4 (x2 : D4) : St := stL 28 [(2, .data .str x2)] []
def j0 (Rt : D4 -> Option α) (x0 : D4) (x3 : Int) : Option α :=
 (basculeref_big.run (IntKind.u64.wrap (x0.length : Int)) 2).bind fun y1 =>
 if Nat.ble (y1.length + x0.length) 9223372036854775807 = true then
  (basculeref_big.run (IntKind.u64.wrap x3) 1).bind fun y2 =>
  if Nat.ble ((y1 ++ x0).length + y2.length) 9223372036854775807 = true then
   Rt ((y1 ++ x0) ++ y2)
  else none
 else none
theorem j0_eq (k : Nat) (Q : Ex -> St -> Option α) (x0 : D4) (x3 : Int) :
  (den C k) cd1 Q (St3 x0 x3) = j0 (fun x2 => Q .ret (St4 x2)) x0 x3 := plainly Js (by kernel_rfl)
theorem a0 (k : Nat) (Q : Ex -> St -> Option α) (x0 : D4) (x3 : Int) (x6 : D4) (x7 x8 : Int) :
  (lp C k) cd0 (blkQ C 0 (sq (den C k) (lp C k) Js C cd1 Q)) (St1 x0 x3 x6 x7 x8) = l0 k (fun x0 x3 => j0 (fun x2 => Q .ret (St4 x2)) x0 x3) k x0 x3 x6 x7 x8 :=
 (lp_iter 9 (by kernel_rfl)).trans ((l0_eq k _ k x0 x3 x6 x7 x8).trans (congrArg (fun X => l0 k X k x0 x3 x6 x7 x8) (funext fun x0 => funext fun x3 => (Eq.trans (b := (den C k) cd1 Q (St3 x0 x3)) (by kernel_rfl) (by simp only [j0_eq])))))
def top (k : Nat) (Rt : D4 -> Option α) (x0 : D4) : Option α :=
 l0 k (fun x0 x3 => j0 Rt x0 x3) k x0 0 x0 (x0.length : Int) 0
theorem top_eq (k : Nat) (Q : Ex -> St -> Option α) (x0 : D4) :
  (den C k) (cB Try.f130) Q (St0 x0) = top k (fun x2 => Q .ret (St4 x2)) x0 := by
 have h : ∀ (D L : DT α), denJ D L Js C (cB Try.f130) Q (St0 x0) =
    L cd0 (blkQ C 0 (sq D L Js C cd1 Q)) (St1 x0 0 x0 (x0.length : Int) 0) := by
  intro D L; kernel_rfl
 have h2 := via (k := k) h
 refine h2.trans ?_
 simp only [a0]
 first | rfl | kernel_rfl
def run (x0 : D4) : Option D4 := top (α := List Int) fuel (fun x2 => some x2) x0
def F : Fn := ⟨T25, .str, false, fun x => run x.1⟩
theorem con : Con Try.prog 130 F /\ Named Try.prog 130 :=
 con_of2 (C := C) (ctx_ok (by kernel_rfl) (by kernel_rfl) (by kernel_rfl) (by kernel_rfl) ⟨.inl basculeref_big.con, trivial⟩) (by kernel_rfl) Try.func130 (by kernel_rfl) (c := cB Try.f130) (by kernel_rfl) (by kernel_rfl) F (fun x => by simp [F, spread, Try.ntmps130]) (fun x => (St0 x.1)) (fun x => by kernel_rfl) fun x => (top_eq fuel _ x.1).trans (by kernel_rfl)
end Go.Bx.basculeref_logText
namespace Go.Bx.log_Append
def Js : List Nat := []
def C : Ctx := ⟨[(3, T1), (5, T18), (29, T16), (31, T21), (35, T1)], [], [], fnL [(121, log_tail.F)], noSh, [], invL [], [(2, [4, 5])], [(2, [.dat false 4 [0], .dat false 4 [1]])], [44, 52, 56], 0, 0⟩
def St0 (x0 : D9) (x1 : D4) : St := stL 60 [(0, .data T21 x0), (1, .data T16 x1)] []
def St1 (x5 : Int) (c4 : D9) : St := stL 60 [(4, .ref 4 0 []), (5, .data T1 x5)] [(4, .cell T21 (.data T21 c4) false)]
def top (Rt : Int -> D9 -> Option α) (x0 : D9) (x1 : D4) : Option α :=
 if (cond (decide ((x0.1.length : Int) > 9000)) true (decide ((x0.2.1.length : Int) > 9000))) = true then
  Rt 12 ([], [], ())
 else
  if (decide ((x1.length : Int) > 200)) = true then
   Rt 1 ([], [], ())
  else
   if (decide ((IntKind.i64.wrap ((IntKind.i64.wrap ((IntKind.i64.wrap ((x0.1.length : Int) + (x0.2.1.length : Int))) + (x1.length : Int))) + 3)) > 9000)) = true then
    Rt 9 ([], [], ())
   else
    if fitB (2 + x1.length) 1 = true then
     (log_tail.run x1).bind fun y1 =>
     if fitB (([(IntKind.u8.wrap (shrI .i64 (x1.length : Int) 8)), (IntKind.u8.wrap (x1.length : Int))] ++ x1).length + 1) 1 = true then
      if fitB (0 + x0.1.length) 1 = true then
       if fitB (0 + x0.2.1.length) 1 = true then
        if fitB (x0.2.1.length + (([(IntKind.u8.wrap (shrI .i64 (x1.length : Int) 8)), (IntKind.u8.wrap (x1.length : Int))] ++ x1) ++ [y1]).length) 1 = true then
         Rt 0 (x0.1, (x0.2.1 ++ (([(IntKind.u8.wrap (shrI .i64 (x1.length : Int) 8)), (IntKind.u8.wrap (x1.length : Int))] ++ x1) ++ [y1])), ())
        else none
       else none
      else none
     else none
    else none
theorem top_eq (k : Nat) (Q : Ex -> St -> Option α) (x0 : D9) (x1 : D4) :
  (den C k) (cB Try.f74) Q (St0 x0 x1) = top (fun x5 c4 => Q .ret (St1 x5 c4)) x0 x1 := plainly Js (by kernel_rfl)
def run (x0 : D9) (x1 : D4) : Option D10 := top (α := D9 × Int × Unit) (fun x5 c4 => some (c4, x5, ())) x0 x1
def F : Fn := ⟨T26, T27, true, fun x => run x.1 x.2.1⟩
theorem con : Con Try.prog 74 F /\ Named Try.prog 74 :=
 con_of2 (C := C) (ctx_ok (by kernel_rfl) (by kernel_rfl) (by kernel_rfl) (by kernel_rfl) ⟨.inl log_tail.con, trivial⟩) (by kernel_rfl) Try.func74 (by kernel_rfl) (c := cB Try.f74) (by kernel_rfl) (by kernel_rfl) F (fun x => by simp [F, spread, Try.ntmps74]) (fun x => (St0 x.1 x.2.1)) (fun x => by kernel_rfl) fun x => (top_eq fuel _ x.1 x.2.1).trans (by kernel_rfl)
end Go.Bx.log_Append
namespace Go.Bx.basculeref_LogAppended
def Js : List Nat := []
def C : Ctx := ⟨[(9, .str), (29, T16), (31, T21), (35, T1)], [], [], fnL [(130, basculeref_logText.F)], noSh, [], invL [], [(2, [4, 5])], [(2, [.dat false 4 []])], [], 0, 0⟩
def St0 (x0 : D9) (x1 : D4) : St := stL 41 [(0, .data T21 x0), (1, .data T16 x1)] []
def St1 (x5 : Int) (c4 : D9) : St := stL 41 [(4, .ref 4 0 []), (5, .data T1 x5)] [(4, .cell T21 (.data T21 c4) false)]
def top (Rt : Int -> D9 -> Option α) (x0 : D9) (x1 : D4) : Option α :=
 if (cond (decide ((x0.1.length : Int) > 9000)) true (decide ((x0.2.1.length : Int) > 9000))) = true then
  Rt 12 ([], [], ())
 else
  if (decide ((x1.length : Int) > 200)) = true then
   Rt 1 ([], [], ())
  else
   (basculeref_logText.run x1).bind fun y1 =>
   if Nat.ble (x0.2.1.length + y1.length) 9223372036854775807 = true then
    if (decide ((IntKind.i64.wrap ((x0.1.length : Int) + ((x0.2.1 ++ y1).length : Int))) > 9000)) = true then
     Rt 9 ([], [], ())
    else
     Rt 0 (x0.1, (x0.2.1 ++ y1), ())
   else none
theorem top_eq (k : Nat) (Q : Ex -> St -> Option α) (x0 : D9) (x1 : D4) :
  (den C k) (cB Try.f77) Q (St0 x0 x1) = top (fun x5 c4 => Q .ret (St1 x5 c4)) x0 x1 := plainly Js (by kernel_rfl)
def run (x0 : D9) (x1 : D4) : Option D10 := top (α := D9 × Int × Unit) (fun x5 c4 => some (c4, x5, ())) x0 x1
def F : Fn := ⟨T26, T27, true, fun x => run x.1 x.2.1⟩
theorem con : Con Try.prog 77 F /\ Named Try.prog 77 :=
 con_of2 (C := C) (ctx_ok (by kernel_rfl) (by kernel_rfl) (by kernel_rfl) (by kernel_rfl) ⟨.inl basculeref_logText.con, trivial⟩) (by kernel_rfl) Try.func77 (by kernel_rfl) (c := cB Try.f77) (by kernel_rfl) (by kernel_rfl) F (fun x => by simp [F, spread, Try.ntmps77]) (fun x => (St0 x.1 x.2.1)) (fun x => by kernel_rfl) fun x => (top_eq fuel _ x.1 x.2.1).trans (by kernel_rfl)
end Go.Bx.basculeref_LogAppended
namespace Go.Bx.log_Sync
def Js : List Nat := []
def C : Ctx := ⟨[(29, T16), (31, T21)], [], [], fnL [], noSh, [], invL [], [(2, [2])], [], [6], 0, 0⟩
def St0 (x0 : D9) : St := stL 11 [(0, .data T21 x0)] []
def St1 (c6 : D4) : St := stL 11 [(2, .ref 2 0 [])] [(2, .cell T21 (.agg T21 [.app 6 0, .full T18 []]) false), (6, .buf T18 c6 0 true)]
def top (Rt : D4 -> Option α) (x0 : D9) : Option α :=
 if fitB (0 + x0.1.length) 1 = true then
  if fitB (x0.1.length + x0.2.1.length) 1 = true then
   Rt (x0.1 ++ x0.2.1)
  else none
 else none
theorem top_eq (k : Nat) (Q : Ex -> St -> Option α) (x0 : D9) :
  (den C k) (cB Try.f75) Q (St0 x0) = top (fun c6 => Q .ret (St1 c6)) x0 := plainly Js (by kernel_rfl)
def run (x0 : D9) : Option D9 := top (α := List Int × List Int × Unit) (fun c6 => some (c6, [], ())) x0
def F : Fn := ⟨T28, T21, false, fun x => run x.1⟩
theorem con : Con Try.prog 75 F /\ Named Try.prog 75 :=
 con_of2 (C := C) (ctx_ok (by kernel_rfl) (by kernel_rfl) (by kernel_rfl) (by kernel_rfl) trivial) (by kernel_rfl) Try.func75 (by kernel_rfl) (c := cB Try.f75) (by kernel_rfl) (by kernel_rfl) F (fun x => by simp [F, spread, Try.ntmps75]) (fun x => (St0 x.1)) (fun x => by kernel_rfl) fun x => (top_eq fuel _ x.1).trans (by kernel_rfl)
end Go.Bx.log_Sync
namespace Go.Bx.guard_kept
def Js : List Nat := []
def C : Ctx := ⟨[(29, T16), (31, T21), (34, T22), (35, T1)], [], [], fnL [(74, log_Append.F), (75, log_Sync.F)], noSh, [], invL [], [(2, [4, 5])], [], [], 0, 0⟩
def St0 (x0 : D8) (x1 : D4) : St := stL 23 [(0, .data T22 x0), (1, .data T16 x1)] []
def St1 (x5 : Int) (c4 : D8) : St := stL 23 [(4, .ref 4 0 []), (5, .data T1 x5)] [(4, .cell T22 (.data T22 c4) false)]
def top (Rt : Int -> D8 -> Option α) (x0 : D8) (x1 : D4) : Option α :=
 (log_Append.run x0.2.2.2.1 x1).bind fun y1 =>
 if (y1.2.1 != 0) = true then
  Rt y1.2.1 x0
 else
  (log_Sync.run y1.1).bind fun y2 =>
  Rt 0 (x0.1, x0.2.1, x0.2.2.1, y2, x0.2.2.2.2)
theorem top_eq (k : Nat) (Q : Ex -> St -> Option α) (x0 : D8) (x1 : D4) :
  (den C k) (cB Try.f22) Q (St0 x0 x1) = top (fun x5 c4 => Q .ret (St1 x5 c4)) x0 x1 := plainly Js (by kernel_rfl)
def run (x0 : D8) (x1 : D4) : Option D11 := top (α := D8 × Int × Unit) (fun x5 c4 => some (c4, x5, ())) x0 x1
def F : Fn := ⟨T29, T30, true, fun x => run x.1 x.2.1⟩
theorem con : Con Try.prog 22 F /\ Named Try.prog 22 :=
 con_of2 (C := C) (ctx_ok (by kernel_rfl) (by kernel_rfl) (by kernel_rfl) (by kernel_rfl) ⟨.inl log_Append.con, ⟨.inl log_Sync.con, trivial⟩⟩) (by kernel_rfl) Try.func22 (by kernel_rfl) (c := cB Try.f22) (by kernel_rfl) (by kernel_rfl) F (fun x => by simp [F, spread, Try.ntmps22]) (fun x => (St0 x.1 x.2.1)) (fun x => by kernel_rfl) fun x => (top_eq fuel _ x.1 x.2.1).trans (by kernel_rfl)
end Go.Bx.guard_kept
namespace Go.Bx.guard_hours
def Js : List Nat := []
def C : Ctx := ⟨[(3, T1), (5, T18), (29, T16)], [], [], fnL [], noSh, [], invL [], [(2, [2])], [], [], 0, 0⟩
def St0 (x0 : Int) : St := stL 9 [(0, .data T1 x0)] []
def St1 (x2 : D4) : St := stL 9 [(2, .full T18 x2)] []
def top (Rt : D4 -> Option α) (x0 : Int) : Option α :=
 Rt [2, (IntKind.u8.wrap (shrI .i64 x0 8)), (IntKind.u8.wrap x0)]
theorem top_eq (k : Nat) (Q : Ex -> St -> Option α) (x0 : Int) :
  (den C k) (cB Try.f23) Q (St0 x0) = top (fun x2 => Q .ret (St1 x2)) x0 := plainly Js (by kernel_rfl)
def run (x0 : Int) : Option D4 := top (α := List Int) (fun x2 => some x2) x0
def F : Fn := ⟨T4, T16, false, fun x => run x.1⟩
theorem con : Con Try.prog 23 F /\ Named Try.prog 23 :=
 con_of2 (C := C) (ctx_ok (by kernel_rfl) (by kernel_rfl) (by kernel_rfl) (by kernel_rfl) trivial) (by kernel_rfl) Try.func23 (by kernel_rfl) (c := cB Try.f23) (by kernel_rfl) (by kernel_rfl) F (fun x => by simp [F, spread, Try.ntmps23]) (fun x => (St0 x.1)) (fun x => by kernel_rfl) fun x => (top_eq fuel _ x.1).trans (by kernel_rfl)
end Go.Bx.guard_hours
namespace Go.Bx.guard_Hours
def Js : List Nat := [5]
def C : Ctx := ⟨[(3, T1), (34, T22), (35, T1)], [], [], fnL [(22, guard_kept.F), (23, guard_hours.F)], shL [(20, [.one guard_passed_s1.Sp]), (21, [.one guard_fresh_s0.Sp])], [(10, 31), (12, 40), (27, 41)], invL [], [(2, [4, 5]), (12, [2, 4, 6, 7])], [(2, [.dat false 4 []]), (12, [.dat false 6 []])], [], 0, 0⟩
def St0 (x0 : D8) (x1 : Int) : St := stL 30 [(0, .data T22 x0), (1, .data T1 x1)] []
def St1 (x7 : Int) (c2 : D8) (c4p0 c4p1p0 c4p1p1 : D4) (c4p1p2 : Int) (c4p2p0 c4p2p1 : D4) (c4p2p2 : Int) (c6 : D8) : St := stL 30 [(2, .ref 2 0 []), (4, .ref 4 0 []), (6, .ref 6 0 []), (7, .data T1 x7)] [(2, .cell T22 (.data T22 c2) false), (4, .cell T22 (.agg T22 [.data T23 c4p0, .agg T7 [.data T5 c4p1p0, .data T5 c4p1p1, .data T1 c4p1p2, .full T8 [], .full T8 []], .agg T7 [.data T5 c4p2p0, .data T5 c4p2p1, .data T1 c4p2p2, .full T8 [], .full T8 []], .agg T21 [.full T18 [], .full T18 []], .full T2 [], .full T2 []]) false), (6, .cell T22 (.data T22 c6) false)]
noncomputable def cd0 : Code := cR (cR (cR (cB Try.f8)))
def St2 (x5 : Int) (c4 : D8) : St := stL 30 [(4, .ref 4 0 []), (5, .data T1 x5)] [(4, .cell T22 (.data T22 c4) false)]
def j0 (Rt : Int -> D8 -> Option α) (x7 : Int) (c2 : D8) (c4p0 c4p1p0 c4p1p1 : D4) (c4p1p2 : Int) (c4p2p0 c4p2p1 : D4) (c4p2p2 : Int) (c6 : D8) : Option α :=
 if (x7 != 0) = true then
  (guard_fresh_s0.run c2).bind fun y5 =>
  Rt x7 (y5.1, (y5.2.1, y5.2.2.1, y5.2.2.2.1, y5.2.2.2.2.2.2.2.2.2.2.2.2.2.2.2.2.1, y5.2.2.2.2.2.2.2.2.2.2.2.2.2.2.2.2.2.1, ()), (y5.2.2.2.2.1, y5.2.2.2.2.2.1, y5.2.2.2.2.2.2.1, y5.2.2.2.2.2.2.2.2.2.2.2.2.2.2.2.2.2.2.1, y5.2.2.2.2.2.2.2.2.2.2.2.2.2.2.2.2.2.2.2.1, ()), (y5.2.2.2.2.2.2.2.2.2.2.2.2.2.2.1, y5.2.2.2.2.2.2.2.2.2.2.2.2.2.2.2.1, ()), y5.2.2.2.2.2.2.2.2.2.2.2.2.2.2.2.2.2.2.2.2.1, y5.2.2.2.2.2.2.2.2.2.2.2.2.2.2.2.2.2.2.2.2.2.1, ())
 else
  Rt 0 c6
theorem j0_eq (k : Nat) (Q : Ex -> St -> Option α) (x7 : Int) (c2 : D8) (c4p0 c4p1p0 c4p1p1 : D4) (c4p1p2 : Int) (c4p2p0 c4p2p1 : D4) (c4p2p2 : Int) (c6 : D8) :
  (den C k) cd0 Q (St1 x7 c2 c4p0 c4p1p0 c4p1p1 c4p1p2 c4p2p0 c4p2p1 c4p2p2 c6) = j0 (fun x5 c4 => Q .ret (St2 x5 c4)) x7 c2 c4p0 c4p1p0 c4p1p1 c4p1p2 c4p2p0 c4p2p1 c4p2p2 c6 := plainly Js (by kernel_rfl)
def top (Rt : Int -> D8 -> Option α) (x0 : D8) (x1 : Int) : Option α :=
 (guard_fresh_s0.run x0).bind fun y1 =>
 (guard_passed_s1.run y1.1 y1.2.1 y1.2.2.1 y1.2.2.2.1 y1.2.2.2.2.1 y1.2.2.2.2.2.1 y1.2.2.2.2.2.2.1 x1 y1.2.2.2.2.2.2.2.2.2.2.2.2.2.2.2.2.1 y1.2.2.2.2.2.2.2.2.2.2.2.2.2.2.2.2.2.1 y1.2.2.2.2.2.2.2.2.2.2.2.2.2.2.2.2.2.2.1 y1.2.2.2.2.2.2.2.2.2.2.2.2.2.2.2.2.2.2.2.1 y1.2.2.2.2.2.2.2.2.2.2.2.2.2.2.1 y1.2.2.2.2.2.2.2.2.2.2.2.2.2.2.2.1 y1.2.2.2.2.2.2.2.2.2.2.2.2.2.2.2.2.2.2.2.2.1 y1.2.2.2.2.2.2.2.2.2.2.2.2.2.2.2.2.2.2.2.2.2.1).bind fun y2 =>
 if (y2.2.2.2.2.2.2.1 == 0) = true then
  (guard_hours.run x1).bind fun y3 =>
  (guard_kept.run (y2.1, (y2.2.1, y2.2.2.1, y2.2.2.2.1, y2.2.2.2.2.2.2.2.1, y2.2.2.2.2.2.2.2.2.1, ()), y2.2.2.2.2.1, (y2.2.2.2.2.2.2.2.2.2.2.2.1, y2.2.2.2.2.2.2.2.2.2.2.2.2.1, ()), y2.2.2.2.2.2.1, y2.2.2.2.2.2.2.2.2.2.2.2.2.2.2.1, ()) y3).bind fun y4 =>
  j0 Rt y4.2.1 x0 [0, 0, 0, 0] [0, 0, 0] [0, 0, 0] 0 [0, 0, 0] [0, 0, 0] 0 y4.1
 else
  j0 Rt y2.2.2.2.2.2.2.1 x0 [0, 0, 0, 0] [0, 0, 0] [0, 0, 0] 0 [0, 0, 0] [0, 0, 0] 0 (y2.1, (y2.2.1, y2.2.2.1, y2.2.2.2.1, y2.2.2.2.2.2.2.2.1, y2.2.2.2.2.2.2.2.2.1, ()), y2.2.2.2.2.1, (y2.2.2.2.2.2.2.2.2.2.2.2.1, y2.2.2.2.2.2.2.2.2.2.2.2.2.1, ()), y2.2.2.2.2.2.1, y2.2.2.2.2.2.2.2.2.2.2.2.2.2.2.1, ())
theorem top_eq (k : Nat) (Q : Ex -> St -> Option α) (x0 : D8) (x1 : Int) :
  (den C k) (cB Try.f8) Q (St0 x0 x1) = top (fun x5 c4 => Q .ret (St2 x5 c4)) x0 x1 := by
 have h : ∀ (D L : DT α), denJ D L Js C (cB Try.f8) Q (St0 x0 x1) =
    (guard_fresh_s0.run x0).bind fun y1 =>
    (guard_passed_s1.run y1.1 y1.2.1 y1.2.2.1 y1.2.2.2.1 y1.2.2.2.2.1 y1.2.2.2.2.2.1 y1.2.2.2.2.2.2.1 x1 y1.2.2.2.2.2.2.2.2.2.2.2.2.2.2.2.2.1 y1.2.2.2.2.2.2.2.2.2.2.2.2.2.2.2.2.2.1 y1.2.2.2.2.2.2.2.2.2.2.2.2.2.2.2.2.2.2.1 y1.2.2.2.2.2.2.2.2.2.2.2.2.2.2.2.2.2.2.2.1 y1.2.2.2.2.2.2.2.2.2.2.2.2.2.2.1 y1.2.2.2.2.2.2.2.2.2.2.2.2.2.2.2.1 y1.2.2.2.2.2.2.2.2.2.2.2.2.2.2.2.2.2.2.2.2.1 y1.2.2.2.2.2.2.2.2.2.2.2.2.2.2.2.2.2.2.2.2.2.1).bind fun y2 =>
    if (y2.2.2.2.2.2.2.1 == 0) = true then
     (guard_hours.run x1).bind fun y3 =>
     (guard_kept.run (y2.1, (y2.2.1, y2.2.2.1, y2.2.2.2.1, y2.2.2.2.2.2.2.2.1, y2.2.2.2.2.2.2.2.2.1, ()), y2.2.2.2.2.1, (y2.2.2.2.2.2.2.2.2.2.2.2.1, y2.2.2.2.2.2.2.2.2.2.2.2.2.1, ()), y2.2.2.2.2.2.1, y2.2.2.2.2.2.2.2.2.2.2.2.2.2.2.1, ()) y3).bind fun y4 =>
     D cd0 Q (St1 y4.2.1 x0 [0, 0, 0, 0] [0, 0, 0] [0, 0, 0] 0 [0, 0, 0] [0, 0, 0] 0 y4.1)
    else
     D cd0 Q (St1 y2.2.2.2.2.2.2.1 x0 [0, 0, 0, 0] [0, 0, 0] [0, 0, 0] 0 [0, 0, 0] [0, 0, 0] 0 (y2.1, (y2.2.1, y2.2.2.1, y2.2.2.2.1, y2.2.2.2.2.2.2.2.1, y2.2.2.2.2.2.2.2.2.1, ()), y2.2.2.2.2.1, (y2.2.2.2.2.2.2.2.2.2.2.2.1, y2.2.2.2.2.2.2.2.2.2.2.2.2.1, ()), y2.2.2.2.2.2.1, y2.2.2.2.2.2.2.2.2.2.2.2.2.2.2.1, ())) := by
  intro D L; kernel_rfl
 have h2 := via (k := k) h
 refine h2.trans ?_
 simp only [j0_eq]
 first | rfl | kernel_rfl
def run (x0 : D8) (x1 : Int) : Option D11 := top (α := D8 × Int × Unit) (fun x5 c4 => some (c4, x5, ())) x0 x1
def F : Fn := ⟨T30, T30, true, fun x => run x.1 x.2.1⟩
theorem con : Con Try.prog 8 F /\ Named Try.prog 8 :=
 con_of2 (C := C) (ctx_ok_sh (by kernel_rfl) (by kernel_rfl) (by kernel_rfl) (by kernel_rfl) ⟨.inl guard_kept.con, ⟨.inl guard_hours.con, trivial⟩⟩ ⟨⟨⟨guard_passed_s1.sok, trivial⟩, guard_passed_s1.named⟩, ⟨⟨⟨guard_fresh_s0.sok, trivial⟩, guard_fresh_s0.named⟩, trivial⟩⟩) (by kernel_rfl) Try.func8 (by kernel_rfl) (c := cB Try.f8) (by kernel_rfl) (by kernel_rfl) F (fun x => by simp [F, spread, Try.ntmps8]) (fun x => (St0 x.1 x.2.1)) (fun x => by kernel_rfl) fun x => (top_eq fuel _ x.1 x.2.1).trans (by kernel_rfl)
end Go.Bx.guard_Hours
namespace Go.Bx.basculeref_LogSynced
def Js : List Nat := []
def C : Ctx := ⟨[(9, .str), (29, T16), (31, T21)], [], [], fnL [], noSh, [], invL [], [(2, [2])], [], [], 0, 0⟩
def St0 (x0 : D9) : St := stL 12 [(0, .data T21 x0)] []
def St1 (c2p0 : D4) : St := stL 12 [(2, .ref 2 0 [])] [(2, .cell T21 (.agg T21 [.data T16 c2p0, .full T18 []]) false)]
def top (Rt : D4 -> Option α) (x0 : D9) : Option α :=
 if Nat.ble (x0.1.length + x0.2.1.length) 9223372036854775807 = true then
  Rt (x0.1 ++ x0.2.1)
 else none
theorem top_eq (k : Nat) (Q : Ex -> St -> Option α) (x0 : D9) :
  (den C k) (cB Try.f78) Q (St0 x0) = top (fun c2p0 => Q .ret (St1 c2p0)) x0 := plainly Js (by kernel_rfl)
def run (x0 : D9) : Option D9 := top (α := List Int × List Int × Unit) (fun c2p0 => some (c2p0, [], ())) x0
def F : Fn := ⟨T28, T21, false, fun x => run x.1⟩
theorem con : Con Try.prog 78 F /\ Named Try.prog 78 :=
 con_of2 (C := C) (ctx_ok (by kernel_rfl) (by kernel_rfl) (by kernel_rfl) (by kernel_rfl) trivial) (by kernel_rfl) Try.func78 (by kernel_rfl) (c := cB Try.f78) (by kernel_rfl) (by kernel_rfl) F (fun x => by simp [F, spread, Try.ntmps78]) (fun x => (St0 x.1)) (fun x => by kernel_rfl) fun x => (top_eq fuel _ x.1).trans (by kernel_rfl)
end Go.Bx.basculeref_LogSynced
namespace Go.Bx.basculeref_logged
def Js : List Nat := []
def C : Ctx := ⟨[(4, .bool), (9, .str), (29, T16), (31, T21), (34, T22)], [], [], fnL [(77, basculeref_LogAppended.F), (78, basculeref_LogSynced.F)], noSh, [], invL [], [(2, [4, 5])], [], [], 0, 0⟩
def St0 (x0 : D8) (x1 : D4) : St := stL 23 [(0, .data T22 x0), (1, .data .str x1)] []
def St1 (x5 : Bool) (c4 : D8) : St := stL 23 [(4, .ref 4 0 []), (5, .data .bool x5)] [(4, .cell T22 (.data T22 c4) false)]
def top (Rt : Bool -> D8 -> Option α) (x0 : D8) (x1 : D4) : Option α :=
 (basculeref_LogAppended.run x0.2.2.2.1 x1).bind fun y1 =>
 if (y1.2.1 != 0) = true then
  Rt false x0
 else
  (basculeref_LogSynced.run y1.1).bind fun y2 =>
  Rt true (x0.1, x0.2.1, x0.2.2.1, y2, x0.2.2.2.2)
theorem top_eq (k : Nat) (Q : Ex -> St -> Option α) (x0 : D8) (x1 : D4) :
  (den C k) (cB Try.f25) Q (St0 x0 x1) = top (fun x5 c4 => Q .ret (St1 x5 c4)) x0 x1 := plainly Js (by kernel_rfl)
def run (x0 : D8) (x1 : D4) : Option D18 := top (α := D8 × Bool × Unit) (fun x5 c4 => some (c4, x5, ())) x0 x1
def F : Fn := ⟨T38, T39, true, fun x => run x.1 x.2.1⟩
theorem con : Con Try.prog 25 F /\ Named Try.prog 25 :=
 con_of2 (C := C) (ctx_ok (by kernel_rfl) (by kernel_rfl) (by kernel_rfl) (by kernel_rfl) ⟨.inl basculeref_LogAppended.con, ⟨.inl basculeref_LogSynced.con, trivial⟩⟩) (by kernel_rfl) Try.func25 (by kernel_rfl) (c := cB Try.f25) (by kernel_rfl) (by kernel_rfl) F (fun x => by simp [F, spread, Try.ntmps25]) (fun x => (St0 x.1 x.2.1)) (fun x => by kernel_rfl) fun x => (top_eq fuel _ x.1 x.2.1).trans (by kernel_rfl)
end Go.Bx.basculeref_logged
namespace Go.Bx.basculeref_Waited
def Js : List Nat := []
def C : Ctx := ⟨[(3, T1), (22, T36), (29, T16), (31, T21), (34, T22), (35, T1)], [], [], fnL [(24, basculeref_waits.F), (25, basculeref_logged.F), (26, basculeref_big.F)], noSh, [], invL [], [(2, [4, 5])], [], [], 0, 0⟩
def St0 (x0 : D8) (x1 : Int) : St := stL 45 [(0, .data T22 x0), (1, .data T1 x1)] []
def St1 (x5 : Int) (c4 : D8) : St := stL 45 [(4, .ref 4 0 []), (5, .data T1 x5)] [(4, .cell T22 (.data T22 c4) false)]
def top (Rt : Int -> D8 -> Option α) (x0 : D8) (x1 : Int) : Option α :=
 (basculeref_waits.run x0 x1).bind fun y1 =>
 if (y1.2.1 != 0) = true then
  Rt y1.2.1 x0
 else
  if (cond (decide ((x0.2.2.2.1.1.length : Int) > 9000)) true (decide ((x0.2.2.2.1.2.1.length : Int) > 9000))) = true then
   Rt 12 x0
  else
   (basculeref_big.run (IntKind.u64.wrap x1) 2).bind fun y2 =>
   if Nat.ble (1 + y2.length) 9223372036854775807 = true then
    (basculeref_logged.run y1.1 ([2] ++ y2)).bind fun y3 =>
    if (not y3.2.1) = true then
     Rt 9 x0
    else
     Rt 0 y3.1
   else none
theorem top_eq (k : Nat) (Q : Ex -> St -> Option α) (x0 : D8) (x1 : Int) :
  (den C k) (cB Try.f9) Q (St0 x0 x1) = top (fun x5 c4 => Q .ret (St1 x5 c4)) x0 x1 := plainly Js (by kernel_rfl)
def run (x0 : D8) (x1 : Int) : Option D11 := top (α := D8 × Int × Unit) (fun x5 c4 => some (c4, x5, ())) x0 x1
def F : Fn := ⟨T30, T30, true, fun x => run x.1 x.2.1⟩
theorem con : Con Try.prog 9 F /\ Named Try.prog 9 :=
 con_of2 (C := C) (ctx_ok (by kernel_rfl) (by kernel_rfl) (by kernel_rfl) (by kernel_rfl) ⟨.inl basculeref_waits.con, ⟨.inl basculeref_logged.con, ⟨.inl basculeref_big.con, trivial⟩⟩⟩) (by kernel_rfl) Try.func9 (by kernel_rfl) (c := cB Try.f9) (by kernel_rfl) (by kernel_rfl) F (fun x => by simp [F, spread, Try.ntmps9]) (fun x => (St0 x.1 x.2.1)) (fun x => by kernel_rfl) fun x => (top_eq fuel _ x.1 x.2.1).trans (by kernel_rfl)
end Go.Bx.basculeref_Waited
namespace Go.Bx.basculeref_of
def l0s (Nx : D4 -> Int -> D4 -> Option α) (Xt0 : D4 -> Option α) (x6 : D4) (x7 : Int) (c16 : D4) : Option α :=
 if (decide (x7 < 4)) = true then
  if 0 <= x7 /\ x7 < (4 : Int) then
   if fitB (c16.length + 2) 8 = true then
    Nx x6 (IntKind.i64.wrap (x7 + 1)) (c16 ++ [(Int.tmod (List.getD x6 (Int.toNat x7) 0) 4294967296), (IntKind.u64.wrap (Int.tdiv (List.getD x6 (Int.toNat x7) 0) 4294967296))])
   else none
  else none
 else
  Xt0 c16
def l0 (k : Nat) (Xt0 : D4 -> Option α) : Nat -> D4 -> Int -> D4 -> Option α
 | 0, _, _, _ => none
 | n + 1, x6, x7, c16 => l0s (l0 k Xt0 n) Xt0 x6 x7 c16
def j0 (Rt : D4 -> Option α) (c16 : D4) : Option α :=
 Rt c16
def top (k : Nat) (Rt : D4 -> Option α) (x0 : D4) : Option α :=
 l0 k (fun c16 => j0 Rt c16) k x0 0 []
def run (x0 : D4) : Option D4 := top (α := List Int) fuel (fun c16 => some c16) x0
end Go.Bx.basculeref_of
namespace Go.Bx.basculeref_plus
end Go.Bx.basculeref_plus
namespace Go.Bx.basculeref_less
end Go.Bx.basculeref_less
namespace Go.Bx.basculeref_compare
end Go.Bx.basculeref_compare
