/- Go functions of this seat in their own words of Lean, each tied to its code by a contract. -/
import Derived.Test.YtbkkahkikjifkaaGBase
import Derived.Test.YtbkkahkikjifkaaFnGuardSees0
open Go Go.Proofs Go.Bx
set_option maxRecDepth 100000
set_option linter.unusedVariables false
variable {α : Type}
namespace Go.Bx.basculeref_big
def Js : List Nat := [8]
def C : Ctx := ⟨[(3, T1), (5, T18), (9, .str), (22, T36), (29, T16)], [], [], fnL [], noSh, [], invL [], [(2, [4]), (1, [5]), (4, [0, 5, 6, 7]), (9, [0, 5, 6, 7]), (21, [5])], [], [], 0, 0⟩
def St0 (x0 x1 : Int) : St := stL 19 [(0, .data T36 x0), (1, .data T1 x1)] []
def St1 (x0 : Int) (x5 : D4) (x6 x7 : Int) : St := stL 19 [(0, .data T36 x0), (5, .data .str x5), (6, .data T1 x6), (7, .data T1 x7)] []
noncomputable def cd0 : Code := cL (cL (cR (cL (cR (cR (cB Try.f26))))))
def St2 (x5 : D4) : St := stL 19 [(5, .data .str x5)] []
def l0s (Nx : Int -> D4 -> Int -> Int -> Option α) (Xt0 : D4 -> Option α) (x0 : Int) (x5 : D4) (x6 x7 : Int) : Option α :=
 if (decide (x7 < x6)) = true then
  if Nat.ble (1 + x5.length) 9223372036854775807 = true then
   Nx (shrI .u64 x0 8) ([(IntKind.u8.wrap x0)] ++ x5) x6 (IntKind.i64.wrap (x7 + 1))
  else none
 else
  Xt0 x5
theorem l0s_eq (k : Nat) (next : St -> Option α) (Q : Ex -> St -> Option α) (x0 : Int) (x5 : D4) (x6 x7 : Int) :
  rnd C k cd0 9 Q next (St1 x0 x5 x6 x7) = l0s (fun x0 x5 x6 x7 => next (St1 x0 x5 x6 x7)) (fun x5 => Q (.exit 0) (St2 x5)) x0 x5 x6 x7 := plainly Js (by kernel_rfl)
def l0 (k : Nat) (Xt0 : D4 -> Option α) : Nat -> Int -> D4 -> Int -> Int -> Option α
 | 0, _, _, _, _ => none
 | n + 1, x0, x5, x6, x7 => l0s (l0 k Xt0 n) Xt0 x0 x5 x6 x7
theorem l0_eq (k : Nat) (Q : Ex -> St -> Option α) : ∀ (n : Nat) (x0 : Int) (x5 : D4) (x6 x7 : Int), iter (rnd C k cd0 9 Q) n (St1 x0 x5 x6 x7) = l0 k (fun x5 => Q (.exit 0) (St2 x5)) n x0 x5 x6 x7
 | 0, _, _, _, _ => rfl
 | n + 1, x0, x5, x6, x7 => (iter_succ _ _ _).trans ((l0s_eq k _ Q x0 x5 x6 x7).trans (congrArg (fun N => l0s N (fun x5 => Q (.exit 0) (St2 x5)) x0 x5 x6 x7) (by funext; exact l0_eq k Q n _ _ _ _)))
noncomputable def cd1 : Code := cR (cR (cR (cB Try.f26)))
def St3 (x5 : D4) : St := stL 19 [(5, .data .str x5)] []
def St4 (x4 : D4) : St := stL 19 [(4, .data .str x4)] []
def j0 (Rt : D4 -> Option α) (x5 : D4) : Option α :=
 Rt x5
theorem j0_eq (k : Nat) (Q : Ex -> St -> Option α) (x5 : D4) :
  (den C k) cd1 Q (St3 x5) = j0 (fun x4 => Q .ret (St4 x4)) x5 := plainly Js (by kernel_rfl)
theorem a0 (k : Nat) (Q : Ex -> St -> Option α) (x0 : Int) (x5 : D4) (x6 x7 : Int) :
  (lp C k) cd0 (blkQ C 0 (sq (den C k) (lp C k) Js C cd1 Q)) (St1 x0 x5 x6 x7) = l0 k (fun x5 => j0 (fun x4 => Q .ret (St4 x4)) x5) k x0 x5 x6 x7 :=
 (lp_iter 9 (by kernel_rfl)).trans ((l0_eq k _ k x0 x5 x6 x7).trans (congrArg (fun X => l0 k X k x0 x5 x6 x7) (funext fun x5 => (Eq.trans (b := (den C k) cd1 Q (St3 x5)) (by kernel_rfl) (by simp only [j0_eq])))))
def top (k : Nat) (Rt : D4 -> Option α) (x0 x1 : Int) : Option α :=
 l0 k (fun x5 => j0 Rt x5) k x0 [] x1 0
theorem top_eq (k : Nat) (Q : Ex -> St -> Option α) (x0 x1 : Int) :
  (den C k) (cB Try.f26) Q (St0 x0 x1) = top k (fun x4 => Q .ret (St4 x4)) x0 x1 := by
 have h : ∀ (D L : DT α), denJ D L Js C (cB Try.f26) Q (St0 x0 x1) =
    L cd0 (blkQ C 0 (sq D L Js C cd1 Q)) (St1 x0 [] x1 0) := by
  intro D L; kernel_rfl
 have h2 := via (k := k) h
 refine h2.trans ?_
 simp only [a0]
 first | rfl | kernel_rfl
def run (x0 x1 : Int) : Option D4 := top (α := List Int) fuel (fun x4 => some x4) x0 x1
def F : Fn := ⟨T37, .str, false, fun x => run x.1 x.2.1⟩
theorem con : Con Try.prog 26 F /\ Named Try.prog 26 :=
 con_of2 (C := C) (ctx_ok (by kernel_rfl) (by kernel_rfl) (by kernel_rfl) (by kernel_rfl) trivial) (by kernel_rfl) Try.func26 (by kernel_rfl) (c := cB Try.f26) (by kernel_rfl) (by kernel_rfl) F (fun x => by simp [F, spread, Try.ntmps26]) (fun x => (St0 x.1 x.2.1)) (fun x => by kernel_rfl) fun x => (top_eq fuel _ x.1 x.2.1).trans (by kernel_rfl)
end Go.Bx.basculeref_big
namespace Go.Bx.basculeref_word
def Js : List Nat := [7]
def C : Ctx := ⟨[(5, T18), (9, .str), (38, T17)], [], [], fnL [], noSh, [], invL [], [(2, [2]), (1, [2, 3]), (4, [0, 2, 3, 4]), (9, [0, 2, 3, 4]), (18, [2, 3])], [], [], 0, 0⟩
def St0 (x0 : D4) : St := stL 21 [(0, .data .str x0)] []
def St1 (x0 : D4) (x4 : Int) (c2 c3 : D4) : St := stL 21 [(0, .data .str x0), (2, .ref 2 0 []), (3, .ref 3 0 []), (4, .data T1 x4)] [(2, .cell T17 (.data T17 c2) false), (3, .cell T17 (.data T17 c3) false)]
noncomputable def cd0 : Code := cL (cL (cR (cL (cR (cR (cB Try.f132))))))
def St2 (c2 c3 : D4) : St := stL 21 [(2, .ref 2 0 []), (3, .ref 3 0 [])] [(2, .cell T17 (.data T17 c2) false), (3, .cell T17 (.data T17 c3) false)]
def l0s (Nx : D4 -> Int -> D4 -> D4 -> Option α) (Xt0 : D4 -> D4 -> Option α) (x0 : D4) (x4 : Int) (c2 c3 : D4) : Option α :=
 if (cond (decide (x4 < (x0.length : Int))) (decide (x4 < 32)) false) = true then
  if 0 <= x4 /\ x4 < (x0.length : Int) then
   if 0 <= x4 /\ x4 < (32 : Int) then
    Nx x0 (IntKind.i64.wrap (x4 + 1)) c2 (List.set c3 (Int.toNat x4) (List.getD x0 (Int.toNat x4) 0))
   else none
  else none
 else
  Xt0 c2 c3
theorem l0s_eq (k : Nat) (next : St -> Option α) (Q : Ex -> St -> Option α) (x0 : D4) (x4 : Int) (c2 c3 : D4) :
  rnd C k cd0 9 Q next (St1 x0 x4 c2 c3) = l0s (fun x0 x4 c2 c3 => next (St1 x0 x4 c2 c3)) (fun c2 c3 => Q (.exit 0) (St2 c2 c3)) x0 x4 c2 c3 := plainly Js (by kernel_rfl)
def l0 (k : Nat) (Xt0 : D4 -> D4 -> Option α) : Nat -> D4 -> Int -> D4 -> D4 -> Option α
 | 0, _, _, _, _ => none
 | n + 1, x0, x4, c2, c3 => l0s (l0 k Xt0 n) Xt0 x0 x4 c2 c3
theorem l0_eq (k : Nat) (Q : Ex -> St -> Option α) : ∀ (n : Nat) (x0 : D4) (x4 : Int) (c2 c3 : D4), iter (rnd C k cd0 9 Q) n (St1 x0 x4 c2 c3) = l0 k (fun c2 c3 => Q (.exit 0) (St2 c2 c3)) n x0 x4 c2 c3
 | 0, _, _, _, _ => rfl
 | n + 1, x0, x4, c2, c3 => (iter_succ _ _ _).trans ((l0s_eq k _ Q x0 x4 c2 c3).trans (congrArg (fun N => l0s N (fun c2 c3 => Q (.exit 0) (St2 c2 c3)) x0 x4 c2 c3) (by funext; exact l0_eq k Q n _ _ _ _)))
noncomputable def cd1 : Code := cR (cR (cR (cB Try.f132)))
def St3 (c2 c3 : D4) : St := stL 21 [(2, .ref 2 0 []), (3, .ref 3 0 [])] [(2, .cell T17 (.data T17 c2) false), (3, .cell T17 (.data T17 c3) false)]
def St4 (c2 : D4) : St := stL 21 [(2, .ref 2 0 [])] [(2, .cell T17 (.data T17 c2) false)]
def j0 (Rt : D4 -> Option α) (c2 c3 : D4) : Option α :=
 Rt c3
theorem j0_eq (k : Nat) (Q : Ex -> St -> Option α) (c2 c3 : D4) :
  (den C k) cd1 Q (St3 c2 c3) = j0 (fun c2 => Q .ret (St4 c2)) c2 c3 := plainly Js (by kernel_rfl)
theorem a0 (k : Nat) (Q : Ex -> St -> Option α) (x0 : D4) (x4 : Int) (c2 c3 : D4) :
  (lp C k) cd0 (blkQ C 0 (sq (den C k) (lp C k) Js C cd1 Q)) (St1 x0 x4 c2 c3) = l0 k (fun c2 c3 => j0 (fun c2 => Q .ret (St4 c2)) c2 c3) k x0 x4 c2 c3 :=
 (lp_iter 9 (by kernel_rfl)).trans ((l0_eq k _ k x0 x4 c2 c3).trans (congrArg (fun X => l0 k X k x0 x4 c2 c3) (funext fun c2 => funext fun c3 => (Eq.trans (b := (den C k) cd1 Q (St3 c2 c3)) (by kernel_rfl) (by simp only [j0_eq])))))
def top (k : Nat) (Rt : D4 -> Option α) (x0 : D4) : Option α :=
 l0 k (fun c2 c3 => j0 Rt c2 c3) k x0 0 (List.replicate 32 0) (List.replicate 32 0)
theorem top_eq (k : Nat) (Q : Ex -> St -> Option α) (x0 : D4) :
  (den C k) (cB Try.f132) Q (St0 x0) = top k (fun c2 => Q .ret (St4 c2)) x0 := by
 have h : ∀ (D L : DT α), denJ D L Js C (cB Try.f132) Q (St0 x0) =
    L cd0 (blkQ C 0 (sq D L Js C cd1 Q)) (St1 x0 0 (List.replicate 32 0) (List.replicate 32 0)) := by
  intro D L; kernel_rfl
 have h2 := via (k := k) h
 refine h2.trans ?_
 simp only [a0]
 first | rfl | kernel_rfl
def run (x0 : D4) : Option D4 := top (α := List Int) fuel (fun c2 => some c2) x0
def F : Fn := ⟨T120, T17, false, fun x => run x.1⟩
theorem con : Con Try.prog 132 F /\ Named Try.prog 132 :=
 con_of2 (C := C) (ctx_ok (by kernel_rfl) (by kernel_rfl) (by kernel_rfl) (by kernel_rfl) trivial) (by kernel_rfl) Try.func132 (by kernel_rfl) (c := cB Try.f132) (by kernel_rfl) (by kernel_rfl) F (fun x => by simp [F, spread, Try.ntmps132]) (fun x => (St0 x.1)) (fun x => by kernel_rfl) fun x => (top_eq fuel _ x.1).trans (by kernel_rfl)
end Go.Bx.basculeref_word
namespace Go.Bx.basculeref_number
def Js : List Nat := [7]
def C : Ctx := ⟨[(3, T1), (5, T18), (9, .str), (22, T36)], [], [], fnL [], noSh, [], invL [], [(2, [2]), (1, [3]), (4, [0, 3, 4]), (9, [0, 3, 4]), (18, [3])], [], [], 0, 0⟩
def St0 (x0 : D4) : St := stL 20 [(0, .data .str x0)] []
def St1 (x0 : D4) (x3 x4 : Int) : St := stL 20 [(0, .data .str x0), (3, .data T36 x3), (4, .data T1 x4)] []
noncomputable def cd0 : Code := cL (cL (cR (cL (cR (cR (cB Try.f70))))))
def St2 (x3 : Int) : St := stL 20 [(3, .data T36 x3)] []
def l0s (Nx : D4 -> Int -> Int -> Option α) (Xt0 : Int -> Option α) (x0 : D4) (x3 x4 : Int) : Option α :=
 if (decide (x4 < (x0.length : Int))) = true then
  if 0 <= x4 /\ x4 < (x0.length : Int) then
   Nx x0 (IntKind.u64.wrap ((IntKind.u64.wrap (x3 * 256)) + (IntKind.u64.wrap (List.getD x0 (Int.toNat x4) 0)))) (IntKind.i64.wrap (x4 + 1))
  else none
 else
  Xt0 x3
theorem l0s_eq (k : Nat) (next : St -> Option α) (Q : Ex -> St -> Option α) (x0 : D4) (x3 x4 : Int) :
  rnd C k cd0 9 Q next (St1 x0 x3 x4) = l0s (fun x0 x3 x4 => next (St1 x0 x3 x4)) (fun x3 => Q (.exit 0) (St2 x3)) x0 x3 x4 := plainly Js (by kernel_rfl)
def l0 (k : Nat) (Xt0 : Int -> Option α) : Nat -> D4 -> Int -> Int -> Option α
 | 0, _, _, _ => none
 | n + 1, x0, x3, x4 => l0s (l0 k Xt0 n) Xt0 x0 x3 x4
theorem l0_eq (k : Nat) (Q : Ex -> St -> Option α) : ∀ (n : Nat) (x0 : D4) (x3 x4 : Int), iter (rnd C k cd0 9 Q) n (St1 x0 x3 x4) = l0 k (fun x3 => Q (.exit 0) (St2 x3)) n x0 x3 x4
 | 0, _, _, _ => rfl
 | n + 1, x0, x3, x4 => (iter_succ _ _ _).trans ((l0s_eq k _ Q x0 x3 x4).trans (congrArg (fun N => l0s N (fun x3 => Q (.exit 0) (St2 x3)) x0 x3 x4) (by funext; exact l0_eq k Q n _ _ _)))
noncomputable def cd1 : Code := cR (cR (cR (cB Try.f70)))
def St3 (x3 : Int) : St := stL 20 [(3, .data T36 x3)] []
def St4 (x2 : Int) : St := stL 20 [(2, .data T1 x2)] []
def j0 (Rt : Int -> Option α) (x3 : Int) : Option α :=
 Rt (IntKind.i64.wrap x3)
theorem j0_eq (k : Nat) (Q : Ex -> St -> Option α) (x3 : Int) :
  (den C k) cd1 Q (St3 x3) = j0 (fun x2 => Q .ret (St4 x2)) x3 := plainly Js (by kernel_rfl)
theorem a0 (k : Nat) (Q : Ex -> St -> Option α) (x0 : D4) (x3 x4 : Int) :
  (lp C k) cd0 (blkQ C 0 (sq (den C k) (lp C k) Js C cd1 Q)) (St1 x0 x3 x4) = l0 k (fun x3 => j0 (fun x2 => Q .ret (St4 x2)) x3) k x0 x3 x4 :=
 (lp_iter 9 (by kernel_rfl)).trans ((l0_eq k _ k x0 x3 x4).trans (congrArg (fun X => l0 k X k x0 x3 x4) (funext fun x3 => (Eq.trans (b := (den C k) cd1 Q (St3 x3)) (by kernel_rfl) (by simp only [j0_eq])))))
def top (k : Nat) (Rt : Int -> Option α) (x0 : D4) : Option α :=
 l0 k (fun x3 => j0 Rt x3) k x0 0 0
theorem top_eq (k : Nat) (Q : Ex -> St -> Option α) (x0 : D4) :
  (den C k) (cB Try.f70) Q (St0 x0) = top k (fun x2 => Q .ret (St4 x2)) x0 := by
 have h : ∀ (D L : DT α), denJ D L Js C (cB Try.f70) Q (St0 x0) =
    L cd0 (blkQ C 0 (sq D L Js C cd1 Q)) (St1 x0 0 0) := by
  intro D L; kernel_rfl
 have h2 := via (k := k) h
 refine h2.trans ?_
 simp only [a0]
 first | rfl | kernel_rfl
def run (x0 : D4) : Option (Int) := top (α := Int) fuel (fun x2 => some x2) x0
def F : Fn := ⟨T120, T1, false, fun x => run x.1⟩
theorem con : Con Try.prog 70 F /\ Named Try.prog 70 :=
 con_of2 (C := C) (ctx_ok (by kernel_rfl) (by kernel_rfl) (by kernel_rfl) (by kernel_rfl) trivial) (by kernel_rfl) Try.func70 (by kernel_rfl) (c := cB Try.f70) (by kernel_rfl) (by kernel_rfl) F (fun x => by simp [F, spread, Try.ntmps70]) (fun x => (St0 x.1)) (fun x => by kernel_rfl) fun x => (top_eq fuel _ x.1).trans (by kernel_rfl)
end Go.Bx.basculeref_number
namespace Go.Bx.wide_From
def Js : List Nat := [9]
def C : Ctx := ⟨[(5, T18), (22, T36), (24, T23), (38, T17)], [], [], fnL [], noSh, [], invL [], [(2, [2]), (1, [2, 3]), (4, [2, 3, 7, 8]), (9, [2, 3, 7, 8]), (24, [2, 3])], [], [], 0, 0⟩
def St0 (x0 : D4) : St := stL 28 [(0, .data T17 x0)] []
def St1 (x7 : D4) (x8 : Int) (c2 c3 : D4) : St := stL 28 [(2, .ref 2 0 []), (3, .ref 3 0 []), (7, .data T17 x7), (8, .data T1 x8)] [(2, .cell T23 (.data T23 c2) false), (3, .cell T23 (.data T23 c3) false)]
noncomputable def cd0 : Code := cL (cL (cR (cL (cR (cR (cB Try.f35))))))
def St2 (c2 c3 : D4) : St := stL 28 [(2, .ref 2 0 []), (3, .ref 3 0 [])] [(2, .cell T23 (.data T23 c2) false), (3, .cell T23 (.data T23 c3) false)]
def l0s (Nx : D4 -> Int -> D4 -> D4 -> Option α) (Xt0 : D4 -> D4 -> Option α) (x7 : D4) (x8 : Int) (c2 c3 : D4) : Option α :=
 if (decide (x8 < 32)) = true then
  if 0 <= x8 /\ x8 < (32 : Int) then
   if 0 <= (IntKind.i64.wrap (Int.tdiv (IntKind.i64.wrap (31 - x8)) 8)) /\ (IntKind.i64.wrap (Int.tdiv (IntKind.i64.wrap (31 - x8)) 8)) < (4 : Int) then
    if 0 <= (IntKind.i64.wrap (8 * (Int.tmod (IntKind.i64.wrap (31 - x8)) 8))) then
     if 0 <= (IntKind.i64.wrap (Int.tdiv (IntKind.i64.wrap (31 - x8)) 8)) /\ (IntKind.i64.wrap (Int.tdiv (IntKind.i64.wrap (31 - x8)) 8)) < (4 : Int) then
      Nx x7 (IntKind.i64.wrap (x8 + 1)) c2 (List.set c3 (Int.toNat (IntKind.i64.wrap (Int.tdiv (IntKind.i64.wrap (31 - x8)) 8))) (bor .u64 (List.getD c3 (Int.toNat (IntKind.i64.wrap (Int.tdiv (IntKind.i64.wrap (31 - x8)) 8))) 0) (shlI .u64 (IntKind.u64.wrap (List.getD x7 (Int.toNat x8) 0)) (IntKind.i64.wrap (8 * (Int.tmod (IntKind.i64.wrap (31 - x8)) 8))))))
     else none
    else none
   else none
  else none
 else
  Xt0 c2 c3
theorem l0s_eq (k : Nat) (next : St -> Option α) (Q : Ex -> St -> Option α) (x7 : D4) (x8 : Int) (c2 c3 : D4) :
  rnd C k cd0 9 Q next (St1 x7 x8 c2 c3) = l0s (fun x7 x8 c2 c3 => next (St1 x7 x8 c2 c3)) (fun c2 c3 => Q (.exit 0) (St2 c2 c3)) x7 x8 c2 c3 := plainly Js (by kernel_rfl)
def l0 (k : Nat) (Xt0 : D4 -> D4 -> Option α) : Nat -> D4 -> Int -> D4 -> D4 -> Option α
 | 0, _, _, _, _ => none
 | n + 1, x7, x8, c2, c3 => l0s (l0 k Xt0 n) Xt0 x7 x8 c2 c3
theorem l0_eq (k : Nat) (Q : Ex -> St -> Option α) : ∀ (n : Nat) (x7 : D4) (x8 : Int) (c2 c3 : D4), iter (rnd C k cd0 9 Q) n (St1 x7 x8 c2 c3) = l0 k (fun c2 c3 => Q (.exit 0) (St2 c2 c3)) n x7 x8 c2 c3
 | 0, _, _, _, _ => rfl
 | n + 1, x7, x8, c2, c3 => (iter_succ _ _ _).trans ((l0s_eq k _ Q x7 x8 c2 c3).trans (congrArg (fun N => l0s N (fun c2 c3 => Q (.exit 0) (St2 c2 c3)) x7 x8 c2 c3) (by funext; exact l0_eq k Q n _ _ _ _)))
noncomputable def cd1 : Code := cR (cR (cR (cB Try.f35)))
def St3 (c2 c3 : D4) : St := stL 28 [(2, .ref 2 0 []), (3, .ref 3 0 [])] [(2, .cell T23 (.data T23 c2) false), (3, .cell T23 (.data T23 c3) false)]
def St4 (c2 : D4) : St := stL 28 [(2, .ref 2 0 [])] [(2, .cell T23 (.data T23 c2) false)]
def j0 (Rt : D4 -> Option α) (c2 c3 : D4) : Option α :=
 Rt c3
theorem j0_eq (k : Nat) (Q : Ex -> St -> Option α) (c2 c3 : D4) :
  (den C k) cd1 Q (St3 c2 c3) = j0 (fun c2 => Q .ret (St4 c2)) c2 c3 := plainly Js (by kernel_rfl)
theorem a0 (k : Nat) (Q : Ex -> St -> Option α) (x7 : D4) (x8 : Int) (c2 c3 : D4) :
  (lp C k) cd0 (blkQ C 0 (sq (den C k) (lp C k) Js C cd1 Q)) (St1 x7 x8 c2 c3) = l0 k (fun c2 c3 => j0 (fun c2 => Q .ret (St4 c2)) c2 c3) k x7 x8 c2 c3 :=
 (lp_iter 9 (by kernel_rfl)).trans ((l0_eq k _ k x7 x8 c2 c3).trans (congrArg (fun X => l0 k X k x7 x8 c2 c3) (funext fun c2 => funext fun c3 => (Eq.trans (b := (den C k) cd1 Q (St3 c2 c3)) (by kernel_rfl) (by simp only [j0_eq])))))
def top (k : Nat) (Rt : D4 -> Option α) (x0 : D4) : Option α :=
 l0 k (fun c2 c3 => j0 Rt c2 c3) k x0 0 [0, 0, 0, 0] [0, 0, 0, 0]
theorem top_eq (k : Nat) (Q : Ex -> St -> Option α) (x0 : D4) :
  (den C k) (cB Try.f35) Q (St0 x0) = top k (fun c2 => Q .ret (St4 c2)) x0 := by
 have h : ∀ (D L : DT α), denJ D L Js C (cB Try.f35) Q (St0 x0) =
    L cd0 (blkQ C 0 (sq D L Js C cd1 Q)) (St1 x0 0 [0, 0, 0, 0] [0, 0, 0, 0]) := by
  intro D L; kernel_rfl
 have h2 := via (k := k) h
 refine h2.trans ?_
 simp only [a0]
 first | rfl | kernel_rfl
def run (x0 : D4) : Option D4 := top (α := List Int) fuel (fun c2 => some c2) x0
def F : Fn := ⟨T71, T23, false, fun x => run x.1⟩
theorem con : Con Try.prog 35 F /\ Named Try.prog 35 :=
 con_of2 (C := C) (ctx_ok (by kernel_rfl) (by kernel_rfl) (by kernel_rfl) (by kernel_rfl) trivial) (by kernel_rfl) Try.func35 (by kernel_rfl) (c := cB Try.f35) (by kernel_rfl) (by kernel_rfl) F (fun x => by simp [F, spread, Try.ntmps35]) (fun x => (St0 x.1)) (fun x => by kernel_rfl) fun x => (top_eq fuel _ x.1).trans (by kernel_rfl)
end Go.Bx.wide_From
namespace Go.Bx.basculeref_FromBytes
def Js : List Nat := [8]
def C : Ctx := ⟨[(5, T18), (22, T36), (24, T23), (38, T17)], [], [], fnL [], noSh, [], invL [], [(2, [2]), (1, [2, 3]), (4, [2, 3, 6, 7]), (9, [2, 3, 6, 7]), (21, [2, 3])], [], [], 0, 0⟩
def St0 (x0 : D4) : St := stL 26 [(0, .data T17 x0)] []
def St1 (x6 : D4) (x7 : Int) (c2 c3 : D4) : St := stL 26 [(2, .ref 2 0 []), (3, .ref 3 0 []), (6, .data T17 x6), (7, .data T1 x7)] [(2, .cell T23 (.data T23 c2) false), (3, .cell T23 (.data T23 c3) false)]
noncomputable def cd0 : Code := cL (cL (cR (cL (cR (cR (cB Try.f44))))))
def St2 (c2 c3 : D4) : St := stL 26 [(2, .ref 2 0 []), (3, .ref 3 0 [])] [(2, .cell T23 (.data T23 c2) false), (3, .cell T23 (.data T23 c3) false)]
def l0s (Nx : D4 -> Int -> D4 -> D4 -> Option α) (Xt0 : D4 -> D4 -> Option α) (x6 : D4) (x7 : Int) (c2 c3 : D4) : Option α :=
 if (decide (x7 < 32)) = true then
  if 0 <= x7 /\ x7 < (32 : Int) then
   if 0 <= (IntKind.i64.wrap (3 - (IntKind.i64.wrap (Int.tdiv x7 8)))) /\ (IntKind.i64.wrap (3 - (IntKind.i64.wrap (Int.tdiv x7 8)))) < (4 : Int) then
    if 0 <= (IntKind.i64.wrap (3 - (IntKind.i64.wrap (Int.tdiv x7 8)))) /\ (IntKind.i64.wrap (3 - (IntKind.i64.wrap (Int.tdiv x7 8)))) < (4 : Int) then
     Nx x6 (IntKind.i64.wrap (x7 + 1)) c2 (List.set c3 (Int.toNat (IntKind.i64.wrap (3 - (IntKind.i64.wrap (Int.tdiv x7 8))))) (IntKind.u64.wrap ((IntKind.u64.wrap ((List.getD c3 (Int.toNat (IntKind.i64.wrap (3 - (IntKind.i64.wrap (Int.tdiv x7 8))))) 0) * 256)) + (IntKind.u64.wrap (List.getD x6 (Int.toNat x7) 0)))))
    else none
   else none
  else none
 else
  Xt0 c2 c3
theorem l0s_eq (k : Nat) (next : St -> Option α) (Q : Ex -> St -> Option α) (x6 : D4) (x7 : Int) (c2 c3 : D4) :
  rnd C k cd0 9 Q next (St1 x6 x7 c2 c3) = l0s (fun x6 x7 c2 c3 => next (St1 x6 x7 c2 c3)) (fun c2 c3 => Q (.exit 0) (St2 c2 c3)) x6 x7 c2 c3 := plainly Js (by kernel_rfl)
def l0 (k : Nat) (Xt0 : D4 -> D4 -> Option α) : Nat -> D4 -> Int -> D4 -> D4 -> Option α
 | 0, _, _, _, _ => none
 | n + 1, x6, x7, c2, c3 => l0s (l0 k Xt0 n) Xt0 x6 x7 c2 c3
theorem l0_eq (k : Nat) (Q : Ex -> St -> Option α) : ∀ (n : Nat) (x6 : D4) (x7 : Int) (c2 c3 : D4), iter (rnd C k cd0 9 Q) n (St1 x6 x7 c2 c3) = l0 k (fun c2 c3 => Q (.exit 0) (St2 c2 c3)) n x6 x7 c2 c3
 | 0, _, _, _, _ => rfl
 | n + 1, x6, x7, c2, c3 => (iter_succ _ _ _).trans ((l0s_eq k _ Q x6 x7 c2 c3).trans (congrArg (fun N => l0s N (fun c2 c3 => Q (.exit 0) (St2 c2 c3)) x6 x7 c2 c3) (by funext; exact l0_eq k Q n _ _ _ _)))
noncomputable def cd1 : Code := cR (cR (cR (cB Try.f44)))
def St3 (c2 c3 : D4) : St := stL 26 [(2, .ref 2 0 []), (3, .ref 3 0 [])] [(2, .cell T23 (.data T23 c2) false), (3, .cell T23 (.data T23 c3) false)]
def St4 (c2 : D4) : St := stL 26 [(2, .ref 2 0 [])] [(2, .cell T23 (.data T23 c2) false)]
def j0 (Rt : D4 -> Option α) (c2 c3 : D4) : Option α :=
 Rt c3
theorem j0_eq (k : Nat) (Q : Ex -> St -> Option α) (c2 c3 : D4) :
  (den C k) cd1 Q (St3 c2 c3) = j0 (fun c2 => Q .ret (St4 c2)) c2 c3 := plainly Js (by kernel_rfl)
theorem a0 (k : Nat) (Q : Ex -> St -> Option α) (x6 : D4) (x7 : Int) (c2 c3 : D4) :
  (lp C k) cd0 (blkQ C 0 (sq (den C k) (lp C k) Js C cd1 Q)) (St1 x6 x7 c2 c3) = l0 k (fun c2 c3 => j0 (fun c2 => Q .ret (St4 c2)) c2 c3) k x6 x7 c2 c3 :=
 (lp_iter 9 (by kernel_rfl)).trans ((l0_eq k _ k x6 x7 c2 c3).trans (congrArg (fun X => l0 k X k x6 x7 c2 c3) (funext fun c2 => funext fun c3 => (Eq.trans (b := (den C k) cd1 Q (St3 c2 c3)) (by kernel_rfl) (by simp only [j0_eq])))))
def top (k : Nat) (Rt : D4 -> Option α) (x0 : D4) : Option α :=
 l0 k (fun c2 c3 => j0 Rt c2 c3) k x0 0 [0, 0, 0, 0] [0, 0, 0, 0]
theorem top_eq (k : Nat) (Q : Ex -> St -> Option α) (x0 : D4) :
  (den C k) (cB Try.f44) Q (St0 x0) = top k (fun c2 => Q .ret (St4 c2)) x0 := by
 have h : ∀ (D L : DT α), denJ D L Js C (cB Try.f44) Q (St0 x0) =
    L cd0 (blkQ C 0 (sq D L Js C cd1 Q)) (St1 x0 0 [0, 0, 0, 0] [0, 0, 0, 0]) := by
  intro D L; kernel_rfl
 have h2 := via (k := k) h
 refine h2.trans ?_
 simp only [a0]
 first | rfl | kernel_rfl
def run (x0 : D4) : Option D4 := top (α := List Int) fuel (fun c2 => some c2) x0
def F : Fn := ⟨T71, T23, false, fun x => run x.1⟩
theorem con : Con Try.prog 44 F /\ Named Try.prog 44 :=
 con_of2 (C := C) (ctx_ok (by kernel_rfl) (by kernel_rfl) (by kernel_rfl) (by kernel_rfl) trivial) (by kernel_rfl) Try.func44 (by kernel_rfl) (c := cB Try.f44) (by kernel_rfl) (by kernel_rfl) F (fun x => by simp [F, spread, Try.ntmps44]) (fun x => (St0 x.1)) (fun x => by kernel_rfl) fun x => (top_eq fuel _ x.1).trans (by kernel_rfl)
end Go.Bx.basculeref_FromBytes
namespace Go.Bx.basculeref_wideOf
def Js : List Nat := []
def C : Ctx := ⟨[(9, .str), (24, T23)], [], [], fnL [(44, basculeref_FromBytes.F), (132, basculeref_word.F)], noSh, [], invL [], [(2, [2])], [], [], 0, 0⟩
def St0 (x0 : D4) : St := stL 6 [(0, .data .str x0)] []
def St1 (c2 : D4) : St := stL 6 [(2, .ref 2 0 [])] [(2, .cell T23 (.data T23 c2) false)]
def top (Rt : D4 -> Option α) (x0 : D4) : Option α :=
 (basculeref_word.run x0).bind fun y1 =>
 (basculeref_FromBytes.run y1).bind fun y2 =>
 Rt y2
theorem top_eq (k : Nat) (Q : Ex -> St -> Option α) (x0 : D4) :
  (den C k) (cB Try.f131) Q (St0 x0) = top (fun c2 => Q .ret (St1 c2)) x0 := plainly Js (by kernel_rfl)
def run (x0 : D4) : Option D4 := top (α := List Int) (fun c2 => some c2) x0
def F : Fn := ⟨T120, T23, false, fun x => run x.1⟩
theorem con : Con Try.prog 131 F /\ Named Try.prog 131 :=
 con_of2 (C := C) (ctx_ok (by kernel_rfl) (by kernel_rfl) (by kernel_rfl) (by kernel_rfl) ⟨.inl basculeref_FromBytes.con, ⟨.inl basculeref_word.con, trivial⟩⟩) (by kernel_rfl) Try.func131 (by kernel_rfl) (c := cB Try.f131) (by kernel_rfl) (by kernel_rfl) F (fun x => by simp [F, spread, Try.ntmps131]) (fun x => (St0 x.1)) (fun x => by kernel_rfl) fun x => (top_eq fuel _ x.1).trans (by kernel_rfl)
end Go.Bx.basculeref_wideOf
namespace Go.Bx.wide_Cmp
def Js : List Nat := [9]
def C : Ctx := ⟨[(3, T1), (22, T36), (24, T23)], [], [], fnL [], noSh, [], invL [], [(2, [4]), (1, []), (4, [2, 3, 5]), (7, [2, 3, 5]), (6, [2, 3, 5]), (24, [])], [], [], 0, 0⟩
def St0 (x0 x1 : D4) : St := stL 26 [(0, .data T23 x0), (1, .data T23 x1)] []
def St1 (x5 : Int) (c2 c3 : D4) : St := stL 26 [(2, .ref 2 0 []), (3, .ref 3 0 []), (5, .data T1 x5)] [(2, .cell T23 (.data T23 c2) false), (3, .cell T23 (.data T23 c3) false)]
noncomputable def cd0 : Code := cL (cL (cR (cL (cR (cB Try.f47)))))
def St2 (x4 : Int) : St := stL 26 [(4, .data T1 x4)] []
def St3 : St := stL 26 [] []
def l0s (Nx : Int -> D4 -> D4 -> Option α) (Rt : Int -> Option α) (Xt0 : Option α) (x5 : Int) (c2 c3 : D4) : Option α :=
 if (decide (x5 >= 0)) = true then
  if 0 <= x5 /\ x5 < (4 : Int) then
   if 0 <= x5 /\ x5 < (4 : Int) then
    if (decide ((List.getD c2 (Int.toNat x5) 0) < (List.getD c3 (Int.toNat x5) 0))) = true then
     Rt (-1)
    else
     if 0 <= x5 /\ x5 < (4 : Int) then
      if 0 <= x5 /\ x5 < (4 : Int) then
       if (decide ((List.getD c2 (Int.toNat x5) 0) > (List.getD c3 (Int.toNat x5) 0))) = true then
        Rt 1
       else
        Nx (IntKind.i64.wrap (x5 - 1)) c2 c3
      else none
     else none
   else none
  else none
 else
  Xt0
theorem l0s_eq (k : Nat) (next : St -> Option α) (Q : Ex -> St -> Option α) (x5 : Int) (c2 c3 : D4) :
  rnd C k cd0 6 Q next (St1 x5 c2 c3) = l0s (fun x5 c2 c3 => next (St1 x5 c2 c3)) (fun x4 => Q .ret (St2 x4)) (Q (.exit 0) St3) x5 c2 c3 := plainly Js (by kernel_rfl)
def l0 (k : Nat) (Rt : Int -> Option α) (Xt0 : Option α) : Nat -> Int -> D4 -> D4 -> Option α
 | 0, _, _, _ => none
 | n + 1, x5, c2, c3 => l0s (l0 k Rt Xt0 n) Rt Xt0 x5 c2 c3
theorem l0_eq (k : Nat) (Q : Ex -> St -> Option α) : ∀ (n : Nat) (x5 : Int) (c2 c3 : D4), iter (rnd C k cd0 6 Q) n (St1 x5 c2 c3) = l0 k (fun x4 => Q .ret (St2 x4)) (Q (.exit 0) St3) n x5 c2 c3
 | 0, _, _, _ => rfl
 | n + 1, x5, c2, c3 => (iter_succ _ _ _).trans ((l0s_eq k _ Q x5 c2 c3).trans (congrArg (fun N => l0s N (fun x4 => Q .ret (St2 x4)) (Q (.exit 0) St3) x5 c2 c3) (by funext; exact l0_eq k Q n _ _ _)))
theorem l0_congr (k : Nat) (Rt : Int -> Option α) (Xt0 : Option α) (Rtq : Int -> Option α) (Xt0q : Option α) (hRt : ∀ (x4 : Int), Rt x4 = Rtq x4) (hXt0 : Xt0 = Xt0q) (n : Nat) (x5 : Int) (c2 c3 : D4) : l0 k Rt Xt0 n x5 c2 c3 = l0 k Rtq Xt0q n x5 c2 c3 := by
 obtain rfl : Rt = Rtq := by funext x4; exact hRt x4
 obtain rfl : Xt0 = Xt0q := hXt0
 rfl
noncomputable def cd1 : Code := cR (cR (cB Try.f47))
def St4 : St := stL 26 [] []
def j0 (Rt : Int -> Option α) : Option α :=
 Rt 0
theorem j0_eq (k : Nat) (Q : Ex -> St -> Option α) :
  (den C k) cd1 Q St4 = j0 (fun x4 => Q .ret (St2 x4)) := plainly Js (by kernel_rfl)
theorem a0 (k : Nat) (Q : Ex -> St -> Option α) (x5 : Int) (c2 c3 : D4) :
  (lp C k) cd0 (blkQ C 0 (sq (den C k) (lp C k) Js C cd1 Q)) (St1 x5 c2 c3) = l0 k (fun x4 => (fun x4 => Q .ret (St2 x4)) x4) (j0 (fun x4 => Q .ret (St2 x4))) k x5 c2 c3 :=
 (lp_iter 6 (by kernel_rfl)).trans ((l0_eq k _ k x5 c2 c3).trans (l0_congr k _ _ _ _ (fun x4 => (by kernel_rfl)) (Eq.trans (b := (den C k) cd1 Q St4) (by kernel_rfl) (by simp only [j0_eq])) k x5 c2 c3))
def top (k : Nat) (Rt : Int -> Option α) (x0 x1 : D4) : Option α :=
 l0 k (fun x4 => Rt x4) (j0 Rt) k 3 x0 x1
theorem top_eq (k : Nat) (Q : Ex -> St -> Option α) (x0 x1 : D4) :
  (den C k) (cB Try.f47) Q (St0 x0 x1) = top k (fun x4 => Q .ret (St2 x4)) x0 x1 := by
 have h : ∀ (D L : DT α), denJ D L Js C (cB Try.f47) Q (St0 x0 x1) =
    L cd0 (blkQ C 0 (sq D L Js C cd1 Q)) (St1 3 x0 x1) := by
  intro D L; kernel_rfl
 have h2 := via (k := k) h
 refine h2.trans ?_
 simp only [a0]
 first | rfl | kernel_rfl
def run (x0 x1 : D4) : Option (Int) := top (α := Int) fuel (fun x4 => some x4) x0 x1
def F : Fn := ⟨T46, T1, false, fun x => run x.1 x.2.1⟩
theorem con : Con Try.prog 47 F /\ Named Try.prog 47 :=
 con_of2 (C := C) (ctx_ok (by kernel_rfl) (by kernel_rfl) (by kernel_rfl) (by kernel_rfl) trivial) (by kernel_rfl) Try.func47 (by kernel_rfl) (c := cB Try.f47) (by kernel_rfl) (by kernel_rfl) F (fun x => by simp [F, spread, Try.ntmps47]) (fun x => (St0 x.1 x.2.1)) (fun x => by kernel_rfl) fun x => (top_eq fuel _ x.1 x.2.1).trans (by kernel_rfl)
end Go.Bx.wide_Cmp
namespace Go.Bx.load_same
def Js : List Nat := []
def C : Ctx := ⟨[(3, T1), (4, .bool), (9, .str), (24, T23), (29, T16), (38, T17), (179, T93), (181, T94)], [], [], fnL [], noSh, [], invL [], [(2, [4])], [], [], 0, 0⟩
def St0 (x0 x1 : D36) : St := stL 93 [(0, .data T94 x0), (1, .data T94 x1)] []
def St1 (x4 : Bool) : St := stL 93 [(4, .data .bool x4)] []
def top (Rt : Bool -> Option α) (x0 x1 : D36) : Option α :=
 Rt (cond (cond (cond (cond (cond (cond (cond (cond (cond (cond (cond (x0.1 == x1.1) (beqD T23 x0.2.1 x1.2.1) false) (beqD T23 x0.2.2.1 x1.2.2.1) false) (beqD T17 x0.2.2.2.1 x1.2.2.2.1) false) (x0.2.2.2.2.1 == x1.2.2.2.2.1) false) (beqD T17 x0.2.2.2.2.2.1 x1.2.2.2.2.2.1) false) (x0.2.2.2.2.2.2.1 == x1.2.2.2.2.2.2.1) false) (x0.2.2.2.2.2.2.2.1 == x1.2.2.2.2.2.2.2.1) false) (beqD .str x0.2.2.2.2.2.2.2.2.1 x1.2.2.2.2.2.2.2.2.1) false) (x0.2.2.2.2.2.2.2.2.2.2.1 == x1.2.2.2.2.2.2.2.2.2.2.1) false) (beqD .str x0.2.2.2.2.2.2.2.2.2.1 x1.2.2.2.2.2.2.2.2.2.1) false) ((x0.2.2.2.2.2.2.2.2.2.2.2.1.length : Int) == (x1.2.2.2.2.2.2.2.2.2.2.2.1.length : Int)) false)
theorem top_eq (k : Nat) (Q : Ex -> St -> Option α) (x0 x1 : D36) :
  (den C k) (cB Try.f170) Q (St0 x0 x1) = top (fun x4 => Q .ret (St1 x4)) x0 x1 := plainly Js (by kernel_rfl)
def run (x0 x1 : D36) : Option (Bool) := top (α := Bool) (fun x4 => some x4) x0 x1
def F : Fn := ⟨T95, .bool, false, fun x => run x.1 x.2.1⟩
theorem con : Con Try.prog 170 F /\ Named Try.prog 170 :=
 con_of2 (C := C) (ctx_ok (by kernel_rfl) (by kernel_rfl) (by kernel_rfl) (by kernel_rfl) trivial) (by kernel_rfl) Try.func170 (by kernel_rfl) (c := cB Try.f170) (by kernel_rfl) (by kernel_rfl) F (fun x => by simp [F, spread, Try.ntmps170]) (fun x => (St0 x.1 x.2.1)) (fun x => by kernel_rfl) fun x => (top_eq fuel _ x.1 x.2.1).trans (by kernel_rfl)
end Go.Bx.load_same
namespace Go.Bx.load_transfer__bare
def Js : List Nat := []
def C : Ctx := ⟨[(3, T1), (24, T23), (29, T16), (38, T17), (181, T94), (211, T96)], [], [], fnL [], noSh, [], invL [], [(2, [4])], [], [], 0, 0⟩
def St0 (x0 : D37) (x1 : D36) : St := stL 22 [(0, .data T96 x0), (1, .data T94 x1)] []
def St1 (c4p0 : Int) (c4p1 c4p2 c4p3 : D4) (c4p4 : Int) (c4p5 : D4) (c4p6 c4p7 : Int) (c4p8 c4p9 : D4) (c4p10 : Int) : St := stL 22 [(4, .ref 4 0 [])] [(4, .cell T94 (.agg T94 [.data T1 c4p0, .data T23 c4p1, .data T23 c4p2, .data T17 c4p3, .data T1 c4p4, .data T17 c4p5, .data T1 c4p6, .data T1 c4p7, .data .str c4p8, .data T16 c4p9, .data T1 c4p10, .full T97 []]) false)]
def top (Rt : Int -> D4 -> D4 -> D4 -> Int -> D4 -> Int -> Int -> D4 -> D4 -> Int -> Option α) (x0 : D37) (x1 : D36) : Option α :=
 Rt x1.1 x1.2.1 x1.2.2.1 x1.2.2.2.1 x1.2.2.2.2.1 x1.2.2.2.2.2.1 x1.2.2.2.2.2.2.1 0 [] x1.2.2.2.2.2.2.2.2.2.1 0
theorem top_eq (k : Nat) (Q : Ex -> St -> Option α) (x0 : D37) (x1 : D36) :
  (den C k) (cB Try.f187) Q (St0 x0 x1) = top (fun c4p0 c4p1 c4p2 c4p3 c4p4 c4p5 c4p6 c4p7 c4p8 c4p9 c4p10 => Q .ret (St1 c4p0 c4p1 c4p2 c4p3 c4p4 c4p5 c4p6 c4p7 c4p8 c4p9 c4p10)) x0 x1 := plainly Js (by kernel_rfl)
def run (x0 : D37) (x1 : D36) : Option D36 := top (α := Int × List Int × List Int × List Int × Int × List Int × Int × Int × List Int × List Int × Int × List D4 × Unit) (fun c4p0 c4p1 c4p2 c4p3 c4p4 c4p5 c4p6 c4p7 c4p8 c4p9 c4p10 => some (c4p0, c4p1, c4p2, c4p3, c4p4, c4p5, c4p6, c4p7, c4p8, c4p9, c4p10, [], ())) x0 x1
def F : Fn := ⟨T98, T94, false, fun x => run x.1 x.2.1⟩
theorem con : Con Try.prog 187 F /\ Named Try.prog 187 :=
 con_of2 (C := C) (ctx_ok (by kernel_rfl) (by kernel_rfl) (by kernel_rfl) (by kernel_rfl) trivial) (by kernel_rfl) Try.func187 (by kernel_rfl) (c := cB Try.f187) (by kernel_rfl) (by kernel_rfl) F (fun x => by simp [F, spread, Try.ntmps187]) (fun x => (St0 x.1 x.2.1)) (fun x => by kernel_rfl) fun x => (top_eq fuel _ x.1 x.2.1).trans (by kernel_rfl)
end Go.Bx.load_transfer__bare
namespace Go.Bx.load_small
def Js : List Nat := []
def C : Ctx := ⟨[(3, T1), (4, .bool)], [], [], fnL [], noSh, [], invL [], [(2, [4])], [], [], 0, 0⟩
def St0 (x0 x1 : Int) : St := stL 12 [(0, .data T1 x0), (1, .data T1 x1)] []
def St1 (x4 : Bool) : St := stL 12 [(4, .data .bool x4)] []
def top (Rt : Bool -> Option α) (x0 x1 : Int) : Option α :=
 Rt (cond (decide (x0 >= 0)) (decide (x0 <= x1)) false)
theorem top_eq (k : Nat) (Q : Ex -> St -> Option α) (x0 x1 : Int) :
  (den C k) (cB Try.f191) Q (St0 x0 x1) = top (fun x4 => Q .ret (St1 x4)) x0 x1 := plainly Js (by kernel_rfl)
def run (x0 x1 : Int) : Option (Bool) := top (α := Bool) (fun x4 => some x4) x0 x1
def F : Fn := ⟨T34, .bool, false, fun x => run x.1 x.2.1⟩
theorem con : Con Try.prog 191 F /\ Named Try.prog 191 :=
 con_of2 (C := C) (ctx_ok (by kernel_rfl) (by kernel_rfl) (by kernel_rfl) (by kernel_rfl) trivial) (by kernel_rfl) Try.func191 (by kernel_rfl) (c := cB Try.f191) (by kernel_rfl) (by kernel_rfl) F (fun x => by simp [F, spread, Try.ntmps191]) (fun x => (St0 x.1 x.2.1)) (fun x => by kernel_rfl) fun x => (top_eq fuel _ x.1 x.2.1).trans (by kernel_rfl)
end Go.Bx.load_small
namespace Go.Bx.load_transfer__check
def Js : List Nat := []
def C : Ctx := ⟨[(3, T1), (4, .bool), (24, T23), (29, T16), (181, T94), (211, T96)], [], [], fnL [(47, wide_Cmp.F), (191, load_small.F)], noSh, [], invL [], [(2, [4])], [], [], 0, 0⟩
def St0 (x0 : D37) (x1 : D36) : St := stL 42 [(0, .data T96 x0), (1, .data T94 x1)] []
def St1 (x4 : Bool) : St := stL 42 [(4, .data .bool x4)] []
def top (Rt : Bool -> Option α) (x0 : D37) (x1 : D36) : Option α :=
 (load_small.run x1.2.2.2.2.1 65535).bind fun y1 =>
 (if (y1 == true) = true then load_small.run x1.2.2.2.2.2.2.1 65535 else some false).bind fun y2 =>
 (if ((cond y1 y2 false) == true) = true then wide_Cmp.run x1.2.2.1 x1.2.1 else some 0).bind fun y3 =>
 Rt (cond (cond (cond y1 y2 false) (decide (y3 <= 0)) false) (cond (cond x0.1 (decide ((x1.2.2.2.2.2.2.2.2.2.1.length : Int) <= 100)) false) true (cond (not x0.1) ((x1.2.2.2.2.2.2.2.2.2.1.length : Int) == 0) false)) false)
theorem top_eq (k : Nat) (Q : Ex -> St -> Option α) (x0 : D37) (x1 : D36) :
  (den C k) (cB Try.f188) Q (St0 x0 x1) = top (fun x4 => Q .ret (St1 x4)) x0 x1 := plainly Js (by kernel_rfl)
def run (x0 : D37) (x1 : D36) : Option (Bool) := top (α := Bool) (fun x4 => some x4) x0 x1
def F : Fn := ⟨T98, .bool, false, fun x => run x.1 x.2.1⟩
theorem con : Con Try.prog 188 F /\ Named Try.prog 188 :=
 con_of2 (C := C) (ctx_ok (by kernel_rfl) (by kernel_rfl) (by kernel_rfl) (by kernel_rfl) ⟨.inl wide_Cmp.con, ⟨.inl load_small.con, trivial⟩⟩) (by kernel_rfl) Try.func188 (by kernel_rfl) (c := cB Try.f188) (by kernel_rfl) (by kernel_rfl) F (fun x => by simp [F, spread, Try.ntmps188]) (fun x => (St0 x.1 x.2.1)) (fun x => by kernel_rfl) fun x => (top_eq fuel _ x.1 x.2.1).trans (by kernel_rfl)
end Go.Bx.load_transfer__check
namespace Go.Bx.load_meta__bare
def Js : List Nat := []
def C : Ctx := ⟨[(3, T1), (9, .str), (38, T17), (181, T94), (213, .unit)], [], [], fnL [], noSh, [], invL [], [(2, [4])], [], [], 0, 0⟩
def St0 (x0 : Unit) (x1 : D36) : St := stL 16 [(0, .data .unit x0), (1, .data T94 x1)] []
def St1 (c4p0 : Int) (c4p1 c4p2 c4p3 : D4) (c4p4 : Int) (c4p5 : D4) (c4p6 c4p7 : Int) (c4p8 : D4) (c4p10 : Int) : St := stL 16 [(4, .ref 4 0 [])] [(4, .cell T94 (.agg T94 [.data T1 c4p0, .data T23 c4p1, .data T23 c4p2, .data T17 c4p3, .data T1 c4p4, .data T17 c4p5, .data T1 c4p6, .data T1 c4p7, .data .str c4p8, .full T18 [], .data T1 c4p10, .full T97 []]) false)]
def top (Rt : Int -> D4 -> D4 -> D4 -> Int -> D4 -> Int -> Int -> D4 -> Int -> Option α) (x0 : Unit) (x1 : D36) : Option α :=
 Rt x1.1 [0, 0, 0, 0] [0, 0, 0, 0] x1.2.2.2.1 x1.2.2.2.2.1 (List.replicate 32 0) 0 x1.2.2.2.2.2.2.2.1 x1.2.2.2.2.2.2.2.2.1 0
theorem top_eq (k : Nat) (Q : Ex -> St -> Option α) (x0 : Unit) (x1 : D36) :
  (den C k) (cB Try.f193) Q (St0 x0 x1) = top (fun c4p0 c4p1 c4p2 c4p3 c4p4 c4p5 c4p6 c4p7 c4p8 c4p10 => Q .ret (St1 c4p0 c4p1 c4p2 c4p3 c4p4 c4p5 c4p6 c4p7 c4p8 c4p10)) x0 x1 := plainly Js (by kernel_rfl)
def run (x0 : Unit) (x1 : D36) : Option D36 := top (α := Int × List Int × List Int × List Int × Int × List Int × Int × Int × List Int × List Int × Int × List D4 × Unit) (fun c4p0 c4p1 c4p2 c4p3 c4p4 c4p5 c4p6 c4p7 c4p8 c4p10 => some (c4p0, c4p1, c4p2, c4p3, c4p4, c4p5, c4p6, c4p7, c4p8, [], c4p10, [], ())) x0 x1
def F : Fn := ⟨T99, T94, false, fun x => run x.1 x.2.1⟩
theorem con : Con Try.prog 193 F /\ Named Try.prog 193 :=
 con_of2 (C := C) (ctx_ok (by kernel_rfl) (by kernel_rfl) (by kernel_rfl) (by kernel_rfl) trivial) (by kernel_rfl) Try.func193 (by kernel_rfl) (c := cB Try.f193) (by kernel_rfl) (by kernel_rfl) F (fun x => by simp [F, spread, Try.ntmps193]) (fun x => (St0 x.1 x.2.1)) (fun x => by kernel_rfl) fun x => (top_eq fuel _ x.1 x.2.1).trans (by kernel_rfl)
end Go.Bx.load_meta__bare
namespace Go.Bx.load_meta__check
def Js : List Nat := [8]
def C : Ctx := ⟨[(3, T1), (4, .bool), (5, T18), (9, .str), (29, T16), (181, T94), (213, .unit)], [], [], fnL [(191, load_small.F)], noSh, [], invL [], [(2, [4]), (1, [5]), (4, [5, 24, 25, 26]), (9, [5, 24, 25, 26]), (21, [5])], [], [], 0, 0⟩
def St0 (x0 : Unit) (x1 : D36) : St := stL 37 [(0, .data .unit x0), (1, .data T94 x1)] []
def St1 (x5 : Bool) (x24 : D4) (x25 x26 : Int) : St := stL 37 [(5, .data .bool x5), (24, .data T16 x24), (25, .data T1 x25), (26, .data T1 x26)] []
noncomputable def cd0 : Code := cL (cL (cR (cL (cR (cR (cB Try.f194))))))
def St2 (x5 : Bool) : St := stL 37 [(5, .data .bool x5)] []
def l0s (Nx : Bool -> D4 -> Int -> Int -> Option α) (Xt0 : Bool -> Option α) (x5 : Bool) (x24 : D4) (x25 x26 : Int) : Option α :=
 if (decide (x26 < x25)) = true then
  if 0 <= x26 /\ x26 < (x24.length : Int) then
   Nx (cond x5 ((List.getD x24 (Int.toNat x26) 0) != 0) false) x24 x25 (IntKind.i64.wrap (x26 + 1))
  else none
 else
  Xt0 x5
theorem l0s_eq (k : Nat) (next : St -> Option α) (Q : Ex -> St -> Option α) (x5 : Bool) (x24 : D4) (x25 x26 : Int) :
  rnd C k cd0 9 Q next (St1 x5 x24 x25 x26) = l0s (fun x5 x24 x25 x26 => next (St1 x5 x24 x25 x26)) (fun x5 => Q (.exit 0) (St2 x5)) x5 x24 x25 x26 := plainly Js (by kernel_rfl)
def l0 (k : Nat) (Xt0 : Bool -> Option α) : Nat -> Bool -> D4 -> Int -> Int -> Option α
 | 0, _, _, _, _ => none
 | n + 1, x5, x24, x25, x26 => l0s (l0 k Xt0 n) Xt0 x5 x24 x25 x26
theorem l0_eq (k : Nat) (Q : Ex -> St -> Option α) : ∀ (n : Nat) (x5 : Bool) (x24 : D4) (x25 x26 : Int), iter (rnd C k cd0 9 Q) n (St1 x5 x24 x25 x26) = l0 k (fun x5 => Q (.exit 0) (St2 x5)) n x5 x24 x25 x26
 | 0, _, _, _, _ => rfl
 | n + 1, x5, x24, x25, x26 => (iter_succ _ _ _).trans ((l0s_eq k _ Q x5 x24 x25 x26).trans (congrArg (fun N => l0s N (fun x5 => Q (.exit 0) (St2 x5)) x5 x24 x25 x26) (by funext; exact l0_eq k Q n _ _ _ _)))
noncomputable def cd1 : Code := cR (cR (cR (cB Try.f194)))
def St3 (x5 : Bool) : St := stL 37 [(5, .data .bool x5)] []
def St4 (x4 : Bool) : St := stL 37 [(4, .data .bool x4)] []
def j0 (Rt : Bool -> Option α) (x5 : Bool) : Option α :=
 Rt x5
theorem j0_eq (k : Nat) (Q : Ex -> St -> Option α) (x5 : Bool) :
  (den C k) cd1 Q (St3 x5) = j0 (fun x4 => Q .ret (St4 x4)) x5 := plainly Js (by kernel_rfl)
theorem a0 (k : Nat) (Q : Ex -> St -> Option α) (x5 : Bool) (x24 : D4) (x25 x26 : Int) :
  (lp C k) cd0 (blkQ C 0 (sq (den C k) (lp C k) Js C cd1 Q)) (St1 x5 x24 x25 x26) = l0 k (fun x5 => j0 (fun x4 => Q .ret (St4 x4)) x5) k x5 x24 x25 x26 :=
 (lp_iter 9 (by kernel_rfl)).trans ((l0_eq k _ k x5 x24 x25 x26).trans (congrArg (fun X => l0 k X k x5 x24 x25 x26) (funext fun x5 => (Eq.trans (b := (den C k) cd1 Q (St3 x5)) (by kernel_rfl) (by simp only [j0_eq])))))
def top (k : Nat) (Rt : Bool -> Option α) (x0 : Unit) (x1 : D36) : Option α :=
 (load_small.run x1.2.2.2.2.1 65535).bind fun y1 =>
 (if (y1 == true) = true then load_small.run x1.2.2.2.2.2.2.2.1 77 else some false).bind fun y2 =>
 l0 k (fun x5 => j0 Rt x5) k (cond (cond y1 y2 false) (decide ((x1.2.2.2.2.2.2.2.2.1.length : Int) <= 32)) false) x1.2.2.2.2.2.2.2.2.1 (x1.2.2.2.2.2.2.2.2.1.length : Int) 0
theorem top_eq (k : Nat) (Q : Ex -> St -> Option α) (x0 : Unit) (x1 : D36) :
  (den C k) (cB Try.f194) Q (St0 x0 x1) = top k (fun x4 => Q .ret (St4 x4)) x0 x1 := by
 have h : ∀ (D L : DT α), denJ D L Js C (cB Try.f194) Q (St0 x0 x1) =
    (load_small.run x1.2.2.2.2.1 65535).bind fun y1 =>
    (if (y1 == true) = true then load_small.run x1.2.2.2.2.2.2.2.1 77 else some false).bind fun y2 =>
    L cd0 (blkQ C 0 (sq D L Js C cd1 Q)) (St1 (cond (cond y1 y2 false) (decide ((x1.2.2.2.2.2.2.2.2.1.length : Int) <= 32)) false) x1.2.2.2.2.2.2.2.2.1 (x1.2.2.2.2.2.2.2.2.1.length : Int) 0) := by
  intro D L; kernel_rfl
 have h2 := via (k := k) h
 refine h2.trans ?_
 simp only [a0]
 first | rfl | kernel_rfl
def run (x0 : Unit) (x1 : D36) : Option (Bool) := top (α := Bool) fuel (fun x4 => some x4) x0 x1
def F : Fn := ⟨T99, .bool, false, fun x => run x.1 x.2.1⟩
theorem con : Con Try.prog 194 F /\ Named Try.prog 194 :=
 con_of2 (C := C) (ctx_ok (by kernel_rfl) (by kernel_rfl) (by kernel_rfl) (by kernel_rfl) ⟨.inl load_small.con, trivial⟩) (by kernel_rfl) Try.func194 (by kernel_rfl) (c := cB Try.f194) (by kernel_rfl) (by kernel_rfl) F (fun x => by simp [F, spread, Try.ntmps194]) (fun x => (St0 x.1 x.2.1)) (fun x => by kernel_rfl) fun x => (top_eq fuel _ x.1 x.2.1).trans (by kernel_rfl)
end Go.Bx.load_meta__check
namespace Go.Bx.load_turn__bare
def Js : List Nat := []
def C : Ctx := ⟨[(3, T1), (179, T93), (181, T94), (214, .unit)], [], [], fnL [], noSh, [], invL [], [(2, [4])], [], [], 0, 0⟩
def St0 (x0 : Unit) (x1 : D36) : St := stL 12 [(0, .data .unit x0), (1, .data T94 x1)] []
def St1 (c4p0 : Int) (c4p1 c4p2 c4p3 : D4) (c4p4 : Int) (c4p5 : D4) (c4p6 c4p7 : Int) (c4p8 : D4) (c4p10 : Int) (c4p11 : D21) : St := stL 12 [(4, .ref 4 0 [])] [(4, .cell T94 (.agg T94 [.data T1 c4p0, .data T23 c4p1, .data T23 c4p2, .data T17 c4p3, .data T1 c4p4, .data T17 c4p5, .data T1 c4p6, .data T1 c4p7, .data .str c4p8, .full T18 [], .data T1 c4p10, .data T93 c4p11]) false)]
def top (Rt : Int -> D4 -> D4 -> D4 -> Int -> D4 -> Int -> Int -> D4 -> Int -> D21 -> Option α) (x0 : Unit) (x1 : D36) : Option α :=
 Rt x1.1 [0, 0, 0, 0] [0, 0, 0, 0] (List.replicate 32 0) 0 (List.replicate 32 0) 0 0 [] x1.2.2.2.2.2.2.2.2.2.2.1 x1.2.2.2.2.2.2.2.2.2.2.2.1
theorem top_eq (k : Nat) (Q : Ex -> St -> Option α) (x0 : Unit) (x1 : D36) :
  (den C k) (cB Try.f197) Q (St0 x0 x1) = top (fun c4p0 c4p1 c4p2 c4p3 c4p4 c4p5 c4p6 c4p7 c4p8 c4p10 c4p11 => Q .ret (St1 c4p0 c4p1 c4p2 c4p3 c4p4 c4p5 c4p6 c4p7 c4p8 c4p10 c4p11)) x0 x1 := plainly Js (by kernel_rfl)
def run (x0 : Unit) (x1 : D36) : Option D36 := top (α := Int × List Int × List Int × List Int × Int × List Int × Int × Int × List Int × List Int × Int × List D4 × Unit) (fun c4p0 c4p1 c4p2 c4p3 c4p4 c4p5 c4p6 c4p7 c4p8 c4p10 c4p11 => some (c4p0, c4p1, c4p2, c4p3, c4p4, c4p5, c4p6, c4p7, c4p8, [], c4p10, c4p11, ())) x0 x1
def F : Fn := ⟨T99, T94, false, fun x => run x.1 x.2.1⟩
theorem con : Con Try.prog 197 F /\ Named Try.prog 197 :=
 con_of2 (C := C) (ctx_ok (by kernel_rfl) (by kernel_rfl) (by kernel_rfl) (by kernel_rfl) trivial) (by kernel_rfl) Try.func197 (by kernel_rfl) (c := cB Try.f197) (by kernel_rfl) (by kernel_rfl) F (fun x => by simp [F, spread, Try.ntmps197]) (fun x => (St0 x.1 x.2.1)) (fun x => by kernel_rfl) fun x => (top_eq fuel _ x.1 x.2.1).trans (by kernel_rfl)
end Go.Bx.load_turn__bare
namespace Go.Bx.load_turn__check
def Js : List Nat := []
def C : Ctx := ⟨[(3, T1), (4, .bool), (179, T93), (181, T94), (214, .unit)], [], [], fnL [(191, load_small.F)], noSh, [], invL [], [(2, [4])], [], [], 0, 0⟩
def St0 (x0 : Unit) (x1 : D36) : St := stL 20 [(0, .data .unit x0), (1, .data T94 x1)] []
def St1 (x4 : Bool) : St := stL 20 [(4, .data .bool x4)] []
def top (Rt : Bool -> Option α) (x0 : Unit) (x1 : D36) : Option α :=
 (load_small.run x1.2.2.2.2.2.2.2.2.2.2.1 4294967295).bind fun y1 =>
 Rt (cond (cond y1 (decide ((x1.2.2.2.2.2.2.2.2.2.2.2.1.length : Int) >= 1)) false) (decide ((x1.2.2.2.2.2.2.2.2.2.2.2.1.length : Int) <= 19)) false)
theorem top_eq (k : Nat) (Q : Ex -> St -> Option α) (x0 : Unit) (x1 : D36) :
  (den C k) (cB Try.f198) Q (St0 x0 x1) = top (fun x4 => Q .ret (St1 x4)) x0 x1 := plainly Js (by kernel_rfl)
def run (x0 : Unit) (x1 : D36) : Option (Bool) := top (α := Bool) (fun x4 => some x4) x0 x1
def F : Fn := ⟨T99, .bool, false, fun x => run x.1 x.2.1⟩
theorem con : Con Try.prog 198 F /\ Named Try.prog 198 :=
 con_of2 (C := C) (ctx_ok (by kernel_rfl) (by kernel_rfl) (by kernel_rfl) (by kernel_rfl) ⟨.inl load_small.con, trivial⟩) (by kernel_rfl) Try.func198 (by kernel_rfl) (c := cB Try.f198) (by kernel_rfl) (by kernel_rfl) F (fun x => by simp [F, spread, Try.ntmps198]) (fun x => (St0 x.1 x.2.1)) (fun x => by kernel_rfl) fun x => (top_eq fuel _ x.1 x.2.1).trans (by kernel_rfl)
end Go.Bx.load_turn__check
namespace Go.Bx.load_kindOf_s0
def Js : List Nat := [5]
def C : Ctx := ⟨[(211, T96), (213, .unit), (214, .unit)], [], [], fnL [], noSh, [], invL [], [(2, [2, 3]), (1, []), (20, [0, 4, 5])], [], [], 0, 0⟩
def St0 (x0 : Int) : St := stL 20 [(0, .data T1 x0)] []
def St1 (x0 x4 : Int) (x5 : Bool) : St := stL 20 [(0, .data T1 x0), (4, .data T1 x4), (5, .data .bool x5)] []
noncomputable def cd0 : Code := cR (cR (cB Try.f163))
noncomputable def cd1 : Code := cR (cL (cR (cL (cR (cB Try.f163)))))
def St2 (x2y : D37) (x3 : Bool) : St := stL 20 [(2, .ifc 211 (.data T96 x2y)), (3, .data .bool x3)] []
def St3 (x2y : Unit) (x3 : Bool) : St := stL 20 [(2, .ifc 213 (.data .unit x2y)), (3, .data .bool x3)] []
def St4 (x2y : Unit) (x3 : Bool) : St := stL 20 [(2, .ifc 214 (.data .unit x2y)), (3, .data .bool x3)] []
def St5 (x3 : Bool) : St := stL 20 [(3, .data .bool x3)] []
def j0 (Rt0 : D37 -> Bool -> Option α) (Rt1 : Unit -> Bool -> Option α) (Rt2 : Unit -> Bool -> Option α) (Rt3 : Bool -> Option α) (x0 x4 : Int) (x5 : Bool) : Option α :=
 if x5 = true then
  Rt0 ((x0 == 3), ()) true
 else
  if (x4 == 2) = true then
   Rt1 () true
  else
   if (x4 == 4) = true then
    Rt2 () true
   else
    Rt3 false
theorem j0_eq (k : Nat) (Q : Ex -> St -> Option α) (x0 x4 : Int) (x5 : Bool) :
  (den C k) cd1 (blkQ C 0 (sq (den C k) (lp C k) Js C cd0 (endQ C Q))) (St1 x0 x4 x5) = j0 (fun x2y x3 => Q .ret (St2 x2y x3)) (fun x2y x3 => Q .ret (St3 x2y x3)) (fun x2y x3 => Q .ret (St4 x2y x3)) (fun x3 => Q .ret (St5 x3)) x0 x4 x5 := plainly Js (by kernel_rfl)
def top (Rt0 : D37 -> Bool -> Option α) (Rt1 : Unit -> Bool -> Option α) (Rt2 : Unit -> Bool -> Option α) (Rt3 : Bool -> Option α) (x0 : Int) : Option α :=
 if (x0 == 1) = true then
  j0 Rt0 Rt1 Rt2 Rt3 x0 x0 (x0 == 1)
 else
  j0 Rt0 Rt1 Rt2 Rt3 x0 x0 (x0 == 3)
theorem top_eq (k : Nat) (Q : Ex -> St -> Option α) (x0 : Int) :
  (den C k) (cB Try.f163) (endQ C Q) (St0 x0) = top (fun x2y x3 => Q .ret (St2 x2y x3)) (fun x2y x3 => Q .ret (St3 x2y x3)) (fun x2y x3 => Q .ret (St4 x2y x3)) (fun x3 => Q .ret (St5 x3)) x0 := by
 have h : ∀ (D L : DT α), denJ D L Js C (cB Try.f163) (endQ C Q) (St0 x0) =
    if (x0 == 1) = true then
     D cd1 (blkQ C 0 (sq D L Js C cd0 (endQ C Q))) (St1 x0 x0 (x0 == 1))
    else
     D cd1 (blkQ C 0 (sq D L Js C cd0 (endQ C Q))) (St1 x0 x0 (x0 == 3)) := by
  intro D L; kernel_rfl
 have h2 := via (k := k) h
 refine h2.trans ?_
 simp only [j0_eq]
 first | rfl | kernel_rfl
def run (x0 : Int) : Option (D38 ⊕ (D39 ⊕ (D39 ⊕ (D37 ⊕ (Empty))))) := top (α := D38 ⊕ (D39 ⊕ (D39 ⊕ (D37 ⊕ (Empty))))) (fun x2y x3 => some (.inl (x2y, x3, ()))) (fun x2y x3 => some (.inr (.inl (x2y, x3, ())))) (fun x2y x3 => some (.inr (.inr (.inl (x2y, x3, ()))))) (fun x3 => some (.inr (.inr (.inr (.inl (x3, ())))))) x0
def Sp : SpecA := ⟨[hD T1], [], T4, [⟨.tup [.ifc 211 (hD T96), hD .bool], [], T100⟩, ⟨.tup [.ifc 213 (hD .unit), hD .bool], [], T101⟩, ⟨.tup [.ifc 214 (hD .unit), hD .bool], [], T101⟩, ⟨.tup [.any, hD .bool], [], T96⟩], fun x => run x.1⟩
set_option maxRecDepth 100000 in
theorem sok : SOk Try.prog 163 Sp.h := by
 refine sok_of_denA (C := C) (ctx_ok (by kernel_rfl) (by kernel_rfl) (by kernel_rfl) (by kernel_rfl) trivial) (by kernel_rfl) Try.func163 (c := cB Try.f163) (by kernel_rfl) (by kernel_rfl) Sp fuel (by kernel_rfl) (by kernel_rfl) ?_
 intro x r h
 rw [<- h]
 have h1 : Sp.start x Try.f163.ntmps = (St0 x.1) := by kernel_rfl
 rw [h1]
 refine (top_eq fuel (finS C Try.f163.results.toList Sp.read) x.1).trans ?_
 kernel_rfl
theorem named : Named Try.prog 163 := named_of Try.func163 (by kernel_rfl) (by kernel_rfl)
end Go.Bx.load_kindOf_s0
namespace Go.Bx.load_Check
def Js : List Nat := []
def C : Ctx := ⟨[(3, T1), (35, T1), (181, T94)], [], [], fnL [(170, load_same.F), (187, load_transfer__bare.F), (188, load_transfer__check.F), (193, load_meta__bare.F), (194, load_meta__check.F), (197, load_turn__bare.F), (198, load_turn__check.F)], shL [(163, [.alt load_kindOf_s0.Sp])], [(8, 26)], invL [(211, [("bascule/load.bare", 187), ("bascule/load.check", 188)]), (213, [("bascule/load.bare", 193), ("bascule/load.check", 194)]), (214, [("bascule/load.bare", 197), ("bascule/load.check", 198)])], [(2, [2])], [], [], 0, 0⟩
def St0 (x0 : D36) : St := stL 25 [(0, .data T94 x0)] []
def St1 (x2 : Int) : St := stL 25 [(2, .data T1 x2)] []
def top (Rt : Int -> Option α) (x0 : D36) : Option α :=
 (load_kindOf_s0.run x0.1).bind fun y1 => (Sum.elim (fun y2 =>
  if (not y2.2.1) = true then
   Rt 2
  else
   (load_transfer__check.run y2.1 x0).bind fun y6 =>
   (if ((not y6) == false) = true then load_transfer__bare.run y2.1 x0 else some (0, [0, 0, 0, 0], [0, 0, 0, 0], (List.replicate 32 0), 0, (List.replicate 32 0), 0, 0, [], [], 0, [], ())).bind fun y7 =>
   (if ((not y6) == false) = true then load_same.run x0 y7 else some false).bind fun y8 =>
   if (cond (not y6) true (not y8)) = true then
    Rt 3
   else
    Rt 0) (Sum.elim (fun y3 =>
  if (not y3.2.1) = true then
   Rt 2
  else
   (load_meta__check.run y3.1 x0).bind fun y9 =>
   (if ((not y9) == false) = true then load_meta__bare.run y3.1 x0 else some (0, [0, 0, 0, 0], [0, 0, 0, 0], (List.replicate 32 0), 0, (List.replicate 32 0), 0, 0, [], [], 0, [], ())).bind fun y10 =>
   (if ((not y9) == false) = true then load_same.run x0 y10 else some false).bind fun y11 =>
   if (cond (not y9) true (not y11)) = true then
    Rt 3
   else
    Rt 0) (Sum.elim (fun y4 =>
  if (not y4.2.1) = true then
   Rt 2
  else
   (load_turn__check.run y4.1 x0).bind fun y12 =>
   (if ((not y12) == false) = true then load_turn__bare.run y4.1 x0 else some (0, [0, 0, 0, 0], [0, 0, 0, 0], (List.replicate 32 0), 0, (List.replicate 32 0), 0, 0, [], [], 0, [], ())).bind fun y13 =>
   (if ((not y12) == false) = true then load_same.run x0 y13 else some false).bind fun y14 =>
   if (cond (not y12) true (not y14)) = true then
    Rt 3
   else
    Rt 0) (Sum.elim (fun y5 =>
  if (not y5.1) = true then
   Rt 2
  else
   none) (fun e => e.elim))))) y1
theorem top_eq (k : Nat) (Q : Ex -> St -> Option α) (x0 : D36) :
  (den C k) (cB Try.f164) Q (St0 x0) = top (fun x2 => Q .ret (St1 x2)) x0 := plainly Js (by kernel_rfl)
def run (x0 : D36) : Option (Int) := top (α := Int) (fun x2 => some x2) x0
def F : Fn := ⟨T102, T1, false, fun x => run x.1⟩
theorem con : Con Try.prog 164 F /\ Named Try.prog 164 :=
 con_of2 (C := C) (ctx_ok_sh (by kernel_rfl) (by kernel_rfl) (by kernel_rfl) (by kernel_rfl) ⟨.inl load_same.con, ⟨.inl load_transfer__bare.con, ⟨.inl load_transfer__check.con, ⟨.inl load_meta__bare.con, ⟨.inl load_meta__check.con, ⟨.inl load_turn__bare.con, ⟨.inl load_turn__check.con, trivial⟩⟩⟩⟩⟩⟩⟩ ⟨⟨⟨load_kindOf_s0.sok, trivial⟩, load_kindOf_s0.named⟩, trivial⟩) (by kernel_rfl) Try.func164 (by kernel_rfl) (c := cB Try.f164) (by kernel_rfl) (by kernel_rfl) F (fun x => by simp [F, spread, Try.ntmps164]) (fun x => (St0 x.1)) (fun x => by kernel_rfl) fun x => (top_eq fuel _ x.1).trans (by kernel_rfl)
end Go.Bx.load_Check
namespace Go.Bx.basculeref_Order
def Js : List Nat := []
def C : Ctx := ⟨[(3, T1), (24, T23)], [], [], fnL [(43, basculeref_of.F), (114, basculeref_compare.F)], noSh, [], invL [], [(2, [4])], [], [], 0, 0⟩
def St0 (x0 x1 : D4) : St := stL 10 [(0, .data T23 x0), (1, .data T23 x1)] []
def St1 (x4 : Int) : St := stL 10 [(4, .data T1 x4)] []
def top (Rt : Int -> Option α) (x0 x1 : D4) : Option α :=
 (basculeref_of.run x0).bind fun y1 =>
 (basculeref_of.run x1).bind fun y2 =>
 (basculeref_compare.run y1 y2).bind fun y3 =>
 Rt y3
theorem top_eq (k : Nat) (Q : Ex -> St -> Option α) (x0 x1 : D4) :
  (den C k) (cB Try.f53) Q (St0 x0 x1) = top (fun x4 => Q .ret (St1 x4)) x0 x1 := plainly Js (by kernel_rfl)
def run (x0 x1 : D4) : Option (Int) := top (α := Int) (fun x4 => some x4) x0 x1
def F : Fn := ⟨T46, T1, false, fun x => run x.1 x.2.1⟩
theorem con : Con Try.prog 53 F /\ Named Try.prog 53 :=
 con_of2 (C := C) (ctx_ok (by kernel_rfl) (by kernel_rfl) (by kernel_rfl) (by kernel_rfl) ⟨.inl basculeref_of.con, ⟨.inl basculeref_compare.con, trivial⟩⟩) (by kernel_rfl) Try.func53 (by kernel_rfl) (c := cB Try.f53) (by kernel_rfl) (by kernel_rfl) F (fun x => by simp [F, spread, Try.ntmps53]) (fun x => (St0 x.1 x.2.1)) (fun x => by kernel_rfl) fun x => (top_eq fuel _ x.1 x.2.1).trans (by kernel_rfl)
end Go.Bx.basculeref_Order
namespace Go.Bx.basculeref_only
def Js : List Nat := [5]
def C : Ctx := ⟨[(3, T1), (4, .bool), (9, .str), (24, T23), (29, T16), (38, T17), (179, T93), (181, T94)], [], [], fnL [], noSh, [], invL [], [(2, [2, 3]), (1, [2]), (20, [1, 2, 5, 6])], [(2, [.dat false 2 [9], .dat false 2 []])], [], 0, 0⟩
def St0 (x0 : D36) : St := stL 49 [(0, .data T94 x0)] []
def St1 (x5 : Int) (x6 : Bool) (c1 : D36) (c2p0 : Int) (c2p1 c2p2 c2p3 : D4) (c2p4 : Int) (c2p5 : D4) (c2p6 c2p7 : Int) (c2p8 : D4) (c2p10 : Int) : St := stL 49 [(1, .ref 1 0 []), (2, .ref 2 0 []), (5, .data T1 x5), (6, .data .bool x6)] [(1, .cell T94 (.data T94 c1) false), (2, .cell T94 (.agg T94 [.data T1 c2p0, .data T23 c2p1, .data T23 c2p2, .data T17 c2p3, .data T1 c2p4, .data T17 c2p5, .data T1 c2p6, .data T1 c2p7, .data .str c2p8, .full T18 [], .data T1 c2p10, .full T97 []]) false)]
noncomputable def cd0 : Code := cR (cR (cB Try.f167))
noncomputable def cd1 : Code := cR (cL (cR (cL (cR (cB Try.f167)))))
def St2 (x3 : Bool) (c2 : D36) : St := stL 49 [(2, .ref 2 0 []), (3, .data .bool x3)] [(2, .cell T94 (.data T94 c2) false)]
def j0 (Rt : Bool -> D36 -> Option α) (x5 : Int) (x6 : Bool) (c1 : D36) (c2p0 : Int) (c2p1 c2p2 c2p3 : D4) (c2p4 : Int) (c2p5 : D4) (c2p6 c2p7 : Int) (c2p8 : D4) (c2p10 : Int) : Option α :=
 if x6 = true then
  Rt true (c1.1, c1.2.1, c1.2.2.1, c1.2.2.2.1, c1.2.2.2.2.1, c1.2.2.2.2.2.1, c1.2.2.2.2.2.2.1, 0, [], c1.2.2.2.2.2.2.2.2.2.1, 0, [], ())
 else
  if (x5 == 2) = true then
   Rt true (c1.1, [0, 0, 0, 0], [0, 0, 0, 0], c1.2.2.2.1, c1.2.2.2.2.1, (List.replicate 32 0), 0, c1.2.2.2.2.2.2.2.1, c1.2.2.2.2.2.2.2.2.1, [], 0, [], ())
  else
   if (x5 == 4) = true then
    Rt true (c1.1, [0, 0, 0, 0], [0, 0, 0, 0], (List.replicate 32 0), 0, (List.replicate 32 0), 0, 0, [], [], c1.2.2.2.2.2.2.2.2.2.2.1, c1.2.2.2.2.2.2.2.2.2.2.2.1, ())
   else
    Rt false (0, [0, 0, 0, 0], [0, 0, 0, 0], (List.replicate 32 0), 0, (List.replicate 32 0), 0, 0, [], [], 0, [], ())
theorem j0_eq (k : Nat) (Q : Ex -> St -> Option α) (x5 : Int) (x6 : Bool) (c1 : D36) (c2p0 : Int) (c2p1 c2p2 c2p3 : D4) (c2p4 : Int) (c2p5 : D4) (c2p6 c2p7 : Int) (c2p8 : D4) (c2p10 : Int) :
  (den C k) cd1 (blkQ C 0 (sq (den C k) (lp C k) Js C cd0 Q)) (St1 x5 x6 c1 c2p0 c2p1 c2p2 c2p3 c2p4 c2p5 c2p6 c2p7 c2p8 c2p10) = j0 (fun x3 c2 => Q .ret (St2 x3 c2)) x5 x6 c1 c2p0 c2p1 c2p2 c2p3 c2p4 c2p5 c2p6 c2p7 c2p8 c2p10 := plainly Js (by kernel_rfl)
def top (Rt : Bool -> D36 -> Option α) (x0 : D36) : Option α :=
 if (x0.1 == 1) = true then
  j0 Rt x0.1 (x0.1 == 1) x0 0 [0, 0, 0, 0] [0, 0, 0, 0] (List.replicate 32 0) 0 (List.replicate 32 0) 0 0 [] 0
 else
  j0 Rt x0.1 (x0.1 == 3) x0 0 [0, 0, 0, 0] [0, 0, 0, 0] (List.replicate 32 0) 0 (List.replicate 32 0) 0 0 [] 0
theorem top_eq (k : Nat) (Q : Ex -> St -> Option α) (x0 : D36) :
  (den C k) (cB Try.f167) Q (St0 x0) = top (fun x3 c2 => Q .ret (St2 x3 c2)) x0 := by
 have h : ∀ (D L : DT α), denJ D L Js C (cB Try.f167) Q (St0 x0) =
    if (x0.1 == 1) = true then
     D cd1 (blkQ C 0 (sq D L Js C cd0 Q)) (St1 x0.1 (x0.1 == 1) x0 0 [0, 0, 0, 0] [0, 0, 0, 0] (List.replicate 32 0) 0 (List.replicate 32 0) 0 0 [] 0)
    else
     D cd1 (blkQ C 0 (sq D L Js C cd0 Q)) (St1 x0.1 (x0.1 == 3) x0 0 [0, 0, 0, 0] [0, 0, 0, 0] (List.replicate 32 0) 0 (List.replicate 32 0) 0 0 [] 0) := by
  intro D L; kernel_rfl
 have h2 := via (k := k) h
 refine h2.trans ?_
 simp only [j0_eq]
 first | rfl | kernel_rfl
def run (x0 : D36) : Option D48 := top (α := D36 × Bool × Unit) (fun x3 c2 => some (c2, x3, ())) x0
def F : Fn := ⟨T102, T121, true, fun x => run x.1⟩
theorem con : Con Try.prog 167 F /\ Named Try.prog 167 :=
 con_of2 (C := C) (ctx_ok (by kernel_rfl) (by kernel_rfl) (by kernel_rfl) (by kernel_rfl) trivial) (by kernel_rfl) Try.func167 (by kernel_rfl) (c := cB Try.f167) (by kernel_rfl) (by kernel_rfl) F (fun x => by simp [F, spread, Try.ntmps167]) (fun x => (St0 x.1)) (fun x => by kernel_rfl) fun x => (top_eq fuel _ x.1).trans (by kernel_rfl)
end Go.Bx.basculeref_only
namespace Go.Bx.basculeref_SameLoad
def Js : List Nat := [10]
def C : Ctx := ⟨[(3, T1), (4, .bool), (9, .str), (24, T23), (29, T16), (38, T17), (179, T93), (181, T94), (198, T97)], [], [], fnL [], noSh, [], invL [], [(2, [4]), (1, [2, 3]), (4, [2, 3, 24, 25]), (12, [2, 3, 24, 25]), (27, [2, 3])], [], [], 0, 0⟩
def St0 (x0 x1 : D36) : St := stL 108 [(0, .data T94 x0), (1, .data T94 x1)] []
def St1 (x4 : Bool) : St := stL 108 [(4, .data .bool x4)] []
def St2 (x24 x25 : Int) (c2 c3 : D36) : St := stL 108 [(2, .ref 2 0 []), (3, .ref 3 0 []), (24, .data T1 x24), (25, .data T1 x25)] [(2, .cell T94 (.data T94 c2) false), (3, .cell T94 (.data T94 c3) false)]
noncomputable def cd0 : Code := cL (cL (cR (cL (cR (cR (cB Try.f168))))))
def St3 (c2 c3 : D36) : St := stL 108 [(2, .ref 2 0 []), (3, .ref 3 0 [])] [(2, .cell T94 (.data T94 c2) false), (3, .cell T94 (.data T94 c3) false)]
def l0s (Nx : Int -> Int -> D36 -> D36 -> Option α) (Rt : Bool -> Option α) (Xt0 : D36 -> D36 -> Option α) (x24 x25 : Int) (c2 c3 : D36) : Option α :=
 if (decide (x25 < x24)) = true then
  if 0 <= x25 /\ x25 < (c2.2.2.2.2.2.2.2.2.2.2.2.1.length : Int) then
   if 0 <= x25 /\ x25 < (c3.2.2.2.2.2.2.2.2.2.2.2.1.length : Int) then
    if (not (beqD T97 (List.getD c2.2.2.2.2.2.2.2.2.2.2.2.1 (Int.toNat x25) (List.replicate 20 0)) (List.getD c3.2.2.2.2.2.2.2.2.2.2.2.1 (Int.toNat x25) (List.replicate 20 0)))) = true then
     Rt false
    else
     Nx x24 (IntKind.i64.wrap (x25 + 1)) c2 c3
   else none
  else none
 else
  Xt0 c2 c3
theorem l0s_eq (k : Nat) (next : St -> Option α) (Q : Ex -> St -> Option α) (x24 x25 : Int) (c2 c3 : D36) :
  rnd C k cd0 12 Q next (St2 x24 x25 c2 c3) = l0s (fun x24 x25 c2 c3 => next (St2 x24 x25 c2 c3)) (fun x4 => Q .ret (St1 x4)) (fun c2 c3 => Q (.exit 0) (St3 c2 c3)) x24 x25 c2 c3 := plainly Js (by kernel_rfl)
def l0 (k : Nat) (Rt : Bool -> Option α) (Xt0 : D36 -> D36 -> Option α) : Nat -> Int -> Int -> D36 -> D36 -> Option α
 | 0, _, _, _, _ => none
 | n + 1, x24, x25, c2, c3 => l0s (l0 k Rt Xt0 n) Rt Xt0 x24 x25 c2 c3
theorem l0_eq (k : Nat) (Q : Ex -> St -> Option α) : ∀ (n : Nat) (x24 x25 : Int) (c2 c3 : D36), iter (rnd C k cd0 12 Q) n (St2 x24 x25 c2 c3) = l0 k (fun x4 => Q .ret (St1 x4)) (fun c2 c3 => Q (.exit 0) (St3 c2 c3)) n x24 x25 c2 c3
 | 0, _, _, _, _ => rfl
 | n + 1, x24, x25, c2, c3 => (iter_succ _ _ _).trans ((l0s_eq k _ Q x24 x25 c2 c3).trans (congrArg (fun N => l0s N (fun x4 => Q .ret (St1 x4)) (fun c2 c3 => Q (.exit 0) (St3 c2 c3)) x24 x25 c2 c3) (by funext; exact l0_eq k Q n _ _ _ _)))
theorem l0_congr (k : Nat) (Rt : Bool -> Option α) (Xt0 : D36 -> D36 -> Option α) (Rtq : Bool -> Option α) (Xt0q : D36 -> D36 -> Option α) (hRt : ∀ (x4 : Bool), Rt x4 = Rtq x4) (hXt0 : ∀ (c2 c3 : D36), Xt0 c2 c3 = Xt0q c2 c3) (n : Nat) (x24 x25 : Int) (c2 c3 : D36) : l0 k Rt Xt0 n x24 x25 c2 c3 = l0 k Rtq Xt0q n x24 x25 c2 c3 := by
 obtain rfl : Rt = Rtq := by funext x4; exact hRt x4
 obtain rfl : Xt0 = Xt0q := by funext c2; funext c3; exact hXt0 c2 c3
 rfl
noncomputable def cd1 : Code := cR (cR (cR (cB Try.f168)))
def St4 (c2 c3 : D36) : St := stL 108 [(2, .ref 2 0 []), (3, .ref 3 0 [])] [(2, .cell T94 (.data T94 c2) false), (3, .cell T94 (.data T94 c3) false)]
def j0 (Rt : Bool -> Option α) (c2 c3 : D36) : Option α :=
 Rt (cond (cond (cond (cond (cond (cond (cond (cond (cond (c2.1 == c3.1) (beqD T23 c2.2.1 c3.2.1) false) (beqD T23 c2.2.2.1 c3.2.2.1) false) (beqD T17 c2.2.2.2.1 c3.2.2.2.1) false) (c2.2.2.2.2.1 == c3.2.2.2.2.1) false) (beqD T17 c2.2.2.2.2.2.1 c3.2.2.2.2.2.1) false) (c2.2.2.2.2.2.2.1 == c3.2.2.2.2.2.2.1) false) (c2.2.2.2.2.2.2.2.1 == c3.2.2.2.2.2.2.2.1) false) (beqD .str c2.2.2.2.2.2.2.2.2.1 c3.2.2.2.2.2.2.2.2.1) false) (c2.2.2.2.2.2.2.2.2.2.2.1 == c3.2.2.2.2.2.2.2.2.2.2.1) false)
theorem j0_eq (k : Nat) (Q : Ex -> St -> Option α) (c2 c3 : D36) :
  (den C k) cd1 Q (St4 c2 c3) = j0 (fun x4 => Q .ret (St1 x4)) c2 c3 := plainly Js (by kernel_rfl)
theorem a0 (k : Nat) (Q : Ex -> St -> Option α) (x24 x25 : Int) (c2 c3 : D36) :
  (lp C k) cd0 (blkQ C 0 (sq (den C k) (lp C k) Js C cd1 Q)) (St2 x24 x25 c2 c3) = l0 k (fun x4 => (fun x4 => Q .ret (St1 x4)) x4) (fun c2 c3 => j0 (fun x4 => Q .ret (St1 x4)) c2 c3) k x24 x25 c2 c3 :=
 (lp_iter 12 (by kernel_rfl)).trans ((l0_eq k _ k x24 x25 c2 c3).trans (l0_congr k _ _ _ _ (fun x4 => (by kernel_rfl)) (fun c2 c3 => (Eq.trans (b := (den C k) cd1 Q (St4 c2 c3)) (by kernel_rfl) (by simp only [j0_eq]))) k x24 x25 c2 c3))
def top (k : Nat) (Rt : Bool -> Option α) (x0 x1 : D36) : Option α :=
 if (cond ((x0.2.2.2.2.2.2.2.2.2.2.2.1.length : Int) != (x1.2.2.2.2.2.2.2.2.2.2.2.1.length : Int)) true (not (beqD .str x0.2.2.2.2.2.2.2.2.2.1 x1.2.2.2.2.2.2.2.2.2.1))) = true then
  Rt false
 else
  l0 k (fun x4 => Rt x4) (fun c2 c3 => j0 Rt c2 c3) k (x0.2.2.2.2.2.2.2.2.2.2.2.1.length : Int) 0 x0 x1
theorem top_eq (k : Nat) (Q : Ex -> St -> Option α) (x0 x1 : D36) :
  (den C k) (cB Try.f168) Q (St0 x0 x1) = top k (fun x4 => Q .ret (St1 x4)) x0 x1 := by
 have h : ∀ (D L : DT α), denJ D L Js C (cB Try.f168) Q (St0 x0 x1) =
    if (cond ((x0.2.2.2.2.2.2.2.2.2.2.2.1.length : Int) != (x1.2.2.2.2.2.2.2.2.2.2.2.1.length : Int)) true (not (beqD .str x0.2.2.2.2.2.2.2.2.2.1 x1.2.2.2.2.2.2.2.2.2.1))) = true then
     Q .ret (St1 false)
    else
     L cd0 (blkQ C 0 (sq D L Js C cd1 Q)) (St2 (x0.2.2.2.2.2.2.2.2.2.2.2.1.length : Int) 0 x0 x1) := by
  intro D L; kernel_rfl
 have h2 := via (k := k) h
 refine h2.trans ?_
 simp only [a0]
 first | rfl | kernel_rfl
def run (x0 x1 : D36) : Option (Bool) := top (α := Bool) fuel (fun x4 => some x4) x0 x1
def F : Fn := ⟨T95, .bool, false, fun x => run x.1 x.2.1⟩
theorem con : Con Try.prog 168 F /\ Named Try.prog 168 :=
 con_of2 (C := C) (ctx_ok (by kernel_rfl) (by kernel_rfl) (by kernel_rfl) (by kernel_rfl) trivial) (by kernel_rfl) Try.func168 (by kernel_rfl) (c := cB Try.f168) (by kernel_rfl) (by kernel_rfl) F (fun x => by simp [F, spread, Try.ntmps168]) (fun x => (St0 x.1 x.2.1)) (fun x => by kernel_rfl) fun x => (top_eq fuel _ x.1 x.2.1).trans (by kernel_rfl)
end Go.Bx.basculeref_SameLoad
namespace Go.Bx.basculeref_hasNought
def Js : List Nat := [7]
def C : Ctx := ⟨[(4, .bool), (9, .str)], [], [], fnL [], noSh, [], invL [], [(2, [2]), (1, []), (4, [0, 3]), (6, [0, 3]), (18, [])], [], [], 0, 0⟩
def St0 (x0 : D4) : St := stL 14 [(0, .data .str x0)] []
def St1 (x0 : D4) (x3 : Int) : St := stL 14 [(0, .data .str x0), (3, .data T1 x3)] []
noncomputable def cd0 : Code := cL (cL (cR (cL (cR (cB Try.f169)))))
def St2 (x2 : Bool) : St := stL 14 [(2, .data .bool x2)] []
def St3 : St := stL 14 [] []
def l0s (Nx : D4 -> Int -> Option α) (Rt : Bool -> Option α) (Xt0 : Option α) (x0 : D4) (x3 : Int) : Option α :=
 if (decide (x3 < (x0.length : Int))) = true then
  if 0 <= x3 /\ x3 < (x0.length : Int) then
   if ((List.getD x0 (Int.toNat x3) 0) == 0) = true then
    Rt true
   else
    Nx x0 (IntKind.i64.wrap (x3 + 1))
  else none
 else
  Xt0
theorem l0s_eq (k : Nat) (next : St -> Option α) (Q : Ex -> St -> Option α) (x0 : D4) (x3 : Int) :
  rnd C k cd0 6 Q next (St1 x0 x3) = l0s (fun x0 x3 => next (St1 x0 x3)) (fun x2 => Q .ret (St2 x2)) (Q (.exit 0) St3) x0 x3 := plainly Js (by kernel_rfl)
def l0 (k : Nat) (Rt : Bool -> Option α) (Xt0 : Option α) : Nat -> D4 -> Int -> Option α
 | 0, _, _ => none
 | n + 1, x0, x3 => l0s (l0 k Rt Xt0 n) Rt Xt0 x0 x3
theorem l0_eq (k : Nat) (Q : Ex -> St -> Option α) : ∀ (n : Nat) (x0 : D4) (x3 : Int), iter (rnd C k cd0 6 Q) n (St1 x0 x3) = l0 k (fun x2 => Q .ret (St2 x2)) (Q (.exit 0) St3) n x0 x3
 | 0, _, _ => rfl
 | n + 1, x0, x3 => (iter_succ _ _ _).trans ((l0s_eq k _ Q x0 x3).trans (congrArg (fun N => l0s N (fun x2 => Q .ret (St2 x2)) (Q (.exit 0) St3) x0 x3) (by funext; exact l0_eq k Q n _ _)))
theorem l0_congr (k : Nat) (Rt : Bool -> Option α) (Xt0 : Option α) (Rtq : Bool -> Option α) (Xt0q : Option α) (hRt : ∀ (x2 : Bool), Rt x2 = Rtq x2) (hXt0 : Xt0 = Xt0q) (n : Nat) (x0 : D4) (x3 : Int) : l0 k Rt Xt0 n x0 x3 = l0 k Rtq Xt0q n x0 x3 := by
 obtain rfl : Rt = Rtq := by funext x2; exact hRt x2
 obtain rfl : Xt0 = Xt0q := hXt0
 rfl
noncomputable def cd1 : Code := cR (cR (cB Try.f169))
def St4 : St := stL 14 [] []
def j0 (Rt : Bool -> Option α) : Option α :=
 Rt false
theorem j0_eq (k : Nat) (Q : Ex -> St -> Option α) :
  (den C k) cd1 Q St4 = j0 (fun x2 => Q .ret (St2 x2)) := plainly Js (by kernel_rfl)
theorem a0 (k : Nat) (Q : Ex -> St -> Option α) (x0 : D4) (x3 : Int) :
  (lp C k) cd0 (blkQ C 0 (sq (den C k) (lp C k) Js C cd1 Q)) (St1 x0 x3) = l0 k (fun x2 => (fun x2 => Q .ret (St2 x2)) x2) (j0 (fun x2 => Q .ret (St2 x2))) k x0 x3 :=
 (lp_iter 6 (by kernel_rfl)).trans ((l0_eq k _ k x0 x3).trans (l0_congr k _ _ _ _ (fun x2 => (by kernel_rfl)) (Eq.trans (b := (den C k) cd1 Q St4) (by kernel_rfl) (by simp only [j0_eq])) k x0 x3))
def top (k : Nat) (Rt : Bool -> Option α) (x0 : D4) : Option α :=
 l0 k (fun x2 => Rt x2) (j0 Rt) k x0 0
theorem top_eq (k : Nat) (Q : Ex -> St -> Option α) (x0 : D4) :
  (den C k) (cB Try.f169) Q (St0 x0) = top k (fun x2 => Q .ret (St2 x2)) x0 := by
 have h : ∀ (D L : DT α), denJ D L Js C (cB Try.f169) Q (St0 x0) =
    L cd0 (blkQ C 0 (sq D L Js C cd1 Q)) (St1 x0 0) := by
  intro D L; kernel_rfl
 have h2 := via (k := k) h
 refine h2.trans ?_
 simp only [a0]
 first | rfl | kernel_rfl
def run (x0 : D4) : Option (Bool) := top (α := Bool) fuel (fun x2 => some x2) x0
def F : Fn := ⟨T120, .bool, false, fun x => run x.1⟩
theorem con : Con Try.prog 169 F /\ Named Try.prog 169 :=
 con_of2 (C := C) (ctx_ok (by kernel_rfl) (by kernel_rfl) (by kernel_rfl) (by kernel_rfl) trivial) (by kernel_rfl) Try.func169 (by kernel_rfl) (c := cB Try.f169) (by kernel_rfl) (by kernel_rfl) F (fun x => by simp [F, spread, Try.ntmps169]) (fun x => (St0 x.1)) (fun x => by kernel_rfl) fun x => (top_eq fuel _ x.1).trans (by kernel_rfl)
end Go.Bx.basculeref_hasNought
namespace Go.Bx.basculeref_LoadFault
def Js : List Nat := [9, 14]
def C : Ctx := ⟨[(3, T1), (9, .str), (24, T23), (29, T16), (35, T1), (179, T93), (181, T94)], [], [], fnL [(53, basculeref_Order.F), (149, basculeref_upTo.F), (167, basculeref_only.F), (168, basculeref_SameLoad.F), (169, basculeref_hasNought.F)], noSh, [], invL [], [(2, [2]), (1, [4]), (32, [1, 4, 16, 17]), (39, [4])], [], [], 0, 0⟩
def St0 (x0 : D36) : St := stL 103 [(0, .data T94 x0)] []
def St1 (x2 : Int) : St := stL 103 [(2, .data T1 x2)] []
def St2 (x4 : Bool) (x16 : Int) (x17 : Bool) (c1 : D36) : St := stL 103 [(1, .ref 1 0 []), (4, .data .bool x4), (16, .data T1 x16), (17, .data .bool x17)] [(1, .cell T94 (.data T94 c1) false)]
noncomputable def cd0 : Code := cR (cR (cR (cR (cR (cB Try.f161)))))
noncomputable def cd1 : Code := cR (cL (cR (cL (cR (cR (cR (cR (cB Try.f161))))))))
def St3 (x4 : Bool) : St := stL 103 [(4, .data .bool x4)] []
def j1 (Rt : Int -> Option α) (x4 : Bool) : Option α :=
 if (not x4) = true then
  Rt 3
 else
  Rt 0
theorem j1_eq (k : Nat) (Q : Ex -> St -> Option α) (x4 : Bool) :
  (den C k) cd0 Q (St3 x4) = j1 (fun x2 => Q .ret (St1 x2)) x4 := plainly Js (by kernel_rfl)
def j0 (Rt : Int -> Option α) (x4 : Bool) (x16 : Int) (x17 : Bool) (c1 : D36) : Option α :=
 if x17 = true then
  (if (x4 == true) = true then basculeref_upTo.run c1.2.2.2.2.1 65535 else some false).bind fun y3 =>
  (if ((cond x4 y3 false) == true) = true then basculeref_upTo.run c1.2.2.2.2.2.2.1 65535 else some false).bind fun y4 =>
  (if ((cond (cond x4 y3 false) y4 false) == true) = true then basculeref_Order.run c1.2.2.1 c1.2.1 else some 0).bind fun y5 =>
  j1 Rt (cond (cond (cond (cond (cond x4 y3 false) y4 false) (decide (y5 <= 0)) false) (decide ((c1.2.2.2.2.2.2.2.2.2.1.length : Int) <= 100)) false) (cond (c1.1 == 3) true ((c1.2.2.2.2.2.2.2.2.2.1.length : Int) == 0)) false)
 else
  if (x16 == 2) = true then
   (if (x4 == true) = true then basculeref_upTo.run c1.2.2.2.2.1 65535 else some false).bind fun y6 =>
   (if ((cond x4 y6 false) == true) = true then basculeref_upTo.run c1.2.2.2.2.2.2.2.1 77 else some false).bind fun y7 =>
   (if ((cond (cond (cond x4 y6 false) y7 false) (decide ((c1.2.2.2.2.2.2.2.2.1.length : Int) <= 32)) false) == true) = true then basculeref_hasNought.run c1.2.2.2.2.2.2.2.2.1 else some false).bind fun y8 =>
   j1 Rt (cond (cond (cond (cond x4 y6 false) y7 false) (decide ((c1.2.2.2.2.2.2.2.2.1.length : Int) <= 32)) false) (not y8) false)
  else
   if (x16 == 4) = true then
    (if (x4 == true) = true then basculeref_upTo.run c1.2.2.2.2.2.2.2.2.2.2.1 4294967295 else some false).bind fun y9 =>
    j1 Rt (cond (cond (cond x4 y9 false) (decide ((c1.2.2.2.2.2.2.2.2.2.2.2.1.length : Int) > 0)) false) (decide ((c1.2.2.2.2.2.2.2.2.2.2.2.1.length : Int) <= 19)) false)
   else
    j1 Rt x4
theorem j0_eq (k : Nat) (Q : Ex -> St -> Option α) (x4 : Bool) (x16 : Int) (x17 : Bool) (c1 : D36) :
  (den C k) cd1 (blkQ C 0 (sq (den C k) (lp C k) Js C cd0 Q)) (St2 x4 x16 x17 c1) = j0 (fun x2 => Q .ret (St1 x2)) x4 x16 x17 c1 := by
 have h : ∀ (D L : DT α), denJ D L Js C cd1 (blkQ C 0 (sq D L Js C cd0 Q)) (St2 x4 x16 x17 c1) =
    if x17 = true then
     (if (x4 == true) = true then basculeref_upTo.run c1.2.2.2.2.1 65535 else some false).bind fun y3 =>
     (if ((cond x4 y3 false) == true) = true then basculeref_upTo.run c1.2.2.2.2.2.2.1 65535 else some false).bind fun y4 =>
     (if ((cond (cond x4 y3 false) y4 false) == true) = true then basculeref_Order.run c1.2.2.1 c1.2.1 else some 0).bind fun y5 =>
     D cd0 Q (St3 (cond (cond (cond (cond (cond x4 y3 false) y4 false) (decide (y5 <= 0)) false) (decide ((c1.2.2.2.2.2.2.2.2.2.1.length : Int) <= 100)) false) (cond (c1.1 == 3) true ((c1.2.2.2.2.2.2.2.2.2.1.length : Int) == 0)) false))
    else
     if (x16 == 2) = true then
      (if (x4 == true) = true then basculeref_upTo.run c1.2.2.2.2.1 65535 else some false).bind fun y6 =>
      (if ((cond x4 y6 false) == true) = true then basculeref_upTo.run c1.2.2.2.2.2.2.2.1 77 else some false).bind fun y7 =>
      (if ((cond (cond (cond x4 y6 false) y7 false) (decide ((c1.2.2.2.2.2.2.2.2.1.length : Int) <= 32)) false) == true) = true then basculeref_hasNought.run c1.2.2.2.2.2.2.2.2.1 else some false).bind fun y8 =>
      D cd0 Q (St3 (cond (cond (cond (cond x4 y6 false) y7 false) (decide ((c1.2.2.2.2.2.2.2.2.1.length : Int) <= 32)) false) (not y8) false))
     else
      if (x16 == 4) = true then
       (if (x4 == true) = true then basculeref_upTo.run c1.2.2.2.2.2.2.2.2.2.2.1 4294967295 else some false).bind fun y9 =>
       D cd0 Q (St3 (cond (cond (cond x4 y9 false) (decide ((c1.2.2.2.2.2.2.2.2.2.2.2.1.length : Int) > 0)) false) (decide ((c1.2.2.2.2.2.2.2.2.2.2.2.1.length : Int) <= 19)) false))
      else
       D cd0 Q (St3 x4) := by
  intro D L; kernel_rfl
 have h2 := via (k := k) h
 refine h2.trans ?_
 simp only [j1_eq]
 first | rfl | kernel_rfl
def top (Rt : Int -> Option α) (x0 : D36) : Option α :=
 (basculeref_only.run x0).bind fun y1 =>
 if (not y1.2.1) = true then
  Rt 2
 else
  (basculeref_SameLoad.run x0 y1.1).bind fun y2 =>
  if (x0.1 == 1) = true then
   j0 Rt y2 x0.1 (x0.1 == 1) x0
  else
   j0 Rt y2 x0.1 (x0.1 == 3) x0
theorem top_eq (k : Nat) (Q : Ex -> St -> Option α) (x0 : D36) :
  (den C k) (cB Try.f161) Q (St0 x0) = top (fun x2 => Q .ret (St1 x2)) x0 := by
 have h : ∀ (D L : DT α), denJ D L Js C (cB Try.f161) Q (St0 x0) =
    (basculeref_only.run x0).bind fun y1 =>
    if (not y1.2.1) = true then
     Q .ret (St1 2)
    else
     (basculeref_SameLoad.run x0 y1.1).bind fun y2 =>
     if (x0.1 == 1) = true then
      D cd1 (blkQ C 0 (sq D L Js C cd0 Q)) (St2 y2 x0.1 (x0.1 == 1) x0)
     else
      D cd1 (blkQ C 0 (sq D L Js C cd0 Q)) (St2 y2 x0.1 (x0.1 == 3) x0) := by
  intro D L; kernel_rfl
 have h2 := via (k := k) h
 refine h2.trans ?_
 simp only [j0_eq]
 first | rfl | kernel_rfl
def run (x0 : D36) : Option (Int) := top (α := Int) (fun x2 => some x2) x0
def F : Fn := ⟨T102, T1, false, fun x => run x.1⟩
theorem con : Con Try.prog 161 F /\ Named Try.prog 161 :=
 con_of2 (C := C) (ctx_ok (by kernel_rfl) (by kernel_rfl) (by kernel_rfl) (by kernel_rfl) ⟨.inl basculeref_Order.con, ⟨.inl basculeref_upTo.con, ⟨.inl basculeref_only.con, ⟨.inl basculeref_SameLoad.con, ⟨.inl basculeref_hasNought.con, trivial⟩⟩⟩⟩⟩) (by kernel_rfl) Try.func161 (by kernel_rfl) (c := cB Try.f161) (by kernel_rfl) (by kernel_rfl) F (fun x => by simp [F, spread, Try.ntmps161]) (fun x => (St0 x.1)) (fun x => by kernel_rfl) fun x => (top_eq fuel _ x.1).trans (by kernel_rfl)
end Go.Bx.basculeref_LoadFault
namespace Go.Bx.load_word
def Js : List Nat := []
def C : Ctx := ⟨[(29, T16), (38, T17)], [], [], fnL [], noSh, [], invL [], [(2, [2])], [], [], 0, 0⟩
def St0 (x0 : D4) : St := stL 8 [(0, .data T16 x0)] []
def St1 (c2 : D4) : St := stL 8 [(2, .ref 2 0 [])] [(2, .cell T17 (.data T17 c2) false)]
def top (Rt : D4 -> Option α) (x0 : D4) : Option α :=
 Rt (cpyL (List.replicate 32 0) 0 32 x0)
theorem top_eq (k : Nat) (Q : Ex -> St -> Option α) (x0 : D4) :
  (den C k) (cB Try.f192) Q (St0 x0) = top (fun c2 => Q .ret (St1 c2)) x0 := plainly Js (by kernel_rfl)
def run (x0 : D4) : Option D4 := top (α := List Int) (fun c2 => some c2) x0
def F : Fn := ⟨T25, T17, false, fun x => run x.1⟩
theorem con : Con Try.prog 192 F /\ Named Try.prog 192 :=
 con_of2 (C := C) (ctx_ok (by kernel_rfl) (by kernel_rfl) (by kernel_rfl) (by kernel_rfl) trivial) (by kernel_rfl) Try.func192 (by kernel_rfl) (c := cB Try.f192) (by kernel_rfl) (by kernel_rfl) F (fun x => by simp [F, spread, Try.ntmps192]) (fun x => (St0 x.1)) (fun x => by kernel_rfl) fun x => (top_eq fuel _ x.1).trans (by kernel_rfl)
end Go.Bx.load_word
namespace Go.Bx.load_transfer__get
def Js : List Nat := []
def C : Ctx := ⟨[(3, T1), (5, T18), (29, T16), (35, T1), (181, T94), (211, T96)], [], [], fnL [(35, wide_From.F), (192, load_word.F)], noSh, [], invL [], [(2, [4, 5])], [(2, [.dat false 4 [9]])], [47], 0, 0⟩
def St0 (x0 : D37) (x1 : D4) : St := stL 49 [(0, .data T96 x0), (1, .data T16 x1)] []
def St1 (x5 c4p0 : Int) (c4p1 c4p2 c4p3 : D4) (c4p4 : Int) (c4p5 : D4) (c4p6 c4p7 : Int) (c4p8 c4p9 : D4) (c4p10 : Int) : St := stL 49 [(4, .ref 4 0 []), (5, .data T1 x5)] [(4, .cell T94 (.agg T94 [.data T1 c4p0, .data T23 c4p1, .data T23 c4p2, .data T17 c4p3, .data T1 c4p4, .data T17 c4p5, .data T1 c4p6, .data T1 c4p7, .data .str c4p8, .data T16 c4p9, .data T1 c4p10, .full T97 []]) false)]
def top (Rt : Int -> Int -> D4 -> D4 -> D4 -> Int -> D4 -> Int -> Int -> D4 -> D4 -> Int -> Option α) (x0 : D37) (x1 : D4) : Option α :=
 if (decide ((x1.length : Int) < 132)) = true then
  Rt 4 0 [0, 0, 0, 0] [0, 0, 0, 0] (List.replicate 32 0) 0 (List.replicate 32 0) 0 0 [] [] 0
 else
  if 0 <= (0 : Int) /\ (0 : Int) <= (32 : Int) /\ (32 : Int) <= (x1.length : Int) then
   (load_word.run (cutL x1 0 32)).bind fun y1 =>
   (wide_From.run y1).bind fun y2 =>
   if 0 <= (32 : Int) /\ (32 : Int) <= (64 : Int) /\ (64 : Int) <= (x1.length : Int) then
    (load_word.run (cutL x1 32 64)).bind fun y3 =>
    if 0 <= (64 : Int) /\ (64 : Int) < (x1.length : Int) then
     if 0 <= (65 : Int) /\ (65 : Int) < (x1.length : Int) then
      if 0 <= (66 : Int) /\ (66 : Int) <= (98 : Int) /\ (98 : Int) <= (x1.length : Int) then
       (load_word.run (cutL x1 66 98)).bind fun y4 =>
       if 0 <= (98 : Int) /\ (98 : Int) < (x1.length : Int) then
        if 0 <= (99 : Int) /\ (99 : Int) < (x1.length : Int) then
         if 0 <= (100 : Int) /\ (100 : Int) <= (132 : Int) /\ (132 : Int) <= (x1.length : Int) then
          (load_word.run (cutL x1 100 132)).bind fun y5 =>
          (wide_From.run y5).bind fun y6 =>
          if 0 <= (132 : Int) /\ (132 : Int) <= (x1.length : Int) /\ (x1.length : Int) <= (x1.length : Int) then
           if fitB (0 + (cutL x1 132 (x1.length : Int)).length) 1 = true then
            Rt 0 0 y2 y6 y3 (bor .i64 (shlI .i64 (IntKind.i64.wrap (List.getD x1 64 0)) 8) (IntKind.i64.wrap (List.getD x1 65 0))) y4 (bor .i64 (shlI .i64 (IntKind.i64.wrap (List.getD x1 98 0)) 8) (IntKind.i64.wrap (List.getD x1 99 0))) 0 [] (cutL x1 132 (x1.length : Int)) 0
           else none
          else none
         else none
        else none
       else none
      else none
     else none
    else none
   else none
  else none
theorem top_eq (k : Nat) (Q : Ex -> St -> Option α) (x0 : D37) (x1 : D4) :
  (den C k) (cB Try.f189) Q (St0 x0 x1) = top (fun x5 c4p0 c4p1 c4p2 c4p3 c4p4 c4p5 c4p6 c4p7 c4p8 c4p9 c4p10 => Q .ret (St1 x5 c4p0 c4p1 c4p2 c4p3 c4p4 c4p5 c4p6 c4p7 c4p8 c4p9 c4p10)) x0 x1 := plainly Js (by kernel_rfl)
def run (x0 : D37) (x1 : D4) : Option D40 := top (α := D36 × Int × Unit) (fun x5 c4p0 c4p1 c4p2 c4p3 c4p4 c4p5 c4p6 c4p7 c4p8 c4p9 c4p10 => some ((c4p0, c4p1, c4p2, c4p3, c4p4, c4p5, c4p6, c4p7, c4p8, c4p9, c4p10, [], ()), x5, ())) x0 x1
def F : Fn := ⟨T103, T104, true, fun x => run x.1 x.2.1⟩
theorem con : Con Try.prog 189 F /\ Named Try.prog 189 :=
 con_of2 (C := C) (ctx_ok (by kernel_rfl) (by kernel_rfl) (by kernel_rfl) (by kernel_rfl) ⟨.inl wide_From.con, ⟨.inl load_word.con, trivial⟩⟩) (by kernel_rfl) Try.func189 (by kernel_rfl) (c := cB Try.f189) (by kernel_rfl) (by kernel_rfl) F (fun x => by simp [F, spread, Try.ntmps189]) (fun x => (St0 x.1 x.2.1)) (fun x => by kernel_rfl) fun x => (top_eq fuel _ x.1 x.2.1).trans (by kernel_rfl)
end Go.Bx.load_transfer__get
namespace Go.Bx.load_meta__get
def Js : List Nat := [9]
def C : Ctx := ⟨[(3, T1), (5, T18), (9, .str), (29, T16), (35, T1), (181, T94), (213, .unit)], [], [], fnL [(192, load_word.F)], noSh, [], invL [], [(2, [4, 5]), (1, [1, 4, 6]), (4, [1, 4, 6]), (18, [1, 4, 6]), (24, [1, 4, 6])], [], [], 0, 0⟩
def St0 (x0 : Unit) (x1 : D4) : St := stL 49 [(0, .data .unit x0), (1, .data T16 x1)] []
def St1 (x5 c4p0 : Int) (c4p1 c4p2 c4p3 : D4) (c4p4 : Int) (c4p5 : D4) (c4p6 c4p7 : Int) (c4p8 : D4) (c4p10 : Int) : St := stL 49 [(4, .ref 4 0 []), (5, .data T1 x5)] [(4, .cell T94 (.agg T94 [.data T1 c4p0, .data T23 c4p1, .data T23 c4p2, .data T17 c4p3, .data T1 c4p4, .data T17 c4p5, .data T1 c4p6, .data T1 c4p7, .data .str c4p8, .full T18 [], .data T1 c4p10, .full T97 []]) false)]
def St2 (x1 : D4) (x6 c4p0 : Int) (c4p1 c4p2 c4p3 : D4) (c4p4 : Int) (c4p5 : D4) (c4p6 c4p7 : Int) (c4p8 : D4) (c4p10 : Int) : St := stL 49 [(1, .data T16 x1), (4, .ref 4 0 []), (6, .data T1 x6)] [(4, .cell T94 (.agg T94 [.data T1 c4p0, .data T23 c4p1, .data T23 c4p2, .data T17 c4p3, .data T1 c4p4, .data T17 c4p5, .data T1 c4p6, .data T1 c4p7, .data .str c4p8, .full T18 [], .data T1 c4p10, .full T97 []]) false)]
noncomputable def cd0 : Code := cL (cL (cL (cR (cR (cR (cR (cB Try.f195)))))))
def St3 (x1 : D4) (x6 c4p0 : Int) (c4p1 c4p2 c4p3 : D4) (c4p4 : Int) (c4p5 : D4) (c4p6 c4p7 : Int) (c4p8 : D4) (c4p10 : Int) : St := stL 49 [(1, .data T16 x1), (4, .ref 4 0 []), (6, .data T1 x6)] [(4, .cell T94 (.agg T94 [.data T1 c4p0, .data T23 c4p1, .data T23 c4p2, .data T17 c4p3, .data T1 c4p4, .data T17 c4p5, .data T1 c4p6, .data T1 c4p7, .data .str c4p8, .full T18 [], .data T1 c4p10, .full T97 []]) false)]
def l0s (Nx : D4 -> Int -> Int -> D4 -> D4 -> D4 -> Int -> D4 -> Int -> Int -> D4 -> Int -> Option α) (Xt0 : D4 -> Int -> Int -> D4 -> D4 -> D4 -> Int -> D4 -> Int -> Int -> D4 -> Int -> Option α) (x1 : D4) (x6 c4p0 : Int) (c4p1 c4p2 c4p3 : D4) (c4p4 : Int) (c4p5 : D4) (c4p6 c4p7 : Int) (c4p8 : D4) (c4p10 : Int) : Option α :=
 cond (decide (0 <= (IntKind.i64.wrap (x6 - 1)) /\ (IntKind.i64.wrap (x6 - 1)) < (x1.length : Int)) || !((decide (x6 > 35)) == true)) (
  if (cond (decide (x6 > 35)) ((List.getD x1 (Int.toNat (IntKind.i64.wrap (x6 - 1))) 0) == 0) false) = true then
   Nx x1 (IntKind.i64.wrap (x6 - 1)) c4p0 c4p1 c4p2 c4p3 c4p4 c4p5 c4p6 c4p7 c4p8 c4p10
  else
   Xt0 x1 x6 c4p0 c4p1 c4p2 c4p3 c4p4 c4p5 c4p6 c4p7 c4p8 c4p10) none
theorem l0s_eq (k : Nat) (next : St -> Option α) (Q : Ex -> St -> Option α) (x1 : D4) (x6 c4p0 : Int) (c4p1 c4p2 c4p3 : D4) (c4p4 : Int) (c4p5 : D4) (c4p6 c4p7 : Int) (c4p8 : D4) (c4p10 : Int) :
  rnd C k cd0 18 Q next (St2 x1 x6 c4p0 c4p1 c4p2 c4p3 c4p4 c4p5 c4p6 c4p7 c4p8 c4p10) = l0s (fun x1 x6 c4p0 c4p1 c4p2 c4p3 c4p4 c4p5 c4p6 c4p7 c4p8 c4p10 => next (St2 x1 x6 c4p0 c4p1 c4p2 c4p3 c4p4 c4p5 c4p6 c4p7 c4p8 c4p10)) (fun x1 x6 c4p0 c4p1 c4p2 c4p3 c4p4 c4p5 c4p6 c4p7 c4p8 c4p10 => Q (.exit 0) (St3 x1 x6 c4p0 c4p1 c4p2 c4p3 c4p4 c4p5 c4p6 c4p7 c4p8 c4p10)) x1 x6 c4p0 c4p1 c4p2 c4p3 c4p4 c4p5 c4p6 c4p7 c4p8 c4p10 := plainly Js (by kernel_rfl)
def l0 (k : Nat) (Xt0 : D4 -> Int -> Int -> D4 -> D4 -> D4 -> Int -> D4 -> Int -> Int -> D4 -> Int -> Option α) : Nat -> D4 -> Int -> Int -> D4 -> D4 -> D4 -> Int -> D4 -> Int -> Int -> D4 -> Int -> Option α
 | 0, _, _, _, _, _, _, _, _, _, _, _, _ => none
 | n + 1, x1, x6, c4p0, c4p1, c4p2, c4p3, c4p4, c4p5, c4p6, c4p7, c4p8, c4p10 => l0s (l0 k Xt0 n) Xt0 x1 x6 c4p0 c4p1 c4p2 c4p3 c4p4 c4p5 c4p6 c4p7 c4p8 c4p10
theorem l0_eq (k : Nat) (Q : Ex -> St -> Option α) : ∀ (n : Nat) (x1 : D4) (x6 c4p0 : Int) (c4p1 c4p2 c4p3 : D4) (c4p4 : Int) (c4p5 : D4) (c4p6 c4p7 : Int) (c4p8 : D4) (c4p10 : Int), iter (rnd C k cd0 18 Q) n (St2 x1 x6 c4p0 c4p1 c4p2 c4p3 c4p4 c4p5 c4p6 c4p7 c4p8 c4p10) = l0 k (fun x1 x6 c4p0 c4p1 c4p2 c4p3 c4p4 c4p5 c4p6 c4p7 c4p8 c4p10 => Q (.exit 0) (St3 x1 x6 c4p0 c4p1 c4p2 c4p3 c4p4 c4p5 c4p6 c4p7 c4p8 c4p10)) n x1 x6 c4p0 c4p1 c4p2 c4p3 c4p4 c4p5 c4p6 c4p7 c4p8 c4p10
 | 0, _, _, _, _, _, _, _, _, _, _, _, _ => rfl
 | n + 1, x1, x6, c4p0, c4p1, c4p2, c4p3, c4p4, c4p5, c4p6, c4p7, c4p8, c4p10 => (iter_succ _ _ _).trans ((l0s_eq k _ Q x1 x6 c4p0 c4p1 c4p2 c4p3 c4p4 c4p5 c4p6 c4p7 c4p8 c4p10).trans (congrArg (fun N => l0s N (fun x1 x6 c4p0 c4p1 c4p2 c4p3 c4p4 c4p5 c4p6 c4p7 c4p8 c4p10 => Q (.exit 0) (St3 x1 x6 c4p0 c4p1 c4p2 c4p3 c4p4 c4p5 c4p6 c4p7 c4p8 c4p10)) x1 x6 c4p0 c4p1 c4p2 c4p3 c4p4 c4p5 c4p6 c4p7 c4p8 c4p10) (by funext; exact l0_eq k Q n _ _ _ _ _ _ _ _ _ _ _ _)))
noncomputable def cd1 : Code := cR (cR (cR (cR (cR (cB Try.f195)))))
def St4 (x1 : D4) (x6 c4p0 : Int) (c4p1 c4p2 c4p3 : D4) (c4p4 : Int) (c4p5 : D4) (c4p6 c4p7 : Int) (c4p8 : D4) (c4p10 : Int) : St := stL 49 [(1, .data T16 x1), (4, .ref 4 0 []), (6, .data T1 x6)] [(4, .cell T94 (.agg T94 [.data T1 c4p0, .data T23 c4p1, .data T23 c4p2, .data T17 c4p3, .data T1 c4p4, .data T17 c4p5, .data T1 c4p6, .data T1 c4p7, .data .str c4p8, .full T18 [], .data T1 c4p10, .full T97 []]) false)]
def j0 (Rt : Int -> Int -> D4 -> D4 -> D4 -> Int -> D4 -> Int -> Int -> D4 -> Int -> Option α) (x1 : D4) (x6 c4p0 : Int) (c4p1 c4p2 c4p3 : D4) (c4p4 : Int) (c4p5 : D4) (c4p6 c4p7 : Int) (c4p8 : D4) (c4p10 : Int) : Option α :=
 if 0 <= (0 : Int) /\ (0 : Int) <= (32 : Int) /\ (32 : Int) <= (x1.length : Int) then
  (load_word.run (cutL x1 0 32)).bind fun y1 =>
  if 0 <= (32 : Int) /\ (32 : Int) < (x1.length : Int) then
   if 0 <= (33 : Int) /\ (33 : Int) < (x1.length : Int) then
    if 0 <= (34 : Int) /\ (34 : Int) < (x1.length : Int) then
     if 0 <= (35 : Int) /\ (35 : Int) <= x6 /\ x6 <= (x1.length : Int) then
      Rt 0 0 [0, 0, 0, 0] [0, 0, 0, 0] y1 (bor .i64 (shlI .i64 (IntKind.i64.wrap (List.getD x1 32 0)) 8) (IntKind.i64.wrap (List.getD x1 33 0))) (List.replicate 32 0) 0 (IntKind.i64.wrap (List.getD x1 34 0)) (cutL x1 35 x6) 0
     else none
    else none
   else none
  else none
 else none
theorem j0_eq (k : Nat) (Q : Ex -> St -> Option α) (x1 : D4) (x6 c4p0 : Int) (c4p1 c4p2 c4p3 : D4) (c4p4 : Int) (c4p5 : D4) (c4p6 c4p7 : Int) (c4p8 : D4) (c4p10 : Int) :
  (den C k) cd1 Q (St4 x1 x6 c4p0 c4p1 c4p2 c4p3 c4p4 c4p5 c4p6 c4p7 c4p8 c4p10) = j0 (fun x5 c4p0 c4p1 c4p2 c4p3 c4p4 c4p5 c4p6 c4p7 c4p8 c4p10 => Q .ret (St1 x5 c4p0 c4p1 c4p2 c4p3 c4p4 c4p5 c4p6 c4p7 c4p8 c4p10)) x1 x6 c4p0 c4p1 c4p2 c4p3 c4p4 c4p5 c4p6 c4p7 c4p8 c4p10 := plainly Js (by kernel_rfl)
theorem a0 (k : Nat) (Q : Ex -> St -> Option α) (x1 : D4) (x6 c4p0 : Int) (c4p1 c4p2 c4p3 : D4) (c4p4 : Int) (c4p5 : D4) (c4p6 c4p7 : Int) (c4p8 : D4) (c4p10 : Int) :
  (lp C k) cd0 (blkQ C 0 (sq (den C k) (lp C k) Js C cd1 Q)) (St2 x1 x6 c4p0 c4p1 c4p2 c4p3 c4p4 c4p5 c4p6 c4p7 c4p8 c4p10) = l0 k (fun x1 x6 c4p0 c4p1 c4p2 c4p3 c4p4 c4p5 c4p6 c4p7 c4p8 c4p10 => j0 (fun x5 c4p0 c4p1 c4p2 c4p3 c4p4 c4p5 c4p6 c4p7 c4p8 c4p10 => Q .ret (St1 x5 c4p0 c4p1 c4p2 c4p3 c4p4 c4p5 c4p6 c4p7 c4p8 c4p10)) x1 x6 c4p0 c4p1 c4p2 c4p3 c4p4 c4p5 c4p6 c4p7 c4p8 c4p10) k x1 x6 c4p0 c4p1 c4p2 c4p3 c4p4 c4p5 c4p6 c4p7 c4p8 c4p10 :=
 (lp_iter 18 (by kernel_rfl)).trans ((l0_eq k _ k x1 x6 c4p0 c4p1 c4p2 c4p3 c4p4 c4p5 c4p6 c4p7 c4p8 c4p10).trans (congrArg (fun X => l0 k X k x1 x6 c4p0 c4p1 c4p2 c4p3 c4p4 c4p5 c4p6 c4p7 c4p8 c4p10) (funext fun x1 => funext fun x6 => funext fun c4p0 => funext fun c4p1 => funext fun c4p2 => funext fun c4p3 => funext fun c4p4 => funext fun c4p5 => funext fun c4p6 => funext fun c4p7 => funext fun c4p8 => funext fun c4p10 => (Eq.trans (b := (den C k) cd1 Q (St4 x1 x6 c4p0 c4p1 c4p2 c4p3 c4p4 c4p5 c4p6 c4p7 c4p8 c4p10)) (by kernel_rfl) (by simp only [j0_eq])))))
def top (k : Nat) (Rt : Int -> Int -> D4 -> D4 -> D4 -> Int -> D4 -> Int -> Int -> D4 -> Int -> Option α) (x0 : Unit) (x1 : D4) : Option α :=
 if (decide ((x1.length : Int) < 67)) = true then
  Rt 4 0 [0, 0, 0, 0] [0, 0, 0, 0] (List.replicate 32 0) 0 (List.replicate 32 0) 0 0 [] 0
 else
  if (decide ((x1.length : Int) > 67)) = true then
   Rt 3 0 [0, 0, 0, 0] [0, 0, 0, 0] (List.replicate 32 0) 0 (List.replicate 32 0) 0 0 [] 0
  else
   l0 k (fun x1 x6 c4p0 c4p1 c4p2 c4p3 c4p4 c4p5 c4p6 c4p7 c4p8 c4p10 => j0 Rt x1 x6 c4p0 c4p1 c4p2 c4p3 c4p4 c4p5 c4p6 c4p7 c4p8 c4p10) k x1 67 0 [0, 0, 0, 0] [0, 0, 0, 0] (List.replicate 32 0) 0 (List.replicate 32 0) 0 0 [] 0
theorem top_eq (k : Nat) (Q : Ex -> St -> Option α) (x0 : Unit) (x1 : D4) :
  (den C k) (cB Try.f195) Q (St0 x0 x1) = top k (fun x5 c4p0 c4p1 c4p2 c4p3 c4p4 c4p5 c4p6 c4p7 c4p8 c4p10 => Q .ret (St1 x5 c4p0 c4p1 c4p2 c4p3 c4p4 c4p5 c4p6 c4p7 c4p8 c4p10)) x0 x1 := by
 have h : ∀ (D L : DT α), denJ D L Js C (cB Try.f195) Q (St0 x0 x1) =
    if (decide ((x1.length : Int) < 67)) = true then
     Q .ret (St1 4 0 [0, 0, 0, 0] [0, 0, 0, 0] (List.replicate 32 0) 0 (List.replicate 32 0) 0 0 [] 0)
    else
     if (decide ((x1.length : Int) > 67)) = true then
      Q .ret (St1 3 0 [0, 0, 0, 0] [0, 0, 0, 0] (List.replicate 32 0) 0 (List.replicate 32 0) 0 0 [] 0)
     else
      L cd0 (blkQ C 0 (sq D L Js C cd1 Q)) (St2 x1 67 0 [0, 0, 0, 0] [0, 0, 0, 0] (List.replicate 32 0) 0 (List.replicate 32 0) 0 0 [] 0) := by
  intro D L; kernel_rfl
 have h2 := via (k := k) h
 refine h2.trans ?_
 simp only [a0]
 first | rfl | kernel_rfl
def run (x0 : Unit) (x1 : D4) : Option D40 := top (α := D36 × Int × Unit) fuel (fun x5 c4p0 c4p1 c4p2 c4p3 c4p4 c4p5 c4p6 c4p7 c4p8 c4p10 => some ((c4p0, c4p1, c4p2, c4p3, c4p4, c4p5, c4p6, c4p7, c4p8, [], c4p10, [], ()), x5, ())) x0 x1
def F : Fn := ⟨T105, T104, true, fun x => run x.1 x.2.1⟩
theorem con : Con Try.prog 195 F /\ Named Try.prog 195 :=
 con_of2 (C := C) (ctx_ok (by kernel_rfl) (by kernel_rfl) (by kernel_rfl) (by kernel_rfl) ⟨.inl load_word.con, trivial⟩) (by kernel_rfl) Try.func195 (by kernel_rfl) (c := cB Try.f195) (by kernel_rfl) (by kernel_rfl) F (fun x => by simp [F, spread, Try.ntmps195]) (fun x => (St0 x.1 x.2.1)) (fun x => by kernel_rfl) fun x => (top_eq fuel _ x.1 x.2.1).trans (by kernel_rfl)
end Go.Bx.load_meta__get
namespace Go.Bx.load_turn__get
def Js : List Nat := [15]
def C : Ctx := ⟨[(3, T1), (5, T18), (29, T16), (35, T1), (179, T93), (181, T94), (198, T97), (214, .unit)], [], [], fnL [], noSh, [], invL [], [(2, [4, 5]), (1, [4, 6]), (4, [1, 4, 6, 59, 60]), (24, [1, 4, 6, 59, 60]), (42, [4, 6])], [(2, [.dat false 4 [11]]), (24, [.melt false 6 [11] 74 true])], [], 0, 0⟩
def St0 (x0 : Unit) (x1 : D4) : St := stL 78 [(0, .data .unit x0), (1, .data T16 x1)] []
def St1 (x5 c4p0 : Int) (c4p1 c4p2 c4p3 : D4) (c4p4 : Int) (c4p5 : D4) (c4p6 c4p7 : Int) (c4p8 : D4) (c4p10 : Int) (c4p11 : D21) : St := stL 78 [(4, .ref 4 0 []), (5, .data T1 x5)] [(4, .cell T94 (.agg T94 [.data T1 c4p0, .data T23 c4p1, .data T23 c4p2, .data T17 c4p3, .data T1 c4p4, .data T17 c4p5, .data T1 c4p6, .data T1 c4p7, .data .str c4p8, .full T18 [], .data T1 c4p10, .data T93 c4p11]) false)]
def St2 (x1 : D4) (x59 x60 c4p0 : Int) (c4p1 c4p2 c4p3 : D4) (c4p4 : Int) (c4p5 : D4) (c4p6 c4p7 : Int) (c4p8 : D4) (c4p10 c6p0 : Int) (c6p1 c6p2 c6p3 : D4) (c6p4 : Int) (c6p5 : D4) (c6p6 c6p7 : Int) (c6p8 : D4) (c6p10 : Int) (c74 : D21) : St := stL 78 [(1, .data T16 x1), (4, .ref 4 0 []), (6, .ref 6 0 []), (59, .data T1 x59), (60, .data T1 x60)] [(4, .cell T94 (.agg T94 [.data T1 c4p0, .data T23 c4p1, .data T23 c4p2, .data T17 c4p3, .data T1 c4p4, .data T17 c4p5, .data T1 c4p6, .data T1 c4p7, .data .str c4p8, .full T18 [], .data T1 c4p10, .full T97 []]) false), (6, .cell T94 (.agg T94 [.data T1 c6p0, .data T23 c6p1, .data T23 c6p2, .data T17 c6p3, .data T1 c6p4, .data T17 c6p5, .data T1 c6p6, .data T1 c6p7, .data .str c6p8, .full T18 [], .data T1 c6p10, .app 74 0]) false), (74, .buf T97 c74 0 true)]
noncomputable def cd0 : Code := cL (cL (cR (cL (cR (cR (cR (cR (cR (cB Try.f199)))))))))
def St3 (c4p0 : Int) (c4p1 c4p2 c4p3 : D4) (c4p4 : Int) (c4p5 : D4) (c4p6 c4p7 : Int) (c4p8 : D4) (c4p10 c6p0 : Int) (c6p1 c6p2 c6p3 : D4) (c6p4 : Int) (c6p5 : D4) (c6p6 c6p7 : Int) (c6p8 : D4) (c6p10 : Int) (c74 : D21) : St := stL 78 [(4, .ref 4 0 []), (6, .ref 6 0 [])] [(4, .cell T94 (.agg T94 [.data T1 c4p0, .data T23 c4p1, .data T23 c4p2, .data T17 c4p3, .data T1 c4p4, .data T17 c4p5, .data T1 c4p6, .data T1 c4p7, .data .str c4p8, .full T18 [], .data T1 c4p10, .full T97 []]) false), (6, .cell T94 (.agg T94 [.data T1 c6p0, .data T23 c6p1, .data T23 c6p2, .data T17 c6p3, .data T1 c6p4, .data T17 c6p5, .data T1 c6p6, .data T1 c6p7, .data .str c6p8, .full T18 [], .data T1 c6p10, .app 74 0]) false), (74, .buf T97 c74 0 true)]
def l0s (Nx : D4 -> Int -> Int -> Int -> D4 -> D4 -> D4 -> Int -> D4 -> Int -> Int -> D4 -> Int -> Int -> D4 -> D4 -> D4 -> Int -> D4 -> Int -> Int -> D4 -> Int -> D21 -> Option α) (Xt0 : Int -> D4 -> D4 -> D4 -> Int -> D4 -> Int -> Int -> D4 -> Int -> Int -> D4 -> D4 -> D4 -> Int -> D4 -> Int -> Int -> D4 -> Int -> D21 -> Option α) (x1 : D4) (x59 x60 c4p0 : Int) (c4p1 c4p2 c4p3 : D4) (c4p4 : Int) (c4p5 : D4) (c4p6 c4p7 : Int) (c4p8 : D4) (c4p10 c6p0 : Int) (c6p1 c6p2 c6p3 : D4) (c6p4 : Int) (c6p5 : D4) (c6p6 c6p7 : Int) (c6p8 : D4) (c6p10 : Int) (c74 : D21) : Option α :=
 if (decide (x60 < x59)) = true then
  if 0 <= (IntKind.i64.wrap (5 + (IntKind.i64.wrap (20 * x60)))) /\ (IntKind.i64.wrap (5 + (IntKind.i64.wrap (20 * x60)))) <= (x1.length : Int) /\ (x1.length : Int) <= (x1.length : Int) then
   if fitB (c74.length + 1) 20 = true then
    Nx x1 x59 (IntKind.i64.wrap (x60 + 1)) c4p0 c4p1 c4p2 c4p3 c4p4 c4p5 c4p6 c4p7 c4p8 c4p10 c6p0 c6p1 c6p2 c6p3 c6p4 c6p5 c6p6 c6p7 c6p8 c6p10 (c74 ++ [(cpyL (List.replicate 20 0) 0 20 (cutL x1 (IntKind.i64.wrap (5 + (IntKind.i64.wrap (20 * x60)))) (x1.length : Int)))])
   else none
  else none
 else
  Xt0 c4p0 c4p1 c4p2 c4p3 c4p4 c4p5 c4p6 c4p7 c4p8 c4p10 c6p0 c6p1 c6p2 c6p3 c6p4 c6p5 c6p6 c6p7 c6p8 c6p10 c74
theorem l0s_eq (k : Nat) (next : St -> Option α) (Q : Ex -> St -> Option α) (x1 : D4) (x59 x60 c4p0 : Int) (c4p1 c4p2 c4p3 : D4) (c4p4 : Int) (c4p5 : D4) (c4p6 c4p7 : Int) (c4p8 : D4) (c4p10 c6p0 : Int) (c6p1 c6p2 c6p3 : D4) (c6p4 : Int) (c6p5 : D4) (c6p6 c6p7 : Int) (c6p8 : D4) (c6p10 : Int) (c74 : D21) :
  rnd C k cd0 24 Q next (St2 x1 x59 x60 c4p0 c4p1 c4p2 c4p3 c4p4 c4p5 c4p6 c4p7 c4p8 c4p10 c6p0 c6p1 c6p2 c6p3 c6p4 c6p5 c6p6 c6p7 c6p8 c6p10 c74) = l0s (fun x1 x59 x60 c4p0 c4p1 c4p2 c4p3 c4p4 c4p5 c4p6 c4p7 c4p8 c4p10 c6p0 c6p1 c6p2 c6p3 c6p4 c6p5 c6p6 c6p7 c6p8 c6p10 c74 => next (St2 x1 x59 x60 c4p0 c4p1 c4p2 c4p3 c4p4 c4p5 c4p6 c4p7 c4p8 c4p10 c6p0 c6p1 c6p2 c6p3 c6p4 c6p5 c6p6 c6p7 c6p8 c6p10 c74)) (fun c4p0 c4p1 c4p2 c4p3 c4p4 c4p5 c4p6 c4p7 c4p8 c4p10 c6p0 c6p1 c6p2 c6p3 c6p4 c6p5 c6p6 c6p7 c6p8 c6p10 c74 => Q (.exit 0) (St3 c4p0 c4p1 c4p2 c4p3 c4p4 c4p5 c4p6 c4p7 c4p8 c4p10 c6p0 c6p1 c6p2 c6p3 c6p4 c6p5 c6p6 c6p7 c6p8 c6p10 c74)) x1 x59 x60 c4p0 c4p1 c4p2 c4p3 c4p4 c4p5 c4p6 c4p7 c4p8 c4p10 c6p0 c6p1 c6p2 c6p3 c6p4 c6p5 c6p6 c6p7 c6p8 c6p10 c74 := plainly Js (by kernel_rfl)
def l0 (k : Nat) (Xt0 : Int -> D4 -> D4 -> D4 -> Int -> D4 -> Int -> Int -> D4 -> Int -> Int -> D4 -> D4 -> D4 -> Int -> D4 -> Int -> Int -> D4 -> Int -> D21 -> Option α) : Nat -> D4 -> Int -> Int -> Int -> D4 -> D4 -> D4 -> Int -> D4 -> Int -> Int -> D4 -> Int -> Int -> D4 -> D4 -> D4 -> Int -> D4 -> Int -> Int -> D4 -> Int -> D21 -> Option α
 | 0, _, _, _, _, _, _, _, _, _, _, _, _, _, _, _, _, _, _, _, _, _, _, _, _ => none
 | n + 1, x1, x59, x60, c4p0, c4p1, c4p2, c4p3, c4p4, c4p5, c4p6, c4p7, c4p8, c4p10, c6p0, c6p1, c6p2, c6p3, c6p4, c6p5, c6p6, c6p7, c6p8, c6p10, c74 => l0s (l0 k Xt0 n) Xt0 x1 x59 x60 c4p0 c4p1 c4p2 c4p3 c4p4 c4p5 c4p6 c4p7 c4p8 c4p10 c6p0 c6p1 c6p2 c6p3 c6p4 c6p5 c6p6 c6p7 c6p8 c6p10 c74
theorem l0_eq (k : Nat) (Q : Ex -> St -> Option α) : ∀ (n : Nat) (x1 : D4) (x59 x60 c4p0 : Int) (c4p1 c4p2 c4p3 : D4) (c4p4 : Int) (c4p5 : D4) (c4p6 c4p7 : Int) (c4p8 : D4) (c4p10 c6p0 : Int) (c6p1 c6p2 c6p3 : D4) (c6p4 : Int) (c6p5 : D4) (c6p6 c6p7 : Int) (c6p8 : D4) (c6p10 : Int) (c74 : D21), iter (rnd C k cd0 24 Q) n (St2 x1 x59 x60 c4p0 c4p1 c4p2 c4p3 c4p4 c4p5 c4p6 c4p7 c4p8 c4p10 c6p0 c6p1 c6p2 c6p3 c6p4 c6p5 c6p6 c6p7 c6p8 c6p10 c74) = l0 k (fun c4p0 c4p1 c4p2 c4p3 c4p4 c4p5 c4p6 c4p7 c4p8 c4p10 c6p0 c6p1 c6p2 c6p3 c6p4 c6p5 c6p6 c6p7 c6p8 c6p10 c74 => Q (.exit 0) (St3 c4p0 c4p1 c4p2 c4p3 c4p4 c4p5 c4p6 c4p7 c4p8 c4p10 c6p0 c6p1 c6p2 c6p3 c6p4 c6p5 c6p6 c6p7 c6p8 c6p10 c74)) n x1 x59 x60 c4p0 c4p1 c4p2 c4p3 c4p4 c4p5 c4p6 c4p7 c4p8 c4p10 c6p0 c6p1 c6p2 c6p3 c6p4 c6p5 c6p6 c6p7 c6p8 c6p10 c74
 | 0, _, _, _, _, _, _, _, _, _, _, _, _, _, _, _, _, _, _, _, _, _, _, _, _ => rfl
 | n + 1, x1, x59, x60, c4p0, c4p1, c4p2, c4p3, c4p4, c4p5, c4p6, c4p7, c4p8, c4p10, c6p0, c6p1, c6p2, c6p3, c6p4, c6p5, c6p6, c6p7, c6p8, c6p10, c74 => (iter_succ _ _ _).trans ((l0s_eq k _ Q x1 x59 x60 c4p0 c4p1 c4p2 c4p3 c4p4 c4p5 c4p6 c4p7 c4p8 c4p10 c6p0 c6p1 c6p2 c6p3 c6p4 c6p5 c6p6 c6p7 c6p8 c6p10 c74).trans (congrArg (fun N => l0s N (fun c4p0 c4p1 c4p2 c4p3 c4p4 c4p5 c4p6 c4p7 c4p8 c4p10 c6p0 c6p1 c6p2 c6p3 c6p4 c6p5 c6p6 c6p7 c6p8 c6p10 c74 => Q (.exit 0) (St3 c4p0 c4p1 c4p2 c4p3 c4p4 c4p5 c4p6 c4p7 c4p8 c4p10 c6p0 c6p1 c6p2 c6p3 c6p4 c6p5 c6p6 c6p7 c6p8 c6p10 c74)) x1 x59 x60 c4p0 c4p1 c4p2 c4p3 c4p4 c4p5 c4p6 c4p7 c4p8 c4p10 c6p0 c6p1 c6p2 c6p3 c6p4 c6p5 c6p6 c6p7 c6p8 c6p10 c74) (by funext; exact l0_eq k Q n _ _ _ _ _ _ _ _ _ _ _ _ _ _ _ _ _ _ _ _ _ _ _ _)))
noncomputable def cd1 : Code := cR (cR (cR (cR (cR (cR (cB Try.f199))))))
def St4 (c4p0 : Int) (c4p1 c4p2 c4p3 : D4) (c4p4 : Int) (c4p5 : D4) (c4p6 c4p7 : Int) (c4p8 : D4) (c4p10 c6p0 : Int) (c6p1 c6p2 c6p3 : D4) (c6p4 : Int) (c6p5 : D4) (c6p6 c6p7 : Int) (c6p8 : D4) (c6p10 : Int) (c74 : D21) : St := stL 78 [(4, .ref 4 0 []), (6, .ref 6 0 [])] [(4, .cell T94 (.agg T94 [.data T1 c4p0, .data T23 c4p1, .data T23 c4p2, .data T17 c4p3, .data T1 c4p4, .data T17 c4p5, .data T1 c4p6, .data T1 c4p7, .data .str c4p8, .full T18 [], .data T1 c4p10, .full T97 []]) false), (6, .cell T94 (.agg T94 [.data T1 c6p0, .data T23 c6p1, .data T23 c6p2, .data T17 c6p3, .data T1 c6p4, .data T17 c6p5, .data T1 c6p6, .data T1 c6p7, .data .str c6p8, .full T18 [], .data T1 c6p10, .app 74 0]) false), (74, .buf T97 c74 0 true)]
def j0 (Rt : Int -> Int -> D4 -> D4 -> D4 -> Int -> D4 -> Int -> Int -> D4 -> Int -> D21 -> Option α) (c4p0 : Int) (c4p1 c4p2 c4p3 : D4) (c4p4 : Int) (c4p5 : D4) (c4p6 c4p7 : Int) (c4p8 : D4) (c4p10 c6p0 : Int) (c6p1 c6p2 c6p3 : D4) (c6p4 : Int) (c6p5 : D4) (c6p6 c6p7 : Int) (c6p8 : D4) (c6p10 : Int) (c74 : D21) : Option α :=
 Rt 0 c6p0 c6p1 c6p2 c6p3 c6p4 c6p5 c6p6 c6p7 c6p8 c6p10 c74
theorem j0_eq (k : Nat) (Q : Ex -> St -> Option α) (c4p0 : Int) (c4p1 c4p2 c4p3 : D4) (c4p4 : Int) (c4p5 : D4) (c4p6 c4p7 : Int) (c4p8 : D4) (c4p10 c6p0 : Int) (c6p1 c6p2 c6p3 : D4) (c6p4 : Int) (c6p5 : D4) (c6p6 c6p7 : Int) (c6p8 : D4) (c6p10 : Int) (c74 : D21) :
  (den C k) cd1 Q (St4 c4p0 c4p1 c4p2 c4p3 c4p4 c4p5 c4p6 c4p7 c4p8 c4p10 c6p0 c6p1 c6p2 c6p3 c6p4 c6p5 c6p6 c6p7 c6p8 c6p10 c74) = j0 (fun x5 c4p0 c4p1 c4p2 c4p3 c4p4 c4p5 c4p6 c4p7 c4p8 c4p10 c4p11 => Q .ret (St1 x5 c4p0 c4p1 c4p2 c4p3 c4p4 c4p5 c4p6 c4p7 c4p8 c4p10 c4p11)) c4p0 c4p1 c4p2 c4p3 c4p4 c4p5 c4p6 c4p7 c4p8 c4p10 c6p0 c6p1 c6p2 c6p3 c6p4 c6p5 c6p6 c6p7 c6p8 c6p10 c74 := plainly Js (by kernel_rfl)
theorem a0 (k : Nat) (Q : Ex -> St -> Option α) (x1 : D4) (x59 x60 c4p0 : Int) (c4p1 c4p2 c4p3 : D4) (c4p4 : Int) (c4p5 : D4) (c4p6 c4p7 : Int) (c4p8 : D4) (c4p10 c6p0 : Int) (c6p1 c6p2 c6p3 : D4) (c6p4 : Int) (c6p5 : D4) (c6p6 c6p7 : Int) (c6p8 : D4) (c6p10 : Int) (c74 : D21) :
  (lp C k) cd0 (blkQ C 0 (sq (den C k) (lp C k) Js C cd1 Q)) (St2 x1 x59 x60 c4p0 c4p1 c4p2 c4p3 c4p4 c4p5 c4p6 c4p7 c4p8 c4p10 c6p0 c6p1 c6p2 c6p3 c6p4 c6p5 c6p6 c6p7 c6p8 c6p10 c74) = l0 k (fun c4p0 c4p1 c4p2 c4p3 c4p4 c4p5 c4p6 c4p7 c4p8 c4p10 c6p0 c6p1 c6p2 c6p3 c6p4 c6p5 c6p6 c6p7 c6p8 c6p10 c74 => j0 (fun x5 c4p0 c4p1 c4p2 c4p3 c4p4 c4p5 c4p6 c4p7 c4p8 c4p10 c4p11 => Q .ret (St1 x5 c4p0 c4p1 c4p2 c4p3 c4p4 c4p5 c4p6 c4p7 c4p8 c4p10 c4p11)) c4p0 c4p1 c4p2 c4p3 c4p4 c4p5 c4p6 c4p7 c4p8 c4p10 c6p0 c6p1 c6p2 c6p3 c6p4 c6p5 c6p6 c6p7 c6p8 c6p10 c74) k x1 x59 x60 c4p0 c4p1 c4p2 c4p3 c4p4 c4p5 c4p6 c4p7 c4p8 c4p10 c6p0 c6p1 c6p2 c6p3 c6p4 c6p5 c6p6 c6p7 c6p8 c6p10 c74 :=
 (lp_iter 24 (by kernel_rfl)).trans ((l0_eq k _ k x1 x59 x60 c4p0 c4p1 c4p2 c4p3 c4p4 c4p5 c4p6 c4p7 c4p8 c4p10 c6p0 c6p1 c6p2 c6p3 c6p4 c6p5 c6p6 c6p7 c6p8 c6p10 c74).trans (congrArg (fun X => l0 k X k x1 x59 x60 c4p0 c4p1 c4p2 c4p3 c4p4 c4p5 c4p6 c4p7 c4p8 c4p10 c6p0 c6p1 c6p2 c6p3 c6p4 c6p5 c6p6 c6p7 c6p8 c6p10 c74) (funext fun c4p0 => funext fun c4p1 => funext fun c4p2 => funext fun c4p3 => funext fun c4p4 => funext fun c4p5 => funext fun c4p6 => funext fun c4p7 => funext fun c4p8 => funext fun c4p10 => funext fun c6p0 => funext fun c6p1 => funext fun c6p2 => funext fun c6p3 => funext fun c6p4 => funext fun c6p5 => funext fun c6p6 => funext fun c6p7 => funext fun c6p8 => funext fun c6p10 => funext fun c74 => (Eq.trans (b := (den C k) cd1 Q (St4 c4p0 c4p1 c4p2 c4p3 c4p4 c4p5 c4p6 c4p7 c4p8 c4p10 c6p0 c6p1 c6p2 c6p3 c6p4 c6p5 c6p6 c6p7 c6p8 c6p10 c74)) (by kernel_rfl) (by simp only [j0_eq])))))
def top (k : Nat) (Rt : Int -> Int -> D4 -> D4 -> D4 -> Int -> D4 -> Int -> Int -> D4 -> Int -> D21 -> Option α) (x0 : Unit) (x1 : D4) : Option α :=
 cond (decide (0 <= (4 : Int) /\ (4 : Int) < (x1.length : Int)) || !((decide ((x1.length : Int) < 5)) == false)) (
  if (cond (decide ((x1.length : Int) < 5)) true (decide ((x1.length : Int) < (IntKind.i64.wrap (5 + (IntKind.i64.wrap (20 * (IntKind.i64.wrap (List.getD x1 4 0))))))))) = true then
   Rt 4 0 [0, 0, 0, 0] [0, 0, 0, 0] (List.replicate 32 0) 0 (List.replicate 32 0) 0 0 [] 0 []
  else
   if 0 <= (0 : Int) /\ (0 : Int) < (x1.length : Int) then
    if 0 <= (1 : Int) /\ (1 : Int) < (x1.length : Int) then
     if 0 <= (2 : Int) /\ (2 : Int) < (x1.length : Int) then
      if 0 <= (3 : Int) /\ (3 : Int) < (x1.length : Int) then
       if 0 <= (4 : Int) /\ (4 : Int) < (x1.length : Int) then
        if (decide ((x1.length : Int) > (IntKind.i64.wrap (5 + (IntKind.i64.wrap (20 * (IntKind.i64.wrap (List.getD x1 4 0)))))))) = true then
         Rt 3 0 [0, 0, 0, 0] [0, 0, 0, 0] (List.replicate 32 0) 0 (List.replicate 32 0) 0 0 [] 0 []
        else
         l0 k (fun c4p0 c4p1 c4p2 c4p3 c4p4 c4p5 c4p6 c4p7 c4p8 c4p10 c6p0 c6p1 c6p2 c6p3 c6p4 c6p5 c6p6 c6p7 c6p8 c6p10 c74 => j0 Rt c4p0 c4p1 c4p2 c4p3 c4p4 c4p5 c4p6 c4p7 c4p8 c4p10 c6p0 c6p1 c6p2 c6p3 c6p4 c6p5 c6p6 c6p7 c6p8 c6p10 c74) k x1 (IntKind.i64.wrap (List.getD x1 4 0)) 0 0 [0, 0, 0, 0] [0, 0, 0, 0] (List.replicate 32 0) 0 (List.replicate 32 0) 0 0 [] 0 0 [0, 0, 0, 0] [0, 0, 0, 0] (List.replicate 32 0) 0 (List.replicate 32 0) 0 0 [] (bor .i64 (bor .i64 (bor .i64 (shlI .i64 (IntKind.i64.wrap (List.getD x1 0 0)) 24) (shlI .i64 (IntKind.i64.wrap (List.getD x1 1 0)) 16)) (shlI .i64 (IntKind.i64.wrap (List.getD x1 2 0)) 8)) (IntKind.i64.wrap (List.getD x1 3 0))) []
       else none
      else none
     else none
    else none
   else none) none
theorem top_eq (k : Nat) (Q : Ex -> St -> Option α) (x0 : Unit) (x1 : D4) :
  (den C k) (cB Try.f199) Q (St0 x0 x1) = top k (fun x5 c4p0 c4p1 c4p2 c4p3 c4p4 c4p5 c4p6 c4p7 c4p8 c4p10 c4p11 => Q .ret (St1 x5 c4p0 c4p1 c4p2 c4p3 c4p4 c4p5 c4p6 c4p7 c4p8 c4p10 c4p11)) x0 x1 := by
 have h : ∀ (D L : DT α), denJ D L Js C (cB Try.f199) Q (St0 x0 x1) =
    cond (decide (0 <= (4 : Int) /\ (4 : Int) < (x1.length : Int)) || !((decide ((x1.length : Int) < 5)) == false)) (
     if (cond (decide ((x1.length : Int) < 5)) true (decide ((x1.length : Int) < (IntKind.i64.wrap (5 + (IntKind.i64.wrap (20 * (IntKind.i64.wrap (List.getD x1 4 0))))))))) = true then
      Q .ret (St1 4 0 [0, 0, 0, 0] [0, 0, 0, 0] (List.replicate 32 0) 0 (List.replicate 32 0) 0 0 [] 0 [])
     else
      if 0 <= (0 : Int) /\ (0 : Int) < (x1.length : Int) then
       if 0 <= (1 : Int) /\ (1 : Int) < (x1.length : Int) then
        if 0 <= (2 : Int) /\ (2 : Int) < (x1.length : Int) then
         if 0 <= (3 : Int) /\ (3 : Int) < (x1.length : Int) then
          if 0 <= (4 : Int) /\ (4 : Int) < (x1.length : Int) then
           if (decide ((x1.length : Int) > (IntKind.i64.wrap (5 + (IntKind.i64.wrap (20 * (IntKind.i64.wrap (List.getD x1 4 0)))))))) = true then
            Q .ret (St1 3 0 [0, 0, 0, 0] [0, 0, 0, 0] (List.replicate 32 0) 0 (List.replicate 32 0) 0 0 [] 0 [])
           else
            L cd0 (blkQ C 0 (sq D L Js C cd1 Q)) (St2 x1 (IntKind.i64.wrap (List.getD x1 4 0)) 0 0 [0, 0, 0, 0] [0, 0, 0, 0] (List.replicate 32 0) 0 (List.replicate 32 0) 0 0 [] 0 0 [0, 0, 0, 0] [0, 0, 0, 0] (List.replicate 32 0) 0 (List.replicate 32 0) 0 0 [] (bor .i64 (bor .i64 (bor .i64 (shlI .i64 (IntKind.i64.wrap (List.getD x1 0 0)) 24) (shlI .i64 (IntKind.i64.wrap (List.getD x1 1 0)) 16)) (shlI .i64 (IntKind.i64.wrap (List.getD x1 2 0)) 8)) (IntKind.i64.wrap (List.getD x1 3 0))) [])
          else none
         else none
        else none
       else none
      else none) none := by
  intro D L; kernel_rfl
 have h2 := via (k := k) h
 refine h2.trans ?_
 simp only [a0]
 first | rfl | kernel_rfl
def run (x0 : Unit) (x1 : D4) : Option D40 := top (α := D36 × Int × Unit) fuel (fun x5 c4p0 c4p1 c4p2 c4p3 c4p4 c4p5 c4p6 c4p7 c4p8 c4p10 c4p11 => some ((c4p0, c4p1, c4p2, c4p3, c4p4, c4p5, c4p6, c4p7, c4p8, [], c4p10, c4p11, ()), x5, ())) x0 x1
def F : Fn := ⟨T105, T104, true, fun x => run x.1 x.2.1⟩
theorem con : Con Try.prog 199 F /\ Named Try.prog 199 :=
 con_of2 (C := C) (ctx_ok (by kernel_rfl) (by kernel_rfl) (by kernel_rfl) (by kernel_rfl) trivial) (by kernel_rfl) Try.func199 (by kernel_rfl) (c := cB Try.f199) (by kernel_rfl) (by kernel_rfl) F (fun x => by simp [F, spread, Try.ntmps199]) (fun x => (St0 x.1 x.2.1)) (fun x => by kernel_rfl) fun x => (top_eq fuel _ x.1 x.2.1).trans (by kernel_rfl)
end Go.Bx.load_turn__get
namespace Go.Bx.load_Decode
def Js : List Nat := []
def C : Ctx := ⟨[(3, T1), (5, T18), (29, T16), (35, T1), (181, T94)], [], [], fnL [(164, load_Check.F), (189, load_transfer__get.F), (195, load_meta__get.F), (199, load_turn__get.F)], shL [(163, [.alt load_kindOf_s0.Sp])], [(17, 48)], invL [(211, [("bascule/load.get", 189)]), (213, [("bascule/load.get", 195)]), (214, [("bascule/load.get", 199)])], [(2, [2, 3])], [(2, [.dat false 2 []])], [], 0, 0⟩
def St0 (x0 : D4) : St := stL 47 [(0, .data T16 x0)] []
def St1 (x3 : Int) (c2 : D36) : St := stL 47 [(2, .ref 2 0 []), (3, .data T1 x3)] [(2, .cell T94 (.data T94 c2) false)]
def top (Rt : Int -> D36 -> Option α) (x0 : D4) : Option α :=
 if ((x0.length : Int) == 0) = true then
  Rt 4 (0, [0, 0, 0, 0], [0, 0, 0, 0], (List.replicate 32 0), 0, (List.replicate 32 0), 0, 0, [], [], 0, [], ())
 else
  if 0 <= (0 : Int) /\ (0 : Int) < (x0.length : Int) then
   (load_kindOf_s0.run (IntKind.i64.wrap (List.getD x0 0 0))).bind fun y1 => (Sum.elim (fun y2 =>
    if (not y2.2.1) = true then
     Rt 2 (0, [0, 0, 0, 0], [0, 0, 0, 0], (List.replicate 32 0), 0, (List.replicate 32 0), 0, 0, [], [], 0, [], ())
    else
     if 0 <= (1 : Int) /\ (1 : Int) <= (x0.length : Int) /\ (x0.length : Int) <= (x0.length : Int) then
      (load_transfer__get.run y2.1 (cutL x0 1 (x0.length : Int))).bind fun y6 =>
      if (y6.2.1 != 0) = true then
       Rt y6.2.1 (0, [0, 0, 0, 0], [0, 0, 0, 0], (List.replicate 32 0), 0, (List.replicate 32 0), 0, 0, [], [], 0, [], ())
      else
       if 0 <= (0 : Int) /\ (0 : Int) < (x0.length : Int) then
        (load_Check.run ((IntKind.i64.wrap (List.getD x0 0 0)), y6.1.2)).bind fun y7 =>
        if (y7 != 0) = true then
         Rt 3 (0, [0, 0, 0, 0], [0, 0, 0, 0], (List.replicate 32 0), 0, (List.replicate 32 0), 0, 0, [], [], 0, [], ())
        else
         Rt 0 ((IntKind.i64.wrap (List.getD x0 0 0)), y6.1.2)
       else none
     else none) (Sum.elim (fun y3 =>
    if (not y3.2.1) = true then
     Rt 2 (0, [0, 0, 0, 0], [0, 0, 0, 0], (List.replicate 32 0), 0, (List.replicate 32 0), 0, 0, [], [], 0, [], ())
    else
     if 0 <= (1 : Int) /\ (1 : Int) <= (x0.length : Int) /\ (x0.length : Int) <= (x0.length : Int) then
      (load_meta__get.run y3.1 (cutL x0 1 (x0.length : Int))).bind fun y8 =>
      if (y8.2.1 != 0) = true then
       Rt y8.2.1 (0, [0, 0, 0, 0], [0, 0, 0, 0], (List.replicate 32 0), 0, (List.replicate 32 0), 0, 0, [], [], 0, [], ())
      else
       if 0 <= (0 : Int) /\ (0 : Int) < (x0.length : Int) then
        (load_Check.run ((IntKind.i64.wrap (List.getD x0 0 0)), y8.1.2)).bind fun y9 =>
        if (y9 != 0) = true then
         Rt 3 (0, [0, 0, 0, 0], [0, 0, 0, 0], (List.replicate 32 0), 0, (List.replicate 32 0), 0, 0, [], [], 0, [], ())
        else
         Rt 0 ((IntKind.i64.wrap (List.getD x0 0 0)), y8.1.2)
       else none
     else none) (Sum.elim (fun y4 =>
    if (not y4.2.1) = true then
     Rt 2 (0, [0, 0, 0, 0], [0, 0, 0, 0], (List.replicate 32 0), 0, (List.replicate 32 0), 0, 0, [], [], 0, [], ())
    else
     if 0 <= (1 : Int) /\ (1 : Int) <= (x0.length : Int) /\ (x0.length : Int) <= (x0.length : Int) then
      (load_turn__get.run y4.1 (cutL x0 1 (x0.length : Int))).bind fun y10 =>
      if (y10.2.1 != 0) = true then
       Rt y10.2.1 (0, [0, 0, 0, 0], [0, 0, 0, 0], (List.replicate 32 0), 0, (List.replicate 32 0), 0, 0, [], [], 0, [], ())
      else
       if 0 <= (0 : Int) /\ (0 : Int) < (x0.length : Int) then
        (load_Check.run ((IntKind.i64.wrap (List.getD x0 0 0)), y10.1.2)).bind fun y11 =>
        if (y11 != 0) = true then
         Rt 3 (0, [0, 0, 0, 0], [0, 0, 0, 0], (List.replicate 32 0), 0, (List.replicate 32 0), 0, 0, [], [], 0, [], ())
        else
         Rt 0 ((IntKind.i64.wrap (List.getD x0 0 0)), y10.1.2)
       else none
     else none) (Sum.elim (fun y5 =>
    if (not y5.1) = true then
     Rt 2 (0, [0, 0, 0, 0], [0, 0, 0, 0], (List.replicate 32 0), 0, (List.replicate 32 0), 0, 0, [], [], 0, [], ())
    else
     if 0 <= (1 : Int) /\ (1 : Int) <= (x0.length : Int) /\ (x0.length : Int) <= (x0.length : Int) then
      none
     else none) (fun e => e.elim))))) y1
  else none
theorem top_eq (k : Nat) (Q : Ex -> St -> Option α) (x0 : D4) :
  (den C k) (cB Try.f155) Q (St0 x0) = top (fun x3 c2 => Q .ret (St1 x3 c2)) x0 := plainly Js (by kernel_rfl)
def run (x0 : D4) : Option D40 := top (α := D36 × Int × Unit) (fun x3 c2 => some (c2, x3, ())) x0
def F : Fn := ⟨T25, T104, true, fun x => run x.1⟩
theorem con : Con Try.prog 155 F /\ Named Try.prog 155 :=
 con_of2 (C := C) (ctx_ok_sh (by kernel_rfl) (by kernel_rfl) (by kernel_rfl) (by kernel_rfl) ⟨.inl load_Check.con, ⟨.inl load_transfer__get.con, ⟨.inl load_meta__get.con, ⟨.inl load_turn__get.con, trivial⟩⟩⟩⟩ ⟨⟨⟨load_kindOf_s0.sok, trivial⟩, load_kindOf_s0.named⟩, trivial⟩) (by kernel_rfl) Try.func155 (by kernel_rfl) (c := cB Try.f155) (by kernel_rfl) (by kernel_rfl) F (fun x => by simp [F, spread, Try.ntmps155]) (fun x => (St0 x.1)) (fun x => by kernel_rfl) fun x => (top_eq fuel _ x.1).trans (by kernel_rfl)
end Go.Bx.load_Decode
namespace Go.Bx.basculeref_LoadOf
def Js : List Nat := [11, 22, 35]
def C : Ctx := ⟨[(3, T1), (5, T18), (9, .str), (24, T23), (29, T16), (35, T1), (38, T17), (179, T93), (181, T94), (198, T97)], [], [], fnL [(70, basculeref_number.F), (131, basculeref_wideOf.F), (132, basculeref_word.F), (161, basculeref_LoadFault.F)], noSh, [], invL [], [(2, [2, 3]), (1, [2, 5]), (4, [2, 4, 5, 6]), (7, [2, 4, 5, 6]), (10, [2, 5]), (13, [2, 4, 5]), (38, [2, 4, 5, 20, 22]), (57, [2, 4, 5, 6]), (63, [2, 4, 5, 6]), (87, [2, 4, 5]), (102, [2, 5])], [(2, [.dat false 2 [9], .dat false 2 [11]]), (87, [.melt false 5 [11] 140 true]), (102, [.dat false 5 [9], .melt false 5 [11] 140 true])], [], 0, 0⟩
def St0 (x0 : D4) : St := stL 147 [(0, .data T16 x0)] []
def St1 (x3 : Int) (c2 : D36) : St := stL 147 [(2, .ref 2 0 []), (3, .data T1 x3)] [(2, .cell T94 (.data T94 c2) false)]
def St2 (x4 : D4) (x20 : Int) (x22 : Bool) (c2p0 : Int) (c2p1 c2p2 c2p3 : D4) (c2p4 : Int) (c2p5 : D4) (c2p6 c2p7 : Int) (c2p8 : D4) (c2p10 c5p0 : Int) (c5p1 c5p2 c5p3 : D4) (c5p4 : Int) (c5p5 : D4) (c5p6 c5p7 : Int) (c5p8 : D4) (c5p10 : Int) : St := stL 147 [(2, .ref 2 0 []), (4, .data .str x4), (5, .ref 5 0 []), (20, .data T1 x20), (22, .data .bool x22)] [(2, .cell T94 (.agg T94 [.data T1 c2p0, .data T23 c2p1, .data T23 c2p2, .data T17 c2p3, .data T1 c2p4, .data T17 c2p5, .data T1 c2p6, .data T1 c2p7, .data .str c2p8, .full T18 [], .data T1 c2p10, .full T97 []]) false), (5, .cell T94 (.agg T94 [.data T1 c5p0, .data T23 c5p1, .data T23 c5p2, .data T17 c5p3, .data T1 c5p4, .data T17 c5p5, .data T1 c5p6, .data T1 c5p7, .data .str c5p8, .full T18 [], .data T1 c5p10, .full T97 []]) false)]
noncomputable def cd0 : Code := cR (cR (cR (cR (cR (cR (cB Try.f150))))))
noncomputable def cd1 : Code := cR (cL (cR (cL (cR (cR (cR (cR (cR (cB Try.f150)))))))))
def St3 (c2p0 : Int) (c2p1 c2p2 c2p3 : D4) (c2p4 : Int) (c2p5 : D4) (c2p6 c2p7 : Int) (c2p8 : D4) (c2p10 c5p0 : Int) (c5p1 c5p2 c5p3 : D4) (c5p4 : Int) (c5p5 : D4) (c5p6 c5p7 : Int) (c5p8 c5p9 : D4) (c5p10 : Int) (c140 : D21) : St := stL 147 [(2, .ref 2 0 []), (5, .ref 5 0 [])] [(2, .cell T94 (.agg T94 [.data T1 c2p0, .data T23 c2p1, .data T23 c2p2, .data T17 c2p3, .data T1 c2p4, .data T17 c2p5, .data T1 c2p6, .data T1 c2p7, .data .str c2p8, .full T18 [], .data T1 c2p10, .full T97 []]) false), (5, .cell T94 (.agg T94 [.data T1 c5p0, .data T23 c5p1, .data T23 c5p2, .data T17 c5p3, .data T1 c5p4, .data T17 c5p5, .data T1 c5p6, .data T1 c5p7, .data .str c5p8, .data T16 c5p9, .data T1 c5p10, .app 140 0]) false), (140, .buf T97 c140 0 true)]
def j1 (Rt : Int -> D36 -> Option α) (c2p0 : Int) (c2p1 c2p2 c2p3 : D4) (c2p4 : Int) (c2p5 : D4) (c2p6 c2p7 : Int) (c2p8 : D4) (c2p10 c5p0 : Int) (c5p1 c5p2 c5p3 : D4) (c5p4 : Int) (c5p5 : D4) (c5p6 c5p7 : Int) (c5p8 c5p9 : D4) (c5p10 : Int) (c140 : D21) : Option α :=
 (basculeref_LoadFault.run (c5p0, c5p1, c5p2, c5p3, c5p4, c5p5, c5p6, c5p7, c5p8, c5p9, c5p10, c140, ())).bind fun y7 =>
 if (y7 != 0) = true then
  Rt 3 (0, [0, 0, 0, 0], [0, 0, 0, 0], (List.replicate 32 0), 0, (List.replicate 32 0), 0, 0, [], [], 0, [], ())
 else
  Rt 0 (c5p0, c5p1, c5p2, c5p3, c5p4, c5p5, c5p6, c5p7, c5p8, c5p9, c5p10, c140, ())
theorem j1_eq (k : Nat) (Q : Ex -> St -> Option α) (c2p0 : Int) (c2p1 c2p2 c2p3 : D4) (c2p4 : Int) (c2p5 : D4) (c2p6 c2p7 : Int) (c2p8 : D4) (c2p10 c5p0 : Int) (c5p1 c5p2 c5p3 : D4) (c5p4 : Int) (c5p5 : D4) (c5p6 c5p7 : Int) (c5p8 c5p9 : D4) (c5p10 : Int) (c140 : D21) :
  (den C k) cd0 Q (St3 c2p0 c2p1 c2p2 c2p3 c2p4 c2p5 c2p6 c2p7 c2p8 c2p10 c5p0 c5p1 c5p2 c5p3 c5p4 c5p5 c5p6 c5p7 c5p8 c5p9 c5p10 c140) = j1 (fun x3 c2 => Q .ret (St1 x3 c2)) c2p0 c2p1 c2p2 c2p3 c2p4 c2p5 c2p6 c2p7 c2p8 c2p10 c5p0 c5p1 c5p2 c5p3 c5p4 c5p5 c5p6 c5p7 c5p8 c5p9 c5p10 c140 := plainly Js (by kernel_rfl)
def St4 (x4 x6 : D4) (c2p0 : Int) (c2p1 c2p2 c2p3 : D4) (c2p4 : Int) (c2p5 : D4) (c2p6 c2p7 : Int) (c2p8 : D4) (c2p10 c5p0 : Int) (c5p1 c5p2 c5p3 : D4) (c5p4 : Int) (c5p5 : D4) (c5p6 c5p7 : Int) (c5p8 : D4) (c5p10 : Int) : St := stL 147 [(2, .ref 2 0 []), (4, .data .str x4), (5, .ref 5 0 []), (6, .data .str x6)] [(2, .cell T94 (.agg T94 [.data T1 c2p0, .data T23 c2p1, .data T23 c2p2, .data T17 c2p3, .data T1 c2p4, .data T17 c2p5, .data T1 c2p6, .data T1 c2p7, .data .str c2p8, .full T18 [], .data T1 c2p10, .full T97 []]) false), (5, .cell T94 (.agg T94 [.data T1 c5p0, .data T23 c5p1, .data T23 c5p2, .data T17 c5p3, .data T1 c5p4, .data T17 c5p5, .data T1 c5p6, .data T1 c5p7, .data .str c5p8, .full T18 [], .data T1 c5p10, .full T97 []]) false)]
noncomputable def cd2 : Code := cL (cL (cL (cR (cR (cR (cL (cR (cR (cR (cL (cR (cL (cR (cR (cR (cR (cR (cB Try.f150))))))))))))))))))
def St5 (x4 x6 : D4) (c2p0 : Int) (c2p1 c2p2 c2p3 : D4) (c2p4 : Int) (c2p5 : D4) (c2p6 c2p7 : Int) (c2p8 : D4) (c2p10 c5p0 : Int) (c5p1 c5p2 c5p3 : D4) (c5p4 : Int) (c5p5 : D4) (c5p6 c5p7 : Int) (c5p8 : D4) (c5p10 : Int) : St := stL 147 [(2, .ref 2 0 []), (4, .data .str x4), (5, .ref 5 0 []), (6, .data .str x6)] [(2, .cell T94 (.agg T94 [.data T1 c2p0, .data T23 c2p1, .data T23 c2p2, .data T17 c2p3, .data T1 c2p4, .data T17 c2p5, .data T1 c2p6, .data T1 c2p7, .data .str c2p8, .full T18 [], .data T1 c2p10, .full T97 []]) false), (5, .cell T94 (.agg T94 [.data T1 c5p0, .data T23 c5p1, .data T23 c5p2, .data T17 c5p3, .data T1 c5p4, .data T17 c5p5, .data T1 c5p6, .data T1 c5p7, .data .str c5p8, .full T18 [], .data T1 c5p10, .full T97 []]) false)]
def l0s (Nx : D4 -> D4 -> Int -> D4 -> D4 -> D4 -> Int -> D4 -> Int -> Int -> D4 -> Int -> Int -> D4 -> D4 -> D4 -> Int -> D4 -> Int -> Int -> D4 -> Int -> Option α) (Xt1 : D4 -> D4 -> Int -> D4 -> D4 -> D4 -> Int -> D4 -> Int -> Int -> D4 -> Int -> Int -> D4 -> D4 -> D4 -> Int -> D4 -> Int -> Int -> D4 -> Int -> Option α) (x4 x6 : D4) (c2p0 : Int) (c2p1 c2p2 c2p3 : D4) (c2p4 : Int) (c2p5 : D4) (c2p6 c2p7 : Int) (c2p8 : D4) (c2p10 c5p0 : Int) (c5p1 c5p2 c5p3 : D4) (c5p4 : Int) (c5p5 : D4) (c5p6 c5p7 : Int) (c5p8 : D4) (c5p10 : Int) : Option α :=
 cond (decide (0 <= (IntKind.i64.wrap ((x6.length : Int) - 1)) /\ (IntKind.i64.wrap ((x6.length : Int) - 1)) < (x6.length : Int)) || !((not (beqD .str x6 [])) == true)) (
  if (cond (not (beqD .str x6 [])) ((List.getD x6 (Int.toNat (IntKind.i64.wrap ((x6.length : Int) - 1))) 0) == 0) false) = true then
   if 0 <= (0 : Int) /\ (0 : Int) <= (IntKind.i64.wrap ((x6.length : Int) - 1)) /\ (IntKind.i64.wrap ((x6.length : Int) - 1)) <= (x6.length : Int) then
    Nx x4 (cutL x6 0 (IntKind.i64.wrap ((x6.length : Int) - 1))) c2p0 c2p1 c2p2 c2p3 c2p4 c2p5 c2p6 c2p7 c2p8 c2p10 c5p0 c5p1 c5p2 c5p3 c5p4 c5p5 c5p6 c5p7 c5p8 c5p10
   else none
  else
   Xt1 x4 x6 c2p0 c2p1 c2p2 c2p3 c2p4 c2p5 c2p6 c2p7 c2p8 c2p10 c5p0 c5p1 c5p2 c5p3 c5p4 c5p5 c5p6 c5p7 c5p8 c5p10) none
theorem l0s_eq (k : Nat) (next : St -> Option α) (Q : Ex -> St -> Option α) (x4 x6 : D4) (c2p0 : Int) (c2p1 c2p2 c2p3 : D4) (c2p4 : Int) (c2p5 : D4) (c2p6 c2p7 : Int) (c2p8 : D4) (c2p10 c5p0 : Int) (c5p1 c5p2 c5p3 : D4) (c5p4 : Int) (c5p5 : D4) (c5p6 c5p7 : Int) (c5p8 : D4) (c5p10 : Int) :
  rnd C k cd2 57 Q next (St4 x4 x6 c2p0 c2p1 c2p2 c2p3 c2p4 c2p5 c2p6 c2p7 c2p8 c2p10 c5p0 c5p1 c5p2 c5p3 c5p4 c5p5 c5p6 c5p7 c5p8 c5p10) = l0s (fun x4 x6 c2p0 c2p1 c2p2 c2p3 c2p4 c2p5 c2p6 c2p7 c2p8 c2p10 c5p0 c5p1 c5p2 c5p3 c5p4 c5p5 c5p6 c5p7 c5p8 c5p10 => next (St4 x4 x6 c2p0 c2p1 c2p2 c2p3 c2p4 c2p5 c2p6 c2p7 c2p8 c2p10 c5p0 c5p1 c5p2 c5p3 c5p4 c5p5 c5p6 c5p7 c5p8 c5p10)) (fun x4 x6 c2p0 c2p1 c2p2 c2p3 c2p4 c2p5 c2p6 c2p7 c2p8 c2p10 c5p0 c5p1 c5p2 c5p3 c5p4 c5p5 c5p6 c5p7 c5p8 c5p10 => Q (.exit 1) (St5 x4 x6 c2p0 c2p1 c2p2 c2p3 c2p4 c2p5 c2p6 c2p7 c2p8 c2p10 c5p0 c5p1 c5p2 c5p3 c5p4 c5p5 c5p6 c5p7 c5p8 c5p10)) x4 x6 c2p0 c2p1 c2p2 c2p3 c2p4 c2p5 c2p6 c2p7 c2p8 c2p10 c5p0 c5p1 c5p2 c5p3 c5p4 c5p5 c5p6 c5p7 c5p8 c5p10 := plainly Js (by kernel_rfl)
def l0 (k : Nat) (Xt1 : D4 -> D4 -> Int -> D4 -> D4 -> D4 -> Int -> D4 -> Int -> Int -> D4 -> Int -> Int -> D4 -> D4 -> D4 -> Int -> D4 -> Int -> Int -> D4 -> Int -> Option α) : Nat -> D4 -> D4 -> Int -> D4 -> D4 -> D4 -> Int -> D4 -> Int -> Int -> D4 -> Int -> Int -> D4 -> D4 -> D4 -> Int -> D4 -> Int -> Int -> D4 -> Int -> Option α
 | 0, _, _, _, _, _, _, _, _, _, _, _, _, _, _, _, _, _, _, _, _, _, _ => none
 | n + 1, x4, x6, c2p0, c2p1, c2p2, c2p3, c2p4, c2p5, c2p6, c2p7, c2p8, c2p10, c5p0, c5p1, c5p2, c5p3, c5p4, c5p5, c5p6, c5p7, c5p8, c5p10 => l0s (l0 k Xt1 n) Xt1 x4 x6 c2p0 c2p1 c2p2 c2p3 c2p4 c2p5 c2p6 c2p7 c2p8 c2p10 c5p0 c5p1 c5p2 c5p3 c5p4 c5p5 c5p6 c5p7 c5p8 c5p10
theorem l0_eq (k : Nat) (Q : Ex -> St -> Option α) : ∀ (n : Nat) (x4 x6 : D4) (c2p0 : Int) (c2p1 c2p2 c2p3 : D4) (c2p4 : Int) (c2p5 : D4) (c2p6 c2p7 : Int) (c2p8 : D4) (c2p10 c5p0 : Int) (c5p1 c5p2 c5p3 : D4) (c5p4 : Int) (c5p5 : D4) (c5p6 c5p7 : Int) (c5p8 : D4) (c5p10 : Int), iter (rnd C k cd2 57 Q) n (St4 x4 x6 c2p0 c2p1 c2p2 c2p3 c2p4 c2p5 c2p6 c2p7 c2p8 c2p10 c5p0 c5p1 c5p2 c5p3 c5p4 c5p5 c5p6 c5p7 c5p8 c5p10) = l0 k (fun x4 x6 c2p0 c2p1 c2p2 c2p3 c2p4 c2p5 c2p6 c2p7 c2p8 c2p10 c5p0 c5p1 c5p2 c5p3 c5p4 c5p5 c5p6 c5p7 c5p8 c5p10 => Q (.exit 1) (St5 x4 x6 c2p0 c2p1 c2p2 c2p3 c2p4 c2p5 c2p6 c2p7 c2p8 c2p10 c5p0 c5p1 c5p2 c5p3 c5p4 c5p5 c5p6 c5p7 c5p8 c5p10)) n x4 x6 c2p0 c2p1 c2p2 c2p3 c2p4 c2p5 c2p6 c2p7 c2p8 c2p10 c5p0 c5p1 c5p2 c5p3 c5p4 c5p5 c5p6 c5p7 c5p8 c5p10
 | 0, _, _, _, _, _, _, _, _, _, _, _, _, _, _, _, _, _, _, _, _, _, _ => rfl
 | n + 1, x4, x6, c2p0, c2p1, c2p2, c2p3, c2p4, c2p5, c2p6, c2p7, c2p8, c2p10, c5p0, c5p1, c5p2, c5p3, c5p4, c5p5, c5p6, c5p7, c5p8, c5p10 => (iter_succ _ _ _).trans ((l0s_eq k _ Q x4 x6 c2p0 c2p1 c2p2 c2p3 c2p4 c2p5 c2p6 c2p7 c2p8 c2p10 c5p0 c5p1 c5p2 c5p3 c5p4 c5p5 c5p6 c5p7 c5p8 c5p10).trans (congrArg (fun N => l0s N (fun x4 x6 c2p0 c2p1 c2p2 c2p3 c2p4 c2p5 c2p6 c2p7 c2p8 c2p10 c5p0 c5p1 c5p2 c5p3 c5p4 c5p5 c5p6 c5p7 c5p8 c5p10 => Q (.exit 1) (St5 x4 x6 c2p0 c2p1 c2p2 c2p3 c2p4 c2p5 c2p6 c2p7 c2p8 c2p10 c5p0 c5p1 c5p2 c5p3 c5p4 c5p5 c5p6 c5p7 c5p8 c5p10)) x4 x6 c2p0 c2p1 c2p2 c2p3 c2p4 c2p5 c2p6 c2p7 c2p8 c2p10 c5p0 c5p1 c5p2 c5p3 c5p4 c5p5 c5p6 c5p7 c5p8 c5p10) (by funext; exact l0_eq k Q n _ _ _ _ _ _ _ _ _ _ _ _ _ _ _ _ _ _ _ _ _ _)))
noncomputable def cd3 : Code := cR (cR (cR (cR (cL (cR (cR (cR (cL (cR (cL (cR (cR (cR (cR (cR (cB Try.f150))))))))))))))))
def St6 (x4 x6 : D4) (c2p0 : Int) (c2p1 c2p2 c2p3 : D4) (c2p4 : Int) (c2p5 : D4) (c2p6 c2p7 : Int) (c2p8 : D4) (c2p10 c5p0 : Int) (c5p1 c5p2 c5p3 : D4) (c5p4 : Int) (c5p5 : D4) (c5p6 c5p7 : Int) (c5p8 : D4) (c5p10 : Int) : St := stL 147 [(2, .ref 2 0 []), (4, .data .str x4), (5, .ref 5 0 []), (6, .data .str x6)] [(2, .cell T94 (.agg T94 [.data T1 c2p0, .data T23 c2p1, .data T23 c2p2, .data T17 c2p3, .data T1 c2p4, .data T17 c2p5, .data T1 c2p6, .data T1 c2p7, .data .str c2p8, .full T18 [], .data T1 c2p10, .full T97 []]) false), (5, .cell T94 (.agg T94 [.data T1 c5p0, .data T23 c5p1, .data T23 c5p2, .data T17 c5p3, .data T1 c5p4, .data T17 c5p5, .data T1 c5p6, .data T1 c5p7, .data .str c5p8, .full T18 [], .data T1 c5p10, .full T97 []]) false)]
def j2 (Rt : Int -> D36 -> Option α) (x4 x6 : D4) (c2p0 : Int) (c2p1 c2p2 c2p3 : D4) (c2p4 : Int) (c2p5 : D4) (c2p6 c2p7 : Int) (c2p8 : D4) (c2p10 c5p0 : Int) (c5p1 c5p2 c5p3 : D4) (c5p4 : Int) (c5p5 : D4) (c5p6 c5p7 : Int) (c5p8 : D4) (c5p10 : Int) : Option α :=
 if 0 <= (0 : Int) /\ (0 : Int) <= (32 : Int) /\ (32 : Int) <= (x4.length : Int) then
  (basculeref_word.run (cutL x4 0 32)).bind fun y8 =>
  if 0 <= (32 : Int) /\ (32 : Int) <= (34 : Int) /\ (34 : Int) <= (x4.length : Int) then
   (basculeref_number.run (cutL x4 32 34)).bind fun y9 =>
   if 0 <= (34 : Int) /\ (34 : Int) < (x4.length : Int) then
    j1 Rt c2p0 c2p1 c2p2 c2p3 c2p4 c2p5 c2p6 c2p7 c2p8 c2p10 c5p0 c5p1 c5p2 y8 y9 c5p5 c5p6 (IntKind.i64.wrap (List.getD x4 34 0)) x6 [] c5p10 []
   else none
  else none
 else none
theorem j2_eq (k : Nat) (Q : Ex -> St -> Option α) (x4 x6 : D4) (c2p0 : Int) (c2p1 c2p2 c2p3 : D4) (c2p4 : Int) (c2p5 : D4) (c2p6 c2p7 : Int) (c2p8 : D4) (c2p10 c5p0 : Int) (c5p1 c5p2 c5p3 : D4) (c5p4 : Int) (c5p5 : D4) (c5p6 c5p7 : Int) (c5p8 : D4) (c5p10 : Int) :
  (den C k) cd3 (blkQ C 0 (sq (den C k) (lp C k) Js C cd0 Q)) (St6 x4 x6 c2p0 c2p1 c2p2 c2p3 c2p4 c2p5 c2p6 c2p7 c2p8 c2p10 c5p0 c5p1 c5p2 c5p3 c5p4 c5p5 c5p6 c5p7 c5p8 c5p10) = j2 (fun x3 c2 => Q .ret (St1 x3 c2)) x4 x6 c2p0 c2p1 c2p2 c2p3 c2p4 c2p5 c2p6 c2p7 c2p8 c2p10 c5p0 c5p1 c5p2 c5p3 c5p4 c5p5 c5p6 c5p7 c5p8 c5p10 := by
 have h : ∀ (D L : DT α), denJ D L Js C cd3 (blkQ C 0 (sq D L Js C cd0 Q)) (St6 x4 x6 c2p0 c2p1 c2p2 c2p3 c2p4 c2p5 c2p6 c2p7 c2p8 c2p10 c5p0 c5p1 c5p2 c5p3 c5p4 c5p5 c5p6 c5p7 c5p8 c5p10) =
    if 0 <= (0 : Int) /\ (0 : Int) <= (32 : Int) /\ (32 : Int) <= (x4.length : Int) then
     (basculeref_word.run (cutL x4 0 32)).bind fun y8 =>
     if 0 <= (32 : Int) /\ (32 : Int) <= (34 : Int) /\ (34 : Int) <= (x4.length : Int) then
      (basculeref_number.run (cutL x4 32 34)).bind fun y9 =>
      if 0 <= (34 : Int) /\ (34 : Int) < (x4.length : Int) then
       D cd0 Q (St3 c2p0 c2p1 c2p2 c2p3 c2p4 c2p5 c2p6 c2p7 c2p8 c2p10 c5p0 c5p1 c5p2 y8 y9 c5p5 c5p6 (IntKind.i64.wrap (List.getD x4 34 0)) x6 [] c5p10 [])
      else none
     else none
    else none := by
  intro D L; kernel_rfl
 have h2 := via (k := k) h
 refine h2.trans ?_
 simp only [j1_eq]
 first | rfl | kernel_rfl
theorem a0 (k : Nat) (Q : Ex -> St -> Option α) (x4 x6 : D4) (c2p0 : Int) (c2p1 c2p2 c2p3 : D4) (c2p4 : Int) (c2p5 : D4) (c2p6 c2p7 : Int) (c2p8 : D4) (c2p10 c5p0 : Int) (c5p1 c5p2 c5p3 : D4) (c5p4 : Int) (c5p5 : D4) (c5p6 c5p7 : Int) (c5p8 : D4) (c5p10 : Int) :
  (lp C k) cd2 (blkQ C 1 (sq (den C k) (lp C k) Js C cd3 (blkQ C 0 (sq (den C k) (lp C k) Js C cd0 Q)))) (St4 x4 x6 c2p0 c2p1 c2p2 c2p3 c2p4 c2p5 c2p6 c2p7 c2p8 c2p10 c5p0 c5p1 c5p2 c5p3 c5p4 c5p5 c5p6 c5p7 c5p8 c5p10) = l0 k (fun x4 x6 c2p0 c2p1 c2p2 c2p3 c2p4 c2p5 c2p6 c2p7 c2p8 c2p10 c5p0 c5p1 c5p2 c5p3 c5p4 c5p5 c5p6 c5p7 c5p8 c5p10 => j2 (fun x3 c2 => Q .ret (St1 x3 c2)) x4 x6 c2p0 c2p1 c2p2 c2p3 c2p4 c2p5 c2p6 c2p7 c2p8 c2p10 c5p0 c5p1 c5p2 c5p3 c5p4 c5p5 c5p6 c5p7 c5p8 c5p10) k x4 x6 c2p0 c2p1 c2p2 c2p3 c2p4 c2p5 c2p6 c2p7 c2p8 c2p10 c5p0 c5p1 c5p2 c5p3 c5p4 c5p5 c5p6 c5p7 c5p8 c5p10 :=
 (lp_iter 57 (by kernel_rfl)).trans ((l0_eq k _ k x4 x6 c2p0 c2p1 c2p2 c2p3 c2p4 c2p5 c2p6 c2p7 c2p8 c2p10 c5p0 c5p1 c5p2 c5p3 c5p4 c5p5 c5p6 c5p7 c5p8 c5p10).trans (congrArg (fun X => l0 k X k x4 x6 c2p0 c2p1 c2p2 c2p3 c2p4 c2p5 c2p6 c2p7 c2p8 c2p10 c5p0 c5p1 c5p2 c5p3 c5p4 c5p5 c5p6 c5p7 c5p8 c5p10) (funext fun x4 => funext fun x6 => funext fun c2p0 => funext fun c2p1 => funext fun c2p2 => funext fun c2p3 => funext fun c2p4 => funext fun c2p5 => funext fun c2p6 => funext fun c2p7 => funext fun c2p8 => funext fun c2p10 => funext fun c5p0 => funext fun c5p1 => funext fun c5p2 => funext fun c5p3 => funext fun c5p4 => funext fun c5p5 => funext fun c5p6 => funext fun c5p7 => funext fun c5p8 => funext fun c5p10 => (Eq.trans (b := (den C k) cd3 (blkQ C 0 (sq (den C k) (lp C k) Js C cd0 Q)) (St6 x4 x6 c2p0 c2p1 c2p2 c2p3 c2p4 c2p5 c2p6 c2p7 c2p8 c2p10 c5p0 c5p1 c5p2 c5p3 c5p4 c5p5 c5p6 c5p7 c5p8 c5p10)) (by kernel_rfl) (by simp only [j2_eq])))))
def St7 (x4 : D4) (c2p0 : Int) (c2p1 c2p2 c2p3 : D4) (c2p4 : Int) (c2p5 : D4) (c2p6 c2p7 : Int) (c2p8 : D4) (c2p10 c5p0 : Int) (c5p1 c5p2 c5p3 : D4) (c5p4 : Int) (c5p5 : D4) (c5p6 c5p7 : Int) (c5p8 : D4) (c5p10 : Int) (c140 : D21) : St := stL 147 [(2, .ref 2 0 []), (4, .data .str x4), (5, .ref 5 0 [])] [(2, .cell T94 (.agg T94 [.data T1 c2p0, .data T23 c2p1, .data T23 c2p2, .data T17 c2p3, .data T1 c2p4, .data T17 c2p5, .data T1 c2p6, .data T1 c2p7, .data .str c2p8, .full T18 [], .data T1 c2p10, .full T97 []]) false), (5, .cell T94 (.agg T94 [.data T1 c5p0, .data T23 c5p1, .data T23 c5p2, .data T17 c5p3, .data T1 c5p4, .data T17 c5p5, .data T1 c5p6, .data T1 c5p7, .data .str c5p8, .full T18 [], .data T1 c5p10, .app 140 0]) false), (140, .buf T97 c140 0 true)]
noncomputable def cd4 : Code := cL (cL (cR (cR (cR (cR (cL (cR (cR (cR (cR (cR (cL (cR (cL (cR (cR (cR (cR (cR (cB Try.f150))))))))))))))))))))
def St8 (c2p0 : Int) (c2p1 c2p2 c2p3 : D4) (c2p4 : Int) (c2p5 : D4) (c2p6 c2p7 : Int) (c2p8 : D4) (c2p10 c5p0 : Int) (c5p1 c5p2 c5p3 : D4) (c5p4 : Int) (c5p5 : D4) (c5p6 c5p7 : Int) (c5p8 : D4) (c5p10 : Int) (c140 : D21) : St := stL 147 [(2, .ref 2 0 []), (5, .ref 5 0 [])] [(2, .cell T94 (.agg T94 [.data T1 c2p0, .data T23 c2p1, .data T23 c2p2, .data T17 c2p3, .data T1 c2p4, .data T17 c2p5, .data T1 c2p6, .data T1 c2p7, .data .str c2p8, .full T18 [], .data T1 c2p10, .full T97 []]) false), (5, .cell T94 (.agg T94 [.data T1 c5p0, .data T23 c5p1, .data T23 c5p2, .data T17 c5p3, .data T1 c5p4, .data T17 c5p5, .data T1 c5p6, .data T1 c5p7, .data .str c5p8, .full T18 [], .data T1 c5p10, .app 140 0]) false), (140, .buf T97 c140 0 true)]
def l1s (Nx : D4 -> Int -> D4 -> D4 -> D4 -> Int -> D4 -> Int -> Int -> D4 -> Int -> Int -> D4 -> D4 -> D4 -> Int -> D4 -> Int -> Int -> D4 -> Int -> D21 -> Option α) (Xt3 : Int -> D4 -> D4 -> D4 -> Int -> D4 -> Int -> Int -> D4 -> Int -> Int -> D4 -> D4 -> D4 -> Int -> D4 -> Int -> Int -> D4 -> Int -> D21 -> Option α) (x4 : D4) (c2p0 : Int) (c2p1 c2p2 c2p3 : D4) (c2p4 : Int) (c2p5 : D4) (c2p6 c2p7 : Int) (c2p8 : D4) (c2p10 c5p0 : Int) (c5p1 c5p2 c5p3 : D4) (c5p4 : Int) (c5p5 : D4) (c5p6 c5p7 : Int) (c5p8 : D4) (c5p10 : Int) (c140 : D21) : Option α :=
 if (not (beqD .str x4 [])) = true then
  if fitB (c140.length + 1) 20 = true then
   if 0 <= (20 : Int) /\ (20 : Int) <= (x4.length : Int) /\ (x4.length : Int) <= (x4.length : Int) then
    Nx (cutL x4 20 (x4.length : Int)) c2p0 c2p1 c2p2 c2p3 c2p4 c2p5 c2p6 c2p7 c2p8 c2p10 c5p0 c5p1 c5p2 c5p3 c5p4 c5p5 c5p6 c5p7 c5p8 c5p10 (c140 ++ [(cpyL (List.replicate 20 0) 0 20 x4)])
   else none
  else none
 else
  Xt3 c2p0 c2p1 c2p2 c2p3 c2p4 c2p5 c2p6 c2p7 c2p8 c2p10 c5p0 c5p1 c5p2 c5p3 c5p4 c5p5 c5p6 c5p7 c5p8 c5p10 c140
theorem l1s_eq (k : Nat) (next : St -> Option α) (Q : Ex -> St -> Option α) (x4 : D4) (c2p0 : Int) (c2p1 c2p2 c2p3 : D4) (c2p4 : Int) (c2p5 : D4) (c2p6 c2p7 : Int) (c2p8 : D4) (c2p10 c5p0 : Int) (c5p1 c5p2 c5p3 : D4) (c5p4 : Int) (c5p5 : D4) (c5p6 c5p7 : Int) (c5p8 : D4) (c5p10 : Int) (c140 : D21) :
  rnd C k cd4 87 Q next (St7 x4 c2p0 c2p1 c2p2 c2p3 c2p4 c2p5 c2p6 c2p7 c2p8 c2p10 c5p0 c5p1 c5p2 c5p3 c5p4 c5p5 c5p6 c5p7 c5p8 c5p10 c140) = l1s (fun x4 c2p0 c2p1 c2p2 c2p3 c2p4 c2p5 c2p6 c2p7 c2p8 c2p10 c5p0 c5p1 c5p2 c5p3 c5p4 c5p5 c5p6 c5p7 c5p8 c5p10 c140 => next (St7 x4 c2p0 c2p1 c2p2 c2p3 c2p4 c2p5 c2p6 c2p7 c2p8 c2p10 c5p0 c5p1 c5p2 c5p3 c5p4 c5p5 c5p6 c5p7 c5p8 c5p10 c140)) (fun c2p0 c2p1 c2p2 c2p3 c2p4 c2p5 c2p6 c2p7 c2p8 c2p10 c5p0 c5p1 c5p2 c5p3 c5p4 c5p5 c5p6 c5p7 c5p8 c5p10 c140 => Q (.exit 3) (St8 c2p0 c2p1 c2p2 c2p3 c2p4 c2p5 c2p6 c2p7 c2p8 c2p10 c5p0 c5p1 c5p2 c5p3 c5p4 c5p5 c5p6 c5p7 c5p8 c5p10 c140)) x4 c2p0 c2p1 c2p2 c2p3 c2p4 c2p5 c2p6 c2p7 c2p8 c2p10 c5p0 c5p1 c5p2 c5p3 c5p4 c5p5 c5p6 c5p7 c5p8 c5p10 c140 := plainly Js (by kernel_rfl)
def l1 (k : Nat) (Xt3 : Int -> D4 -> D4 -> D4 -> Int -> D4 -> Int -> Int -> D4 -> Int -> Int -> D4 -> D4 -> D4 -> Int -> D4 -> Int -> Int -> D4 -> Int -> D21 -> Option α) : Nat -> D4 -> Int -> D4 -> D4 -> D4 -> Int -> D4 -> Int -> Int -> D4 -> Int -> Int -> D4 -> D4 -> D4 -> Int -> D4 -> Int -> Int -> D4 -> Int -> D21 -> Option α
 | 0, _, _, _, _, _, _, _, _, _, _, _, _, _, _, _, _, _, _, _, _, _, _ => none
 | n + 1, x4, c2p0, c2p1, c2p2, c2p3, c2p4, c2p5, c2p6, c2p7, c2p8, c2p10, c5p0, c5p1, c5p2, c5p3, c5p4, c5p5, c5p6, c5p7, c5p8, c5p10, c140 => l1s (l1 k Xt3 n) Xt3 x4 c2p0 c2p1 c2p2 c2p3 c2p4 c2p5 c2p6 c2p7 c2p8 c2p10 c5p0 c5p1 c5p2 c5p3 c5p4 c5p5 c5p6 c5p7 c5p8 c5p10 c140
theorem l1_eq (k : Nat) (Q : Ex -> St -> Option α) : ∀ (n : Nat) (x4 : D4) (c2p0 : Int) (c2p1 c2p2 c2p3 : D4) (c2p4 : Int) (c2p5 : D4) (c2p6 c2p7 : Int) (c2p8 : D4) (c2p10 c5p0 : Int) (c5p1 c5p2 c5p3 : D4) (c5p4 : Int) (c5p5 : D4) (c5p6 c5p7 : Int) (c5p8 : D4) (c5p10 : Int) (c140 : D21), iter (rnd C k cd4 87 Q) n (St7 x4 c2p0 c2p1 c2p2 c2p3 c2p4 c2p5 c2p6 c2p7 c2p8 c2p10 c5p0 c5p1 c5p2 c5p3 c5p4 c5p5 c5p6 c5p7 c5p8 c5p10 c140) = l1 k (fun c2p0 c2p1 c2p2 c2p3 c2p4 c2p5 c2p6 c2p7 c2p8 c2p10 c5p0 c5p1 c5p2 c5p3 c5p4 c5p5 c5p6 c5p7 c5p8 c5p10 c140 => Q (.exit 3) (St8 c2p0 c2p1 c2p2 c2p3 c2p4 c2p5 c2p6 c2p7 c2p8 c2p10 c5p0 c5p1 c5p2 c5p3 c5p4 c5p5 c5p6 c5p7 c5p8 c5p10 c140)) n x4 c2p0 c2p1 c2p2 c2p3 c2p4 c2p5 c2p6 c2p7 c2p8 c2p10 c5p0 c5p1 c5p2 c5p3 c5p4 c5p5 c5p6 c5p7 c5p8 c5p10 c140
 | 0, _, _, _, _, _, _, _, _, _, _, _, _, _, _, _, _, _, _, _, _, _, _ => rfl
 | n + 1, x4, c2p0, c2p1, c2p2, c2p3, c2p4, c2p5, c2p6, c2p7, c2p8, c2p10, c5p0, c5p1, c5p2, c5p3, c5p4, c5p5, c5p6, c5p7, c5p8, c5p10, c140 => (iter_succ _ _ _).trans ((l1s_eq k _ Q x4 c2p0 c2p1 c2p2 c2p3 c2p4 c2p5 c2p6 c2p7 c2p8 c2p10 c5p0 c5p1 c5p2 c5p3 c5p4 c5p5 c5p6 c5p7 c5p8 c5p10 c140).trans (congrArg (fun N => l1s N (fun c2p0 c2p1 c2p2 c2p3 c2p4 c2p5 c2p6 c2p7 c2p8 c2p10 c5p0 c5p1 c5p2 c5p3 c5p4 c5p5 c5p6 c5p7 c5p8 c5p10 c140 => Q (.exit 3) (St8 c2p0 c2p1 c2p2 c2p3 c2p4 c2p5 c2p6 c2p7 c2p8 c2p10 c5p0 c5p1 c5p2 c5p3 c5p4 c5p5 c5p6 c5p7 c5p8 c5p10 c140)) x4 c2p0 c2p1 c2p2 c2p3 c2p4 c2p5 c2p6 c2p7 c2p8 c2p10 c5p0 c5p1 c5p2 c5p3 c5p4 c5p5 c5p6 c5p7 c5p8 c5p10 c140) (by funext; exact l1_eq k Q n _ _ _ _ _ _ _ _ _ _ _ _ _ _ _ _ _ _ _ _ _ _)))
theorem a1 (k : Nat) (Q : Ex -> St -> Option α) (x4 : D4) (c2p0 : Int) (c2p1 c2p2 c2p3 : D4) (c2p4 : Int) (c2p5 : D4) (c2p6 c2p7 : Int) (c2p8 : D4) (c2p10 c5p0 : Int) (c5p1 c5p2 c5p3 : D4) (c5p4 : Int) (c5p5 : D4) (c5p6 c5p7 : Int) (c5p8 : D4) (c5p10 : Int) (c140 : D21) :
  (lp C k) cd4 (blkQ C 3 (blkQ C 0 (sq (den C k) (lp C k) Js C cd0 Q))) (St7 x4 c2p0 c2p1 c2p2 c2p3 c2p4 c2p5 c2p6 c2p7 c2p8 c2p10 c5p0 c5p1 c5p2 c5p3 c5p4 c5p5 c5p6 c5p7 c5p8 c5p10 c140) = l1 k (fun c2p0 c2p1 c2p2 c2p3 c2p4 c2p5 c2p6 c2p7 c2p8 c2p10 c5p0 c5p1 c5p2 c5p3 c5p4 c5p5 c5p6 c5p7 c5p8 c5p10 c140 => j1 (fun x3 c2 => Q .ret (St1 x3 c2)) c2p0 c2p1 c2p2 c2p3 c2p4 c2p5 c2p6 c2p7 c2p8 c2p10 c5p0 c5p1 c5p2 c5p3 c5p4 c5p5 c5p6 c5p7 c5p8 [] c5p10 c140) k x4 c2p0 c2p1 c2p2 c2p3 c2p4 c2p5 c2p6 c2p7 c2p8 c2p10 c5p0 c5p1 c5p2 c5p3 c5p4 c5p5 c5p6 c5p7 c5p8 c5p10 c140 :=
 (lp_iter 87 (by kernel_rfl)).trans ((l1_eq k _ k x4 c2p0 c2p1 c2p2 c2p3 c2p4 c2p5 c2p6 c2p7 c2p8 c2p10 c5p0 c5p1 c5p2 c5p3 c5p4 c5p5 c5p6 c5p7 c5p8 c5p10 c140).trans (congrArg (fun X => l1 k X k x4 c2p0 c2p1 c2p2 c2p3 c2p4 c2p5 c2p6 c2p7 c2p8 c2p10 c5p0 c5p1 c5p2 c5p3 c5p4 c5p5 c5p6 c5p7 c5p8 c5p10 c140) (funext fun c2p0 => funext fun c2p1 => funext fun c2p2 => funext fun c2p3 => funext fun c2p4 => funext fun c2p5 => funext fun c2p6 => funext fun c2p7 => funext fun c2p8 => funext fun c2p10 => funext fun c5p0 => funext fun c5p1 => funext fun c5p2 => funext fun c5p3 => funext fun c5p4 => funext fun c5p5 => funext fun c5p6 => funext fun c5p7 => funext fun c5p8 => funext fun c5p10 => funext fun c140 => (Eq.trans (b := (den C k) cd0 Q (St3 c2p0 c2p1 c2p2 c2p3 c2p4 c2p5 c2p6 c2p7 c2p8 c2p10 c5p0 c5p1 c5p2 c5p3 c5p4 c5p5 c5p6 c5p7 c5p8 [] c5p10 c140)) (by kernel_rfl) (by simp only [j1_eq])))))
def j0 (k : Nat) (Rt : Int -> D36 -> Option α) (x4 : D4) (x20 : Int) (x22 : Bool) (c2p0 : Int) (c2p1 c2p2 c2p3 : D4) (c2p4 : Int) (c2p5 : D4) (c2p6 c2p7 : Int) (c2p8 : D4) (c2p10 c5p0 : Int) (c5p1 c5p2 c5p3 : D4) (c5p4 : Int) (c5p5 : D4) (c5p6 c5p7 : Int) (c5p8 : D4) (c5p10 : Int) : Option α :=
 if x22 = true then
  if (decide ((x4.length : Int) < 132)) = true then
   Rt 4 (0, [0, 0, 0, 0], [0, 0, 0, 0], (List.replicate 32 0), 0, (List.replicate 32 0), 0, 0, [], [], 0, [], ())
  else
   if 0 <= (0 : Int) /\ (0 : Int) <= (32 : Int) /\ (32 : Int) <= (x4.length : Int) then
    (basculeref_wideOf.run (cutL x4 0 32)).bind fun y1 =>
    if 0 <= (32 : Int) /\ (32 : Int) <= (64 : Int) /\ (64 : Int) <= (x4.length : Int) then
     (basculeref_word.run (cutL x4 32 64)).bind fun y2 =>
     if 0 <= (64 : Int) /\ (64 : Int) <= (66 : Int) /\ (66 : Int) <= (x4.length : Int) then
      (basculeref_number.run (cutL x4 64 66)).bind fun y3 =>
      if 0 <= (66 : Int) /\ (66 : Int) <= (98 : Int) /\ (98 : Int) <= (x4.length : Int) then
       (basculeref_word.run (cutL x4 66 98)).bind fun y4 =>
       if 0 <= (98 : Int) /\ (98 : Int) <= (100 : Int) /\ (100 : Int) <= (x4.length : Int) then
        (basculeref_number.run (cutL x4 98 100)).bind fun y5 =>
        if 0 <= (100 : Int) /\ (100 : Int) <= (132 : Int) /\ (132 : Int) <= (x4.length : Int) then
         (basculeref_wideOf.run (cutL x4 100 132)).bind fun y6 =>
         if 0 <= (132 : Int) /\ (132 : Int) <= (x4.length : Int) /\ (x4.length : Int) <= (x4.length : Int) then
          j1 Rt c2p0 c2p1 c2p2 c2p3 c2p4 c2p5 c2p6 c2p7 c2p8 c2p10 c5p0 y1 y6 y2 y3 y4 y5 c5p7 c5p8 (cutL x4 132 (x4.length : Int)) c5p10 []
         else none
        else none
       else none
      else none
     else none
    else none
   else none
 else
  if (x20 == 2) = true then
   if (decide ((x4.length : Int) < 67)) = true then
    Rt 4 (0, [0, 0, 0, 0], [0, 0, 0, 0], (List.replicate 32 0), 0, (List.replicate 32 0), 0, 0, [], [], 0, [], ())
   else
    if (decide ((x4.length : Int) > 67)) = true then
     Rt 3 (0, [0, 0, 0, 0], [0, 0, 0, 0], (List.replicate 32 0), 0, (List.replicate 32 0), 0, 0, [], [], 0, [], ())
    else
     if 0 <= (35 : Int) /\ (35 : Int) <= (x4.length : Int) /\ (x4.length : Int) <= (x4.length : Int) then
      l0 k (fun x4 x6 c2p0 c2p1 c2p2 c2p3 c2p4 c2p5 c2p6 c2p7 c2p8 c2p10 c5p0 c5p1 c5p2 c5p3 c5p4 c5p5 c5p6 c5p7 c5p8 c5p10 => j2 Rt x4 x6 c2p0 c2p1 c2p2 c2p3 c2p4 c2p5 c2p6 c2p7 c2p8 c2p10 c5p0 c5p1 c5p2 c5p3 c5p4 c5p5 c5p6 c5p7 c5p8 c5p10) k x4 (cutL x4 35 (x4.length : Int)) c2p0 c2p1 c2p2 c2p3 c2p4 c2p5 c2p6 c2p7 c2p8 c2p10 c5p0 c5p1 c5p2 c5p3 c5p4 c5p5 c5p6 c5p7 c5p8 c5p10
     else none
  else
   if (x20 == 4) = true then
    cond (decide (0 <= (4 : Int) /\ (4 : Int) < (x4.length : Int)) || !((decide ((x4.length : Int) < 5)) == false)) (
     if (cond (decide ((x4.length : Int) < 5)) true (decide ((x4.length : Int) < (IntKind.i64.wrap (5 + (IntKind.i64.wrap (20 * (IntKind.i64.wrap (List.getD x4 4 0))))))))) = true then
      Rt 4 (0, [0, 0, 0, 0], [0, 0, 0, 0], (List.replicate 32 0), 0, (List.replicate 32 0), 0, 0, [], [], 0, [], ())
     else
      if 0 <= (4 : Int) /\ (4 : Int) < (x4.length : Int) then
       if (decide ((x4.length : Int) > (IntKind.i64.wrap (5 + (IntKind.i64.wrap (20 * (IntKind.i64.wrap (List.getD x4 4 0)))))))) = true then
        Rt 3 (0, [0, 0, 0, 0], [0, 0, 0, 0], (List.replicate 32 0), 0, (List.replicate 32 0), 0, 0, [], [], 0, [], ())
       else
        if 0 <= (0 : Int) /\ (0 : Int) <= (4 : Int) /\ (4 : Int) <= (x4.length : Int) then
         (basculeref_number.run (cutL x4 0 4)).bind fun y10 =>
         if 0 <= (5 : Int) /\ (5 : Int) <= (x4.length : Int) /\ (x4.length : Int) <= (x4.length : Int) then
          l1 k (fun c2p0 c2p1 c2p2 c2p3 c2p4 c2p5 c2p6 c2p7 c2p8 c2p10 c5p0 c5p1 c5p2 c5p3 c5p4 c5p5 c5p6 c5p7 c5p8 c5p10 c140 => j1 Rt c2p0 c2p1 c2p2 c2p3 c2p4 c2p5 c2p6 c2p7 c2p8 c2p10 c5p0 c5p1 c5p2 c5p3 c5p4 c5p5 c5p6 c5p7 c5p8 [] c5p10 c140) k (cutL x4 5 (x4.length : Int)) c2p0 c2p1 c2p2 c2p3 c2p4 c2p5 c2p6 c2p7 c2p8 c2p10 c5p0 c5p1 c5p2 c5p3 c5p4 c5p5 c5p6 c5p7 c5p8 y10 []
         else none
        else none
      else none) none
   else
    Rt 2 (0, [0, 0, 0, 0], [0, 0, 0, 0], (List.replicate 32 0), 0, (List.replicate 32 0), 0, 0, [], [], 0, [], ())
theorem j0_eq (k : Nat) (Q : Ex -> St -> Option α) (x4 : D4) (x20 : Int) (x22 : Bool) (c2p0 : Int) (c2p1 c2p2 c2p3 : D4) (c2p4 : Int) (c2p5 : D4) (c2p6 c2p7 : Int) (c2p8 : D4) (c2p10 c5p0 : Int) (c5p1 c5p2 c5p3 : D4) (c5p4 : Int) (c5p5 : D4) (c5p6 c5p7 : Int) (c5p8 : D4) (c5p10 : Int) :
  (den C k) cd1 (blkQ C 0 (sq (den C k) (lp C k) Js C cd0 Q)) (St2 x4 x20 x22 c2p0 c2p1 c2p2 c2p3 c2p4 c2p5 c2p6 c2p7 c2p8 c2p10 c5p0 c5p1 c5p2 c5p3 c5p4 c5p5 c5p6 c5p7 c5p8 c5p10) = j0 k (fun x3 c2 => Q .ret (St1 x3 c2)) x4 x20 x22 c2p0 c2p1 c2p2 c2p3 c2p4 c2p5 c2p6 c2p7 c2p8 c2p10 c5p0 c5p1 c5p2 c5p3 c5p4 c5p5 c5p6 c5p7 c5p8 c5p10 := by
 have h : ∀ (D L : DT α), denJ D L Js C cd1 (blkQ C 0 (sq D L Js C cd0 Q)) (St2 x4 x20 x22 c2p0 c2p1 c2p2 c2p3 c2p4 c2p5 c2p6 c2p7 c2p8 c2p10 c5p0 c5p1 c5p2 c5p3 c5p4 c5p5 c5p6 c5p7 c5p8 c5p10) =
    if x22 = true then
     if (decide ((x4.length : Int) < 132)) = true then
      Q .ret (St1 4 (0, [0, 0, 0, 0], [0, 0, 0, 0], (List.replicate 32 0), 0, (List.replicate 32 0), 0, 0, [], [], 0, [], ()))
     else
      if 0 <= (0 : Int) /\ (0 : Int) <= (32 : Int) /\ (32 : Int) <= (x4.length : Int) then
       (basculeref_wideOf.run (cutL x4 0 32)).bind fun y1 =>
       if 0 <= (32 : Int) /\ (32 : Int) <= (64 : Int) /\ (64 : Int) <= (x4.length : Int) then
        (basculeref_word.run (cutL x4 32 64)).bind fun y2 =>
        if 0 <= (64 : Int) /\ (64 : Int) <= (66 : Int) /\ (66 : Int) <= (x4.length : Int) then
         (basculeref_number.run (cutL x4 64 66)).bind fun y3 =>
         if 0 <= (66 : Int) /\ (66 : Int) <= (98 : Int) /\ (98 : Int) <= (x4.length : Int) then
          (basculeref_word.run (cutL x4 66 98)).bind fun y4 =>
          if 0 <= (98 : Int) /\ (98 : Int) <= (100 : Int) /\ (100 : Int) <= (x4.length : Int) then
           (basculeref_number.run (cutL x4 98 100)).bind fun y5 =>
           if 0 <= (100 : Int) /\ (100 : Int) <= (132 : Int) /\ (132 : Int) <= (x4.length : Int) then
            (basculeref_wideOf.run (cutL x4 100 132)).bind fun y6 =>
            if 0 <= (132 : Int) /\ (132 : Int) <= (x4.length : Int) /\ (x4.length : Int) <= (x4.length : Int) then
             D cd0 Q (St3 c2p0 c2p1 c2p2 c2p3 c2p4 c2p5 c2p6 c2p7 c2p8 c2p10 c5p0 y1 y6 y2 y3 y4 y5 c5p7 c5p8 (cutL x4 132 (x4.length : Int)) c5p10 [])
            else none
           else none
          else none
         else none
        else none
       else none
      else none
    else
     if (x20 == 2) = true then
      if (decide ((x4.length : Int) < 67)) = true then
       Q .ret (St1 4 (0, [0, 0, 0, 0], [0, 0, 0, 0], (List.replicate 32 0), 0, (List.replicate 32 0), 0, 0, [], [], 0, [], ()))
      else
       if (decide ((x4.length : Int) > 67)) = true then
        Q .ret (St1 3 (0, [0, 0, 0, 0], [0, 0, 0, 0], (List.replicate 32 0), 0, (List.replicate 32 0), 0, 0, [], [], 0, [], ()))
       else
        if 0 <= (35 : Int) /\ (35 : Int) <= (x4.length : Int) /\ (x4.length : Int) <= (x4.length : Int) then
         L cd2 (blkQ C 1 (sq D L Js C cd3 (blkQ C 0 (sq D L Js C cd0 Q)))) (St4 x4 (cutL x4 35 (x4.length : Int)) c2p0 c2p1 c2p2 c2p3 c2p4 c2p5 c2p6 c2p7 c2p8 c2p10 c5p0 c5p1 c5p2 c5p3 c5p4 c5p5 c5p6 c5p7 c5p8 c5p10)
        else none
     else
      if (x20 == 4) = true then
       cond (decide (0 <= (4 : Int) /\ (4 : Int) < (x4.length : Int)) || !((decide ((x4.length : Int) < 5)) == false)) (
        if (cond (decide ((x4.length : Int) < 5)) true (decide ((x4.length : Int) < (IntKind.i64.wrap (5 + (IntKind.i64.wrap (20 * (IntKind.i64.wrap (List.getD x4 4 0))))))))) = true then
         Q .ret (St1 4 (0, [0, 0, 0, 0], [0, 0, 0, 0], (List.replicate 32 0), 0, (List.replicate 32 0), 0, 0, [], [], 0, [], ()))
        else
         if 0 <= (4 : Int) /\ (4 : Int) < (x4.length : Int) then
          if (decide ((x4.length : Int) > (IntKind.i64.wrap (5 + (IntKind.i64.wrap (20 * (IntKind.i64.wrap (List.getD x4 4 0)))))))) = true then
           Q .ret (St1 3 (0, [0, 0, 0, 0], [0, 0, 0, 0], (List.replicate 32 0), 0, (List.replicate 32 0), 0, 0, [], [], 0, [], ()))
          else
           if 0 <= (0 : Int) /\ (0 : Int) <= (4 : Int) /\ (4 : Int) <= (x4.length : Int) then
            (basculeref_number.run (cutL x4 0 4)).bind fun y10 =>
            if 0 <= (5 : Int) /\ (5 : Int) <= (x4.length : Int) /\ (x4.length : Int) <= (x4.length : Int) then
             L cd4 (blkQ C 3 (blkQ C 0 (sq D L Js C cd0 Q))) (St7 (cutL x4 5 (x4.length : Int)) c2p0 c2p1 c2p2 c2p3 c2p4 c2p5 c2p6 c2p7 c2p8 c2p10 c5p0 c5p1 c5p2 c5p3 c5p4 c5p5 c5p6 c5p7 c5p8 y10 [])
            else none
           else none
         else none) none
      else
       Q .ret (St1 2 (0, [0, 0, 0, 0], [0, 0, 0, 0], (List.replicate 32 0), 0, (List.replicate 32 0), 0, 0, [], [], 0, [], ())) := by
  intro D L; kernel_rfl
 have h2 := via (k := k) h
 refine h2.trans ?_
 simp only [j1_eq, a0, a1]
 first | rfl | kernel_rfl
def top (k : Nat) (Rt : Int -> D36 -> Option α) (x0 : D4) : Option α :=
 if (beqD .str x0 []) = true then
  Rt 4 (0, [0, 0, 0, 0], [0, 0, 0, 0], (List.replicate 32 0), 0, (List.replicate 32 0), 0, 0, [], [], 0, [], ())
 else
  if 0 <= (0 : Int) /\ (0 : Int) < (x0.length : Int) then
   if 0 <= (1 : Int) /\ (1 : Int) <= (x0.length : Int) /\ (x0.length : Int) <= (x0.length : Int) then
    if ((IntKind.i64.wrap (List.getD x0 0 0)) == 1) = true then
     j0 k Rt (cutL x0 1 (x0.length : Int)) (IntKind.i64.wrap (List.getD x0 0 0)) ((IntKind.i64.wrap (List.getD x0 0 0)) == 1) 0 [0, 0, 0, 0] [0, 0, 0, 0] (List.replicate 32 0) 0 (List.replicate 32 0) 0 0 [] 0 (IntKind.i64.wrap (List.getD x0 0 0)) [0, 0, 0, 0] [0, 0, 0, 0] (List.replicate 32 0) 0 (List.replicate 32 0) 0 0 [] 0
    else
     j0 k Rt (cutL x0 1 (x0.length : Int)) (IntKind.i64.wrap (List.getD x0 0 0)) ((IntKind.i64.wrap (List.getD x0 0 0)) == 3) 0 [0, 0, 0, 0] [0, 0, 0, 0] (List.replicate 32 0) 0 (List.replicate 32 0) 0 0 [] 0 (IntKind.i64.wrap (List.getD x0 0 0)) [0, 0, 0, 0] [0, 0, 0, 0] (List.replicate 32 0) 0 (List.replicate 32 0) 0 0 [] 0
   else none
  else none
theorem top_eq (k : Nat) (Q : Ex -> St -> Option α) (x0 : D4) :
  (den C k) (cB Try.f150) Q (St0 x0) = top k (fun x3 c2 => Q .ret (St1 x3 c2)) x0 := by
 have h : ∀ (D L : DT α), denJ D L Js C (cB Try.f150) Q (St0 x0) =
    if (beqD .str x0 []) = true then
     Q .ret (St1 4 (0, [0, 0, 0, 0], [0, 0, 0, 0], (List.replicate 32 0), 0, (List.replicate 32 0), 0, 0, [], [], 0, [], ()))
    else
     if 0 <= (0 : Int) /\ (0 : Int) < (x0.length : Int) then
      if 0 <= (1 : Int) /\ (1 : Int) <= (x0.length : Int) /\ (x0.length : Int) <= (x0.length : Int) then
       if ((IntKind.i64.wrap (List.getD x0 0 0)) == 1) = true then
        D cd1 (blkQ C 0 (sq D L Js C cd0 Q)) (St2 (cutL x0 1 (x0.length : Int)) (IntKind.i64.wrap (List.getD x0 0 0)) ((IntKind.i64.wrap (List.getD x0 0 0)) == 1) 0 [0, 0, 0, 0] [0, 0, 0, 0] (List.replicate 32 0) 0 (List.replicate 32 0) 0 0 [] 0 (IntKind.i64.wrap (List.getD x0 0 0)) [0, 0, 0, 0] [0, 0, 0, 0] (List.replicate 32 0) 0 (List.replicate 32 0) 0 0 [] 0)
       else
        D cd1 (blkQ C 0 (sq D L Js C cd0 Q)) (St2 (cutL x0 1 (x0.length : Int)) (IntKind.i64.wrap (List.getD x0 0 0)) ((IntKind.i64.wrap (List.getD x0 0 0)) == 3) 0 [0, 0, 0, 0] [0, 0, 0, 0] (List.replicate 32 0) 0 (List.replicate 32 0) 0 0 [] 0 (IntKind.i64.wrap (List.getD x0 0 0)) [0, 0, 0, 0] [0, 0, 0, 0] (List.replicate 32 0) 0 (List.replicate 32 0) 0 0 [] 0)
      else none
     else none := by
  intro D L; kernel_rfl
 have h2 := via (k := k) h
 refine h2.trans ?_
 simp only [j0_eq]
 first | rfl | kernel_rfl
def run (x0 : D4) : Option D40 := top (α := D36 × Int × Unit) fuel (fun x3 c2 => some (c2, x3, ())) x0
def F : Fn := ⟨T25, T104, true, fun x => run x.1⟩
theorem con : Con Try.prog 150 F /\ Named Try.prog 150 :=
 con_of2 (C := C) (ctx_ok (by kernel_rfl) (by kernel_rfl) (by kernel_rfl) (by kernel_rfl) ⟨.inl basculeref_number.con, ⟨.inl basculeref_wideOf.con, ⟨.inl basculeref_word.con, ⟨.inl basculeref_LoadFault.con, trivial⟩⟩⟩⟩) (by kernel_rfl) Try.func150 (by kernel_rfl) (c := cB Try.f150) (by kernel_rfl) (by kernel_rfl) F (fun x => by simp [F, spread, Try.ntmps150]) (fun x => (St0 x.1)) (fun x => by kernel_rfl) fun x => (top_eq fuel _ x.1).trans (by kernel_rfl)
end Go.Bx.basculeref_LoadOf
namespace Go.Bx.guard_Worth
def Js : List Nat := []
def C : Ctx := ⟨[(3, T1), (22, T36), (24, T23), (29, T16), (40, T2), (181, T94)], [], [], fnL [(155, load_Decode.F)], noSh, [], invL [], [(2, [2])], [], [], 0, 0⟩
def St0 (x0 : D0) : St := stL 43 [(0, .data T2 x0)] []
def St1 (x2 : Int) : St := stL 43 [(2, .data T1 x2)] []
def top (Rt : Int -> Option α) (x0 : D0) : Option α :=
 (load_Decode.run x0.2.2.2.2.2.2.1).bind fun y1 =>
 if (cond (y1.2.1 != 0) true (cond (y1.1.1 != 1) (y1.1.1 != 3) false)) = true then
  Rt 0
 else
  if (cond ((bor .u64 (bor .u64 (List.getD y1.1.2.1 1 0) (List.getD y1.1.2.1 2 0)) (List.getD y1.1.2.1 3 0)) != 0) true (decide ((List.getD y1.1.2.1 0 0) > 1073741824))) = true then
   Rt 1073741824
  else
   Rt (IntKind.i64.wrap (List.getD y1.1.2.1 0 0))
theorem top_eq (k : Nat) (Q : Ex -> St -> Option α) (x0 : D0) :
  (den C k) (cB Try.f127) Q (St0 x0) = top (fun x2 => Q .ret (St1 x2)) x0 := plainly Js (by kernel_rfl)
def run (x0 : D0) : Option (Int) := top (α := Int) (fun x2 => some x2) x0
def F : Fn := ⟨T3, T1, false, fun x => run x.1⟩
theorem con : Con Try.prog 127 F /\ Named Try.prog 127 :=
 con_of2 (C := C) (ctx_ok (by kernel_rfl) (by kernel_rfl) (by kernel_rfl) (by kernel_rfl) ⟨.inl load_Decode.con, trivial⟩) (by kernel_rfl) Try.func127 (by kernel_rfl) (c := cB Try.f127) (by kernel_rfl) (by kernel_rfl) F (fun x => by simp [F, spread, Try.ntmps127]) (fun x => (St0 x.1)) (fun x => by kernel_rfl) fun x => (top_eq fuel _ x.1).trans (by kernel_rfl)
end Go.Bx.guard_Worth
namespace Go.Bx.basculeref_WorthOf
def Js : List Nat := []
def C : Ctx := ⟨[(3, T1), (22, T36), (24, T23), (29, T16), (40, T2), (181, T94)], [], [], fnL [(53, basculeref_Order.F), (150, basculeref_LoadOf.F)], noSh, [], invL [], [(2, [2])], [], [], 0, 0⟩
def St0 (x0 : D0) : St := stL 32 [(0, .data T2 x0)] []
def St1 (x2 : Int) : St := stL 32 [(2, .data T1 x2)] []
def top (Rt : Int -> Option α) (x0 : D0) : Option α :=
 (basculeref_LoadOf.run x0.2.2.2.2.2.2.1).bind fun y1 =>
 if (cond (cond (y1.2.1 != 0) true (y1.1.1 == 2)) true (y1.1.1 == 4)) = true then
  Rt 0
 else
  (basculeref_Order.run y1.1.2.1 [1073741824, 0, 0, 0]).bind fun y2 =>
  if (decide (y2 > 0)) = true then
   Rt 1073741824
  else
   Rt (IntKind.i64.wrap (List.getD y1.1.2.1 0 0))
theorem top_eq (k : Nat) (Q : Ex -> St -> Option α) (x0 : D0) :
  (den C k) (cB Try.f119) Q (St0 x0) = top (fun x2 => Q .ret (St1 x2)) x0 := plainly Js (by kernel_rfl)
def run (x0 : D0) : Option (Int) := top (α := Int) (fun x2 => some x2) x0
def F : Fn := ⟨T3, T1, false, fun x => run x.1⟩
theorem con : Con Try.prog 119 F /\ Named Try.prog 119 :=
 con_of2 (C := C) (ctx_ok (by kernel_rfl) (by kernel_rfl) (by kernel_rfl) (by kernel_rfl) ⟨.inl basculeref_Order.con, ⟨.inl basculeref_LoadOf.con, trivial⟩⟩) (by kernel_rfl) Try.func119 (by kernel_rfl) (c := cB Try.f119) (by kernel_rfl) (by kernel_rfl) F (fun x => by simp [F, spread, Try.ntmps119]) (fun x => (St0 x.1)) (fun x => by kernel_rfl) fun x => (top_eq fuel _ x.1).trans (by kernel_rfl)
end Go.Bx.basculeref_WorthOf
namespace Go.Bx.paper_Check_1
def Js : List Nat := []
def C : Ctx := ⟨[(3, T1), (4, .bool)], [], [], fnL [], noSh, [], invL [], [(2, [4])], [], [], 0, 0⟩
def St0 (x0 x1 : Int) : St := stL 12 [(0, .data T1 x0), (1, .data T1 x1)] []
def St1 (x4 : Bool) : St := stL 12 [(4, .data .bool x4)] []
def top (Rt : Bool -> Option α) (x0 x1 : Int) : Option α :=
 Rt (cond (decide (x0 >= 0)) (decide (x0 <= x1)) false)
theorem top_eq (k : Nat) (Q : Ex -> St -> Option α) (x0 x1 : Int) :
  (den C k) (cB Try.f162) Q (St0 x0 x1) = top (fun x4 => Q .ret (St1 x4)) x0 x1 := plainly Js (by kernel_rfl)
def run (x0 x1 : Int) : Option (Bool) := top (α := Bool) (fun x4 => some x4) x0 x1
def F : Fn := ⟨T34, .bool, false, fun x => run x.1 x.2.1⟩
theorem con : Con Try.prog 162 F /\ Named Try.prog 162 :=
 con_of2 (C := C) (ctx_ok (by kernel_rfl) (by kernel_rfl) (by kernel_rfl) (by kernel_rfl) trivial) (by kernel_rfl) Try.func162 (by kernel_rfl) (c := cB Try.f162) (by kernel_rfl) (by kernel_rfl) F (fun x => by simp [F, spread, Try.ntmps162]) (fun x => (St0 x.1 x.2.1)) (fun x => by kernel_rfl) fun x => (top_eq fuel _ x.1 x.2.1).trans (by kernel_rfl)
end Go.Bx.paper_Check_1
namespace Go.Bx.paper_Check
def Js : List Nat := []
def C : Ctx := ⟨[(3, T1), (29, T16), (35, T1), (40, T2)], [], [], fnL [(162, paper_Check_1.F)], noSh, [], invL [], [(2, [2])], [], [], 0, 0⟩
def St0 (x0 : D0) : St := stL 41 [(0, .data T2 x0)] []
def St1 (x2 : Int) : St := stL 41 [(2, .data T1 x2)] []
def top (Rt : Int -> Option α) (x0 : D0) : Option α :=
 (paper_Check_1.run x0.1 1099511627776).bind fun y1 =>
 (if ((not y1) == false) = true then paper_Check_1.run x0.2.1 4294967295 else some false).bind fun y2 =>
 (if ((cond (not y1) true (not y2)) == false) = true then paper_Check_1.run x0.2.2.1 65535 else some false).bind fun y3 =>
 (if ((cond (cond (not y1) true (not y2)) true (not y3)) == false) = true then paper_Check_1.run x0.2.2.2.2.1 1099511627776 else some false).bind fun y4 =>
 (if ((cond (cond (cond (not y1) true (not y2)) true (not y3)) true (not y4)) == false) = true then paper_Check_1.run x0.2.2.2.2.2.1 255 else some false).bind fun y5 =>
 if (cond (cond (cond (cond (not y1) true (not y2)) true (not y3)) true (not y4)) true (not y5)) = true then
  Rt 6
 else
  if (decide ((x0.2.2.2.2.2.2.1.length : Int) > 300)) = true then
   Rt 1
  else
   Rt 0
theorem top_eq (k : Nat) (Q : Ex -> St -> Option α) (x0 : D0) :
  (den C k) (cB Try.f153) Q (St0 x0) = top (fun x2 => Q .ret (St1 x2)) x0 := plainly Js (by kernel_rfl)
def run (x0 : D0) : Option (Int) := top (α := Int) (fun x2 => some x2) x0
def F : Fn := ⟨T3, T1, false, fun x => run x.1⟩
theorem con : Con Try.prog 153 F /\ Named Try.prog 153 :=
 con_of2 (C := C) (ctx_ok (by kernel_rfl) (by kernel_rfl) (by kernel_rfl) (by kernel_rfl) ⟨.inl paper_Check_1.con, trivial⟩) (by kernel_rfl) Try.func153 (by kernel_rfl) (c := cB Try.f153) (by kernel_rfl) (by kernel_rfl) F (fun x => by simp [F, spread, Try.ntmps153]) (fun x => (St0 x.1)) (fun x => by kernel_rfl) fun x => (top_eq fuel _ x.1).trans (by kernel_rfl)
end Go.Bx.paper_Check
namespace Go.Bx.basculeref_BodyFault
def Js : List Nat := [8]
def C : Ctx := ⟨[(3, T1), (29, T16), (35, T1), (40, T2), (176, T118), (177, T119)], [], [], fnL [(149, basculeref_upTo.F)], noSh, [], invL [], [(2, [2]), (1, [1]), (4, [1, 20, 21, 22]), (6, [1, 20, 21, 22]), (21, [1])], [], [], 0, 0⟩
def St0 (x0 : D0) : St := stL 37 [(0, .data T2 x0)] []
def St1 (x20 : D21) (x21 x22 : Int) (c1 : D0) : St := stL 37 [(1, .ref 1 0 []), (20, .full T118 x20), (21, .data T1 x21), (22, .data T1 x22)] [(1, .cell T2 (.data T2 c1) false)]
noncomputable def cd0 : Code := cL (cL (cR (cL (cR (cB Try.f117)))))
def St2 (x2 : Int) : St := stL 37 [(2, .data T1 x2)] []
def St3 (c1 : D0) : St := stL 37 [(1, .ref 1 0 [])] [(1, .cell T2 (.data T2 c1) false)]
def l0s (Nx : D21 -> Int -> Int -> D0 -> Option α) (Rt : Int -> Option α) (Xt0 : D0 -> Option α) (x20 : D21) (x21 x22 : Int) (c1 : D0) : Option α :=
 if (decide (x22 < x21)) = true then
  if 0 <= x22 /\ x22 < (x20.length : Int) then
   (basculeref_upTo.run (List.getD (List.getD x20 (Int.toNat x22) [0, 0]) 0 0) (List.getD (List.getD x20 (Int.toNat x22) [0, 0]) 1 0)).bind fun y1 =>
   if (not y1) = true then
    Rt 6
   else
    Nx x20 x21 (IntKind.i64.wrap (x22 + 1)) c1
  else none
 else
  Xt0 c1
theorem l0s_eq (k : Nat) (next : St -> Option α) (Q : Ex -> St -> Option α) (x20 : D21) (x21 x22 : Int) (c1 : D0) :
  rnd C k cd0 6 Q next (St1 x20 x21 x22 c1) = l0s (fun x20 x21 x22 c1 => next (St1 x20 x21 x22 c1)) (fun x2 => Q .ret (St2 x2)) (fun c1 => Q (.exit 0) (St3 c1)) x20 x21 x22 c1 := plainly Js (by kernel_rfl)
def l0 (k : Nat) (Rt : Int -> Option α) (Xt0 : D0 -> Option α) : Nat -> D21 -> Int -> Int -> D0 -> Option α
 | 0, _, _, _, _ => none
 | n + 1, x20, x21, x22, c1 => l0s (l0 k Rt Xt0 n) Rt Xt0 x20 x21 x22 c1
theorem l0_eq (k : Nat) (Q : Ex -> St -> Option α) : ∀ (n : Nat) (x20 : D21) (x21 x22 : Int) (c1 : D0), iter (rnd C k cd0 6 Q) n (St1 x20 x21 x22 c1) = l0 k (fun x2 => Q .ret (St2 x2)) (fun c1 => Q (.exit 0) (St3 c1)) n x20 x21 x22 c1
 | 0, _, _, _, _ => rfl
 | n + 1, x20, x21, x22, c1 => (iter_succ _ _ _).trans ((l0s_eq k _ Q x20 x21 x22 c1).trans (congrArg (fun N => l0s N (fun x2 => Q .ret (St2 x2)) (fun c1 => Q (.exit 0) (St3 c1)) x20 x21 x22 c1) (by funext; exact l0_eq k Q n _ _ _ _)))
theorem l0_congr (k : Nat) (Rt : Int -> Option α) (Xt0 : D0 -> Option α) (Rtq : Int -> Option α) (Xt0q : D0 -> Option α) (hRt : ∀ (x2 : Int), Rt x2 = Rtq x2) (hXt0 : ∀ (c1 : D0), Xt0 c1 = Xt0q c1) (n : Nat) (x20 : D21) (x21 x22 : Int) (c1 : D0) : l0 k Rt Xt0 n x20 x21 x22 c1 = l0 k Rtq Xt0q n x20 x21 x22 c1 := by
 obtain rfl : Rt = Rtq := by funext x2; exact hRt x2
 obtain rfl : Xt0 = Xt0q := by funext c1; exact hXt0 c1
 rfl
noncomputable def cd1 : Code := cR (cR (cB Try.f117))
def St4 (c1 : D0) : St := stL 37 [(1, .ref 1 0 [])] [(1, .cell T2 (.data T2 c1) false)]
def j0 (Rt : Int -> Option α) (c1 : D0) : Option α :=
 if (decide ((c1.2.2.2.2.2.2.1.length : Int) > 300)) = true then
  Rt 1
 else
  Rt 0
theorem j0_eq (k : Nat) (Q : Ex -> St -> Option α) (c1 : D0) :
  (den C k) cd1 Q (St4 c1) = j0 (fun x2 => Q .ret (St2 x2)) c1 := plainly Js (by kernel_rfl)
theorem a0 (k : Nat) (Q : Ex -> St -> Option α) (x20 : D21) (x21 x22 : Int) (c1 : D0) :
  (lp C k) cd0 (blkQ C 0 (sq (den C k) (lp C k) Js C cd1 Q)) (St1 x20 x21 x22 c1) = l0 k (fun x2 => (fun x2 => Q .ret (St2 x2)) x2) (fun c1 => j0 (fun x2 => Q .ret (St2 x2)) c1) k x20 x21 x22 c1 :=
 (lp_iter 6 (by kernel_rfl)).trans ((l0_eq k _ k x20 x21 x22 c1).trans (l0_congr k _ _ _ _ (fun x2 => (by kernel_rfl)) (fun c1 => (Eq.trans (b := (den C k) cd1 Q (St4 c1)) (by kernel_rfl) (by simp only [j0_eq]))) k x20 x21 x22 c1))
def top (k : Nat) (Rt : Int -> Option α) (x0 : D0) : Option α :=
 l0 k (fun x2 => Rt x2) (fun c1 => j0 Rt c1) k [[x0.1, 1099511627776], [x0.2.1, 4294967295], [x0.2.2.1, 65535], [x0.2.2.2.2.1, 1099511627776], [x0.2.2.2.2.2.1, 255]] 5 0 x0
theorem top_eq (k : Nat) (Q : Ex -> St -> Option α) (x0 : D0) :
  (den C k) (cB Try.f117) Q (St0 x0) = top k (fun x2 => Q .ret (St2 x2)) x0 := by
 have h : ∀ (D L : DT α), denJ D L Js C (cB Try.f117) Q (St0 x0) =
    L cd0 (blkQ C 0 (sq D L Js C cd1 Q)) (St1 [[x0.1, 1099511627776], [x0.2.1, 4294967295], [x0.2.2.1, 65535], [x0.2.2.2.2.1, 1099511627776], [x0.2.2.2.2.2.1, 255]] 5 0 x0) := by
  intro D L; kernel_rfl
 have h2 := via (k := k) h
 refine h2.trans ?_
 simp only [a0]
 first | rfl | kernel_rfl
def run (x0 : D0) : Option (Int) := top (α := Int) fuel (fun x2 => some x2) x0
def F : Fn := ⟨T3, T1, false, fun x => run x.1⟩
theorem con : Con Try.prog 117 F /\ Named Try.prog 117 :=
 con_of2 (C := C) (ctx_ok (by kernel_rfl) (by kernel_rfl) (by kernel_rfl) (by kernel_rfl) ⟨.inl basculeref_upTo.con, trivial⟩) (by kernel_rfl) Try.func117 (by kernel_rfl) (c := cB Try.f117) (by kernel_rfl) (by kernel_rfl) F (fun x => by simp [F, spread, Try.ntmps117]) (fun x => (St0 x.1)) (fun x => by kernel_rfl) fun x => (top_eq fuel _ x.1).trans (by kernel_rfl)
end Go.Bx.basculeref_BodyFault
namespace Go.Bx.paper_pen__number_s1
def Js : List Nat := []
def C : Ctx := ⟨[(3, T1), (5, T18), (29, T16), (195, T25)], [], [], fnL [], noSh, [], invL [], [(2, []), (1, []), (4, [0, 1, 6]), (3, [0, 1, 6])], [(3, [.melt false 0 [0] 24 true])], [], 1, 0⟩
def St0 (x1 x2 : Int) (c0p0 : D4) : St := stL 27 [(0, .ref 0 0 []), (1, .data T1 x1), (2, .data T1 x2)] [(0, .cell T25 (.agg T25 [.full T18 c0p0]) false)]
def St1 (x1 x6 : Int) (c25 : D4) : St := stL 27 [(0, .ref 0 0 []), (1, .data T1 x1), (6, .data T1 x6)] [(0, .cell T25 (.agg T25 [.app 25 0]) false), (25, .buf T18 c25 0 true)]
noncomputable def cd0 : Code := cL (cL (cR (cB Try.f165)))
def St2 (c25 : D4) : St := stL 27 [] [(0, .cell T25 (.agg T25 [.app 25 0]) false), (25, .buf T18 c25 0 true)]
def l0s (Nx : Int -> Int -> D4 -> Option α) (Xt0 : D4 -> Option α) (x1 x6 : Int) (c25 : D4) : Option α :=
 if (decide (x6 >= 0)) = true then
  if 0 <= (IntKind.i64.wrap (8 * x6)) then
   if fitB (c25.length + 1) 1 = true then
    Nx x1 (IntKind.i64.wrap (x6 - 1)) (c25 ++ [(IntKind.u8.wrap (shrI .i64 x1 (IntKind.i64.wrap (8 * x6))))])
   else none
  else none
 else
  Xt0 c25
theorem l0s_eq (k : Nat) (next : St -> Option α) (Q : Ex -> St -> Option α) (x1 x6 : Int) (c25 : D4) :
  rnd C k cd0 3 Q next (St1 x1 x6 c25) = l0s (fun x1 x6 c25 => next (St1 x1 x6 c25)) (fun c25 => Q (.exit 0) (St2 c25)) x1 x6 c25 := plainly Js (by kernel_rfl)
def l0 (k : Nat) (Xt0 : D4 -> Option α) : Nat -> Int -> Int -> D4 -> Option α
 | 0, _, _, _ => none
 | n + 1, x1, x6, c25 => l0s (l0 k Xt0 n) Xt0 x1 x6 c25
theorem l0_eq (k : Nat) (Q : Ex -> St -> Option α) : ∀ (n : Nat) (x1 x6 : Int) (c25 : D4), iter (rnd C k cd0 3 Q) n (St1 x1 x6 c25) = l0 k (fun c25 => Q (.exit 0) (St2 c25)) n x1 x6 c25
 | 0, _, _, _ => rfl
 | n + 1, x1, x6, c25 => (iter_succ _ _ _).trans ((l0s_eq k _ Q x1 x6 c25).trans (congrArg (fun N => l0s N (fun c25 => Q (.exit 0) (St2 c25)) x1 x6 c25) (by funext; exact l0_eq k Q n _ _ _)))
def St3 (c25 : D4) : St := stL 27 [] [(0, .cell T25 (.agg T25 [.app 25 0]) false), (25, .buf T18 c25 0 true)]
theorem a0 (k : Nat) (Q : Ex -> St -> Option α) (x1 x6 : Int) (c25 : D4) :
  (lp C k) cd0 (blkQ C 0 (endQ C Q)) (St1 x1 x6 c25) = l0 k (fun c25 => (fun c25 => Q .ret (St3 c25)) c25) k x1 x6 c25 :=
 (lp_iter 3 (by kernel_rfl)).trans ((l0_eq k _ k x1 x6 c25).trans (congrArg (fun X => l0 k X k x1 x6 c25) (funext fun c25 => (by kernel_rfl))))
def top (k : Nat) (Rt : D4 -> Option α) (x1 x2 : Int) (c0p0 : D4) : Option α :=
 l0 k (fun c25 => Rt c25) k x1 (IntKind.i64.wrap (x2 - 1)) c0p0
theorem top_eq (k : Nat) (Q : Ex -> St -> Option α) (x1 x2 : Int) (c0p0 : D4) :
  (den C k) (cB Try.f165) (endQ C Q) (St0 x1 x2 c0p0) = top k (fun c25 => Q .ret (St3 c25)) x1 x2 c0p0 := by
 have h : ∀ (D L : DT α), denJ D L Js C (cB Try.f165) (endQ C Q) (St0 x1 x2 c0p0) =
    L cd0 (blkQ C 0 (endQ C Q)) (St1 x1 (IntKind.i64.wrap (x2 - 1)) c0p0) := by
  intro D L; kernel_rfl
 have h2 := via (k := k) h
 refine h2.trans ?_
 simp only [a0]
 first | rfl | kernel_rfl
def run (x1 x2 : Int) (c0p0 : D4) : Option D44 := top (α := List Int × Unit) fuel (fun c25 => some (c25, ())) x1 x2 c0p0
def Sp : Spec := ⟨[.ref 0 0 [], hD T1, hD T1], [(0, hC T25 (.agg T25 [hF T18]) false)], T109, .tup [], [(0, hC T25 (.agg T25 [.app 25 0]) false), (25, hB T18 0 true)], T25, fun x => run x.1 x.2.1 x.2.2.1⟩
set_option maxRecDepth 100000 in
theorem sok : SOk Try.prog 165 Sp.h := by
 refine sok_of_den (C := C) (ctx_ok (by kernel_rfl) (by kernel_rfl) (by kernel_rfl) (by kernel_rfl) trivial) (by kernel_rfl) Try.func165 (c := cB Try.f165) (by kernel_rfl) (by kernel_rfl) Sp fuel (by kernel_rfl) (by kernel_rfl) ?_
 intro x r h
 rw [<- h]
 have h1 : Sp.start x Try.f165.ntmps = (St0 x.1 x.2.1 x.2.2.1) := by kernel_rfl
 rw [h1]
 refine (top_eq fuel (finS C Try.f165.results.toList Sp.read) x.1 x.2.1 x.2.2.1).trans ?_
 kernel_rfl
theorem named : Named Try.prog 165 := named_of Try.func165 (by kernel_rfl) (by kernel_rfl)
end Go.Bx.paper_pen__number_s1
namespace Go.Bx.paper_pen__number_s2
def Js : List Nat := []
def C : Ctx := ⟨[(3, T1), (5, T18), (29, T16), (195, T25)], [], [], fnL [], noSh, [], invL [], [(2, []), (1, []), (4, [0, 1, 6]), (3, [0, 1, 6])], [], [], 2, 0⟩
def St0 (x1 x2 : Int) (c1 : D4) : St := stL 27 [(0, .ref 0 0 []), (1, .data T1 x1), (2, .data T1 x2)] [(0, .cell T25 (.agg T25 [.app 1 0]) false), (1, .buf T18 c1 0 true)]
def St1 (x1 x6 : Int) (c1 : D4) : St := stL 27 [(0, .ref 0 0 []), (1, .data T1 x1), (6, .data T1 x6)] [(0, .cell T25 (.agg T25 [.app 1 1]) false), (1, .buf T18 c1 1 true)]
noncomputable def cd0 : Code := cL (cL (cR (cB Try.f165)))
def St2 (c1 : D4) : St := stL 27 [] [(0, .cell T25 (.agg T25 [.app 1 1]) false), (1, .buf T18 c1 1 true)]
def l0s (Nx : Int -> Int -> D4 -> Option α) (Xt0 : D4 -> Option α) (x1 x6 : Int) (c1 : D4) : Option α :=
 if (decide (x6 >= 0)) = true then
  if 0 <= (IntKind.i64.wrap (8 * x6)) then
   if fitB (c1.length + 1) 1 = true then
    Nx x1 (IntKind.i64.wrap (x6 - 1)) (c1 ++ [(IntKind.u8.wrap (shrI .i64 x1 (IntKind.i64.wrap (8 * x6))))])
   else none
  else none
 else
  Xt0 c1
theorem l0s_eq (k : Nat) (next : St -> Option α) (Q : Ex -> St -> Option α) (x1 x6 : Int) (c1 : D4) :
  rnd C k cd0 3 Q next (St1 x1 x6 c1) = l0s (fun x1 x6 c1 => next (St1 x1 x6 c1)) (fun c1 => Q (.exit 0) (St2 c1)) x1 x6 c1 := plainly Js (by kernel_rfl)
def l0 (k : Nat) (Xt0 : D4 -> Option α) : Nat -> Int -> Int -> D4 -> Option α
 | 0, _, _, _ => none
 | n + 1, x1, x6, c1 => l0s (l0 k Xt0 n) Xt0 x1 x6 c1
theorem l0_eq (k : Nat) (Q : Ex -> St -> Option α) : ∀ (n : Nat) (x1 x6 : Int) (c1 : D4), iter (rnd C k cd0 3 Q) n (St1 x1 x6 c1) = l0 k (fun c1 => Q (.exit 0) (St2 c1)) n x1 x6 c1
 | 0, _, _, _ => rfl
 | n + 1, x1, x6, c1 => (iter_succ _ _ _).trans ((l0s_eq k _ Q x1 x6 c1).trans (congrArg (fun N => l0s N (fun c1 => Q (.exit 0) (St2 c1)) x1 x6 c1) (by funext; exact l0_eq k Q n _ _ _)))
def St3 (c1 : D4) : St := stL 27 [] [(0, .cell T25 (.agg T25 [.app 1 1]) false), (1, .buf T18 c1 1 true)]
theorem a0 (k : Nat) (Q : Ex -> St -> Option α) (x1 x6 : Int) (c1 : D4) :
  (lp C k) cd0 (blkQ C 0 (endQ C Q)) (St1 x1 x6 c1) = l0 k (fun c1 => (fun c1 => Q .ret (St3 c1)) c1) k x1 x6 c1 :=
 (lp_iter 3 (by kernel_rfl)).trans ((l0_eq k _ k x1 x6 c1).trans (congrArg (fun X => l0 k X k x1 x6 c1) (funext fun c1 => (by kernel_rfl))))
def top (k : Nat) (Rt : D4 -> Option α) (x1 x2 : Int) (c1 : D4) : Option α :=
 l0 k (fun c1 => Rt c1) k x1 (IntKind.i64.wrap (x2 - 1)) c1
theorem top_eq (k : Nat) (Q : Ex -> St -> Option α) (x1 x2 : Int) (c1 : D4) :
  (den C k) (cB Try.f165) (endQ C Q) (St0 x1 x2 c1) = top k (fun c1 => Q .ret (St3 c1)) x1 x2 c1 := by
 have h : ∀ (D L : DT α), denJ D L Js C (cB Try.f165) (endQ C Q) (St0 x1 x2 c1) =
    L cd0 (blkQ C 0 (endQ C Q)) (St1 x1 (IntKind.i64.wrap (x2 - 1)) c1) := by
  intro D L; kernel_rfl
 have h2 := via (k := k) h
 refine h2.trans ?_
 simp only [a0]
 first | rfl | kernel_rfl
def run (x1 x2 : Int) (c1 : D4) : Option D44 := top (α := List Int × Unit) fuel (fun c1 => some (c1, ())) x1 x2 c1
def Sp : Spec := ⟨[.ref 0 0 [], hD T1, hD T1], [(0, hC T25 (.agg T25 [.app 1 0]) false), (1, hB T18 0 true)], T109, .tup [], [(0, hC T25 (.agg T25 [.app 1 1]) false), (1, hB T18 1 true)], T25, fun x => run x.1 x.2.1 x.2.2.1⟩
set_option maxRecDepth 100000 in
theorem sok : SOk Try.prog 165 Sp.h := by
 refine sok_of_den (C := C) (ctx_ok (by kernel_rfl) (by kernel_rfl) (by kernel_rfl) (by kernel_rfl) trivial) (by kernel_rfl) Try.func165 (c := cB Try.f165) (by kernel_rfl) (by kernel_rfl) Sp fuel (by kernel_rfl) (by kernel_rfl) ?_
 intro x r h
 rw [<- h]
 have h1 : Sp.start x Try.f165.ntmps = (St0 x.1 x.2.1 x.2.2.1) := by kernel_rfl
 rw [h1]
 refine (top_eq fuel (finS C Try.f165.results.toList Sp.read) x.1 x.2.1 x.2.2.1).trans ?_
 kernel_rfl
end Go.Bx.paper_pen__number_s2
namespace Go.Bx.paper_pen__bytes_s0
def Js : List Nat := []
def C : Ctx := ⟨[(29, T16), (195, T25)], [], [], fnL [], noSh, [], invL [], [(2, [])], [], [], 3, 0⟩
def St0 (x1l x1h : Int) (c1 : D0) (c2 : D4) : St := stL 13 [(0, .ref 0 0 []), (1, .view 1 [.fld 3] T18 32 x1l x1h)] [(0, .cell T25 (.agg T25 [.app 2 0]) false), (1, .cell T2 (.data T2 c1) false), (2, .buf T18 c2 0 true)]
def St1 (c1 : D0) (c2 : D4) : St := stL 13 [] [(0, .cell T25 (.agg T25 [.app 2 1]) false), (1, .cell T2 (.data T2 c1) false), (2, .buf T18 c2 1 true)]
def top (Rt : D0 -> D4 -> Option α) (x1l x1h : Int) (c1 : D0) (c2 : D4) : Option α :=
 if fitB (c2.length + (cutL c1.2.2.2.1 x1l x1h).length) 1 = true then
  Rt c1 (c2 ++ (cutL c1.2.2.2.1 x1l x1h))
 else none
theorem top_eq (k : Nat) (Q : Ex -> St -> Option α) (x1l x1h : Int) (c1 : D0) (c2 : D4) :
  (den C k) (cB Try.f166) (endQ C Q) (St0 x1l x1h c1 c2) = top (fun c1 c2 => Q .ret (St1 c1 c2)) x1l x1h c1 c2 := plainly Js (by kernel_rfl)
def run (x1l x1h : Int) (c1 : D0) (c2 : D4) : Option D45 := top (α := D0 × List Int × Unit) (fun c1 c2 => some (c1, c2, ())) x1l x1h c1 c2
def Sp : Spec := ⟨[.ref 0 0 [], hW 1 [.fld 3] T18 32], [(0, hC T25 (.agg T25 [.app 2 0]) false), (1, hC T2 (hD T2) false), (2, hB T18 0 true)], T110, .tup [], [(0, hC T25 (.agg T25 [.app 2 1]) false), (1, hC T2 (hD T2) false), (2, hB T18 1 true)], T111, fun x => run x.1 x.2.1 x.2.2.1 x.2.2.2.1⟩
set_option maxRecDepth 100000 in
theorem sok : SOk Try.prog 166 Sp.h := by
 refine sok_of_den (C := C) (ctx_ok (by kernel_rfl) (by kernel_rfl) (by kernel_rfl) (by kernel_rfl) trivial) (by kernel_rfl) Try.func166 (c := cB Try.f166) (by kernel_rfl) (by kernel_rfl) Sp fuel (by kernel_rfl) (by kernel_rfl) ?_
 intro x r h
 rw [<- h]
 have h1 : Sp.start x Try.f166.ntmps = (St0 x.1 x.2.1 x.2.2.1 x.2.2.2.1) := by kernel_rfl
 rw [h1]
 refine (top_eq fuel (finS C Try.f166.results.toList Sp.read) x.1 x.2.1 x.2.2.1 x.2.2.2.1).trans ?_
 kernel_rfl
theorem named : Named Try.prog 166 := named_of Try.func166 (by kernel_rfl) (by kernel_rfl)
end Go.Bx.paper_pen__bytes_s0
namespace Go.Bx.paper_pen__bytes_s1
def Js : List Nat := []
def C : Ctx := ⟨[(29, T16), (195, T25)], [], [], fnL [], noSh, [], invL [], [(2, [])], [], [], 2, 0⟩
def St0 (x1 c1 : D4) : St := stL 13 [(0, .ref 0 0 []), (1, .data T16 x1)] [(0, .cell T25 (.agg T25 [.app 1 0]) false), (1, .buf T18 c1 0 true)]
def St1 (c1 : D4) : St := stL 13 [] [(0, .cell T25 (.agg T25 [.app 1 1]) false), (1, .buf T18 c1 1 true)]
def top (Rt : D4 -> Option α) (x1 c1 : D4) : Option α :=
 if fitB (c1.length + x1.length) 1 = true then
  Rt (c1 ++ x1)
 else none
theorem top_eq (k : Nat) (Q : Ex -> St -> Option α) (x1 c1 : D4) :
  (den C k) (cB Try.f166) (endQ C Q) (St0 x1 c1) = top (fun c1 => Q .ret (St1 c1)) x1 c1 := plainly Js (by kernel_rfl)
def run (x1 c1 : D4) : Option D44 := top (α := List Int × Unit) (fun c1 => some (c1, ())) x1 c1
def Sp : Spec := ⟨[.ref 0 0 [], hD T16], [(0, hC T25 (.agg T25 [.app 1 0]) false), (1, hB T18 0 true)], T21, .tup [], [(0, hC T25 (.agg T25 [.app 1 1]) false), (1, hB T18 1 true)], T25, fun x => run x.1 x.2.1⟩
set_option maxRecDepth 100000 in
theorem sok : SOk Try.prog 166 Sp.h := by
 refine sok_of_den (C := C) (ctx_ok (by kernel_rfl) (by kernel_rfl) (by kernel_rfl) (by kernel_rfl) trivial) (by kernel_rfl) Try.func166 (c := cB Try.f166) (by kernel_rfl) (by kernel_rfl) Sp fuel (by kernel_rfl) (by kernel_rfl) ?_
 intro x r h
 rw [<- h]
 have h1 : Sp.start x Try.f166.ntmps = (St0 x.1 x.2.1) := by kernel_rfl
 rw [h1]
 refine (top_eq fuel (finS C Try.f166.results.toList Sp.read) x.1 x.2.1).trans ?_
 kernel_rfl
end Go.Bx.paper_pen__bytes_s1
namespace Go.Bx.paper_pen__body_s0
def Js : List Nat := []
def C : Ctx := ⟨[(3, T1), (29, T16), (38, T17), (40, T2)], [], [], fnL [], shL [(165, [.one paper_pen__number_s1.Sp, .one paper_pen__number_s2.Sp]), (166, [.one paper_pen__bytes_s0.Sp, .one paper_pen__bytes_s1.Sp])], [(7, 33), (11, 34), (15, 34), (19, 34), (23, 34), (27, 34), (31, 34)], invL [], [(2, [])], [], [], 1, 0⟩
def St0 (x1 : D0) (c0p0 : D4) : St := stL 32 [(0, .ref 0 0 []), (1, .data T2 x1)] [(0, .cell T25 (.agg T25 [.full T18 c0p0]) false)]
def St1 (c34 : D4) : St := stL 32 [] [(0, .cell T25 (.agg T25 [.app 34 0]) false), (34, .buf T18 c34 0 true)]
def top (Rt : D4 -> Option α) (x1 : D0) (c0p0 : D4) : Option α :=
 (paper_pen__number_s1.run x1.1 8 c0p0).bind fun y1 =>
 (paper_pen__number_s2.run x1.2.1 4 y1.1).bind fun y2 =>
 (paper_pen__number_s2.run x1.2.2.1 2 y2.1).bind fun y3 =>
 (paper_pen__bytes_s0.run 0 32 x1 y3.1).bind fun y4 =>
 (paper_pen__number_s2.run y4.1.2.2.2.2.1 8 y4.2.1).bind fun y5 =>
 (paper_pen__number_s2.run y4.1.2.2.2.2.2.1 1 y5.1).bind fun y6 =>
 (paper_pen__bytes_s1.run y4.1.2.2.2.2.2.2.1 y6.1).bind fun y7 =>
 Rt y7.1
theorem top_eq (k : Nat) (Q : Ex -> St -> Option α) (x1 : D0) (c0p0 : D4) :
  (den C k) (cB Try.f160) (endQ C Q) (St0 x1 c0p0) = top (fun c34 => Q .ret (St1 c34)) x1 c0p0 := plainly Js (by kernel_rfl)
def run (x1 : D0) (c0p0 : D4) : Option D44 := top (α := List Int × Unit) (fun c34 => some (c34, ())) x1 c0p0
def Sp : Spec := ⟨[.ref 0 0 [], hD T2], [(0, hC T25 (.agg T25 [hF T18]) false)], T111, .tup [], [(0, hC T25 (.agg T25 [.app 34 0]) false), (34, hB T18 0 true)], T25, fun x => run x.1 x.2.1⟩
set_option maxRecDepth 100000 in
theorem sok : SOk Try.prog 160 Sp.h := by
 refine sok_of_den (C := C) (ctx_ok_sh (by kernel_rfl) (by kernel_rfl) (by kernel_rfl) (by kernel_rfl) trivial ⟨⟨⟨paper_pen__number_s1.sok, ⟨paper_pen__number_s2.sok, trivial⟩⟩, paper_pen__number_s1.named⟩, ⟨⟨⟨paper_pen__bytes_s0.sok, ⟨paper_pen__bytes_s1.sok, trivial⟩⟩, paper_pen__bytes_s0.named⟩, trivial⟩⟩) (by kernel_rfl) Try.func160 (c := cB Try.f160) (by kernel_rfl) (by kernel_rfl) Sp fuel (by kernel_rfl) (by kernel_rfl) ?_
 intro x r h
 rw [<- h]
 have h1 : Sp.start x Try.f160.ntmps = (St0 x.1 x.2.1) := by kernel_rfl
 rw [h1]
 refine (top_eq fuel (finS C Try.f160.results.toList Sp.read) x.1 x.2.1).trans ?_
 kernel_rfl
theorem named : Named Try.prog 160 := named_of Try.func160 (by kernel_rfl) (by kernel_rfl)
end Go.Bx.paper_pen__body_s0
namespace Go.Bx.basculeref_bodyText
def Js : List Nat := []
def C : Ctx := ⟨[(3, T1), (9, .str), (22, T36), (29, T16), (38, T17), (40, T2)], [], [], fnL [(26, basculeref_big.F)], noSh, [], invL [], [(2, [2])], [], [], 0, 0⟩
def St0 (x0 : D0) : St := stL 35 [(0, .data T2 x0)] []
def St1 (x2 : D4) : St := stL 35 [(2, .data .str x2)] []
def top (Rt : D4 -> Option α) (x0 : D0) : Option α :=
 (basculeref_big.run (IntKind.u64.wrap x0.1) 8).bind fun y1 =>
 (basculeref_big.run (IntKind.u64.wrap x0.2.1) 4).bind fun y2 =>
 if Nat.ble (y1.length + y2.length) 9223372036854775807 = true then
  (basculeref_big.run (IntKind.u64.wrap x0.2.2.1) 2).bind fun y3 =>
  if Nat.ble ((y1 ++ y2).length + y3.length) 9223372036854775807 = true then
   if Nat.ble (((y1 ++ y2) ++ y3).length + (cutL x0.2.2.2.1 0 32).length) 9223372036854775807 = true then
    (basculeref_big.run (IntKind.u64.wrap x0.2.2.2.2.1) 8).bind fun y4 =>
    if Nat.ble ((((y1 ++ y2) ++ y3) ++ (cutL x0.2.2.2.1 0 32)).length + y4.length) 9223372036854775807 = true then
     (basculeref_big.run (IntKind.u64.wrap x0.2.2.2.2.2.1) 1).bind fun y5 =>
     if Nat.ble (((((y1 ++ y2) ++ y3) ++ (cutL x0.2.2.2.1 0 32)) ++ y4).length + y5.length) 9223372036854775807 = true then
      if Nat.ble ((((((y1 ++ y2) ++ y3) ++ (cutL x0.2.2.2.1 0 32)) ++ y4) ++ y5).length + x0.2.2.2.2.2.2.1.length) 9223372036854775807 = true then
       Rt ((((((y1 ++ y2) ++ y3) ++ (cutL x0.2.2.2.1 0 32)) ++ y4) ++ y5) ++ x0.2.2.2.2.2.2.1)
      else none
     else none
    else none
   else none
  else none
 else none
theorem top_eq (k : Nat) (Q : Ex -> St -> Option α) (x0 : D0) :
  (den C k) (cB Try.f58) Q (St0 x0) = top (fun x2 => Q .ret (St1 x2)) x0 := plainly Js (by kernel_rfl)
def run (x0 : D0) : Option D4 := top (α := List Int) (fun x2 => some x2) x0
def F : Fn := ⟨T3, .str, false, fun x => run x.1⟩
theorem con : Con Try.prog 58 F /\ Named Try.prog 58 :=
 con_of2 (C := C) (ctx_ok (by kernel_rfl) (by kernel_rfl) (by kernel_rfl) (by kernel_rfl) ⟨.inl basculeref_big.con, trivial⟩) (by kernel_rfl) Try.func58 (by kernel_rfl) (c := cB Try.f58) (by kernel_rfl) (by kernel_rfl) F (fun x => by simp [F, spread, Try.ntmps58]) (fun x => (St0 x.1)) (fun x => by kernel_rfl) fun x => (top_eq fuel _ x.1).trans (by kernel_rfl)
end Go.Bx.basculeref_bodyText
namespace Go.Bx.paper_Bytes
def Js : List Nat := []
def C : Ctx := ⟨[(29, T16), (35, T1), (40, T2), (195, T25)], [], [], fnL [(153, paper_Check.F)], shL [(160, [.one paper_pen__body_s0.Sp])], [(15, 21)], invL [], [(2, [2, 3])], [(2, [.dat true 2 []])], [], 0, 0⟩
def St0 (x0 : D0) : St := stL 20 [(0, .data T2 x0)] []
def St1 (x2 : D4) (x3 : Int) : St := stL 20 [(2, .data T16 x2), (3, .data T1 x3)] []
def top (Rt : D4 -> Int -> Option α) (x0 : D0) : Option α :=
 (paper_Check.run x0).bind fun y1 =>
 if (y1 != 0) = true then
  Rt [] y1
 else
  (paper_pen__body_s0.run x0 []).bind fun y2 =>
  Rt y2.1 0
theorem top_eq (k : Nat) (Q : Ex -> St -> Option α) (x0 : D0) :
  (den C k) (cB Try.f148) Q (St0 x0) = top (fun x2 x3 => Q .ret (St1 x2 x3)) x0 := plainly Js (by kernel_rfl)
def run (x0 : D0) : Option D23 := top (α := List Int × Int × Unit) (fun x2 x3 => some (x2, x3, ())) x0
def F : Fn := ⟨T3, T112, true, fun x => run x.1⟩
theorem con : Con Try.prog 148 F /\ Named Try.prog 148 :=
 con_of2 (C := C) (ctx_ok_sh (by kernel_rfl) (by kernel_rfl) (by kernel_rfl) (by kernel_rfl) ⟨.inl paper_Check.con, trivial⟩ ⟨⟨⟨paper_pen__body_s0.sok, trivial⟩, paper_pen__body_s0.named⟩, trivial⟩) (by kernel_rfl) Try.func148 (by kernel_rfl) (c := cB Try.f148) (by kernel_rfl) (by kernel_rfl) F (fun x => by simp [F, spread, Try.ntmps148]) (fun x => (St0 x.1)) (fun x => by kernel_rfl) fun x => (top_eq fuel _ x.1).trans (by kernel_rfl)
end Go.Bx.paper_Bytes
namespace Go.Bx.log_tail
def Js : List Nat := [8]
def C : Ctx := ⟨[(5, T18), (29, T16)], [], [], fnL [], noSh, [], invL [], [(2, [2]), (1, [3]), (4, [3, 6, 7, 8]), (9, [3, 6, 7, 8]), (21, [3])], [], [], 0, 0⟩
def St0 (x0 : D4) : St := stL 17 [(0, .data T16 x0)] []
def St1 (x3 : Int) (x6 : D4) (x7 x8 : Int) : St := stL 17 [(3, .data T18 x3), (6, .data T16 x6), (7, .data T1 x7), (8, .data T1 x8)] []
noncomputable def cd0 : Code := cL (cL (cR (cL (cR (cR (cB Try.f121))))))
def St2 (x3 : Int) : St := stL 17 [(3, .data T18 x3)] []
def l0s (Nx : Int -> D4 -> Int -> Int -> Option α) (Xt0 : Int -> Option α) (x3 : Int) (x6 : D4) (x7 x8 : Int) : Option α :=
 if (decide (x8 < x7)) = true then
  if 0 <= x8 /\ x8 < (x6.length : Int) then
   Nx (IntKind.u8.wrap (x3 + (List.getD x6 (Int.toNat x8) 0))) x6 x7 (IntKind.i64.wrap (x8 + 1))
  else none
 else
  Xt0 x3
theorem l0s_eq (k : Nat) (next : St -> Option α) (Q : Ex -> St -> Option α) (x3 : Int) (x6 : D4) (x7 x8 : Int) :
  rnd C k cd0 9 Q next (St1 x3 x6 x7 x8) = l0s (fun x3 x6 x7 x8 => next (St1 x3 x6 x7 x8)) (fun x3 => Q (.exit 0) (St2 x3)) x3 x6 x7 x8 := plainly Js (by kernel_rfl)
def l0 (k : Nat) (Xt0 : Int -> Option α) : Nat -> Int -> D4 -> Int -> Int -> Option α
 | 0, _, _, _, _ => none
 | n + 1, x3, x6, x7, x8 => l0s (l0 k Xt0 n) Xt0 x3 x6 x7 x8
theorem l0_eq (k : Nat) (Q : Ex -> St -> Option α) : ∀ (n : Nat) (x3 : Int) (x6 : D4) (x7 x8 : Int), iter (rnd C k cd0 9 Q) n (St1 x3 x6 x7 x8) = l0 k (fun x3 => Q (.exit 0) (St2 x3)) n x3 x6 x7 x8
 | 0, _, _, _, _ => rfl
 | n + 1, x3, x6, x7, x8 => (iter_succ _ _ _).trans ((l0s_eq k _ Q x3 x6 x7 x8).trans (congrArg (fun N => l0s N (fun x3 => Q (.exit 0) (St2 x3)) x3 x6 x7 x8) (by funext; exact l0_eq k Q n _ _ _ _)))
noncomputable def cd1 : Code := cR (cR (cR (cB Try.f121)))
def St3 (x3 : Int) : St := stL 17 [(3, .data T18 x3)] []
def St4 (x2 : Int) : St := stL 17 [(2, .data T18 x2)] []
def j0 (Rt : Int -> Option α) (x3 : Int) : Option α :=
 Rt x3
theorem j0_eq (k : Nat) (Q : Ex -> St -> Option α) (x3 : Int) :
  (den C k) cd1 Q (St3 x3) = j0 (fun x2 => Q .ret (St4 x2)) x3 := plainly Js (by kernel_rfl)
theorem a0 (k : Nat) (Q : Ex -> St -> Option α) (x3 : Int) (x6 : D4) (x7 x8 : Int) :
  (lp C k) cd0 (blkQ C 0 (sq (den C k) (lp C k) Js C cd1 Q)) (St1 x3 x6 x7 x8) = l0 k (fun x3 => j0 (fun x2 => Q .ret (St4 x2)) x3) k x3 x6 x7 x8 :=
 (lp_iter 9 (by kernel_rfl)).trans ((l0_eq k _ k x3 x6 x7 x8).trans (congrArg (fun X => l0 k X k x3 x6 x7 x8) (funext fun x3 => (Eq.trans (b := (den C k) cd1 Q (St3 x3)) (by kernel_rfl) (by simp only [j0_eq])))))
def top (k : Nat) (Rt : Int -> Option α) (x0 : D4) : Option α :=
 l0 k (fun x3 => j0 Rt x3) k 0 x0 (x0.length : Int) 0
theorem top_eq (k : Nat) (Q : Ex -> St -> Option α) (x0 : D4) :
  (den C k) (cB Try.f121) Q (St0 x0) = top k (fun x2 => Q .ret (St4 x2)) x0 := by
 have h : ∀ (D L : DT α), denJ D L Js C (cB Try.f121) Q (St0 x0) =
    L cd0 (blkQ C 0 (sq D L Js C cd1 Q)) (St1 0 x0 (x0.length : Int) 0) := by
  intro D L; kernel_rfl
 have h2 := via (k := k) h
 refine h2.trans ?_
 simp only [a0]
 first | rfl | kernel_rfl
def run (x0 : D4) : Option (Int) := top (α := Int) fuel (fun x2 => some x2) x0
def F : Fn := ⟨T25, T18, false, fun x => run x.1⟩
theorem con : Con Try.prog 121 F /\ Named Try.prog 121 :=
 con_of2 (C := C) (ctx_ok (by kernel_rfl) (by kernel_rfl) (by kernel_rfl) (by kernel_rfl) trivial) (by kernel_rfl) Try.func121 (by kernel_rfl) (c := cB Try.f121) (by kernel_rfl) (by kernel_rfl) F (fun x => by simp [F, spread, Try.ntmps121]) (fun x => (St0 x.1)) (fun x => by kernel_rfl) fun x => (top_eq fuel _ x.1).trans (by kernel_rfl)
end Go.Bx.log_tail
namespace Go.Bx.basculeref_logText
def Js : List Nat := [8]
def C : Ctx := ⟨[(3, T1), (5, T18), (9, .str), (22, T36), (29, T16)], [], [], fnL [(26, basculeref_big.F)], noSh, [], invL [], [(2, [2]), (1, [0, 3]), (4, [0, 3, 6, 7, 8]), (9, [0, 3, 6, 7, 8]), (21, [0, 3])], [], [], 0, 0⟩
def St0 (x0 : D4) : St := stL 28 [(0, .data T16 x0)] []
def St1 (x0 : D4) (x3 : Int) (x6 : D4) (x7 x8 : Int) : St := stL 28 [(0, .data T16 x0), (3, .data T1 x3), (6, .data T16 x6), (7, .data T1 x7), (8, .data T1 x8)] []
noncomputable def cd0 : Code := cL (cL (cR (cL (cR (cR (cB Try.f130))))))
def St2 (x0 : D4) (x3 : Int) : St := stL 28 [(0, .data T16 x0), (3, .data T1 x3)] []
def l0s (Nx : D4 -> Int -> D4 -> Int -> Int -> Option α) (Xt0 : D4 -> Int -> Option α) (x0 : D4) (x3 : Int) (x6 : D4) (x7 x8 : Int) : Option α :=
 if (decide (x8 < x7)) = true then
  if 0 <= x8 /\ x8 < (x6.length : Int) then
   Nx x0 (IntKind.i64.wrap (x3 + (IntKind.i64.wrap (List.getD x6 (Int.toNat x8) 0)))) x6 x7 (IntKind.i64.wrap (x8 + 1))
  else none
 else
  Xt0 x0 x3
theorem l0s_eq (k : Nat) (next : St -> Option α) (Q : Ex -> St -> Option α) (x0 : D4) (x3 : Int) (x6 : D4) (x7 x8 : Int) :
  rnd C k cd0 9 Q next (St1 x0 x3 x6 x7 x8) = l0s (fun x0 x3 x6 x7 x8 => next (St1 x0 x3 x6 x7 x8)) (fun x0 x3 => Q (.exit 0) (St2 x0 x3)) x0 x3 x6 x7 x8 := plainly Js (by kernel_rfl)
def l0 (k : Nat) (Xt0 : D4 -> Int -> Option α) : Nat -> D4 -> Int -> D4 -> Int -> Int -> Option α
 | 0, _, _, _, _, _ => none
 | n + 1, x0, x3, x6, x7, x8 => l0s (l0 k Xt0 n) Xt0 x0 x3 x6 x7 x8
theorem l0_eq (k : Nat) (Q : Ex -> St -> Option α) : ∀ (n : Nat) (x0 : D4) (x3 : Int) (x6 : D4) (x7 x8 : Int), iter (rnd C k cd0 9 Q) n (St1 x0 x3 x6 x7 x8) = l0 k (fun x0 x3 => Q (.exit 0) (St2 x0 x3)) n x0 x3 x6 x7 x8
 | 0, _, _, _, _, _ => rfl
 | n + 1, x0, x3, x6, x7, x8 => (iter_succ _ _ _).trans ((l0s_eq k _ Q x0 x3 x6 x7 x8).trans (congrArg (fun N => l0s N (fun x0 x3 => Q (.exit 0) (St2 x0 x3)) x0 x3 x6 x7 x8) (by funext; exact l0_eq k Q n _ _ _ _ _)))
noncomputable def cd1 : Code := cR (cR (cR (cB Try.f130)))
def St3 (x0 : D4) (x3 : Int) : St := stL 28 [(0, .data T16 x0), (3, .data T1 x3)] []
def St4 (x2 : D4) : St := stL 28 [(2, .data .str x2)] []
def j0 (Rt : D4 -> Option α) (x0 : D4) (x3 : Int) : Option α :=
 (basculeref_big.run (IntKind.u64.wrap (x0.length : Int)) 2).bind fun y1 =>
 if Nat.ble (y1.length + x0.length) 9223372036854775807 = true then
  (basculeref_big.run (IntKind.u64.wrap x3) 1).bind fun y2 =>
  if Nat.ble ((y1 ++ x0).length + y2.length) 9223372036854775807 = true then
   Rt ((y1 ++ x0) ++ y2)
  else none
 else none
theorem j0_eq (k : Nat) (Q : Ex -> St -> Option α) (x0 : D4) (x3 : Int) :
  (den C k) cd1 Q (St3 x0 x3) = j0 (fun x2 => Q .ret (St4 x2)) x0 x3 := plainly Js (by kernel_rfl)
theorem a0 (k : Nat) (Q : Ex -> St -> Option α) (x0 : D4) (x3 : Int) (x6 : D4) (x7 x8 : Int) :
  (lp C k) cd0 (blkQ C 0 (sq (den C k) (lp C k) Js C cd1 Q)) (St1 x0 x3 x6 x7 x8) = l0 k (fun x0 x3 => j0 (fun x2 => Q .ret (St4 x2)) x0 x3) k x0 x3 x6 x7 x8 :=
 (lp_iter 9 (by kernel_rfl)).trans ((l0_eq k _ k x0 x3 x6 x7 x8).trans (congrArg (fun X => l0 k X k x0 x3 x6 x7 x8) (funext fun x0 => funext fun x3 => (Eq.trans (b := (den C k) cd1 Q (St3 x0 x3)) (by kernel_rfl) (by simp only [j0_eq])))))
def top (k : Nat) (Rt : D4 -> Option α) (x0 : D4) : Option α :=
 l0 k (fun x0 x3 => j0 Rt x0 x3) k x0 0 x0 (x0.length : Int) 0
theorem top_eq (k : Nat) (Q : Ex -> St -> Option α) (x0 : D4) :
  (den C k) (cB Try.f130) Q (St0 x0) = top k (fun x2 => Q .ret (St4 x2)) x0 := by
 have h : ∀ (D L : DT α), denJ D L Js C (cB Try.f130) Q (St0 x0) =
    L cd0 (blkQ C 0 (sq D L Js C cd1 Q)) (St1 x0 0 x0 (x0.length : Int) 0) := by
  intro D L; kernel_rfl
 have h2 := via (k := k) h
 refine h2.trans ?_
 simp only [a0]
 first | rfl | kernel_rfl
def run (x0 : D4) : Option D4 := top (α := List Int) fuel (fun x2 => some x2) x0
def F : Fn := ⟨T25, .str, false, fun x => run x.1⟩
theorem con : Con Try.prog 130 F /\ Named Try.prog 130 :=
 con_of2 (C := C) (ctx_ok (by kernel_rfl) (by kernel_rfl) (by kernel_rfl) (by kernel_rfl) ⟨.inl basculeref_big.con, trivial⟩) (by kernel_rfl) Try.func130 (by kernel_rfl) (c := cB Try.f130) (by kernel_rfl) (by kernel_rfl) F (fun x => by simp [F, spread, Try.ntmps130]) (fun x => (St0 x.1)) (fun x => by kernel_rfl) fun x => (top_eq fuel _ x.1).trans (by kernel_rfl)
end Go.Bx.basculeref_logText
namespace Go.Bx.log_Append
def Js : List Nat := []
def C : Ctx := ⟨[(3, T1), (5, T18), (29, T16), (31, T21), (35, T1)], [], [], fnL [(121, log_tail.F)], noSh, [], invL [], [(2, [4, 5])], [(2, [.dat false 4 [0], .dat false 4 [1]])], [44, 52, 56], 0, 0⟩
def St0 (x0 : D9) (x1 : D4) : St := stL 60 [(0, .data T21 x0), (1, .data T16 x1)] []
def St1 (x5 : Int) (c4 : D9) : St := stL 60 [(4, .ref 4 0 []), (5, .data T1 x5)] [(4, .cell T21 (.data T21 c4) false)]
def top (Rt : Int -> D9 -> Option α) (x0 : D9) (x1 : D4) : Option α :=
 if (cond (decide ((x0.1.length : Int) > 9000)) true (decide ((x0.2.1.length : Int) > 9000))) = true then
  Rt 12 ([], [], ())
 else
  if (decide ((x1.length : Int) > 200)) = true then
   Rt 1 ([], [], ())
  else
   if (decide ((IntKind.i64.wrap ((IntKind.i64.wrap ((IntKind.i64.wrap ((x0.1.length : Int) + (x0.2.1.length : Int))) + (x1.length : Int))) + 3)) > 9000)) = true then
    Rt 9 ([], [], ())
   else
    if fitB (2 + x1.length) 1 = true then
     (log_tail.run x1).bind fun y1 =>
     if fitB (([(IntKind.u8.wrap (shrI .i64 (x1.length : Int) 8)), (IntKind.u8.wrap (x1.length : Int))] ++ x1).length + 1) 1 = true then
      if fitB (0 + x0.1.length) 1 = true then
       if fitB (0 + x0.2.1.length) 1 = true then
        if fitB (x0.2.1.length + (([(IntKind.u8.wrap (shrI .i64 (x1.length : Int) 8)), (IntKind.u8.wrap (x1.length : Int))] ++ x1) ++ [y1]).length) 1 = true then
         Rt 0 (x0.1, (x0.2.1 ++ (([(IntKind.u8.wrap (shrI .i64 (x1.length : Int) 8)), (IntKind.u8.wrap (x1.length : Int))] ++ x1) ++ [y1])), ())
        else none
       else none
      else none
     else none
    else none
theorem top_eq (k : Nat) (Q : Ex -> St -> Option α) (x0 : D9) (x1 : D4) :
  (den C k) (cB Try.f74) Q (St0 x0 x1) = top (fun x5 c4 => Q .ret (St1 x5 c4)) x0 x1 := plainly Js (by kernel_rfl)
def run (x0 : D9) (x1 : D4) : Option D10 := top (α := D9 × Int × Unit) (fun x5 c4 => some (c4, x5, ())) x0 x1
def F : Fn := ⟨T26, T27, true, fun x => run x.1 x.2.1⟩
theorem con : Con Try.prog 74 F /\ Named Try.prog 74 :=
 con_of2 (C := C) (ctx_ok (by kernel_rfl) (by kernel_rfl) (by kernel_rfl) (by kernel_rfl) ⟨.inl log_tail.con, trivial⟩) (by kernel_rfl) Try.func74 (by kernel_rfl) (c := cB Try.f74) (by kernel_rfl) (by kernel_rfl) F (fun x => by simp [F, spread, Try.ntmps74]) (fun x => (St0 x.1 x.2.1)) (fun x => by kernel_rfl) fun x => (top_eq fuel _ x.1 x.2.1).trans (by kernel_rfl)
end Go.Bx.log_Append
namespace Go.Bx.basculeref_LogAppended
def Js : List Nat := []
def C : Ctx := ⟨[(9, .str), (29, T16), (31, T21), (35, T1)], [], [], fnL [(130, basculeref_logText.F)], noSh, [], invL [], [(2, [4, 5])], [(2, [.dat false 4 []])], [], 0, 0⟩
def St0 (x0 : D9) (x1 : D4) : St := stL 41 [(0, .data T21 x0), (1, .data T16 x1)] []
def St1 (x5 : Int) (c4 : D9) : St := stL 41 [(4, .ref 4 0 []), (5, .data T1 x5)] [(4, .cell T21 (.data T21 c4) false)]
def top (Rt : Int -> D9 -> Option α) (x0 : D9) (x1 : D4) : Option α :=
 if (cond (decide ((x0.1.length : Int) > 9000)) true (decide ((x0.2.1.length : Int) > 9000))) = true then
  Rt 12 ([], [], ())
 else
  if (decide ((x1.length : Int) > 200)) = true then
   Rt 1 ([], [], ())
  else
   (basculeref_logText.run x1).bind fun y1 =>
   if Nat.ble (x0.2.1.length + y1.length) 9223372036854775807 = true then
    if (decide ((IntKind.i64.wrap ((x0.1.length : Int) + ((x0.2.1 ++ y1).length : Int))) > 9000)) = true then
     Rt 9 ([], [], ())
    else
     Rt 0 (x0.1, (x0.2.1 ++ y1), ())
   else none
theorem top_eq (k : Nat) (Q : Ex -> St -> Option α) (x0 : D9) (x1 : D4) :
  (den C k) (cB Try.f77) Q (St0 x0 x1) = top (fun x5 c4 => Q .ret (St1 x5 c4)) x0 x1 := plainly Js (by kernel_rfl)
def run (x0 : D9) (x1 : D4) : Option D10 := top (α := D9 × Int × Unit) (fun x5 c4 => some (c4, x5, ())) x0 x1
def F : Fn := ⟨T26, T27, true, fun x => run x.1 x.2.1⟩
theorem con : Con Try.prog 77 F /\ Named Try.prog 77 :=
 con_of2 (C := C) (ctx_ok (by kernel_rfl) (by kernel_rfl) (by kernel_rfl) (by kernel_rfl) ⟨.inl basculeref_logText.con, trivial⟩) (by kernel_rfl) Try.func77 (by kernel_rfl) (c := cB Try.f77) (by kernel_rfl) (by kernel_rfl) F (fun x => by simp [F, spread, Try.ntmps77]) (fun x => (St0 x.1 x.2.1)) (fun x => by kernel_rfl) fun x => (top_eq fuel _ x.1 x.2.1).trans (by kernel_rfl)
end Go.Bx.basculeref_LogAppended
namespace Go.Bx.log_Sync
def Js : List Nat := []
def C : Ctx := ⟨[(29, T16), (31, T21)], [], [], fnL [], noSh, [], invL [], [(2, [2])], [], [6], 0, 0⟩
def St0 (x0 : D9) : St := stL 11 [(0, .data T21 x0)] []
def St1 (c6 : D4) : St := stL 11 [(2, .ref 2 0 [])] [(2, .cell T21 (.agg T21 [.app 6 0, .full T18 []]) false), (6, .buf T18 c6 0 true)]
def top (Rt : D4 -> Option α) (x0 : D9) : Option α :=
 if fitB (0 + x0.1.length) 1 = true then
  if fitB (x0.1.length + x0.2.1.length) 1 = true then
   Rt (x0.1 ++ x0.2.1)
  else none
 else none
theorem top_eq (k : Nat) (Q : Ex -> St -> Option α) (x0 : D9) :
  (den C k) (cB Try.f75) Q (St0 x0) = top (fun c6 => Q .ret (St1 c6)) x0 := plainly Js (by kernel_rfl)
def run (x0 : D9) : Option D9 := top (α := List Int × List Int × Unit) (fun c6 => some (c6, [], ())) x0
def F : Fn := ⟨T28, T21, false, fun x => run x.1⟩
theorem con : Con Try.prog 75 F /\ Named Try.prog 75 :=
 con_of2 (C := C) (ctx_ok (by kernel_rfl) (by kernel_rfl) (by kernel_rfl) (by kernel_rfl) trivial) (by kernel_rfl) Try.func75 (by kernel_rfl) (c := cB Try.f75) (by kernel_rfl) (by kernel_rfl) F (fun x => by simp [F, spread, Try.ntmps75]) (fun x => (St0 x.1)) (fun x => by kernel_rfl) fun x => (top_eq fuel _ x.1).trans (by kernel_rfl)
end Go.Bx.log_Sync
namespace Go.Bx.guard_kept
def Js : List Nat := []
def C : Ctx := ⟨[(29, T16), (31, T21), (34, T22), (35, T1)], [], [], fnL [(74, log_Append.F), (75, log_Sync.F)], noSh, [], invL [], [(2, [4, 5])], [], [], 0, 0⟩
def St0 (x0 : D8) (x1 : D4) : St := stL 23 [(0, .data T22 x0), (1, .data T16 x1)] []
def St1 (x5 : Int) (c4 : D8) : St := stL 23 [(4, .ref 4 0 []), (5, .data T1 x5)] [(4, .cell T22 (.data T22 c4) false)]
def top (Rt : Int -> D8 -> Option α) (x0 : D8) (x1 : D4) : Option α :=
 (log_Append.run x0.2.2.2.1 x1).bind fun y1 =>
 if (y1.2.1 != 0) = true then
  Rt y1.2.1 x0
 else
  (log_Sync.run y1.1).bind fun y2 =>
  Rt 0 (x0.1, x0.2.1, x0.2.2.1, y2, x0.2.2.2.2)
theorem top_eq (k : Nat) (Q : Ex -> St -> Option α) (x0 : D8) (x1 : D4) :
  (den C k) (cB Try.f22) Q (St0 x0 x1) = top (fun x5 c4 => Q .ret (St1 x5 c4)) x0 x1 := plainly Js (by kernel_rfl)
def run (x0 : D8) (x1 : D4) : Option D11 := top (α := D8 × Int × Unit) (fun x5 c4 => some (c4, x5, ())) x0 x1
def F : Fn := ⟨T29, T30, true, fun x => run x.1 x.2.1⟩
theorem con : Con Try.prog 22 F /\ Named Try.prog 22 :=
 con_of2 (C := C) (ctx_ok (by kernel_rfl) (by kernel_rfl) (by kernel_rfl) (by kernel_rfl) ⟨.inl log_Append.con, ⟨.inl log_Sync.con, trivial⟩⟩) (by kernel_rfl) Try.func22 (by kernel_rfl) (c := cB Try.f22) (by kernel_rfl) (by kernel_rfl) F (fun x => by simp [F, spread, Try.ntmps22]) (fun x => (St0 x.1 x.2.1)) (fun x => by kernel_rfl) fun x => (top_eq fuel _ x.1 x.2.1).trans (by kernel_rfl)
end Go.Bx.guard_kept
namespace Go.Bx.guard_knows
def Js : List Nat := [11, 12]
def C : Ctx := ⟨[(3, T1), (4, .bool), (32, T19), (34, T22), (40, T2), (159, T88)], [], [], fnL [(64, guard_Id.F)], noSh, [], invL [], [(2, [4]), (1, []), (4, [1, 13, 14]), (7, [1, 13, 14]), (10, [1, 13, 14, 17, 18, 19]), (6, [1, 13, 14]), (15, [1, 13, 14, 17, 18, 19]), (30, [1, 13, 14]), (33, [])], [], [], 0, 0⟩
def St0 (x0 : D8) (x1 : Int) : St := stL 29 [(0, .data T22 x0), (1, .data T1 x1)] []
def St1 (x1 : Int) (x13 : D33) (x14 : Int) : St := stL 29 [(1, .data T1 x1), (13, .data T88 x13), (14, .data T1 x14)] []
noncomputable def cd0 : Code := cL (cL (cR (cL (cR (cB Try.f63)))))
def St2 (x1 : Int) (x13 : D33) (x14 : Int) (x17 : D7) (x18 x19 : Int) : St := stL 29 [(1, .data T1 x1), (13, .data T88 x13), (14, .data T1 x14), (17, .data T19 x17), (18, .data T1 x18), (19, .data T1 x19)] []
noncomputable def cd1 : Code := cL (cL (cR (cR (cL (cL (cR (cR (cL (cL (cR (cL (cR (cB Try.f63)))))))))))))
def St3 (x4 : Bool) : St := stL 29 [(4, .data .bool x4)] []
def St4 (x1 : Int) (x13 : D33) (x14 : Int) : St := stL 29 [(1, .data T1 x1), (13, .data T88 x13), (14, .data T1 x14)] []
def l1s (Nx : Int -> D33 -> Int -> D7 -> Int -> Int -> Option α) (Rt : Bool -> Option α) (Xt2 : Int -> D33 -> Int -> Option α) (x1 : Int) (x13 : D33) (x14 : Int) (x17 : D7) (x18 x19 : Int) : Option α :=
 if (decide (x19 < x18)) = true then
  if 0 <= x19 /\ x19 < (x17.length : Int) then
   (guard_Id.run (List.getD x17 (Int.toNat x19) (0, 0, 0, (List.replicate 32 0), 0, 0, [], ()))).bind fun y1 =>
   if (y1 == x1) = true then
    Rt true
   else
    Nx x1 x13 x14 x17 x18 (IntKind.i64.wrap (x19 + 1))
  else none
 else
  Xt2 x1 x13 x14
theorem l1s_eq (k : Nat) (next : St -> Option α) (Q : Ex -> St -> Option α) (x1 : Int) (x13 : D33) (x14 : Int) (x17 : D7) (x18 x19 : Int) :
  rnd C k cd1 15 Q next (St2 x1 x13 x14 x17 x18 x19) = l1s (fun x1 x13 x14 x17 x18 x19 => next (St2 x1 x13 x14 x17 x18 x19)) (fun x4 => Q .ret (St3 x4)) (fun x1 x13 x14 => Q (.exit 2) (St4 x1 x13 x14)) x1 x13 x14 x17 x18 x19 := plainly Js (by kernel_rfl)
def l1 (k : Nat) (Rt : Bool -> Option α) (Xt2 : Int -> D33 -> Int -> Option α) : Nat -> Int -> D33 -> Int -> D7 -> Int -> Int -> Option α
 | 0, _, _, _, _, _, _ => none
 | n + 1, x1, x13, x14, x17, x18, x19 => l1s (l1 k Rt Xt2 n) Rt Xt2 x1 x13 x14 x17 x18 x19
theorem l1_eq (k : Nat) (Q : Ex -> St -> Option α) : ∀ (n : Nat) (x1 : Int) (x13 : D33) (x14 : Int) (x17 : D7) (x18 x19 : Int), iter (rnd C k cd1 15 Q) n (St2 x1 x13 x14 x17 x18 x19) = l1 k (fun x4 => Q .ret (St3 x4)) (fun x1 x13 x14 => Q (.exit 2) (St4 x1 x13 x14)) n x1 x13 x14 x17 x18 x19
 | 0, _, _, _, _, _, _ => rfl
 | n + 1, x1, x13, x14, x17, x18, x19 => (iter_succ _ _ _).trans ((l1s_eq k _ Q x1 x13 x14 x17 x18 x19).trans (congrArg (fun N => l1s N (fun x4 => Q .ret (St3 x4)) (fun x1 x13 x14 => Q (.exit 2) (St4 x1 x13 x14)) x1 x13 x14 x17 x18 x19) (by funext; exact l1_eq k Q n _ _ _ _ _ _)))
theorem l1_congr (k : Nat) (Rt : Bool -> Option α) (Xt2 : Int -> D33 -> Int -> Option α) (Rtq : Bool -> Option α) (Xt2q : Int -> D33 -> Int -> Option α) (hRt : ∀ (x4 : Bool), Rt x4 = Rtq x4) (hXt2 : ∀ (x1 : Int) (x13 : D33) (x14 : Int), Xt2 x1 x13 x14 = Xt2q x1 x13 x14) (n : Nat) (x1 : Int) (x13 : D33) (x14 : Int) (x17 : D7) (x18 x19 : Int) : l1 k Rt Xt2 n x1 x13 x14 x17 x18 x19 = l1 k Rtq Xt2q n x1 x13 x14 x17 x18 x19 := by
 obtain rfl : Rt = Rtq := by funext x4; exact hRt x4
 obtain rfl : Xt2 = Xt2q := by funext x1; funext x13; funext x14; exact hXt2 x1 x13 x14
 rfl
noncomputable def cd2 : Code := cR (cR (cR (cL (cL (cR (cL (cR (cB Try.f63))))))))
def St5 (x1 : Int) (x13 : D33) (x14 : Int) : St := stL 29 [(1, .data T1 x1), (13, .data T88 x13), (14, .data T1 x14)] []
def j0 (Nx : Int -> D33 -> Int -> Option α) (x1 : Int) (x13 : D33) (x14 : Int) : Option α :=
 Nx x1 x13 (IntKind.i64.wrap (x14 + 1))
theorem j0_eq (k : Nat) (next : St -> Option α) (Q : Ex -> St -> Option α) (x1 : Int) (x13 : D33) (x14 : Int) :
  (den C k) cd2 (lq C 6 next Q) (St5 x1 x13 x14) = j0 (fun x1 x13 x14 => next (St1 x1 x13 x14)) x1 x13 x14 := plainly Js (by kernel_rfl)
theorem a0 (k : Nat) (next : St -> Option α) (Q : Ex -> St -> Option α) (x1 : Int) (x13 : D33) (x14 : Int) (x17 : D7) (x18 x19 : Int) :
  (lp C k) cd1 (blkQ C 2 (blkQ C 1 (sq (den C k) (lp C k) Js C cd2 (lq C 6 next Q)))) (St2 x1 x13 x14 x17 x18 x19) = l1 k (fun x4 => (fun x4 => Q .ret (St3 x4)) x4) (fun x1 x13 x14 => j0 (fun x1 x13 x14 => next (St1 x1 x13 x14)) x1 x13 x14) k x1 x13 x14 x17 x18 x19 :=
 (lp_iter 15 (by kernel_rfl)).trans ((l1_eq k _ k x1 x13 x14 x17 x18 x19).trans (l1_congr k _ _ _ _ (fun x4 => (by kernel_rfl)) (fun x1 x13 x14 => (Eq.trans (b := (den C k) cd2 (lq C 6 next Q) (St5 x1 x13 x14)) (by kernel_rfl) (by simp only [j0_eq]))) k x1 x13 x14 x17 x18 x19))
def St6 : St := stL 29 [] []
def l0s (k : Nat) (Nx : Int -> D33 -> Int -> Option α) (Rt : Bool -> Option α) (Xt0 : Option α) (x1 : Int) (x13 : D33) (x14 : Int) : Option α :=
 if (decide (x14 < 2)) = true then
  if 0 <= x14 /\ x14 < (2 : Int) then
   l1 k (fun x4 => Rt x4) (fun x1 x13 x14 => j0 Nx x1 x13 x14) k x1 x13 x14 (List.getD x13 (Int.toNat x14) []) ((List.getD x13 (Int.toNat x14) []).length : Int) 0
  else none
 else
  Xt0
theorem l0s_eq (k : Nat) (next : St -> Option α) (Q : Ex -> St -> Option α) (x1 : Int) (x13 : D33) (x14 : Int) :
  rnd C k cd0 6 Q next (St1 x1 x13 x14) = l0s k (fun x1 x13 x14 => next (St1 x1 x13 x14)) (fun x4 => Q .ret (St3 x4)) (Q (.exit 0) St6) x1 x13 x14 := by
 have h : ∀ (D L : DT α), denJ D L Js C cd0 (lq C 6 next Q) (St1 x1 x13 x14) =
    if (decide (x14 < 2)) = true then
     if 0 <= x14 /\ x14 < (2 : Int) then
      L cd1 (blkQ C 2 (blkQ C 1 (sq D L Js C cd2 (lq C 6 next Q)))) (St2 x1 x13 x14 (List.getD x13 (Int.toNat x14) []) ((List.getD x13 (Int.toNat x14) []).length : Int) 0)
     else none
    else
     Q (.exit 0) St6 := by
  intro D L; kernel_rfl
 have h2 := via (k := k) h
 refine h2.trans ?_
 simp only [a0]
 first | rfl | kernel_rfl
def l0 (k : Nat) (Rt : Bool -> Option α) (Xt0 : Option α) : Nat -> Int -> D33 -> Int -> Option α
 | 0, _, _, _ => none
 | n + 1, x1, x13, x14 => l0s k (l0 k Rt Xt0 n) Rt Xt0 x1 x13 x14
theorem l0_eq (k : Nat) (Q : Ex -> St -> Option α) : ∀ (n : Nat) (x1 : Int) (x13 : D33) (x14 : Int), iter (rnd C k cd0 6 Q) n (St1 x1 x13 x14) = l0 k (fun x4 => Q .ret (St3 x4)) (Q (.exit 0) St6) n x1 x13 x14
 | 0, _, _, _ => rfl
 | n + 1, x1, x13, x14 => (iter_succ _ _ _).trans ((l0s_eq k _ Q x1 x13 x14).trans (congrArg (fun N => l0s k N (fun x4 => Q .ret (St3 x4)) (Q (.exit 0) St6) x1 x13 x14) (by funext; exact l0_eq k Q n _ _ _)))
theorem l0_congr (k : Nat) (Rt : Bool -> Option α) (Xt0 : Option α) (Rtq : Bool -> Option α) (Xt0q : Option α) (hRt : ∀ (x4 : Bool), Rt x4 = Rtq x4) (hXt0 : Xt0 = Xt0q) (n : Nat) (x1 : Int) (x13 : D33) (x14 : Int) : l0 k Rt Xt0 n x1 x13 x14 = l0 k Rtq Xt0q n x1 x13 x14 := by
 obtain rfl : Rt = Rtq := by funext x4; exact hRt x4
 obtain rfl : Xt0 = Xt0q := hXt0
 rfl
noncomputable def cd3 : Code := cR (cR (cB Try.f63))
def St7 : St := stL 29 [] []
def j1 (Rt : Bool -> Option α) : Option α :=
 Rt false
theorem j1_eq (k : Nat) (Q : Ex -> St -> Option α) :
  (den C k) cd3 Q St7 = j1 (fun x4 => Q .ret (St3 x4)) := plainly Js (by kernel_rfl)
theorem a1 (k : Nat) (Q : Ex -> St -> Option α) (x1 : Int) (x13 : D33) (x14 : Int) :
  (lp C k) cd0 (blkQ C 0 (sq (den C k) (lp C k) Js C cd3 Q)) (St1 x1 x13 x14) = l0 k (fun x4 => (fun x4 => Q .ret (St3 x4)) x4) (j1 (fun x4 => Q .ret (St3 x4))) k x1 x13 x14 :=
 (lp_iter 6 (by kernel_rfl)).trans ((l0_eq k _ k x1 x13 x14).trans (l0_congr k _ _ _ _ (fun x4 => (by kernel_rfl)) (Eq.trans (b := (den C k) cd3 Q St7) (by kernel_rfl) (by simp only [j1_eq])) k x1 x13 x14))
def top (k : Nat) (Rt : Bool -> Option α) (x0 : D8) (x1 : Int) : Option α :=
 l0 k (fun x4 => Rt x4) (j1 Rt) k x1 [x0.2.2.2.2.2.1, x0.2.2.2.2.1] 0
theorem top_eq (k : Nat) (Q : Ex -> St -> Option α) (x0 : D8) (x1 : Int) :
  (den C k) (cB Try.f63) Q (St0 x0 x1) = top k (fun x4 => Q .ret (St3 x4)) x0 x1 := by
 have h : ∀ (D L : DT α), denJ D L Js C (cB Try.f63) Q (St0 x0 x1) =
    L cd0 (blkQ C 0 (sq D L Js C cd3 Q)) (St1 x1 [x0.2.2.2.2.2.1, x0.2.2.2.2.1] 0) := by
  intro D L; kernel_rfl
 have h2 := via (k := k) h
 refine h2.trans ?_
 simp only [a1]
 first | rfl | kernel_rfl
def run (x0 : D8) (x1 : Int) : Option (Bool) := top (α := Bool) fuel (fun x4 => some x4) x0 x1
def F : Fn := ⟨T30, .bool, false, fun x => run x.1 x.2.1⟩
theorem con : Con Try.prog 63 F /\ Named Try.prog 63 :=
 con_of2 (C := C) (ctx_ok (by kernel_rfl) (by kernel_rfl) (by kernel_rfl) (by kernel_rfl) ⟨.inl guard_Id.con, trivial⟩) (by kernel_rfl) Try.func63 (by kernel_rfl) (c := cB Try.f63) (by kernel_rfl) (by kernel_rfl) F (fun x => by simp [F, spread, Try.ntmps63]) (fun x => (St0 x.1 x.2.1)) (fun x => by kernel_rfl) fun x => (top_eq fuel _ x.1 x.2.1).trans (by kernel_rfl)
end Go.Bx.guard_knows
namespace Go.Bx.guard_meeting_s0
def Js : List Nat := []
def C : Ctx := ⟨[(29, T16), (40, T2)], [], [], fnL [(148, paper_Bytes.F)], noSh, [], invL [], [(2, [2, 3])], [], [13], 0, 0⟩
def St0 (x0 : D0) : St := stL 15 [(0, .data T2 x0)] []
def St1 (x3 : Int) (c13 : D4) : St := stL 15 [(2, .app 13 0), (3, .data T1 x3)] [(13, .buf T18 c13 0 true)]
def top (Rt : Int -> D4 -> Option α) (x0 : D0) : Option α :=
 (paper_Bytes.run x0).bind fun y1 =>
 if fitB (1 + y1.1.length) 1 = true then
  Rt y1.2.1 ([1] ++ y1.1)
 else none
theorem top_eq (k : Nat) (Q : Ex -> St -> Option α) (x0 : D0) :
  (den C k) (cB Try.f116) (endQ C Q) (St0 x0) = top (fun x3 c13 => Q .ret (St1 x3 c13)) x0 := plainly Js (by kernel_rfl)
def run (x0 : D0) : Option D46 := top (α := Int × List Int × Unit) (fun x3 c13 => some (x3, c13, ())) x0
def Sp : Spec := ⟨[hD T2], [], T3, .tup [.app 13 0, hD T1], [(13, hB T18 0 true)], T113, fun x => run x.1⟩
set_option maxRecDepth 100000 in
theorem sok : SOk Try.prog 116 Sp.h := by
 refine sok_of_den (C := C) (ctx_ok (by kernel_rfl) (by kernel_rfl) (by kernel_rfl) (by kernel_rfl) ⟨.inl paper_Bytes.con, trivial⟩) (by kernel_rfl) Try.func116 (c := cB Try.f116) (by kernel_rfl) (by kernel_rfl) Sp fuel (by kernel_rfl) (by kernel_rfl) ?_
 intro x r h
 rw [<- h]
 have h1 : Sp.start x Try.f116.ntmps = (St0 x.1) := by kernel_rfl
 rw [h1]
 refine (top_eq fuel (finS C Try.f116.results.toList Sp.read) x.1).trans ?_
 kernel_rfl
theorem named : Named Try.prog 116 := named_of Try.func116 (by kernel_rfl) (by kernel_rfl)
end Go.Bx.guard_meeting_s0
namespace Go.Bx.guard_met_s1
def Js : List Nat := [9]
def C : Ctx := ⟨[(3, T1), (28, T7), (32, T19), (34, T22), (40, T2)], [], [], fnL [(64, guard_Id.F), (126, gate_Offer.F), (127, guard_Worth.F), (128, guard_body.F)], noSh, [], invL [], [(2, [4, 5]), (24, [2, 4])], [(2, [.dat false 12 [2]])], [], 8, 0⟩
def St0 (x0p0 x0p1p0 x0p1p1 : D4) (x0p1p2 : Int) (x0p2p0 x0p2p1 : D4) (x0p2p2 : Int) (x1 : D0) (c0 c1 : D2) (c2 c3 : D2) (c4 c5 : D4) (c6 c7 : D7) : St := stL 44 [(0, .agg T22 [.data T23 x0p0, .agg T7 [.data T5 x0p1p0, .data T5 x0p1p1, .data T1 x0p1p2, .app 0 0, .app 1 0], .agg T7 [.data T5 x0p2p0, .data T5 x0p2p1, .data T1 x0p2p2, .app 2 0, .app 3 0], .agg T21 [.app 4 0, .app 5 0], .app 6 0, .app 7 0]), (1, .data T2 x1)] [(0, .buf T8 c0 0 true), (1, .buf T8 c1 0 true), (2, .buf T8 c2 0 true), (3, .buf T8 c3 0 true), (4, .buf T18 c4 0 true), (5, .buf T18 c5 0 true), (6, .buf T2 c6 0 true), (7, .buf T2 c7 0 true)]
def St1 (x5 : Int) (c0 c1 : D2) (c2 c3 : D2) (c4 c5 : D4) (c6 c7 : D7) (c12p0 c12p1p0 c12p1p1 : D4) (c12p1p2 : Int) (c12p2 : D1) : St := stL 44 [(4, .ref 12 0 []), (5, .data T1 x5)] [(0, .buf T8 c0 1 true), (1, .buf T8 c1 1 true), (2, .buf T8 c2 1 true), (3, .buf T8 c3 1 true), (4, .buf T18 c4 1 true), (5, .buf T18 c5 1 true), (6, .buf T2 c6 1 true), (7, .buf T2 c7 1 true), (12, .cell T22 (.agg T22 [.data T23 c12p0, .agg T7 [.data T5 c12p1p0, .data T5 c12p1p1, .data T1 c12p1p2, .app 0 1, .app 1 1], .data T7 c12p2, .agg T21 [.app 4 1, .app 5 1], .app 6 1, .app 7 1]) false)]
def St2 (c0 c1 : D2) (c2 c3 : D2) (c4 c5 : D4) (c6 c7 : D7) (c10p0 c10p1p0 c10p1p1 : D4) (c10p1p2 : Int) (c10p2 : D1) (c12p0 c12p1p0 c12p1p1 : D4) (c12p1p2 : Int) (c12p2p0 c12p2p1 : D4) (c12p2p2 : Int) : St := stL 44 [(2, .ref 10 0 []), (4, .ref 12 0 [])] [(0, .buf T8 c0 1 true), (1, .buf T8 c1 1 true), (2, .buf T8 c2 1 true), (3, .buf T8 c3 1 true), (4, .buf T18 c4 1 true), (5, .buf T18 c5 1 true), (6, .buf T2 c6 1 true), (7, .buf T2 c7 1 true), (10, .cell T22 (.agg T22 [.data T23 c10p0, .agg T7 [.data T5 c10p1p0, .data T5 c10p1p1, .data T1 c10p1p2, .app 0 1, .app 1 1], .data T7 c10p2, .agg T21 [.app 4 1, .app 5 1], .app 6 1, .app 7 1]) false), (12, .cell T22 (.agg T22 [.data T23 c12p0, .agg T7 [.data T5 c12p1p0, .data T5 c12p1p1, .data T1 c12p1p2, .full T8 [], .full T8 []], .agg T7 [.data T5 c12p2p0, .data T5 c12p2p1, .data T1 c12p2p2, .full T8 [], .full T8 []], .agg T21 [.full T18 [], .full T18 []], .full T2 [], .full T2 []]) false)]
noncomputable def cd0 : Code := cR (cR (cR (cR (cR (cB Try.f65)))))
def j0 (Rt : Int -> D2 -> D2 -> D2 -> D2 -> D4 -> D4 -> D7 -> D7 -> D4 -> D4 -> D4 -> Int -> D1 -> Option α) (c0 c1 : D2) (c2 c3 : D2) (c4 c5 : D4) (c6 c7 : D7) (c10p0 c10p1p0 c10p1p1 : D4) (c10p1p2 : Int) (c10p2 : D1) (c12p0 c12p1p0 c12p1p1 : D4) (c12p1p2 : Int) (c12p2p0 c12p2p1 : D4) (c12p2p2 : Int) : Option α :=
 Rt 0 c0 c1 c2 c3 c4 c5 c6 c7 c10p0 c10p1p0 c10p1p1 c10p1p2 c10p2
theorem j0_eq (k : Nat) (Q : Ex -> St -> Option α) (c0 c1 : D2) (c2 c3 : D2) (c4 c5 : D4) (c6 c7 : D7) (c10p0 c10p1p0 c10p1p1 : D4) (c10p1p2 : Int) (c10p2 : D1) (c12p0 c12p1p0 c12p1p1 : D4) (c12p1p2 : Int) (c12p2p0 c12p2p1 : D4) (c12p2p2 : Int) :
  (den C k) cd0 (endQ C Q) (St2 c0 c1 c2 c3 c4 c5 c6 c7 c10p0 c10p1p0 c10p1p1 c10p1p2 c10p2 c12p0 c12p1p0 c12p1p1 c12p1p2 c12p2p0 c12p2p1 c12p2p2) = j0 (fun x5 c0 c1 c2 c3 c4 c5 c6 c7 c12p0 c12p1p0 c12p1p1 c12p1p2 c12p2 => Q .ret (St1 x5 c0 c1 c2 c3 c4 c5 c6 c7 c12p0 c12p1p0 c12p1p1 c12p1p2 c12p2)) c0 c1 c2 c3 c4 c5 c6 c7 c10p0 c10p1p0 c10p1p1 c10p1p2 c10p2 c12p0 c12p1p0 c12p1p1 c12p1p2 c12p2p0 c12p2p1 c12p2p2 := plainly Js (by kernel_rfl)
def top (Rt : Int -> D2 -> D2 -> D2 -> D2 -> D4 -> D4 -> D7 -> D7 -> D4 -> D4 -> D4 -> Int -> D1 -> Option α) (x0p0 x0p1p0 x0p1p1 : D4) (x0p1p2 : Int) (x0p2p0 x0p2p1 : D4) (x0p2p2 : Int) (x1 : D0) (c0 c1 : D2) (c2 c3 : D2) (c4 c5 : D4) (c6 c7 : D7) : Option α :=
 (guard_Id.run x1).bind fun y1 =>
 (guard_Worth.run x1).bind fun y2 =>
 (gate_Offer.run (x0p2p0, x0p2p1, x0p2p2, c2, c3, ()) y1 y2 x1.2.2.1).bind fun y3 =>
 if (y3.2.2.1 != 0) = true then
  Rt y3.2.2.1 c0 c1 c2 c3 c4 c5 c6 c7 x0p0 x0p1p0 x0p1p1 x0p1p2 (x0p2p0, x0p2p1, x0p2p2, c2, c3, ())
 else
  if y3.2.1 = true then
   (guard_body.run x1).bind fun y4 =>
   if fitB (c7.length + 1) 96 = true then
    j0 Rt c0 c1 c2 c3 c4 c5 c6 (c7 ++ [y4]) x0p0 x0p1p0 x0p1p1 x0p1p2 y3.1 [0, 0, 0, 0] [0, 0, 0] [0, 0, 0] 0 [0, 0, 0] [0, 0, 0] 0
   else none
  else
   (guard_body.run x1).bind fun y5 =>
   if fitB (c6.length + 1) 96 = true then
    j0 Rt c0 c1 c2 c3 c4 c5 (c6 ++ [y5]) c7 x0p0 x0p1p0 x0p1p1 x0p1p2 y3.1 [0, 0, 0, 0] [0, 0, 0] [0, 0, 0] 0 [0, 0, 0] [0, 0, 0] 0
   else none
theorem top_eq (k : Nat) (Q : Ex -> St -> Option α) (x0p0 x0p1p0 x0p1p1 : D4) (x0p1p2 : Int) (x0p2p0 x0p2p1 : D4) (x0p2p2 : Int) (x1 : D0) (c0 c1 : D2) (c2 c3 : D2) (c4 c5 : D4) (c6 c7 : D7) :
  (den C k) (cB Try.f65) (endQ C Q) (St0 x0p0 x0p1p0 x0p1p1 x0p1p2 x0p2p0 x0p2p1 x0p2p2 x1 c0 c1 c2 c3 c4 c5 c6 c7) = top (fun x5 c0 c1 c2 c3 c4 c5 c6 c7 c12p0 c12p1p0 c12p1p1 c12p1p2 c12p2 => Q .ret (St1 x5 c0 c1 c2 c3 c4 c5 c6 c7 c12p0 c12p1p0 c12p1p1 c12p1p2 c12p2)) x0p0 x0p1p0 x0p1p1 x0p1p2 x0p2p0 x0p2p1 x0p2p2 x1 c0 c1 c2 c3 c4 c5 c6 c7 := by
 have h : ∀ (D L : DT α), denJ D L Js C (cB Try.f65) (endQ C Q) (St0 x0p0 x0p1p0 x0p1p1 x0p1p2 x0p2p0 x0p2p1 x0p2p2 x1 c0 c1 c2 c3 c4 c5 c6 c7) =
    (guard_Id.run x1).bind fun y1 =>
    (guard_Worth.run x1).bind fun y2 =>
    (gate_Offer.run (x0p2p0, x0p2p1, x0p2p2, c2, c3, ()) y1 y2 x1.2.2.1).bind fun y3 =>
    if (y3.2.2.1 != 0) = true then
     Q .ret (St1 y3.2.2.1 c0 c1 c2 c3 c4 c5 c6 c7 x0p0 x0p1p0 x0p1p1 x0p1p2 (x0p2p0, x0p2p1, x0p2p2, c2, c3, ()))
    else
     if y3.2.1 = true then
      (guard_body.run x1).bind fun y4 =>
      if fitB (c7.length + 1) 96 = true then
       D cd0 (endQ C Q) (St2 c0 c1 c2 c3 c4 c5 c6 (c7 ++ [y4]) x0p0 x0p1p0 x0p1p1 x0p1p2 y3.1 [0, 0, 0, 0] [0, 0, 0] [0, 0, 0] 0 [0, 0, 0] [0, 0, 0] 0)
      else none
     else
      (guard_body.run x1).bind fun y5 =>
      if fitB (c6.length + 1) 96 = true then
       D cd0 (endQ C Q) (St2 c0 c1 c2 c3 c4 c5 (c6 ++ [y5]) c7 x0p0 x0p1p0 x0p1p1 x0p1p2 y3.1 [0, 0, 0, 0] [0, 0, 0] [0, 0, 0] 0 [0, 0, 0] [0, 0, 0] 0)
      else none := by
  intro D L; kernel_rfl
 have h2 := via (k := k) h
 refine h2.trans ?_
 simp only [j0_eq]
 first | rfl | kernel_rfl
def run (x0p0 x0p1p0 x0p1p1 : D4) (x0p1p2 : Int) (x0p2p0 x0p2p1 : D4) (x0p2p2 : Int) (x1 : D0) (c0 c1 : D2) (c2 c3 : D2) (c4 c5 : D4) (c6 c7 : D7) : Option D47 := top (α := List Int × List Int × List Int × Int × D1 × Int × D2 × D2 × D2 × D2 × List Int × List Int × D7 × D7 × List Int × List Int × List Int × Int × D1 × Unit) (fun x5 c0 c1 c2 c3 c4 c5 c6 c7 c12p0 c12p1p0 c12p1p1 c12p1p2 c12p2 => some (c12p0, c12p1p0, c12p1p1, c12p1p2, c12p2, x5, c0, c1, c2, c3, c4, c5, c6, c7, c12p0, c12p1p0, c12p1p1, c12p1p2, c12p2, ())) x0p0 x0p1p0 x0p1p1 x0p1p2 x0p2p0 x0p2p1 x0p2p2 x1 c0 c1 c2 c3 c4 c5 c6 c7
def Sp : Spec := ⟨[.agg T22 [hD T23, .agg T7 [hD T5, hD T5, hD T1, .app 0 0, .app 1 0], .agg T7 [hD T5, hD T5, hD T1, .app 2 0, .app 3 0], .agg T21 [.app 4 0, .app 5 0], .app 6 0, .app 7 0], hD T2], [(0, hB T8 0 true), (1, hB T8 0 true), (2, hB T8 0 true), (3, hB T8 0 true), (4, hB T18 0 true), (5, hB T18 0 true), (6, hB T2 0 true), (7, hB T2 0 true)], T114, .tup [.agg T22 [hD T23, .agg T7 [hD T5, hD T5, hD T1, .app 0 1, .app 1 1], hD T7, .agg T21 [.app 4 1, .app 5 1], .app 6 1, .app 7 1], hD T1], [(0, hB T8 1 true), (1, hB T8 1 true), (2, hB T8 1 true), (3, hB T8 1 true), (4, hB T18 1 true), (5, hB T18 1 true), (6, hB T2 1 true), (7, hB T2 1 true), (12, hC T22 (.agg T22 [hD T23, .agg T7 [hD T5, hD T5, hD T1, .app 0 1, .app 1 1], hD T7, .agg T21 [.app 4 1, .app 5 1], .app 6 1, .app 7 1]) false)], T115, fun x => run x.1 x.2.1 x.2.2.1 x.2.2.2.1 x.2.2.2.2.1 x.2.2.2.2.2.1 x.2.2.2.2.2.2.1 x.2.2.2.2.2.2.2.1 x.2.2.2.2.2.2.2.2.1 x.2.2.2.2.2.2.2.2.2.1 x.2.2.2.2.2.2.2.2.2.2.1 x.2.2.2.2.2.2.2.2.2.2.2.1 x.2.2.2.2.2.2.2.2.2.2.2.2.1 x.2.2.2.2.2.2.2.2.2.2.2.2.2.1 x.2.2.2.2.2.2.2.2.2.2.2.2.2.2.1 x.2.2.2.2.2.2.2.2.2.2.2.2.2.2.2.1⟩
set_option maxRecDepth 100000 in
theorem sok : SOk Try.prog 65 Sp.h := by
 refine sok_of_den (C := C) (ctx_ok (by kernel_rfl) (by kernel_rfl) (by kernel_rfl) (by kernel_rfl) ⟨.inl guard_Id.con, ⟨.inl gate_Offer.con, ⟨.inl guard_Worth.con, ⟨.inl guard_body.con, trivial⟩⟩⟩⟩) (by kernel_rfl) Try.func65 (c := cB Try.f65) (by kernel_rfl) (by kernel_rfl) Sp fuel (by kernel_rfl) (by kernel_rfl) ?_
 intro x r h
 rw [<- h]
 have h1 : Sp.start x Try.f65.ntmps = (St0 x.1 x.2.1 x.2.2.1 x.2.2.2.1 x.2.2.2.2.1 x.2.2.2.2.2.1 x.2.2.2.2.2.2.1 x.2.2.2.2.2.2.2.1 x.2.2.2.2.2.2.2.2.1 x.2.2.2.2.2.2.2.2.2.1 x.2.2.2.2.2.2.2.2.2.2.1 x.2.2.2.2.2.2.2.2.2.2.2.1 x.2.2.2.2.2.2.2.2.2.2.2.2.1 x.2.2.2.2.2.2.2.2.2.2.2.2.2.1 x.2.2.2.2.2.2.2.2.2.2.2.2.2.2.1 x.2.2.2.2.2.2.2.2.2.2.2.2.2.2.2.1) := by kernel_rfl
 rw [h1]
 refine (top_eq fuel (finS C Try.f65.results.toList Sp.read) x.1 x.2.1 x.2.2.1 x.2.2.2.1 x.2.2.2.2.1 x.2.2.2.2.2.1 x.2.2.2.2.2.2.1 x.2.2.2.2.2.2.2.1 x.2.2.2.2.2.2.2.2.1 x.2.2.2.2.2.2.2.2.2.1 x.2.2.2.2.2.2.2.2.2.2.1 x.2.2.2.2.2.2.2.2.2.2.2.1 x.2.2.2.2.2.2.2.2.2.2.2.2.1 x.2.2.2.2.2.2.2.2.2.2.2.2.2.1 x.2.2.2.2.2.2.2.2.2.2.2.2.2.2.1 x.2.2.2.2.2.2.2.2.2.2.2.2.2.2.2.1).trans ?_
 kernel_rfl
theorem named : Named Try.prog 65 := named_of Try.func65 (by kernel_rfl) (by kernel_rfl)
end Go.Bx.guard_met_s1
namespace Go.Bx.guard_meet
def Js : List Nat := []
def C : Ctx := ⟨[(3, T1), (4, .bool), (34, T22), (40, T2)], [], [], fnL [(22, guard_kept.F), (63, guard_knows.F), (64, guard_Id.F)], shL [(21, [.one guard_fresh_s0.Sp]), (65, [.one guard_met_s1.Sp]), (116, [.one guard_meeting_s0.Sp])], [(11, 54), (35, 55), (37, 64)], invL [], [(2, [4, 5])], [], [], 0, 0⟩
def St0 (x0 : D8) (x1 : D0) : St := stL 53 [(0, .data T22 x0), (1, .data T2 x1)] []
def St1 (x5 : Bool) (c4 : D8) : St := stL 53 [(4, .ref 4 0 []), (5, .data .bool x5)] [(4, .cell T22 (.data T22 c4) false)]
def top (Rt : Bool -> D8 -> Option α) (x0 : D8) (x1 : D0) : Option α :=
 (guard_meeting_s0.run x1).bind fun y1 =>
 (if ((cond (cond (y1.1 != 0) true (decide (x1.2.2.1 >= 3))) true (decide (x1.2.2.2.2.1 >= 256))) == false) = true then guard_Id.run x1 else some 0).bind fun y2 =>
 (if ((cond (cond (y1.1 != 0) true (decide (x1.2.2.1 >= 3))) true (decide (x1.2.2.2.2.1 >= 256))) == false) = true then guard_knows.run x0 y2 else some false).bind fun y3 =>
 if (cond (cond (cond (y1.1 != 0) true (decide (x1.2.2.1 >= 3))) true (decide (x1.2.2.2.2.1 >= 256))) true y3) = true then
  Rt false x0
 else
  (guard_fresh_s0.run x0).bind fun y4 =>
  (guard_met_s1.run y4.1 y4.2.1 y4.2.2.1 y4.2.2.2.1 y4.2.2.2.2.1 y4.2.2.2.2.2.1 y4.2.2.2.2.2.2.1 x1 y4.2.2.2.2.2.2.2.2.2.2.2.2.2.2.2.2.1 y4.2.2.2.2.2.2.2.2.2.2.2.2.2.2.2.2.2.1 y4.2.2.2.2.2.2.2.2.2.2.2.2.2.2.2.2.2.2.1 y4.2.2.2.2.2.2.2.2.2.2.2.2.2.2.2.2.2.2.2.1 y4.2.2.2.2.2.2.2.2.2.2.2.2.2.2.1 y4.2.2.2.2.2.2.2.2.2.2.2.2.2.2.2.1 y4.2.2.2.2.2.2.2.2.2.2.2.2.2.2.2.2.2.2.2.2.1 y4.2.2.2.2.2.2.2.2.2.2.2.2.2.2.2.2.2.2.2.2.2.1).bind fun y5 =>
  if (y5.2.2.2.2.2.1 != 0) = true then
   Rt false x0
  else
   (guard_kept.run (y5.1, (y5.2.1, y5.2.2.1, y5.2.2.2.1, y5.2.2.2.2.2.2.1, y5.2.2.2.2.2.2.2.1, ()), y5.2.2.2.2.1, (y5.2.2.2.2.2.2.2.2.2.2.1, y5.2.2.2.2.2.2.2.2.2.2.2.1, ()), y5.2.2.2.2.2.2.2.2.2.2.2.2.1, y5.2.2.2.2.2.2.2.2.2.2.2.2.2.1, ()) y1.2.1).bind fun y6 =>
   if (y6.2.1 != 0) = true then
    Rt false x0
   else
    Rt true y6.1
theorem top_eq (k : Nat) (Q : Ex -> St -> Option α) (x0 : D8) (x1 : D0) :
  (den C k) (cB Try.f56) Q (St0 x0 x1) = top (fun x5 c4 => Q .ret (St1 x5 c4)) x0 x1 := plainly Js (by kernel_rfl)
def run (x0 : D8) (x1 : D0) : Option D18 := top (α := D8 × Bool × Unit) (fun x5 c4 => some (c4, x5, ())) x0 x1
def F : Fn := ⟨T116, T39, true, fun x => run x.1 x.2.1⟩
theorem con : Con Try.prog 56 F /\ Named Try.prog 56 :=
 con_of2 (C := C) (ctx_ok_sh (by kernel_rfl) (by kernel_rfl) (by kernel_rfl) (by kernel_rfl) ⟨.inl guard_kept.con, ⟨.inl guard_knows.con, ⟨.inl guard_Id.con, trivial⟩⟩⟩ ⟨⟨⟨guard_fresh_s0.sok, trivial⟩, guard_fresh_s0.named⟩, ⟨⟨⟨guard_met_s1.sok, trivial⟩, guard_met_s1.named⟩, ⟨⟨⟨guard_meeting_s0.sok, trivial⟩, guard_meeting_s0.named⟩, trivial⟩⟩⟩) (by kernel_rfl) Try.func56 (by kernel_rfl) (c := cB Try.f56) (by kernel_rfl) (by kernel_rfl) F (fun x => by simp [F, spread, Try.ntmps56]) (fun x => (St0 x.1 x.2.1)) (fun x => by kernel_rfl) fun x => (top_eq fuel _ x.1 x.2.1).trans (by kernel_rfl)
end Go.Bx.guard_meet
namespace Go.Bx.basculeref_meets
def Js : List Nat := [10, 17]
def C : Ctx := ⟨[(3, T1), (4, .bool), (28, T7), (32, T19), (34, T22), (40, T2)], [], [], fnL [(10, basculeref_IdOf.F), (117, basculeref_BodyFault.F), (118, basculeref_Offered.F), (119, basculeref_WorthOf.F)], noSh, [], invL [], [(2, [4, 5]), (1, [2, 3, 4]), (4, [2, 3, 4, 31, 32, 33]), (12, [2, 3, 4, 31, 32, 33]), (27, [2, 3, 4]), (48, [2, 4])], [(2, [.dat false 4 []]), (48, [.dat false 2 []])], [28, 66, 74], 0, 0⟩
def St0 (x0 : D8) (x1 : D0) : St := stL 80 [(0, .data T22 x0), (1, .data T2 x1)] []
def St1 (x5 : Bool) (c4 : D8) : St := stL 80 [(4, .ref 4 0 []), (5, .data .bool x5)] [(4, .cell T22 (.data T22 c4) false)]
def St2 (x32 x33 : Int) (c2 : D8) (c3 : D0) (c4p0 c4p1p0 c4p1p1 : D4) (c4p1p2 : Int) (c4p2p0 c4p2p1 : D4) (c4p2p2 : Int) (c28 : D7) : St := stL 80 [(2, .ref 2 0 []), (3, .ref 3 0 []), (4, .ref 4 0 []), (31, .app 28 0), (32, .data T1 x32), (33, .data T1 x33)] [(2, .cell T22 (.data T22 c2) false), (3, .cell T2 (.data T2 c3) false), (4, .cell T22 (.agg T22 [.data T23 c4p0, .agg T7 [.data T5 c4p1p0, .data T5 c4p1p1, .data T1 c4p1p2, .full T8 [], .full T8 []], .agg T7 [.data T5 c4p2p0, .data T5 c4p2p1, .data T1 c4p2p2, .full T8 [], .full T8 []], .agg T21 [.full T18 [], .full T18 []], .full T2 [], .full T2 []]) false), (28, .buf T2 c28 0 true)]
noncomputable def cd0 : Code := cL (cL (cR (cL (cR (cR (cB Try.f57))))))
def St3 (c2 : D8) (c3 : D0) (c4p0 c4p1p0 c4p1p1 : D4) (c4p1p2 : Int) (c4p2p0 c4p2p1 : D4) (c4p2p2 : Int) : St := stL 80 [(2, .ref 2 0 []), (3, .ref 3 0 []), (4, .ref 4 0 [])] [(2, .cell T22 (.data T22 c2) false), (3, .cell T2 (.data T2 c3) false), (4, .cell T22 (.agg T22 [.data T23 c4p0, .agg T7 [.data T5 c4p1p0, .data T5 c4p1p1, .data T1 c4p1p2, .full T8 [], .full T8 []], .agg T7 [.data T5 c4p2p0, .data T5 c4p2p1, .data T1 c4p2p2, .full T8 [], .full T8 []], .agg T21 [.full T18 [], .full T18 []], .full T2 [], .full T2 []]) false)]
def l0s (Nx : Int -> Int -> D8 -> D0 -> D4 -> D4 -> D4 -> Int -> D4 -> D4 -> Int -> D7 -> Option α) (Rt : Bool -> D8 -> Option α) (Xt0 : D8 -> D0 -> D4 -> D4 -> D4 -> Int -> D4 -> D4 -> Int -> Option α) (x32 x33 : Int) (c2 : D8) (c3 : D0) (c4p0 c4p1p0 c4p1p1 : D4) (c4p1p2 : Int) (c4p2p0 c4p2p1 : D4) (c4p2p2 : Int) (c28 : D7) : Option α :=
 if (decide (x33 < x32)) = true then
  if 0 <= x33 /\ x33 < (c28.length : Int) then
   (basculeref_IdOf.run (List.getD c28 (Int.toNat x33) (0, 0, 0, (List.replicate 32 0), 0, 0, [], ()))).bind fun y2 =>
   (basculeref_IdOf.run c3).bind fun y3 =>
   if (y2 == y3) = true then
    Rt false c2
   else
    Nx x32 (IntKind.i64.wrap (x33 + 1)) c2 c3 c4p0 c4p1p0 c4p1p1 c4p1p2 c4p2p0 c4p2p1 c4p2p2 c28
  else none
 else
  Xt0 c2 c3 c4p0 c4p1p0 c4p1p1 c4p1p2 c4p2p0 c4p2p1 c4p2p2
theorem l0s_eq (k : Nat) (next : St -> Option α) (Q : Ex -> St -> Option α) (x32 x33 : Int) (c2 : D8) (c3 : D0) (c4p0 c4p1p0 c4p1p1 : D4) (c4p1p2 : Int) (c4p2p0 c4p2p1 : D4) (c4p2p2 : Int) (c28 : D7) :
  rnd C k cd0 12 Q next (St2 x32 x33 c2 c3 c4p0 c4p1p0 c4p1p1 c4p1p2 c4p2p0 c4p2p1 c4p2p2 c28) = l0s (fun x32 x33 c2 c3 c4p0 c4p1p0 c4p1p1 c4p1p2 c4p2p0 c4p2p1 c4p2p2 c28 => next (St2 x32 x33 c2 c3 c4p0 c4p1p0 c4p1p1 c4p1p2 c4p2p0 c4p2p1 c4p2p2 c28)) (fun x5 c4 => Q .ret (St1 x5 c4)) (fun c2 c3 c4p0 c4p1p0 c4p1p1 c4p1p2 c4p2p0 c4p2p1 c4p2p2 => Q (.exit 0) (St3 c2 c3 c4p0 c4p1p0 c4p1p1 c4p1p2 c4p2p0 c4p2p1 c4p2p2)) x32 x33 c2 c3 c4p0 c4p1p0 c4p1p1 c4p1p2 c4p2p0 c4p2p1 c4p2p2 c28 := plainly Js (by kernel_rfl)
def l0 (k : Nat) (Rt : Bool -> D8 -> Option α) (Xt0 : D8 -> D0 -> D4 -> D4 -> D4 -> Int -> D4 -> D4 -> Int -> Option α) : Nat -> Int -> Int -> D8 -> D0 -> D4 -> D4 -> D4 -> Int -> D4 -> D4 -> Int -> D7 -> Option α
 | 0, _, _, _, _, _, _, _, _, _, _, _, _ => none
 | n + 1, x32, x33, c2, c3, c4p0, c4p1p0, c4p1p1, c4p1p2, c4p2p0, c4p2p1, c4p2p2, c28 => l0s (l0 k Rt Xt0 n) Rt Xt0 x32 x33 c2 c3 c4p0 c4p1p0 c4p1p1 c4p1p2 c4p2p0 c4p2p1 c4p2p2 c28
theorem l0_eq (k : Nat) (Q : Ex -> St -> Option α) : ∀ (n : Nat) (x32 x33 : Int) (c2 : D8) (c3 : D0) (c4p0 c4p1p0 c4p1p1 : D4) (c4p1p2 : Int) (c4p2p0 c4p2p1 : D4) (c4p2p2 : Int) (c28 : D7), iter (rnd C k cd0 12 Q) n (St2 x32 x33 c2 c3 c4p0 c4p1p0 c4p1p1 c4p1p2 c4p2p0 c4p2p1 c4p2p2 c28) = l0 k (fun x5 c4 => Q .ret (St1 x5 c4)) (fun c2 c3 c4p0 c4p1p0 c4p1p1 c4p1p2 c4p2p0 c4p2p1 c4p2p2 => Q (.exit 0) (St3 c2 c3 c4p0 c4p1p0 c4p1p1 c4p1p2 c4p2p0 c4p2p1 c4p2p2)) n x32 x33 c2 c3 c4p0 c4p1p0 c4p1p1 c4p1p2 c4p2p0 c4p2p1 c4p2p2 c28
 | 0, _, _, _, _, _, _, _, _, _, _, _, _ => rfl
 | n + 1, x32, x33, c2, c3, c4p0, c4p1p0, c4p1p1, c4p1p2, c4p2p0, c4p2p1, c4p2p2, c28 => (iter_succ _ _ _).trans ((l0s_eq k _ Q x32 x33 c2 c3 c4p0 c4p1p0 c4p1p1 c4p1p2 c4p2p0 c4p2p1 c4p2p2 c28).trans (congrArg (fun N => l0s N (fun x5 c4 => Q .ret (St1 x5 c4)) (fun c2 c3 c4p0 c4p1p0 c4p1p1 c4p1p2 c4p2p0 c4p2p1 c4p2p2 => Q (.exit 0) (St3 c2 c3 c4p0 c4p1p0 c4p1p1 c4p1p2 c4p2p0 c4p2p1 c4p2p2)) x32 x33 c2 c3 c4p0 c4p1p0 c4p1p1 c4p1p2 c4p2p0 c4p2p1 c4p2p2 c28) (by funext; exact l0_eq k Q n _ _ _ _ _ _ _ _ _ _ _ _)))
theorem l0_congr (k : Nat) (Rt : Bool -> D8 -> Option α) (Xt0 : D8 -> D0 -> D4 -> D4 -> D4 -> Int -> D4 -> D4 -> Int -> Option α) (Rtq : Bool -> D8 -> Option α) (Xt0q : D8 -> D0 -> D4 -> D4 -> D4 -> Int -> D4 -> D4 -> Int -> Option α) (hRt : ∀ (x5 : Bool) (c4 : D8), Rt x5 c4 = Rtq x5 c4) (hXt0 : ∀ (c2 : D8) (c3 : D0) (c4p0 c4p1p0 c4p1p1 : D4) (c4p1p2 : Int) (c4p2p0 c4p2p1 : D4) (c4p2p2 : Int), Xt0 c2 c3 c4p0 c4p1p0 c4p1p1 c4p1p2 c4p2p0 c4p2p1 c4p2p2 = Xt0q c2 c3 c4p0 c4p1p0 c4p1p1 c4p1p2 c4p2p0 c4p2p1 c4p2p2) (n : Nat) (x32 x33 : Int) (c2 : D8) (c3 : D0) (c4p0 c4p1p0 c4p1p1 : D4) (c4p1p2 : Int) (c4p2p0 c4p2p1 : D4) (c4p2p2 : Int) (c28 : D7) : l0 k Rt Xt0 n x32 x33 c2 c3 c4p0 c4p1p0 c4p1p1 c4p1p2 c4p2p0 c4p2p1 c4p2p2 c28 = l0 k Rtq Xt0q n x32 x33 c2 c3 c4p0 c4p1p0 c4p1p1 c4p1p2 c4p2p0 c4p2p1 c4p2p2 c28 := by
 obtain rfl : Rt = Rtq := by funext x5; funext c4; exact hRt x5 c4
 obtain rfl : Xt0 = Xt0q := by funext c2; funext c3; funext c4p0; funext c4p1p0; funext c4p1p1; funext c4p1p2; funext c4p2p0; funext c4p2p1; funext c4p2p2; exact hXt0 c2 c3 c4p0 c4p1p0 c4p1p1 c4p1p2 c4p2p0 c4p2p1 c4p2p2
 rfl
noncomputable def cd1 : Code := cR (cR (cR (cB Try.f57)))
def St4 (c2 : D8) (c3 : D0) (c4p0 c4p1p0 c4p1p1 : D4) (c4p1p2 : Int) (c4p2p0 c4p2p1 : D4) (c4p2p2 : Int) : St := stL 80 [(2, .ref 2 0 []), (3, .ref 3 0 []), (4, .ref 4 0 [])] [(2, .cell T22 (.data T22 c2) false), (3, .cell T2 (.data T2 c3) false), (4, .cell T22 (.agg T22 [.data T23 c4p0, .agg T7 [.data T5 c4p1p0, .data T5 c4p1p1, .data T1 c4p1p2, .full T8 [], .full T8 []], .agg T7 [.data T5 c4p2p0, .data T5 c4p2p1, .data T1 c4p2p2, .full T8 [], .full T8 []], .agg T21 [.full T18 [], .full T18 []], .full T2 [], .full T2 []]) false)]
def St5 (c2 : D8) (c4p0 c4p1p0 c4p1p1 : D4) (c4p1p2 : Int) (c4p2p0 c4p2p1 : D4) (c4p2p2 : Int) : St := stL 80 [(2, .ref 2 0 []), (4, .ref 4 0 [])] [(2, .cell T22 (.data T22 c2) false), (4, .cell T22 (.agg T22 [.data T23 c4p0, .agg T7 [.data T5 c4p1p0, .data T5 c4p1p1, .data T1 c4p1p2, .full T8 [], .full T8 []], .agg T7 [.data T5 c4p2p0, .data T5 c4p2p1, .data T1 c4p2p2, .full T8 [], .full T8 []], .agg T21 [.full T18 [], .full T18 []], .full T2 [], .full T2 []]) false)]
noncomputable def cd2 : Code := cR (cR (cR (cR (cR (cR (cR (cB Try.f57)))))))
def j1 (Rt : Bool -> D8 -> Option α) (c2 : D8) (c4p0 c4p1p0 c4p1p1 : D4) (c4p1p2 : Int) (c4p2p0 c4p2p1 : D4) (c4p2p2 : Int) : Option α :=
 Rt true c2
theorem j1_eq (k : Nat) (Q : Ex -> St -> Option α) (c2 : D8) (c4p0 c4p1p0 c4p1p1 : D4) (c4p1p2 : Int) (c4p2p0 c4p2p1 : D4) (c4p2p2 : Int) :
  (den C k) cd2 Q (St5 c2 c4p0 c4p1p0 c4p1p1 c4p1p2 c4p2p0 c4p2p1 c4p2p2) = j1 (fun x5 c4 => Q .ret (St1 x5 c4)) c2 c4p0 c4p1p0 c4p1p1 c4p1p2 c4p2p0 c4p2p1 c4p2p2 := plainly Js (by kernel_rfl)
def j0 (Rt : Bool -> D8 -> Option α) (c2 : D8) (c3 : D0) (c4p0 c4p1p0 c4p1p1 : D4) (c4p1p2 : Int) (c4p2p0 c4p2p1 : D4) (c4p2p2 : Int) : Option α :=
 (basculeref_IdOf.run c3).bind fun y4 =>
 (basculeref_WorthOf.run c3).bind fun y5 =>
 (basculeref_Offered.run c2.2.2.1 y4 y5 c3.2.2.1).bind fun y6 =>
 if (y6.2.2.1 != 0) = true then
  Rt false c2
 else
  if y6.2.1 = true then
   if fitB (0 + c2.2.2.2.2.2.1.length) 96 = true then
    if fitB (c2.2.2.2.2.2.1.length + 1) 96 = true then
     j1 Rt (c2.1, c2.2.1, y6.1, c2.2.2.2.1, c2.2.2.2.2.1, (c2.2.2.2.2.2.1 ++ [c3]), ()) c4p0 c4p1p0 c4p1p1 c4p1p2 c4p2p0 c4p2p1 c4p2p2
    else none
   else none
  else
   if fitB (0 + c2.2.2.2.2.1.length) 96 = true then
    if fitB (c2.2.2.2.2.1.length + 1) 96 = true then
     j1 Rt (c2.1, c2.2.1, y6.1, c2.2.2.2.1, (c2.2.2.2.2.1 ++ [c3]), c2.2.2.2.2.2.1, ()) c4p0 c4p1p0 c4p1p1 c4p1p2 c4p2p0 c4p2p1 c4p2p2
    else none
   else none
theorem j0_eq (k : Nat) (Q : Ex -> St -> Option α) (c2 : D8) (c3 : D0) (c4p0 c4p1p0 c4p1p1 : D4) (c4p1p2 : Int) (c4p2p0 c4p2p1 : D4) (c4p2p2 : Int) :
  (den C k) cd1 Q (St4 c2 c3 c4p0 c4p1p0 c4p1p1 c4p1p2 c4p2p0 c4p2p1 c4p2p2) = j0 (fun x5 c4 => Q .ret (St1 x5 c4)) c2 c3 c4p0 c4p1p0 c4p1p1 c4p1p2 c4p2p0 c4p2p1 c4p2p2 := by
 have h : ∀ (D L : DT α), denJ D L Js C cd1 Q (St4 c2 c3 c4p0 c4p1p0 c4p1p1 c4p1p2 c4p2p0 c4p2p1 c4p2p2) =
    (basculeref_IdOf.run c3).bind fun y4 =>
    (basculeref_WorthOf.run c3).bind fun y5 =>
    (basculeref_Offered.run c2.2.2.1 y4 y5 c3.2.2.1).bind fun y6 =>
    if (y6.2.2.1 != 0) = true then
     Q .ret (St1 false c2)
    else
     if y6.2.1 = true then
      if fitB (0 + c2.2.2.2.2.2.1.length) 96 = true then
       if fitB (c2.2.2.2.2.2.1.length + 1) 96 = true then
        D cd2 Q (St5 (c2.1, c2.2.1, y6.1, c2.2.2.2.1, c2.2.2.2.2.1, (c2.2.2.2.2.2.1 ++ [c3]), ()) c4p0 c4p1p0 c4p1p1 c4p1p2 c4p2p0 c4p2p1 c4p2p2)
       else none
      else none
     else
      if fitB (0 + c2.2.2.2.2.1.length) 96 = true then
       if fitB (c2.2.2.2.2.1.length + 1) 96 = true then
        D cd2 Q (St5 (c2.1, c2.2.1, y6.1, c2.2.2.2.1, (c2.2.2.2.2.1 ++ [c3]), c2.2.2.2.2.2.1, ()) c4p0 c4p1p0 c4p1p1 c4p1p2 c4p2p0 c4p2p1 c4p2p2)
       else none
      else none := by
  intro D L; kernel_rfl
 have h2 := via (k := k) h
 refine h2.trans ?_
 simp only [j1_eq]
 first | rfl | kernel_rfl
theorem a0 (k : Nat) (Q : Ex -> St -> Option α) (x32 x33 : Int) (c2 : D8) (c3 : D0) (c4p0 c4p1p0 c4p1p1 : D4) (c4p1p2 : Int) (c4p2p0 c4p2p1 : D4) (c4p2p2 : Int) (c28 : D7) :
  (lp C k) cd0 (blkQ C 0 (sq (den C k) (lp C k) Js C cd1 Q)) (St2 x32 x33 c2 c3 c4p0 c4p1p0 c4p1p1 c4p1p2 c4p2p0 c4p2p1 c4p2p2 c28) = l0 k (fun x5 c4 => (fun x5 c4 => Q .ret (St1 x5 c4)) x5 c4) (fun c2 c3 c4p0 c4p1p0 c4p1p1 c4p1p2 c4p2p0 c4p2p1 c4p2p2 => j0 (fun x5 c4 => Q .ret (St1 x5 c4)) c2 c3 c4p0 c4p1p0 c4p1p1 c4p1p2 c4p2p0 c4p2p1 c4p2p2) k x32 x33 c2 c3 c4p0 c4p1p0 c4p1p1 c4p1p2 c4p2p0 c4p2p1 c4p2p2 c28 :=
 (lp_iter 12 (by kernel_rfl)).trans ((l0_eq k _ k x32 x33 c2 c3 c4p0 c4p1p0 c4p1p1 c4p1p2 c4p2p0 c4p2p1 c4p2p2 c28).trans (l0_congr k _ _ _ _ (fun x5 c4 => (by kernel_rfl)) (fun c2 c3 c4p0 c4p1p0 c4p1p1 c4p1p2 c4p2p0 c4p2p1 c4p2p2 => (Eq.trans (b := (den C k) cd1 Q (St4 c2 c3 c4p0 c4p1p0 c4p1p1 c4p1p2 c4p2p0 c4p2p1 c4p2p2)) (by kernel_rfl) (by simp only [j0_eq]))) k x32 x33 c2 c3 c4p0 c4p1p0 c4p1p1 c4p1p2 c4p2p0 c4p2p1 c4p2p2 c28))
def top (k : Nat) (Rt : Bool -> D8 -> Option α) (x0 : D8) (x1 : D0) : Option α :=
 (basculeref_BodyFault.run x1).bind fun y1 =>
 if (cond (cond (y1 != 0) true (decide (x1.2.2.1 >= 3))) true (decide (x1.2.2.2.2.1 >= 256))) = true then
  Rt false x0
 else
  if fitB (0 + x0.2.2.2.2.2.1.length) 96 = true then
   if fitB (x0.2.2.2.2.2.1.length + x0.2.2.2.2.1.length) 96 = true then
    l0 k (fun x5 c4 => Rt x5 c4) (fun c2 c3 c4p0 c4p1p0 c4p1p1 c4p1p2 c4p2p0 c4p2p1 c4p2p2 => j0 Rt c2 c3 c4p0 c4p1p0 c4p1p1 c4p1p2 c4p2p0 c4p2p1 c4p2p2) k ((x0.2.2.2.2.2.1 ++ x0.2.2.2.2.1).length : Int) 0 x0 x1 [0, 0, 0, 0] [0, 0, 0] [0, 0, 0] 0 [0, 0, 0] [0, 0, 0] 0 (x0.2.2.2.2.2.1 ++ x0.2.2.2.2.1)
   else none
  else none
theorem top_eq (k : Nat) (Q : Ex -> St -> Option α) (x0 : D8) (x1 : D0) :
  (den C k) (cB Try.f57) Q (St0 x0 x1) = top k (fun x5 c4 => Q .ret (St1 x5 c4)) x0 x1 := by
 have h : ∀ (D L : DT α), denJ D L Js C (cB Try.f57) Q (St0 x0 x1) =
    (basculeref_BodyFault.run x1).bind fun y1 =>
    if (cond (cond (y1 != 0) true (decide (x1.2.2.1 >= 3))) true (decide (x1.2.2.2.2.1 >= 256))) = true then
     Q .ret (St1 false x0)
    else
     if fitB (0 + x0.2.2.2.2.2.1.length) 96 = true then
      if fitB (x0.2.2.2.2.2.1.length + x0.2.2.2.2.1.length) 96 = true then
       L cd0 (blkQ C 0 (sq D L Js C cd1 Q)) (St2 ((x0.2.2.2.2.2.1 ++ x0.2.2.2.2.1).length : Int) 0 x0 x1 [0, 0, 0, 0] [0, 0, 0] [0, 0, 0] 0 [0, 0, 0] [0, 0, 0] 0 (x0.2.2.2.2.2.1 ++ x0.2.2.2.2.1))
      else none
     else none := by
  intro D L; kernel_rfl
 have h2 := via (k := k) h
 refine h2.trans ?_
 simp only [a0]
 first | rfl | kernel_rfl
def run (x0 : D8) (x1 : D0) : Option D18 := top (α := D8 × Bool × Unit) fuel (fun x5 c4 => some (c4, x5, ())) x0 x1
def F : Fn := ⟨T116, T39, true, fun x => run x.1 x.2.1⟩
theorem con : Con Try.prog 57 F /\ Named Try.prog 57 :=
 con_of2 (C := C) (ctx_ok (by kernel_rfl) (by kernel_rfl) (by kernel_rfl) (by kernel_rfl) ⟨.inl basculeref_IdOf.con, ⟨.inl basculeref_BodyFault.con, ⟨.inl basculeref_Offered.con, ⟨.inl basculeref_WorthOf.con, trivial⟩⟩⟩⟩) (by kernel_rfl) Try.func57 (by kernel_rfl) (c := cB Try.f57) (by kernel_rfl) (by kernel_rfl) F (fun x => by simp [F, spread, Try.ntmps57]) (fun x => (St0 x.1 x.2.1)) (fun x => by kernel_rfl) fun x => (top_eq fuel _ x.1 x.2.1).trans (by kernel_rfl)
end Go.Bx.basculeref_meets
namespace Go.Bx.basculeref_LogSynced
def Js : List Nat := []
def C : Ctx := ⟨[(9, .str), (29, T16), (31, T21)], [], [], fnL [], noSh, [], invL [], [(2, [2])], [], [], 0, 0⟩
def St0 (x0 : D9) : St := stL 12 [(0, .data T21 x0)] []
def St1 (c2p0 : D4) : St := stL 12 [(2, .ref 2 0 [])] [(2, .cell T21 (.agg T21 [.data T16 c2p0, .full T18 []]) false)]
def top (Rt : D4 -> Option α) (x0 : D9) : Option α :=
 if Nat.ble (x0.1.length + x0.2.1.length) 9223372036854775807 = true then
  Rt (x0.1 ++ x0.2.1)
 else none
theorem top_eq (k : Nat) (Q : Ex -> St -> Option α) (x0 : D9) :
  (den C k) (cB Try.f78) Q (St0 x0) = top (fun c2p0 => Q .ret (St1 c2p0)) x0 := plainly Js (by kernel_rfl)
def run (x0 : D9) : Option D9 := top (α := List Int × List Int × Unit) (fun c2p0 => some (c2p0, [], ())) x0
def F : Fn := ⟨T28, T21, false, fun x => run x.1⟩
theorem con : Con Try.prog 78 F /\ Named Try.prog 78 :=
 con_of2 (C := C) (ctx_ok (by kernel_rfl) (by kernel_rfl) (by kernel_rfl) (by kernel_rfl) trivial) (by kernel_rfl) Try.func78 (by kernel_rfl) (c := cB Try.f78) (by kernel_rfl) (by kernel_rfl) F (fun x => by simp [F, spread, Try.ntmps78]) (fun x => (St0 x.1)) (fun x => by kernel_rfl) fun x => (top_eq fuel _ x.1).trans (by kernel_rfl)
end Go.Bx.basculeref_LogSynced
namespace Go.Bx.basculeref_logged
def Js : List Nat := []
def C : Ctx := ⟨[(4, .bool), (9, .str), (29, T16), (31, T21), (34, T22)], [], [], fnL [(77, basculeref_LogAppended.F), (78, basculeref_LogSynced.F)], noSh, [], invL [], [(2, [4, 5])], [], [], 0, 0⟩
def St0 (x0 : D8) (x1 : D4) : St := stL 23 [(0, .data T22 x0), (1, .data .str x1)] []
def St1 (x5 : Bool) (c4 : D8) : St := stL 23 [(4, .ref 4 0 []), (5, .data .bool x5)] [(4, .cell T22 (.data T22 c4) false)]
def top (Rt : Bool -> D8 -> Option α) (x0 : D8) (x1 : D4) : Option α :=
 (basculeref_LogAppended.run x0.2.2.2.1 x1).bind fun y1 =>
 if (y1.2.1 != 0) = true then
  Rt false x0
 else
  (basculeref_LogSynced.run y1.1).bind fun y2 =>
  Rt true (x0.1, x0.2.1, x0.2.2.1, y2, x0.2.2.2.2)
theorem top_eq (k : Nat) (Q : Ex -> St -> Option α) (x0 : D8) (x1 : D4) :
  (den C k) (cB Try.f25) Q (St0 x0 x1) = top (fun x5 c4 => Q .ret (St1 x5 c4)) x0 x1 := plainly Js (by kernel_rfl)
def run (x0 : D8) (x1 : D4) : Option D18 := top (α := D8 × Bool × Unit) (fun x5 c4 => some (c4, x5, ())) x0 x1
def F : Fn := ⟨T38, T39, true, fun x => run x.1 x.2.1⟩
theorem con : Con Try.prog 25 F /\ Named Try.prog 25 :=
 con_of2 (C := C) (ctx_ok (by kernel_rfl) (by kernel_rfl) (by kernel_rfl) (by kernel_rfl) ⟨.inl basculeref_LogAppended.con, ⟨.inl basculeref_LogSynced.con, trivial⟩⟩) (by kernel_rfl) Try.func25 (by kernel_rfl) (c := cB Try.f25) (by kernel_rfl) (by kernel_rfl) F (fun x => by simp [F, spread, Try.ntmps25]) (fun x => (St0 x.1 x.2.1)) (fun x => by kernel_rfl) fun x => (top_eq fuel _ x.1 x.2.1).trans (by kernel_rfl)
end Go.Bx.basculeref_logged
