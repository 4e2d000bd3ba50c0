/- Go functions of this seat in their own words of Lean, each tied to its code by a contract. -/
import Derived.Test.YtpapikaeaodfgaaGBase
namespace Go.Bx.sets_keys
open Go Go.Proofs Go.Bx
set_option maxRecDepth 100000
set_option linter.unusedVariables false
def Js : List Nat := [13, 14]
def C : Ctx := ⟨[(23, (.int .i64)), (26, (.sl (.arr 20 (.int .u8)))), (168, (.arr 20 (.int .u8)))], [], [], fnL [], noSh, [], invL [], [(2, [2]), (1, []), (4, [0, 15, 16, 17]), (7, [0, 15, 16, 17]), (10, [0, 4, 15, 16, 17, 24, 25, 26]), (12, [0, 15, 16, 17]), (21, [0, 4, 15, 16, 17, 24, 25, 26]), (36, [0, 15, 16, 17]), (39, [])], [], [], 0, 0⟩
def St0 (x0 : List (List Int)) : St := stL 35 [(0, .data (.sl (.arr 20 (.int .u8))) x0)] []
def St1 (x2 : Int) : St := stL 35 [(2, .data (.int .i64) x2)] []
def St2 (x0 : List (List Int)) (x15 : List (List Int)) (x16 : Int) (x17 : Int) : St := stL 35 [(0, .data (.sl (.arr 20 (.int .u8))) x0), (15, .data (.sl (.arr 20 (.int .u8))) x15), (16, .data (.int .i64) x16), (17, .data (.int .i64) x17)] []
noncomputable def cd0 : Code := cL (cL (cR (cL (cR (cR (cB Try.f56))))))
def St3 (x0 : List (List Int)) (x15 : List (List Int)) (x16 : Int) (x17 : Int) (x24 : List (List Int)) (x25 : Int) (x26 : Int) (c4 : List Int) : St := stL 35 [(0, .data (.sl (.arr 20 (.int .u8))) x0), (4, .ref 4 0 []), (15, .data (.sl (.arr 20 (.int .u8))) x15), (16, .data (.int .i64) x16), (17, .data (.int .i64) x17), (24, .data (.sl (.arr 20 (.int .u8))) x24), (25, .data (.int .i64) x25), (26, .data (.int .i64) x26)] [(4, .cell (.arr 20 (.int .u8)) (.data (.arr 20 (.int .u8)) c4) false)]
noncomputable def cd1 : Code := cL (cL (cR (cR (cL (cL (cR (cR (cL (cL (cR (cL (cR (cR (cB Try.f56))))))))))))))
def St4 (x0 : List (List Int)) (x15 : List (List Int)) (x16 : Int) (x17 : Int) : St := stL 35 [(0, .data (.sl (.arr 20 (.int .u8))) x0), (15, .data (.sl (.arr 20 (.int .u8))) x15), (16, .data (.int .i64) x16), (17, .data (.int .i64) x17)] []
def l1s {α : Type} (Nx : (List (List Int)) → (List (List Int)) → Int → Int → (List (List Int)) → Int → Int → (List Int) → Option α) (Rt : Int → Option α) (Xt2 : (List (List Int)) → (List (List Int)) → Int → Int → Option α) (x0 : List (List Int)) (x15 : List (List Int)) (x16 : Int) (x17 : Int) (x24 : List (List Int)) (x25 : Int) (x26 : Int) (c4 : List Int) : Option α :=
  if (decide (x26 < x25)) = true then
    if 0 ≤ x26 ∧ x26 < (x24.length : Int) then
      if (beqD (.arr 20 (.int .u8)) c4 (List.getD x24 (Int.toNat x26) (List.replicate 20 0))) = true then
        Rt 8
      else
        Nx x0 x15 x16 x17 x24 x25 (IntKind.i64.wrap (x26 + 1)) c4
    else none
  else
    Xt2 x0 x15 x16 x17
theorem l1s_eq {α : Type} (k : Nat) (next : St → Option α) (Q : Ex → St → Option α) (x0 : List (List Int)) (x15 : List (List Int)) (x16 : Int) (x17 : Int) (x24 : List (List Int)) (x25 : Int) (x26 : Int) (c4 : List Int) :
    rnd C k cd1 21 Q next (St3 x0 x15 x16 x17 x24 x25 x26 c4) = l1s (fun (x0 : List (List Int)) (x15 : List (List Int)) (x16 : Int) (x17 : Int) (x24 : List (List Int)) (x25 : Int) (x26 : Int) (c4 : List Int) => next (St3 x0 x15 x16 x17 x24 x25 x26 c4)) (fun (x2 : Int) => Q .ret (St1 x2)) (fun (x0 : List (List Int)) (x15 : List (List Int)) (x16 : Int) (x17 : Int) => Q (.exit 2) (St4 x0 x15 x16 x17)) x0 x15 x16 x17 x24 x25 x26 c4 := by
  have h : ∀ (D L : DT α), denJ D L Js C cd1 (lq C 21 next Q) (St3 x0 x15 x16 x17 x24 x25 x26 c4) =
        if (decide (x26 < x25)) = true then
          if 0 ≤ x26 ∧ x26 < (x24.length : Int) then
            if (beqD (.arr 20 (.int .u8)) c4 (List.getD x24 (Int.toNat x26) (List.replicate 20 0))) = true then
              Q .ret (St1 8)
            else
              next (St3 x0 x15 x16 x17 x24 x25 (IntKind.i64.wrap (x26 + 1)) c4)
          else none
        else
          Q (.exit 2) (St4 x0 x15 x16 x17) := by
    intro D L; kernel_rfl
  refine (show rnd C k cd1 21 Q next (St3 x0 x15 x16 x17 x24 x25 x26 c4) = denJ (den C k) (lp C k) Js C cd1 (lq C 21 next Q) (St3 x0 x15 x16 x17 x24 x25 x26 c4) from (denJ_den _ _ _ _ _ _).symm).trans ((h (den C k) (lp C k)).trans ?_)
  first | rfl | kernel_rfl
def l1 {α : Type} (k : Nat) (Rt : Int → Option α) (Xt2 : (List (List Int)) → (List (List Int)) → Int → Int → Option α) : Nat → (List (List Int)) → (List (List Int)) → Int → Int → (List (List Int)) → Int → Int → (List Int) → Option α
  | 0, _, _, _, _, _, _, _, _ => none
  | n + 1, x0, x15, x16, x17, x24, x25, x26, c4 => l1s (l1 k Rt Xt2 n) Rt Xt2 x0 x15 x16 x17 x24 x25 x26 c4
theorem l1_eq {α : Type} (k : Nat) (Q : Ex → St → Option α) : ∀ (n : Nat) (x0 : List (List Int)) (x15 : List (List Int)) (x16 : Int) (x17 : Int) (x24 : List (List Int)) (x25 : Int) (x26 : Int) (c4 : List Int), iter (rnd C k cd1 21 Q) n (St3 x0 x15 x16 x17 x24 x25 x26 c4) = l1 k (fun (x2 : Int) => Q .ret (St1 x2)) (fun (x0 : List (List Int)) (x15 : List (List Int)) (x16 : Int) (x17 : Int) => Q (.exit 2) (St4 x0 x15 x16 x17)) n x0 x15 x16 x17 x24 x25 x26 c4
  | 0, _, _, _, _, _, _, _, _ => rfl
  | n + 1, x0, x15, x16, x17, x24, x25, x26, c4 => (iter_succ _ _ _).trans ((l1s_eq k (iter (rnd C k cd1 21 Q) n) Q x0 x15 x16 x17 x24 x25 x26 c4).trans (congrArg (fun N => l1s N (fun (x2 : Int) => Q .ret (St1 x2)) (fun (x0 : List (List Int)) (x15 : List (List Int)) (x16 : Int) (x17 : Int) => Q (.exit 2) (St4 x0 x15 x16 x17)) x0 x15 x16 x17 x24 x25 x26 c4) (funext fun x0 => funext fun x15 => funext fun x16 => funext fun x17 => funext fun x24 => funext fun x25 => funext fun x26 => funext fun c4 => l1_eq k Q n x0 x15 x16 x17 x24 x25 x26 c4)))
theorem l1_congr {α : Type} (k : Nat) (Rt : Int → Option α) (Xt2 : (List (List Int)) → (List (List Int)) → Int → Int → Option α) (Rtq : Int → Option α) (Xt2q : (List (List Int)) → (List (List Int)) → Int → Int → Option α) (hRt : ∀ (x2 : Int), Rt x2 = Rtq x2) (hXt2 : ∀ (x0 : List (List Int)) (x15 : List (List Int)) (x16 : Int) (x17 : Int), Xt2 x0 x15 x16 x17 = Xt2q x0 x15 x16 x17) (n : Nat) (x0 : List (List Int)) (x15 : List (List Int)) (x16 : Int) (x17 : Int) (x24 : List (List Int)) (x25 : Int) (x26 : Int) (c4 : List Int) : l1 k Rt Xt2 n x0 x15 x16 x17 x24 x25 x26 c4 = l1 k Rtq Xt2q n x0 x15 x16 x17 x24 x25 x26 c4 := by
  obtain rfl : Rt = Rtq := by funext x2; exact hRt x2
  obtain rfl : Xt2 = Xt2q := by funext x0; funext x15; funext x16; funext x17; exact hXt2 x0 x15 x16 x17
  rfl
noncomputable def cd2 : Code := cR (cR (cR (cL (cL (cR (cL (cR (cR (cB Try.f56)))))))))
def St5 (x0 : List (List Int)) (x15 : List (List Int)) (x16 : Int) (x17 : Int) : St := stL 35 [(0, .data (.sl (.arr 20 (.int .u8))) x0), (15, .data (.sl (.arr 20 (.int .u8))) x15), (16, .data (.int .i64) x16), (17, .data (.int .i64) x17)] []
def j0 {α : Type} (Nx : (List (List Int)) → (List (List Int)) → Int → Int → Option α) (x0 : List (List Int)) (x15 : List (List Int)) (x16 : Int) (x17 : Int) : Option α :=
  Nx x0 x15 x16 (IntKind.i64.wrap (x17 + 1))
theorem j0_eq {α : Type} (k : Nat) (next : St → Option α) (Q : Ex → St → Option α) (x0 : List (List Int)) (x15 : List (List Int)) (x16 : Int) (x17 : Int) :
    (den C k) cd2 (lq C 12 next Q) (St5 x0 x15 x16 x17) = j0 (fun (x0 : List (List Int)) (x15 : List (List Int)) (x16 : Int) (x17 : Int) => next (St2 x0 x15 x16 x17)) x0 x15 x16 x17 := by
  have h : ∀ (D L : DT α), denJ D L Js C cd2 (lq C 12 next Q) (St5 x0 x15 x16 x17) =
        next (St2 x0 x15 x16 (IntKind.i64.wrap (x17 + 1))) := by
    intro D L; kernel_rfl
  refine (show (den C k) cd2 (lq C 12 next Q) (St5 x0 x15 x16 x17) = denJ (den C k) (lp C k) Js C cd2 (lq C 12 next Q) (St5 x0 x15 x16 x17) from (denJ_den _ _ _ _ _ _).symm).trans ((h (den C k) (lp C k)).trans ?_)
  first | rfl | kernel_rfl
theorem a0 {α : Type} (k : Nat) (next : St → Option α) (Q : Ex → St → Option α) (x0 : List (List Int)) (x15 : List (List Int)) (x16 : Int) (x17 : Int) (x24 : List (List Int)) (x25 : Int) (x26 : Int) (c4 : List Int) :
    (lp C k) cd1 (blkQ C 2 (blkQ C 1 (sq (den C k) (lp C k) Js C cd2 (lq C 12 next Q)))) (St3 x0 x15 x16 x17 x24 x25 x26 c4) = l1 k (fun (x2 : Int) => (fun (x2 : Int) => Q .ret (St1 x2)) x2) (fun (x0 : List (List Int)) (x15 : List (List Int)) (x16 : Int) (x17 : Int) => j0 (fun (x0 : List (List Int)) (x15 : List (List Int)) (x16 : Int) (x17 : Int) => next (St2 x0 x15 x16 x17)) x0 x15 x16 x17) k x0 x15 x16 x17 x24 x25 x26 c4 :=
  (show (lp C k) cd1 (blkQ C 2 (blkQ C 1 (sq (den C k) (lp C k) Js C cd2 (lq C 12 next Q)))) (St3 x0 x15 x16 x17 x24 x25 x26 c4) = iter (rnd C k cd1 21 (blkQ C 2 (blkQ C 1 (sq (den C k) (lp C k) Js C cd2 (lq C 12 next Q))))) k (St3 x0 x15 x16 x17 x24 x25 x26 c4) by kernel_rfl).trans ((l1_eq k (blkQ C 2 (blkQ C 1 (sq (den C k) (lp C k) Js C cd2 (lq C 12 next Q)))) k x0 x15 x16 x17 x24 x25 x26 c4).trans (l1_congr k _ _ _ _ (fun x2 => (show (blkQ C 2 (blkQ C 1 (sq (den C k) (lp C k) Js C cd2 (lq C 12 next Q)))) .ret (St1 x2) = Q .ret (St1 x2) by kernel_rfl)) (fun x0 x15 x16 x17 => ((show (blkQ C 2 (blkQ C 1 (sq (den C k) (lp C k) Js C cd2 (lq C 12 next Q)))) (.exit 2) (St4 x0 x15 x16 x17) = (den C k) cd2 (lq C 12 next Q) (St5 x0 x15 x16 x17) by kernel_rfl).trans (by simp only [j0_eq]))) k x0 x15 x16 x17 x24 x25 x26 c4))
def St6 : St := stL 35 [] []
def l0s {α : Type} (k : Nat) (Nx : (List (List Int)) → (List (List Int)) → Int → Int → Option α) (Rt : Int → Option α) (Xt0 : Option α) (x0 : List (List Int)) (x15 : List (List Int)) (x16 : Int) (x17 : Int) : Option α :=
  if (decide (x17 < x16)) = true then
    if 0 ≤ x17 ∧ x17 < (x15.length : Int) then
      if 0 ≤ (0 : Int) ∧ (0 : Int) ≤ x17 ∧ x17 ≤ (x0.length : Int) then
        l1 k (fun (x2 : Int) => Rt x2) (fun (x0 : List (List Int)) (x15 : List (List Int)) (x16 : Int) (x17 : Int) => j0 Nx x0 x15 x16 x17) k x0 x15 x16 x17 (cutL x0 0 x17) ((cutL x0 0 x17).length : Int) 0 (List.getD x15 (Int.toNat x17) (List.replicate 20 0))
      else none
    else none
  else
    Xt0
theorem l0s_eq {α : Type} (k : Nat) (next : St → Option α) (Q : Ex → St → Option α) (x0 : List (List Int)) (x15 : List (List Int)) (x16 : Int) (x17 : Int) :
    rnd C k cd0 12 Q next (St2 x0 x15 x16 x17) = l0s k (fun (x0 : List (List Int)) (x15 : List (List Int)) (x16 : Int) (x17 : Int) => next (St2 x0 x15 x16 x17)) (fun (x2 : Int) => Q .ret (St1 x2)) (Q (.exit 0) St6) x0 x15 x16 x17 := by
  have h : ∀ (D L : DT α), denJ D L Js C cd0 (lq C 12 next Q) (St2 x0 x15 x16 x17) =
        if (decide (x17 < x16)) = true then
          if 0 ≤ x17 ∧ x17 < (x15.length : Int) then
            if 0 ≤ (0 : Int) ∧ (0 : Int) ≤ x17 ∧ x17 ≤ (x0.length : Int) then
              L cd1 (blkQ C 2 (blkQ C 1 (sq D L Js C cd2 (lq C 12 next Q)))) (St3 x0 x15 x16 x17 (cutL x0 0 x17) ((cutL x0 0 x17).length : Int) 0 (List.getD x15 (Int.toNat x17) (List.replicate 20 0)))
            else none
          else none
        else
          Q (.exit 0) St6 := by
    intro D L; kernel_rfl
  refine (show rnd C k cd0 12 Q next (St2 x0 x15 x16 x17) = denJ (den C k) (lp C k) Js C cd0 (lq C 12 next Q) (St2 x0 x15 x16 x17) from (denJ_den _ _ _ _ _ _).symm).trans ((h (den C k) (lp C k)).trans ?_)
  simp only [a0]
  first | rfl | kernel_rfl
def l0 {α : Type} (k : Nat) (Rt : Int → Option α) (Xt0 : Option α) : Nat → (List (List Int)) → (List (List Int)) → Int → Int → Option α
  | 0, _, _, _, _ => none
  | n + 1, x0, x15, x16, x17 => l0s k (l0 k Rt Xt0 n) Rt Xt0 x0 x15 x16 x17
theorem l0_eq {α : Type} (k : Nat) (Q : Ex → St → Option α) : ∀ (n : Nat) (x0 : List (List Int)) (x15 : List (List Int)) (x16 : Int) (x17 : Int), iter (rnd C k cd0 12 Q) n (St2 x0 x15 x16 x17) = l0 k (fun (x2 : Int) => Q .ret (St1 x2)) (Q (.exit 0) St6) n x0 x15 x16 x17
  | 0, _, _, _, _ => rfl
  | n + 1, x0, x15, x16, x17 => (iter_succ _ _ _).trans ((l0s_eq k (iter (rnd C k cd0 12 Q) n) Q x0 x15 x16 x17).trans (congrArg (fun N => l0s k N (fun (x2 : Int) => Q .ret (St1 x2)) (Q (.exit 0) St6) x0 x15 x16 x17) (funext fun x0 => funext fun x15 => funext fun x16 => funext fun x17 => l0_eq k Q n x0 x15 x16 x17)))
theorem l0_congr {α : Type} (k : Nat) (Rt : Int → Option α) (Xt0 : Option α) (Rtq : Int → Option α) (Xt0q : Option α) (hRt : ∀ (x2 : Int), Rt x2 = Rtq x2) (hXt0 : Xt0 = Xt0q) (n : Nat) (x0 : List (List Int)) (x15 : List (List Int)) (x16 : Int) (x17 : Int) : l0 k Rt Xt0 n x0 x15 x16 x17 = l0 k Rtq Xt0q n x0 x15 x16 x17 := by
  obtain rfl : Rt = Rtq := by funext x2; exact hRt x2
  obtain rfl : Xt0 = Xt0q := hXt0
  rfl
noncomputable def cd3 : Code := cR (cR (cR (cB Try.f56)))
def St7 : St := stL 35 [] []
def j1 {α : Type} (Rt : Int → Option α) : Option α :=
  Rt 0
theorem j1_eq {α : Type} (k : Nat) (Q : Ex → St → Option α) :
    (den C k) cd3 Q St7 = j1 (fun (x2 : Int) => Q .ret (St1 x2)) := by
  have h : ∀ (D L : DT α), denJ D L Js C cd3 Q St7 =
        Q .ret (St1 0) := by
    intro D L; kernel_rfl
  refine (show (den C k) cd3 Q St7 = denJ (den C k) (lp C k) Js C cd3 Q St7 from (denJ_den _ _ _ _ _ _).symm).trans ((h (den C k) (lp C k)).trans ?_)
  first | rfl | kernel_rfl
theorem a1 {α : Type} (k : Nat) (Q : Ex → St → Option α) (x0 : List (List Int)) (x15 : List (List Int)) (x16 : Int) (x17 : Int) :
    (lp C k) cd0 (blkQ C 0 (sq (den C k) (lp C k) Js C cd3 Q)) (St2 x0 x15 x16 x17) = l0 k (fun (x2 : Int) => (fun (x2 : Int) => Q .ret (St1 x2)) x2) (j1 (fun (x2 : Int) => Q .ret (St1 x2))) k x0 x15 x16 x17 :=
  (show (lp C k) cd0 (blkQ C 0 (sq (den C k) (lp C k) Js C cd3 Q)) (St2 x0 x15 x16 x17) = iter (rnd C k cd0 12 (blkQ C 0 (sq (den C k) (lp C k) Js C cd3 Q))) k (St2 x0 x15 x16 x17) by kernel_rfl).trans ((l0_eq k (blkQ C 0 (sq (den C k) (lp C k) Js C cd3 Q)) k x0 x15 x16 x17).trans (l0_congr k _ _ _ _ (fun x2 => (show (blkQ C 0 (sq (den C k) (lp C k) Js C cd3 Q)) .ret (St1 x2) = Q .ret (St1 x2) by kernel_rfl)) ((show (blkQ C 0 (sq (den C k) (lp C k) Js C cd3 Q)) (.exit 0) St6 = (den C k) cd3 Q St7 by kernel_rfl).trans (by simp only [j1_eq])) k x0 x15 x16 x17))
def top {α : Type} (k : Nat) (Rt : Int → Option α) (x0 : List (List Int)) : Option α :=
  if (cond (decide ((x0.length : Int) < 1)) true (decide ((x0.length : Int) > 19))) = true then
    Rt 1
  else
    l0 k (fun (x2 : Int) => Rt x2) (j1 Rt) k x0 x0 (x0.length : Int) 0
theorem top_eq {α : Type} (k : Nat) (Q : Ex → St → Option α) (x0 : List (List Int)) :
    (den C k) (cB Try.f56) Q (St0 x0) = top k (fun (x2 : Int) => Q .ret (St1 x2)) x0 := by
  have h : ∀ (D L : DT α), denJ D L Js C (cB Try.f56) Q (St0 x0) =
        if (cond (decide ((x0.length : Int) < 1)) true (decide ((x0.length : Int) > 19))) = true then
          Q .ret (St1 1)
        else
          L cd0 (blkQ C 0 (sq D L Js C cd3 Q)) (St2 x0 x0 (x0.length : Int) 0) := by
    intro D L; kernel_rfl
  refine (show (den C k) (cB Try.f56) Q (St0 x0) = denJ (den C k) (lp C k) Js C (cB Try.f56) Q (St0 x0) from (denJ_den _ _ _ _ _ _).symm).trans ((h (den C k) (lp C k)).trans ?_)
  simp only [a1]
  first | rfl | kernel_rfl
def run (x0 : List (List Int)) : Option (Int) := top (α := Int) fuel (fun (x2 : Int) => some x2) x0
def F : Fn := ⟨(.pair (.sl (.arr 20 (.int .u8))) .unit), (.int .i64), false, fun x => run x.1⟩
set_option maxRecDepth 100000 in
theorem con : Con Try.prog 56 F := by
  refine con_of_den (C := C) (ctx_ok (by kernel_rfl) (by kernel_rfl) (by kernel_rfl) (by kernel_rfl) trivial) (by kernel_rfl) Try.func56 (c := cB Try.f56) (by kernel_rfl) (by kernel_rfl) F fuel (fun x => by simp [F, spread, Try.ntmps56]) ?_
  intro x r h
  rw [← h]
  have h1 : start F Try.f56.ntmps x = (St0 x.1) := by kernel_rfl
  rw [h1]
  refine (top_eq fuel (fin C Try.f56.results.toList F.rs F.multi) x.1).trans ?_
  kernel_rfl
theorem named : Named Try.prog 56 := named_of Try.func56 (by kernel_rfl) (by kernel_rfl)
end Go.Bx.sets_keys
namespace Go.Bx.basculeref_keysFault
open Go Go.Proofs Go.Bx
set_option maxRecDepth 100000
set_option linter.unusedVariables false
def Js : List Nat := [10]
def C : Ctx := ⟨[(3, (.int .i64)), (23, (.int .i64)), (26, (.sl (.arr 20 (.int .u8)))), (168, (.arr 20 (.int .u8)))], [], [(169, (168, 3))], fnL [], noSh, [], invL [], [(2, [2]), (1, [0, 3]), (4, [0, 3, 15, 16, 17]), (15, [0, 3, 15, 16, 17]), (27, [0, 3])], [], [], 0, 0⟩
def St0 (x0 : List (List Int)) : St := stL 33 [(0, .data (.sl (.arr 20 (.int .u8))) x0)] []
def St1 (x2 : Int) : St := stL 33 [(2, .data (.int .i64) x2)] []
def St2 (x0 : List (List Int)) (x15 : List (List Int)) (x16 : Int) (x17 : Int) (c14 : List (List Int × Int)) : St := stL 33 [(0, .data (.sl (.arr 20 (.int .u8))) x0), (3, .map 14), (15, .data (.sl (.arr 20 (.int .u8))) x15), (16, .data (.int .i64) x16), (17, .data (.int .i64) x17)] [(14, .map (.arr 20 (.int .u8)) (.int .i64) c14)]
noncomputable def cd0 : Code := cL (cL (cR (cL (cR (cR (cR (cB Try.f57)))))))
def St3 (x0 : List (List Int)) (c14 : List (List Int × Int)) : St := stL 33 [(0, .data (.sl (.arr 20 (.int .u8))) x0), (3, .map 14)] [(14, .map (.arr 20 (.int .u8)) (.int .i64) c14)]
def l0s {α : Type} (Nx : (List (List Int)) → (List (List Int)) → Int → Int → (List (List Int × Int)) → Option α) (Xt0 : (List (List Int)) → (List (List Int × Int)) → Option α) (x0 : List (List Int)) (x15 : List (List Int)) (x16 : Int) (x17 : Int) (c14 : List (List Int × Int)) : Option α :=
  if (decide (x17 < x16)) = true then
    if 0 ≤ x17 ∧ x17 < (x15.length : Int) then
      if Nat.blt c14.length 9223372036854775807 = true then
        if 0 ≤ (((idxM (beqD (.arr 20 (.int .u8))) (List.getD x15 (Int.toNat x17) (List.replicate 20 0)) c14) : Nat) : Int) ∧ (((idxM (beqD (.arr 20 (.int .u8))) (List.getD x15 (Int.toNat x17) (List.replicate 20 0)) c14) : Nat) : Int) < ((entM (beqD (.arr 20 (.int .u8))) (List.getD x15 (Int.toNat x17) (List.replicate 20 0)) 0 c14).length : Int) then
          Nx x0 x15 x16 (IntKind.i64.wrap (x17 + 1)) (putM (entM (beqD (.arr 20 (.int .u8))) (List.getD x15 (Int.toNat x17) (List.replicate 20 0)) 0 c14) (Int.toNat (((idxM (beqD (.arr 20 (.int .u8))) (List.getD x15 (Int.toNat x17) (List.replicate 20 0)) c14) : Nat) : Int)) (IntKind.i64.wrap ((getM (beqD (.arr 20 (.int .u8))) (List.getD x15 (Int.toNat x17) (List.replicate 20 0)) 0 c14) + 1)))
        else none
      else none
    else none
  else
    Xt0 x0 c14
theorem l0s_eq {α : Type} (k : Nat) (next : St → Option α) (Q : Ex → St → Option α) (x0 : List (List Int)) (x15 : List (List Int)) (x16 : Int) (x17 : Int) (c14 : List (List Int × Int)) :
    rnd C k cd0 15 Q next (St2 x0 x15 x16 x17 c14) = l0s (fun (x0 : List (List Int)) (x15 : List (List Int)) (x16 : Int) (x17 : Int) (c14 : List (List Int × Int)) => next (St2 x0 x15 x16 x17 c14)) (fun (x0 : List (List Int)) (c14 : List (List Int × Int)) => Q (.exit 0) (St3 x0 c14)) x0 x15 x16 x17 c14 := by
  have h : ∀ (D L : DT α), denJ D L Js C cd0 (lq C 15 next Q) (St2 x0 x15 x16 x17 c14) =
        if (decide (x17 < x16)) = true then
          if 0 ≤ x17 ∧ x17 < (x15.length : Int) then
            if Nat.blt c14.length 9223372036854775807 = true then
              if 0 ≤ (((idxM (beqD (.arr 20 (.int .u8))) (List.getD x15 (Int.toNat x17) (List.replicate 20 0)) c14) : Nat) : Int) ∧ (((idxM (beqD (.arr 20 (.int .u8))) (List.getD x15 (Int.toNat x17) (List.replicate 20 0)) c14) : Nat) : Int) < ((entM (beqD (.arr 20 (.int .u8))) (List.getD x15 (Int.toNat x17) (List.replicate 20 0)) 0 c14).length : Int) then
                next (St2 x0 x15 x16 (IntKind.i64.wrap (x17 + 1)) (putM (entM (beqD (.arr 20 (.int .u8))) (List.getD x15 (Int.toNat x17) (List.replicate 20 0)) 0 c14) (Int.toNat (((idxM (beqD (.arr 20 (.int .u8))) (List.getD x15 (Int.toNat x17) (List.replicate 20 0)) c14) : Nat) : Int)) (IntKind.i64.wrap ((getM (beqD (.arr 20 (.int .u8))) (List.getD x15 (Int.toNat x17) (List.replicate 20 0)) 0 c14) + 1))))
              else none
            else none
          else none
        else
          Q (.exit 0) (St3 x0 c14) := by
    intro D L; kernel_rfl
  refine (show rnd C k cd0 15 Q next (St2 x0 x15 x16 x17 c14) = denJ (den C k) (lp C k) Js C cd0 (lq C 15 next Q) (St2 x0 x15 x16 x17 c14) from (denJ_den _ _ _ _ _ _).symm).trans ((h (den C k) (lp C k)).trans ?_)
  first | rfl | kernel_rfl
def l0 {α : Type} (k : Nat) (Xt0 : (List (List Int)) → (List (List Int × Int)) → Option α) : Nat → (List (List Int)) → (List (List Int)) → Int → Int → (List (List Int × Int)) → Option α
  | 0, _, _, _, _, _ => none
  | n + 1, x0, x15, x16, x17, c14 => l0s (l0 k Xt0 n) Xt0 x0 x15 x16 x17 c14
theorem l0_eq {α : Type} (k : Nat) (Q : Ex → St → Option α) : ∀ (n : Nat) (x0 : List (List Int)) (x15 : List (List Int)) (x16 : Int) (x17 : Int) (c14 : List (List Int × Int)), iter (rnd C k cd0 15 Q) n (St2 x0 x15 x16 x17 c14) = l0 k (fun (x0 : List (List Int)) (c14 : List (List Int × Int)) => Q (.exit 0) (St3 x0 c14)) n x0 x15 x16 x17 c14
  | 0, _, _, _, _, _ => rfl
  | n + 1, x0, x15, x16, x17, c14 => (iter_succ _ _ _).trans ((l0s_eq k (iter (rnd C k cd0 15 Q) n) Q x0 x15 x16 x17 c14).trans (congrArg (fun N => l0s N (fun (x0 : List (List Int)) (c14 : List (List Int × Int)) => Q (.exit 0) (St3 x0 c14)) x0 x15 x16 x17 c14) (funext fun x0 => funext fun x15 => funext fun x16 => funext fun x17 => funext fun c14 => l0_eq k Q n x0 x15 x16 x17 c14)))
theorem l0_congr {α : Type} (k : Nat) (Xt0 : (List (List Int)) → (List (List Int × Int)) → Option α) (Xt0q : (List (List Int)) → (List (List Int × Int)) → Option α) (hXt0 : ∀ (x0 : List (List Int)) (c14 : List (List Int × Int)), Xt0 x0 c14 = Xt0q x0 c14) (n : Nat) (x0 : List (List Int)) (x15 : List (List Int)) (x16 : Int) (x17 : Int) (c14 : List (List Int × Int)) : l0 k Xt0 n x0 x15 x16 x17 c14 = l0 k Xt0q n x0 x15 x16 x17 c14 := by
  obtain rfl : Xt0 = Xt0q := by funext x0; funext c14; exact hXt0 x0 c14
  rfl
noncomputable def cd1 : Code := cR (cR (cR (cR (cB Try.f57))))
def St4 (x0 : List (List Int)) (c14 : List (List Int × Int)) : St := stL 33 [(0, .data (.sl (.arr 20 (.int .u8))) x0), (3, .map 14)] [(14, .map (.arr 20 (.int .u8)) (.int .i64) c14)]
def j0 {α : Type} (Rt : Int → Option α) (x0 : List (List Int)) (c14 : List (List Int × Int)) : Option α :=
  if Nat.ble c14.length 9223372036854775807 = true then
    if (decide ((c14.length : Int) < (x0.length : Int))) = true then
      Rt 8
    else
      Rt 0
  else none
theorem j0_eq {α : Type} (k : Nat) (Q : Ex → St → Option α) (x0 : List (List Int)) (c14 : List (List Int × Int)) :
    (den C k) cd1 Q (St4 x0 c14) = j0 (fun (x2 : Int) => Q .ret (St1 x2)) x0 c14 := by
  have h : ∀ (D L : DT α), denJ D L Js C cd1 Q (St4 x0 c14) =
        if Nat.ble c14.length 9223372036854775807 = true then
          if (decide ((c14.length : Int) < (x0.length : Int))) = true then
            Q .ret (St1 8)
          else
            Q .ret (St1 0)
        else none := by
    intro D L; kernel_rfl
  refine (show (den C k) cd1 Q (St4 x0 c14) = denJ (den C k) (lp C k) Js C cd1 Q (St4 x0 c14) from (denJ_den _ _ _ _ _ _).symm).trans ((h (den C k) (lp C k)).trans ?_)
  first | rfl | kernel_rfl
theorem a0 {α : Type} (k : Nat) (Q : Ex → St → Option α) (x0 : List (List Int)) (x15 : List (List Int)) (x16 : Int) (x17 : Int) (c14 : List (List Int × Int)) :
    (lp C k) cd0 (blkQ C 0 (sq (den C k) (lp C k) Js C cd1 Q)) (St2 x0 x15 x16 x17 c14) = l0 k (fun (x0 : List (List Int)) (c14 : List (List Int × Int)) => j0 (fun (x2 : Int) => Q .ret (St1 x2)) x0 c14) k x0 x15 x16 x17 c14 :=
  (show (lp C k) cd0 (blkQ C 0 (sq (den C k) (lp C k) Js C cd1 Q)) (St2 x0 x15 x16 x17 c14) = iter (rnd C k cd0 15 (blkQ C 0 (sq (den C k) (lp C k) Js C cd1 Q))) k (St2 x0 x15 x16 x17 c14) by kernel_rfl).trans ((l0_eq k (blkQ C 0 (sq (den C k) (lp C k) Js C cd1 Q)) k x0 x15 x16 x17 c14).trans (l0_congr k _ _ (fun x0 c14 => ((show (blkQ C 0 (sq (den C k) (lp C k) Js C cd1 Q)) (.exit 0) (St3 x0 c14) = (den C k) cd1 Q (St4 x0 c14) by kernel_rfl).trans (by simp only [j0_eq]))) k x0 x15 x16 x17 c14))
def top {α : Type} (k : Nat) (Rt : Int → Option α) (x0 : List (List Int)) : Option α :=
  if (cond ((x0.length : Int) == 0) true (decide ((x0.length : Int) > 19))) = true then
    Rt 1
  else
    l0 k (fun (x0 : List (List Int)) (c14 : List (List Int × Int)) => j0 Rt x0 c14) k x0 x0 (x0.length : Int) 0 []
theorem top_eq {α : Type} (k : Nat) (Q : Ex → St → Option α) (x0 : List (List Int)) :
    (den C k) (cB Try.f57) Q (St0 x0) = top k (fun (x2 : Int) => Q .ret (St1 x2)) x0 := by
  have h : ∀ (D L : DT α), denJ D L Js C (cB Try.f57) Q (St0 x0) =
        if (cond ((x0.length : Int) == 0) true (decide ((x0.length : Int) > 19))) = true then
          Q .ret (St1 1)
        else
          L cd0 (blkQ C 0 (sq D L Js C cd1 Q)) (St2 x0 x0 (x0.length : Int) 0 []) := by
    intro D L; kernel_rfl
  refine (show (den C k) (cB Try.f57) Q (St0 x0) = denJ (den C k) (lp C k) Js C (cB Try.f57) Q (St0 x0) from (denJ_den _ _ _ _ _ _).symm).trans ((h (den C k) (lp C k)).trans ?_)
  simp only [a0]
  first | rfl | kernel_rfl
def run (x0 : List (List Int)) : Option (Int) := top (α := Int) fuel (fun (x2 : Int) => some x2) x0
def F : Fn := ⟨(.pair (.sl (.arr 20 (.int .u8))) .unit), (.int .i64), false, fun x => run x.1⟩
set_option maxRecDepth 100000 in
theorem con : Con Try.prog 57 F := by
  refine con_of_den (C := C) (ctx_ok (by kernel_rfl) (by kernel_rfl) (by kernel_rfl) (by kernel_rfl) trivial) (by kernel_rfl) Try.func57 (c := cB Try.f57) (by kernel_rfl) (by kernel_rfl) F fuel (fun x => by simp [F, spread, Try.ntmps57]) ?_
  intro x r h
  rw [← h]
  have h1 : start F Try.f57.ntmps x = (St0 x.1) := by kernel_rfl
  rw [h1]
  refine (top_eq fuel (fin C Try.f57.results.toList F.rs F.multi) x.1).trans ?_
  kernel_rfl
theorem named : Named Try.prog 57 := named_of Try.func57 (by kernel_rfl) (by kernel_rfl)
end Go.Bx.basculeref_keysFault
namespace Go.Bx.basculeref_of
open Go Go.Proofs Go.Bx
set_option maxRecDepth 100000
set_option linter.unusedVariables false
def Js : List Nat := [8]
def C : Ctx := ⟨[(56, (.arr 4 (.int .u64))), (114, (.sl (.int .u64)))], [], [], fnL [], noSh, [], invL [], [(2, [2]), (1, [3]), (4, [3, 6, 7]), (9, [3, 6, 7]), (21, [3])], [(9, [.melt true 3 [] 16 true])], [], 0, 0⟩
def St0 (x0 : List Int) : St := stL 19 [(0, .data (.arr 4 (.int .u64)) x0)] []
def St1 (x6 : List Int) (x7 : Int) (c16 : List Int) : St := stL 19 [(3, .app 16 0), (6, .data (.arr 4 (.int .u64)) x6), (7, .data (.int .i64) x7)] [(16, .buf (.int .u64) c16 0 true)]
noncomputable def cd0 : Code := cL (cL (cR (cL (cR (cR (cB Try.f68))))))
def St2 (c16 : List Int) : St := stL 19 [(3, .app 16 0)] [(16, .buf (.int .u64) c16 0 true)]
def l0s {α : Type} (Nx : (List Int) → Int → (List Int) → Option α) (Xt0 : (List Int) → Option α) (x6 : List Int) (x7 : Int) (c16 : List Int) : Option α :=
  if (decide (x7 < 4)) = true then
    if 0 ≤ x7 ∧ x7 < (4 : Int) then
      if fitB (c16.length + 2) 8 = true then
        Nx x6 (IntKind.i64.wrap (x7 + 1)) (c16 ++ [(Int.tmod (List.getD x6 (Int.toNat x7) 0) 4294967296), (IntKind.u64.wrap (Int.tdiv (List.getD x6 (Int.toNat x7) 0) 4294967296))])
      else none
    else none
  else
    Xt0 c16
theorem l0s_eq {α : Type} (k : Nat) (next : St → Option α) (Q : Ex → St → Option α) (x6 : List Int) (x7 : Int) (c16 : List Int) :
    rnd C k cd0 9 Q next (St1 x6 x7 c16) = l0s (fun (x6 : List Int) (x7 : Int) (c16 : List Int) => next (St1 x6 x7 c16)) (fun (c16 : List Int) => Q (.exit 0) (St2 c16)) x6 x7 c16 := by
  have h : ∀ (D L : DT α), denJ D L Js C cd0 (lq C 9 next Q) (St1 x6 x7 c16) =
        if (decide (x7 < 4)) = true then
          if 0 ≤ x7 ∧ x7 < (4 : Int) then
            if fitB (c16.length + 2) 8 = true then
              next (St1 x6 (IntKind.i64.wrap (x7 + 1)) (c16 ++ [(Int.tmod (List.getD x6 (Int.toNat x7) 0) 4294967296), (IntKind.u64.wrap (Int.tdiv (List.getD x6 (Int.toNat x7) 0) 4294967296))]))
            else none
          else none
        else
          Q (.exit 0) (St2 c16) := by
    intro D L; kernel_rfl
  refine (show rnd C k cd0 9 Q next (St1 x6 x7 c16) = denJ (den C k) (lp C k) Js C cd0 (lq C 9 next Q) (St1 x6 x7 c16) from (denJ_den _ _ _ _ _ _).symm).trans ((h (den C k) (lp C k)).trans ?_)
  first | rfl | kernel_rfl
def l0 {α : Type} (k : Nat) (Xt0 : (List Int) → Option α) : Nat → (List Int) → Int → (List Int) → Option α
  | 0, _, _, _ => none
  | n + 1, x6, x7, c16 => l0s (l0 k Xt0 n) Xt0 x6 x7 c16
theorem l0_eq {α : Type} (k : Nat) (Q : Ex → St → Option α) : ∀ (n : Nat) (x6 : List Int) (x7 : Int) (c16 : List Int), iter (rnd C k cd0 9 Q) n (St1 x6 x7 c16) = l0 k (fun (c16 : List Int) => Q (.exit 0) (St2 c16)) n x6 x7 c16
  | 0, _, _, _ => rfl
  | n + 1, x6, x7, c16 => (iter_succ _ _ _).trans ((l0s_eq k (iter (rnd C k cd0 9 Q) n) Q x6 x7 c16).trans (congrArg (fun N => l0s N (fun (c16 : List Int) => Q (.exit 0) (St2 c16)) x6 x7 c16) (funext fun x6 => funext fun x7 => funext fun c16 => l0_eq k Q n x6 x7 c16)))
theorem l0_congr {α : Type} (k : Nat) (Xt0 : (List Int) → Option α) (Xt0q : (List Int) → Option α) (hXt0 : ∀ (c16 : List Int), Xt0 c16 = Xt0q c16) (n : Nat) (x6 : List Int) (x7 : Int) (c16 : List Int) : l0 k Xt0 n x6 x7 c16 = l0 k Xt0q n x6 x7 c16 := by
  obtain rfl : Xt0 = Xt0q := by funext c16; exact hXt0 c16
  rfl
noncomputable def cd1 : Code := cR (cR (cR (cB Try.f68)))
def St3 (c16 : List Int) : St := stL 19 [(3, .app 16 0)] [(16, .buf (.int .u64) c16 0 true)]
def St4 (c16 : List Int) : St := stL 19 [(2, .app 16 0)] [(16, .buf (.int .u64) c16 0 true)]
def j0 {α : Type} (Rt : (List Int) → Option α) (c16 : List Int) : Option α :=
  Rt c16
theorem j0_eq {α : Type} (k : Nat) (Q : Ex → St → Option α) (c16 : List Int) :
    (den C k) cd1 Q (St3 c16) = j0 (fun (c16 : List Int) => Q .ret (St4 c16)) c16 := by
  have h : ∀ (D L : DT α), denJ D L Js C cd1 Q (St3 c16) =
        Q .ret (St4 c16) := by
    intro D L; kernel_rfl
  refine (show (den C k) cd1 Q (St3 c16) = denJ (den C k) (lp C k) Js C cd1 Q (St3 c16) from (denJ_den _ _ _ _ _ _).symm).trans ((h (den C k) (lp C k)).trans ?_)
  first | rfl | kernel_rfl
theorem a0 {α : Type} (k : Nat) (Q : Ex → St → Option α) (x6 : List Int) (x7 : Int) (c16 : List Int) :
    (lp C k) cd0 (blkQ C 0 (sq (den C k) (lp C k) Js C cd1 Q)) (St1 x6 x7 c16) = l0 k (fun (c16 : List Int) => j0 (fun (c16 : List Int) => Q .ret (St4 c16)) c16) k x6 x7 c16 :=
  (show (lp C k) cd0 (blkQ C 0 (sq (den C k) (lp C k) Js C cd1 Q)) (St1 x6 x7 c16) = iter (rnd C k cd0 9 (blkQ C 0 (sq (den C k) (lp C k) Js C cd1 Q))) k (St1 x6 x7 c16) by kernel_rfl).trans ((l0_eq k (blkQ C 0 (sq (den C k) (lp C k) Js C cd1 Q)) k x6 x7 c16).trans (l0_congr k _ _ (fun c16 => ((show (blkQ C 0 (sq (den C k) (lp C k) Js C cd1 Q)) (.exit 0) (St2 c16) = (den C k) cd1 Q (St3 c16) by kernel_rfl).trans (by simp only [j0_eq]))) k x6 x7 c16))
def top {α : Type} (k : Nat) (Rt : (List Int) → Option α) (x0 : List Int) : Option α :=
  l0 k (fun (c16 : List Int) => j0 Rt c16) k x0 0 []
theorem top_eq {α : Type} (k : Nat) (Q : Ex → St → Option α) (x0 : List Int) :
    (den C k) (cB Try.f68) Q (St0 x0) = top k (fun (c16 : List Int) => Q .ret (St4 c16)) x0 := by
  have h : ∀ (D L : DT α), denJ D L Js C (cB Try.f68) Q (St0 x0) =
        L cd0 (blkQ C 0 (sq D L Js C cd1 Q)) (St1 x0 0 []) := by
    intro D L; kernel_rfl
  refine (show (den C k) (cB Try.f68) Q (St0 x0) = denJ (den C k) (lp C k) Js C (cB Try.f68) Q (St0 x0) from (denJ_den _ _ _ _ _ _).symm).trans ((h (den C k) (lp C k)).trans ?_)
  simp only [a0]
  first | rfl | kernel_rfl
def run (x0 : List Int) : Option (List Int) := top (α := List Int) fuel (fun (c16 : List Int) => some c16) x0
def F : Fn := ⟨(.pair (.arr 4 (.int .u64)) .unit), (.sl (.int .u64)), false, fun x => run x.1⟩
set_option maxRecDepth 100000 in
theorem con : Con Try.prog 68 F := by
  refine con_of_den (C := C) (ctx_ok (by kernel_rfl) (by kernel_rfl) (by kernel_rfl) (by kernel_rfl) trivial) (by kernel_rfl) Try.func68 (c := cB Try.f68) (by kernel_rfl) (by kernel_rfl) F fuel (fun x => by simp [F, spread, Try.ntmps68]) ?_
  intro x r h
  rw [← h]
  have h1 : start F Try.f68.ntmps x = (St0 x.1) := by kernel_rfl
  rw [h1]
  refine (top_eq fuel (fin C Try.f68.results.toList F.rs F.multi) x.1).trans ?_
  kernel_rfl
theorem named : Named Try.prog 68 := named_of Try.func68 (by kernel_rfl) (by kernel_rfl)
end Go.Bx.basculeref_of
namespace Go.Bx.basculeref_plus
open Go Go.Proofs Go.Bx
set_option maxRecDepth 100000
set_option linter.unusedVariables false
def Js : List Nat := [10, 12, 13]
def C : Ctx := ⟨[(54, (.int .u64)), (114, (.sl (.int .u64)))], [], [], fnL [], noSh, [], invL [], [(2, [4]), (1, [5, 6]), (4, [0, 1, 5, 6, 7]), (12, [0, 1, 5, 6, 7]), (27, [0, 1, 5, 7, 8]), (33, [0, 1, 5, 7, 8]), (36, [5, 6])], [(12, [.melt true 5 [] 46 true])], [], 0, 0⟩
def St0 (x0 : List Int) (x1 : List Int) : St := stL 53 [(0, .data (.sl (.int .u64)) x0), (1, .data (.sl (.int .u64)) x1)] []
def St1 (x0 : List Int) (x1 : List Int) (x6 : Int) (x7 : Int) (c46 : List Int) : St := stL 53 [(0, .data (.sl (.int .u64)) x0), (1, .data (.sl (.int .u64)) x1), (5, .app 46 0), (6, .data (.int .u64) x6), (7, .data (.int .i64) x7)] [(46, .buf (.int .u64) c46 0 true)]
noncomputable def cd0 : Code := cL (cL (cR (cL (cR (cR (cR (cB Try.f118)))))))
def St2 (x0 : List Int) (x1 : List Int) (x7 : Int) (x8 : Int) (c46 : List Int) : St := stL 53 [(0, .data (.sl (.int .u64)) x0), (1, .data (.sl (.int .u64)) x1), (5, .app 46 0), (7, .data (.int .i64) x7), (8, .data (.int .u64) x8)] [(46, .buf (.int .u64) c46 0 true)]
noncomputable def cd1 : Code := cR (cR (cL (cL (cR (cL (cR (cR (cR (cB Try.f118)))))))))
noncomputable def cd2 : Code := cR (cR (cL (cL (cR (cL (cL (cR (cL (cR (cR (cR (cB Try.f118))))))))))))
def St3 (x0 : List Int) (x1 : List Int) (x7 : Int) (x8 : Int) (c46 : List Int) : St := stL 53 [(0, .data (.sl (.int .u64)) x0), (1, .data (.sl (.int .u64)) x1), (5, .app 46 0), (7, .data (.int .i64) x7), (8, .data (.int .u64) x8)] [(46, .buf (.int .u64) c46 0 true)]
noncomputable def cd3 : Code := cR (cR (cR (cL (cL (cR (cL (cL (cR (cL (cR (cR (cR (cB Try.f118)))))))))))))
def j1 {α : Type} (Nx : (List Int) → (List Int) → Int → Int → (List Int) → Option α) (x0 : List Int) (x1 : List Int) (x7 : Int) (x8 : Int) (c46 : List Int) : Option α :=
  if fitB (c46.length + 1) 8 = true then
    Nx x0 x1 (IntKind.u64.wrap (Int.tdiv x8 4294967296)) (IntKind.i64.wrap (x7 + 1)) (c46 ++ [(Int.tmod x8 4294967296)])
  else none
theorem j1_eq {α : Type} (k : Nat) (next : St → Option α) (Q : Ex → St → Option α) (x0 : List Int) (x1 : List Int) (x7 : Int) (x8 : Int) (c46 : List Int) :
    (den C k) cd3 (blkQ C 1 (sq (den C k) (lp C k) Js C cd1 (lq C 12 next Q))) (St3 x0 x1 x7 x8 c46) = j1 (fun (x0 : List Int) (x1 : List Int) (x6 : Int) (x7 : Int) (c46 : List Int) => next (St1 x0 x1 x6 x7 c46)) x0 x1 x7 x8 c46 := by
  have h : ∀ (D L : DT α), denJ D L Js C cd3 (blkQ C 1 (sq D L Js C cd1 (lq C 12 next Q))) (St3 x0 x1 x7 x8 c46) =
        if fitB (c46.length + 1) 8 = true then
          next (St1 x0 x1 (IntKind.u64.wrap (Int.tdiv x8 4294967296)) (IntKind.i64.wrap (x7 + 1)) (c46 ++ [(Int.tmod x8 4294967296)]))
        else none := by
    intro D L; kernel_rfl
  refine (show (den C k) cd3 (blkQ C 1 (sq (den C k) (lp C k) Js C cd1 (lq C 12 next Q))) (St3 x0 x1 x7 x8 c46) = denJ (den C k) (lp C k) Js C cd3 (blkQ C 1 (sq (den C k) (lp C k) Js C cd1 (lq C 12 next Q))) (St3 x0 x1 x7 x8 c46) from (denJ_den _ _ _ _ _ _).symm).trans ((h (den C k) (lp C k)).trans ?_)
  first | rfl | kernel_rfl
def j0 {α : Type} (Nx : (List Int) → (List Int) → Int → Int → (List Int) → Option α) (x0 : List Int) (x1 : List Int) (x7 : Int) (x8 : Int) (c46 : List Int) : Option α :=
  if (decide (x7 < (x1.length : Int))) = true then
    if 0 ≤ x7 ∧ x7 < (x1.length : Int) then
      j1 Nx x0 x1 x7 (IntKind.u64.wrap (x8 + (List.getD x1 (Int.toNat x7) 0))) c46
    else none
  else
    j1 Nx x0 x1 x7 x8 c46
theorem j0_eq {α : Type} (k : Nat) (next : St → Option α) (Q : Ex → St → Option α) (x0 : List Int) (x1 : List Int) (x7 : Int) (x8 : Int) (c46 : List Int) :
    (den C k) cd2 (blkQ C 1 (sq (den C k) (lp C k) Js C cd1 (lq C 12 next Q))) (St2 x0 x1 x7 x8 c46) = j0 (fun (x0 : List Int) (x1 : List Int) (x6 : Int) (x7 : Int) (c46 : List Int) => next (St1 x0 x1 x6 x7 c46)) x0 x1 x7 x8 c46 := by
  have h : ∀ (D L : DT α), denJ D L Js C cd2 (blkQ C 1 (sq D L Js C cd1 (lq C 12 next Q))) (St2 x0 x1 x7 x8 c46) =
        if (decide (x7 < (x1.length : Int))) = true then
          if 0 ≤ x7 ∧ x7 < (x1.length : Int) then
            D cd3 (blkQ C 1 (sq D L Js C cd1 (lq C 12 next Q))) (St3 x0 x1 x7 (IntKind.u64.wrap (x8 + (List.getD x1 (Int.toNat x7) 0))) c46)
          else none
        else
          D cd3 (blkQ C 1 (sq D L Js C cd1 (lq C 12 next Q))) (St3 x0 x1 x7 x8 c46) := by
    intro D L; kernel_rfl
  refine (show (den C k) cd2 (blkQ C 1 (sq (den C k) (lp C k) Js C cd1 (lq C 12 next Q))) (St2 x0 x1 x7 x8 c46) = denJ (den C k) (lp C k) Js C cd2 (blkQ C 1 (sq (den C k) (lp C k) Js C cd1 (lq C 12 next Q))) (St2 x0 x1 x7 x8 c46) from (denJ_den _ _ _ _ _ _).symm).trans ((h (den C k) (lp C k)).trans ?_)
  simp only [j1_eq]
  first | rfl | kernel_rfl
def St4 (x6 : Int) (c46 : List Int) : St := stL 53 [(5, .app 46 0), (6, .data (.int .u64) x6)] [(46, .buf (.int .u64) c46 0 true)]
def l0s {α : Type} (Nx : (List Int) → (List Int) → Int → Int → (List Int) → Option α) (Xt0 : Int → (List Int) → Option α) (x0 : List Int) (x1 : List Int) (x6 : Int) (x7 : Int) (c46 : List Int) : Option α :=
  if (cond (decide (x7 < (x0.length : Int))) true (decide (x7 < (x1.length : Int)))) = true then
    if (decide (x7 < (x0.length : Int))) = true then
      if 0 ≤ x7 ∧ x7 < (x0.length : Int) then
        j0 Nx x0 x1 x7 (IntKind.u64.wrap (x6 + (List.getD x0 (Int.toNat x7) 0))) c46
      else none
    else
      j0 Nx x0 x1 x7 x6 c46
  else
    Xt0 x6 c46
theorem l0s_eq {α : Type} (k : Nat) (next : St → Option α) (Q : Ex → St → Option α) (x0 : List Int) (x1 : List Int) (x6 : Int) (x7 : Int) (c46 : List Int) :
    rnd C k cd0 12 Q next (St1 x0 x1 x6 x7 c46) = l0s (fun (x0 : List Int) (x1 : List Int) (x6 : Int) (x7 : Int) (c46 : List Int) => next (St1 x0 x1 x6 x7 c46)) (fun (x6 : Int) (c46 : List Int) => Q (.exit 0) (St4 x6 c46)) x0 x1 x6 x7 c46 := by
  have h : ∀ (D L : DT α), denJ D L Js C cd0 (lq C 12 next Q) (St1 x0 x1 x6 x7 c46) =
        if (cond (decide (x7 < (x0.length : Int))) true (decide (x7 < (x1.length : Int)))) = true then
          if (decide (x7 < (x0.length : Int))) = true then
            if 0 ≤ x7 ∧ x7 < (x0.length : Int) then
              D cd2 (blkQ C 1 (sq D L Js C cd1 (lq C 12 next Q))) (St2 x0 x1 x7 (IntKind.u64.wrap (x6 + (List.getD x0 (Int.toNat x7) 0))) c46)
            else none
          else
            D cd2 (blkQ C 1 (sq D L Js C cd1 (lq C 12 next Q))) (St2 x0 x1 x7 x6 c46)
        else
          Q (.exit 0) (St4 x6 c46) := by
    intro D L; kernel_rfl
  refine (show rnd C k cd0 12 Q next (St1 x0 x1 x6 x7 c46) = denJ (den C k) (lp C k) Js C cd0 (lq C 12 next Q) (St1 x0 x1 x6 x7 c46) from (denJ_den _ _ _ _ _ _).symm).trans ((h (den C k) (lp C k)).trans ?_)
  simp only [j0_eq]
  first | rfl | kernel_rfl
def l0 {α : Type} (k : Nat) (Xt0 : Int → (List Int) → Option α) : Nat → (List Int) → (List Int) → Int → Int → (List Int) → Option α
  | 0, _, _, _, _, _ => none
  | n + 1, x0, x1, x6, x7, c46 => l0s (l0 k Xt0 n) Xt0 x0 x1 x6 x7 c46
theorem l0_eq {α : Type} (k : Nat) (Q : Ex → St → Option α) : ∀ (n : Nat) (x0 : List Int) (x1 : List Int) (x6 : Int) (x7 : Int) (c46 : List Int), iter (rnd C k cd0 12 Q) n (St1 x0 x1 x6 x7 c46) = l0 k (fun (x6 : Int) (c46 : List Int) => Q (.exit 0) (St4 x6 c46)) n x0 x1 x6 x7 c46
  | 0, _, _, _, _, _ => rfl
  | n + 1, x0, x1, x6, x7, c46 => (iter_succ _ _ _).trans ((l0s_eq k (iter (rnd C k cd0 12 Q) n) Q x0 x1 x6 x7 c46).trans (congrArg (fun N => l0s N (fun (x6 : Int) (c46 : List Int) => Q (.exit 0) (St4 x6 c46)) x0 x1 x6 x7 c46) (funext fun x0 => funext fun x1 => funext fun x6 => funext fun x7 => funext fun c46 => l0_eq k Q n x0 x1 x6 x7 c46)))
theorem l0_congr {α : Type} (k : Nat) (Xt0 : Int → (List Int) → Option α) (Xt0q : Int → (List Int) → Option α) (hXt0 : ∀ (x6 : Int) (c46 : List Int), Xt0 x6 c46 = Xt0q x6 c46) (n : Nat) (x0 : List Int) (x1 : List Int) (x6 : Int) (x7 : Int) (c46 : List Int) : l0 k Xt0 n x0 x1 x6 x7 c46 = l0 k Xt0q n x0 x1 x6 x7 c46 := by
  obtain rfl : Xt0 = Xt0q := by funext x6; funext c46; exact hXt0 x6 c46
  rfl
noncomputable def cd4 : Code := cR (cR (cR (cR (cB Try.f118))))
def St5 (x6 : Int) (c46 : List Int) : St := stL 53 [(5, .app 46 0), (6, .data (.int .u64) x6)] [(46, .buf (.int .u64) c46 0 true)]
def St6 (c46 : List Int) : St := stL 53 [(4, .app 46 0)] [(46, .buf (.int .u64) c46 0 true)]
def j2 {α : Type} (Rt : (List Int) → Option α) (x6 : Int) (c46 : List Int) : Option α :=
  if fitB (c46.length + 1) 8 = true then
    Rt (c46 ++ [x6])
  else none
theorem j2_eq {α : Type} (k : Nat) (Q : Ex → St → Option α) (x6 : Int) (c46 : List Int) :
    (den C k) cd4 Q (St5 x6 c46) = j2 (fun (c46 : List Int) => Q .ret (St6 c46)) x6 c46 := by
  have h : ∀ (D L : DT α), denJ D L Js C cd4 Q (St5 x6 c46) =
        if fitB (c46.length + 1) 8 = true then
          Q .ret (St6 (c46 ++ [x6]))
        else none := by
    intro D L; kernel_rfl
  refine (show (den C k) cd4 Q (St5 x6 c46) = denJ (den C k) (lp C k) Js C cd4 Q (St5 x6 c46) from (denJ_den _ _ _ _ _ _).symm).trans ((h (den C k) (lp C k)).trans ?_)
  first | rfl | kernel_rfl
theorem a0 {α : Type} (k : Nat) (Q : Ex → St → Option α) (x0 : List Int) (x1 : List Int) (x6 : Int) (x7 : Int) (c46 : List Int) :
    (lp C k) cd0 (blkQ C 0 (sq (den C k) (lp C k) Js C cd4 Q)) (St1 x0 x1 x6 x7 c46) = l0 k (fun (x6 : Int) (c46 : List Int) => j2 (fun (c46 : List Int) => Q .ret (St6 c46)) x6 c46) k x0 x1 x6 x7 c46 :=
  (show (lp C k) cd0 (blkQ C 0 (sq (den C k) (lp C k) Js C cd4 Q)) (St1 x0 x1 x6 x7 c46) = iter (rnd C k cd0 12 (blkQ C 0 (sq (den C k) (lp C k) Js C cd4 Q))) k (St1 x0 x1 x6 x7 c46) by kernel_rfl).trans ((l0_eq k (blkQ C 0 (sq (den C k) (lp C k) Js C cd4 Q)) k x0 x1 x6 x7 c46).trans (l0_congr k _ _ (fun x6 c46 => ((show (blkQ C 0 (sq (den C k) (lp C k) Js C cd4 Q)) (.exit 0) (St4 x6 c46) = (den C k) cd4 Q (St5 x6 c46) by kernel_rfl).trans (by simp only [j2_eq]))) k x0 x1 x6 x7 c46))
def top {α : Type} (k : Nat) (Rt : (List Int) → Option α) (x0 : List Int) (x1 : List Int) : Option α :=
  l0 k (fun (x6 : Int) (c46 : List Int) => j2 Rt x6 c46) k x0 x1 0 0 []
theorem top_eq {α : Type} (k : Nat) (Q : Ex → St → Option α) (x0 : List Int) (x1 : List Int) :
    (den C k) (cB Try.f118) Q (St0 x0 x1) = top k (fun (c46 : List Int) => Q .ret (St6 c46)) x0 x1 := by
  have h : ∀ (D L : DT α), denJ D L Js C (cB Try.f118) Q (St0 x0 x1) =
        L cd0 (blkQ C 0 (sq D L Js C cd4 Q)) (St1 x0 x1 0 0 []) := by
    intro D L; kernel_rfl
  refine (show (den C k) (cB Try.f118) Q (St0 x0 x1) = denJ (den C k) (lp C k) Js C (cB Try.f118) Q (St0 x0 x1) from (denJ_den _ _ _ _ _ _).symm).trans ((h (den C k) (lp C k)).trans ?_)
  simp only [a0]
  first | rfl | kernel_rfl
def run (x0 : List Int) (x1 : List Int) : Option (List Int) := top (α := List Int) fuel (fun (c46 : List Int) => some c46) x0 x1
def F : Fn := ⟨(.pair (.sl (.int .u64)) (.pair (.sl (.int .u64)) .unit)), (.sl (.int .u64)), false, fun x => run x.1 x.2.1⟩
set_option maxRecDepth 100000 in
theorem con : Con Try.prog 118 F := by
  refine con_of_den (C := C) (ctx_ok (by kernel_rfl) (by kernel_rfl) (by kernel_rfl) (by kernel_rfl) trivial) (by kernel_rfl) Try.func118 (c := cB Try.f118) (by kernel_rfl) (by kernel_rfl) F fuel (fun x => by simp [F, spread, Try.ntmps118]) ?_
  intro x r h
  rw [← h]
  have h1 : start F Try.f118.ntmps x = (St0 x.1 x.2.1) := by kernel_rfl
  rw [h1]
  refine (top_eq fuel (fin C Try.f118.results.toList F.rs F.multi) x.1 x.2.1).trans ?_
  kernel_rfl
theorem named : Named Try.prog 118 := named_of Try.func118 (by kernel_rfl) (by kernel_rfl)
end Go.Bx.basculeref_plus
namespace Go.Bx.basculeref_less
open Go Go.Proofs Go.Bx
set_option maxRecDepth 100000
set_option linter.unusedVariables false
def Js : List Nat := [10, 14, 16]
def C : Ctx := ⟨[(54, (.int .u64)), (114, (.sl (.int .u64)))], [], [], fnL [], noSh, [], invL [], [(2, [4]), (1, [5]), (4, [1, 5, 6, 13, 14]), (12, [1, 5, 6, 13, 14]), (27, [1, 5, 7, 8, 13, 14]), (39, [1, 5, 6, 7, 8, 13, 14]), (45, [5])], [], [], 0, 0⟩
def St0 (x0 : List Int) (x1 : List Int) : St := stL 49 [(0, .data (.sl (.int .u64)) x0), (1, .data (.sl (.int .u64)) x1)] []
def St1 (x1 : List Int) (x6 : Int) (x13 : Int) (x14 : Int) (c11 : List Int) : St := stL 49 [(1, .data (.sl (.int .u64)) x1), (5, .app 11 0), (6, .data (.int .u64) x6), (13, .data (.int .i64) x13), (14, .data (.int .i64) x14)] [(11, .buf (.int .u64) c11 0 false)]
noncomputable def cd0 : Code := cL (cL (cR (cL (cR (cR (cR (cB Try.f108)))))))
def St2 (x1 : List Int) (x7 : Int) (x8 : Int) (x13 : Int) (x14 : Int) (c11 : List Int) : St := stL 49 [(1, .data (.sl (.int .u64)) x1), (5, .app 11 0), (7, .data (.int .i64) x7), (8, .data (.int .u64) x8), (13, .data (.int .i64) x13), (14, .data (.int .i64) x14)] [(11, .buf (.int .u64) c11 0 false)]
noncomputable def cd1 : Code := cR (cR (cR (cL (cL (cR (cL (cR (cR (cR (cB Try.f108))))))))))
noncomputable def cd2 : Code := cR (cR (cR (cL (cL (cR (cR (cL (cL (cR (cL (cR (cR (cR (cB Try.f108))))))))))))))
def St3 (x1 : List Int) (x6 : Int) (x7 : Int) (x8 : Int) (x13 : Int) (x14 : Int) (c11 : List Int) : St := stL 49 [(1, .data (.sl (.int .u64)) x1), (5, .app 11 0), (6, .data (.int .u64) x6), (7, .data (.int .i64) x7), (8, .data (.int .u64) x8), (13, .data (.int .i64) x13), (14, .data (.int .i64) x14)] [(11, .buf (.int .u64) c11 0 false)]
noncomputable def cd3 : Code := cR (cR (cR (cR (cR (cL (cL (cR (cR (cL (cL (cR (cL (cR (cR (cR (cB Try.f108))))))))))))))))
def j1 {α : Type} (Nx : (List Int) → Int → Int → Int → (List Int) → Option α) (x1 : List Int) (x6 : Int) (x7 : Int) (x8 : Int) (x13 : Int) (x14 : Int) (c11 : List Int) : Option α :=
  if 0 ≤ x7 ∧ x7 < (c11.length : Int) then
    if 0 ≤ x7 ∧ x7 < (c11.length : Int) then
      Nx x1 x6 x13 (IntKind.i64.wrap (x14 + 1)) (List.set c11 (Int.toNat x7) (IntKind.u64.wrap ((List.getD c11 (Int.toNat x7) 0) - x8)))
    else none
  else none
theorem j1_eq {α : Type} (k : Nat) (next : St → Option α) (Q : Ex → St → Option α) (x1 : List Int) (x6 : Int) (x7 : Int) (x8 : Int) (x13 : Int) (x14 : Int) (c11 : List Int) :
    (den C k) cd3 (blkQ C 1 (sq (den C k) (lp C k) Js C cd1 (lq C 12 next Q))) (St3 x1 x6 x7 x8 x13 x14 c11) = j1 (fun (x1 : List Int) (x6 : Int) (x13 : Int) (x14 : Int) (c11 : List Int) => next (St1 x1 x6 x13 x14 c11)) x1 x6 x7 x8 x13 x14 c11 := by
  have h : ∀ (D L : DT α), denJ D L Js C cd3 (blkQ C 1 (sq D L Js C cd1 (lq C 12 next Q))) (St3 x1 x6 x7 x8 x13 x14 c11) =
        if 0 ≤ x7 ∧ x7 < (c11.length : Int) then
          if 0 ≤ x7 ∧ x7 < (c11.length : Int) then
            next (St1 x1 x6 x13 (IntKind.i64.wrap (x14 + 1)) (List.set c11 (Int.toNat x7) (IntKind.u64.wrap ((List.getD c11 (Int.toNat x7) 0) - x8))))
          else none
        else none := by
    intro D L; kernel_rfl
  refine (show (den C k) cd3 (blkQ C 1 (sq (den C k) (lp C k) Js C cd1 (lq C 12 next Q))) (St3 x1 x6 x7 x8 x13 x14 c11) = denJ (den C k) (lp C k) Js C cd3 (blkQ C 1 (sq (den C k) (lp C k) Js C cd1 (lq C 12 next Q))) (St3 x1 x6 x7 x8 x13 x14 c11) from (denJ_den _ _ _ _ _ _).symm).trans ((h (den C k) (lp C k)).trans ?_)
  first | rfl | kernel_rfl
def j0 {α : Type} (Nx : (List Int) → Int → Int → Int → (List Int) → Option α) (x1 : List Int) (x7 : Int) (x8 : Int) (x13 : Int) (x14 : Int) (c11 : List Int) : Option α :=
  if 0 ≤ x7 ∧ x7 < (c11.length : Int) then
    if (decide ((List.getD c11 (Int.toNat x7) 0) < x8)) = true then
      if 0 ≤ x7 ∧ x7 < (c11.length : Int) then
        if 0 ≤ x7 ∧ x7 < (c11.length : Int) then
          j1 Nx x1 1 x7 x8 x13 x14 (List.set c11 (Int.toNat x7) (IntKind.u64.wrap ((List.getD c11 (Int.toNat x7) 0) + 4294967296)))
        else none
      else none
    else
      j1 Nx x1 0 x7 x8 x13 x14 c11
  else none
theorem j0_eq {α : Type} (k : Nat) (next : St → Option α) (Q : Ex → St → Option α) (x1 : List Int) (x7 : Int) (x8 : Int) (x13 : Int) (x14 : Int) (c11 : List Int) :
    (den C k) cd2 (blkQ C 1 (sq (den C k) (lp C k) Js C cd1 (lq C 12 next Q))) (St2 x1 x7 x8 x13 x14 c11) = j0 (fun (x1 : List Int) (x6 : Int) (x13 : Int) (x14 : Int) (c11 : List Int) => next (St1 x1 x6 x13 x14 c11)) x1 x7 x8 x13 x14 c11 := by
  have h : ∀ (D L : DT α), denJ D L Js C cd2 (blkQ C 1 (sq D L Js C cd1 (lq C 12 next Q))) (St2 x1 x7 x8 x13 x14 c11) =
        if 0 ≤ x7 ∧ x7 < (c11.length : Int) then
          if (decide ((List.getD c11 (Int.toNat x7) 0) < x8)) = true then
            if 0 ≤ x7 ∧ x7 < (c11.length : Int) then
              if 0 ≤ x7 ∧ x7 < (c11.length : Int) then
                D cd3 (blkQ C 1 (sq D L Js C cd1 (lq C 12 next Q))) (St3 x1 1 x7 x8 x13 x14 (List.set c11 (Int.toNat x7) (IntKind.u64.wrap ((List.getD c11 (Int.toNat x7) 0) + 4294967296))))
              else none
            else none
          else
            D cd3 (blkQ C 1 (sq D L Js C cd1 (lq C 12 next Q))) (St3 x1 0 x7 x8 x13 x14 c11)
        else none := by
    intro D L; kernel_rfl
  refine (show (den C k) cd2 (blkQ C 1 (sq (den C k) (lp C k) Js C cd1 (lq C 12 next Q))) (St2 x1 x7 x8 x13 x14 c11) = denJ (den C k) (lp C k) Js C cd2 (blkQ C 1 (sq (den C k) (lp C k) Js C cd1 (lq C 12 next Q))) (St2 x1 x7 x8 x13 x14 c11) from (denJ_den _ _ _ _ _ _).symm).trans ((h (den C k) (lp C k)).trans ?_)
  simp only [j1_eq]
  first | rfl | kernel_rfl
def St4 (c11 : List Int) : St := stL 49 [(5, .app 11 0)] [(11, .buf (.int .u64) c11 0 false)]
def l0s {α : Type} (Nx : (List Int) → Int → Int → Int → (List Int) → Option α) (Xt0 : (List Int) → Option α) (x1 : List Int) (x6 : Int) (x13 : Int) (x14 : Int) (c11 : List Int) : Option α :=
  if (decide (x14 < x13)) = true then
    if (decide (x14 < (x1.length : Int))) = true then
      if 0 ≤ x14 ∧ x14 < (x1.length : Int) then
        j0 Nx x1 x14 (IntKind.u64.wrap (x6 + (List.getD x1 (Int.toNat x14) 0))) x13 x14 c11
      else none
    else
      j0 Nx x1 x14 x6 x13 x14 c11
  else
    Xt0 c11
theorem l0s_eq {α : Type} (k : Nat) (next : St → Option α) (Q : Ex → St → Option α) (x1 : List Int) (x6 : Int) (x13 : Int) (x14 : Int) (c11 : List Int) :
    rnd C k cd0 12 Q next (St1 x1 x6 x13 x14 c11) = l0s (fun (x1 : List Int) (x6 : Int) (x13 : Int) (x14 : Int) (c11 : List Int) => next (St1 x1 x6 x13 x14 c11)) (fun (c11 : List Int) => Q (.exit 0) (St4 c11)) x1 x6 x13 x14 c11 := by
  have h : ∀ (D L : DT α), denJ D L Js C cd0 (lq C 12 next Q) (St1 x1 x6 x13 x14 c11) =
        if (decide (x14 < x13)) = true then
          if (decide (x14 < (x1.length : Int))) = true then
            if 0 ≤ x14 ∧ x14 < (x1.length : Int) then
              D cd2 (blkQ C 1 (sq D L Js C cd1 (lq C 12 next Q))) (St2 x1 x14 (IntKind.u64.wrap (x6 + (List.getD x1 (Int.toNat x14) 0))) x13 x14 c11)
            else none
          else
            D cd2 (blkQ C 1 (sq D L Js C cd1 (lq C 12 next Q))) (St2 x1 x14 x6 x13 x14 c11)
        else
          Q (.exit 0) (St4 c11) := by
    intro D L; kernel_rfl
  refine (show rnd C k cd0 12 Q next (St1 x1 x6 x13 x14 c11) = denJ (den C k) (lp C k) Js C cd0 (lq C 12 next Q) (St1 x1 x6 x13 x14 c11) from (denJ_den _ _ _ _ _ _).symm).trans ((h (den C k) (lp C k)).trans ?_)
  simp only [j0_eq]
  first | rfl | kernel_rfl
def l0 {α : Type} (k : Nat) (Xt0 : (List Int) → Option α) : Nat → (List Int) → Int → Int → Int → (List Int) → Option α
  | 0, _, _, _, _, _ => none
  | n + 1, x1, x6, x13, x14, c11 => l0s (l0 k Xt0 n) Xt0 x1 x6 x13 x14 c11
theorem l0_eq {α : Type} (k : Nat) (Q : Ex → St → Option α) : ∀ (n : Nat) (x1 : List Int) (x6 : Int) (x13 : Int) (x14 : Int) (c11 : List Int), iter (rnd C k cd0 12 Q) n (St1 x1 x6 x13 x14 c11) = l0 k (fun (c11 : List Int) => Q (.exit 0) (St4 c11)) n x1 x6 x13 x14 c11
  | 0, _, _, _, _, _ => rfl
  | n + 1, x1, x6, x13, x14, c11 => (iter_succ _ _ _).trans ((l0s_eq k (iter (rnd C k cd0 12 Q) n) Q x1 x6 x13 x14 c11).trans (congrArg (fun N => l0s N (fun (c11 : List Int) => Q (.exit 0) (St4 c11)) x1 x6 x13 x14 c11) (funext fun x1 => funext fun x6 => funext fun x13 => funext fun x14 => funext fun c11 => l0_eq k Q n x1 x6 x13 x14 c11)))
theorem l0_congr {α : Type} (k : Nat) (Xt0 : (List Int) → Option α) (Xt0q : (List Int) → Option α) (hXt0 : ∀ (c11 : List Int), Xt0 c11 = Xt0q c11) (n : Nat) (x1 : List Int) (x6 : Int) (x13 : Int) (x14 : Int) (c11 : List Int) : l0 k Xt0 n x1 x6 x13 x14 c11 = l0 k Xt0q n x1 x6 x13 x14 c11 := by
  obtain rfl : Xt0 = Xt0q := by funext c11; exact hXt0 c11
  rfl
noncomputable def cd4 : Code := cR (cR (cR (cR (cB Try.f108))))
def St5 (c11 : List Int) : St := stL 49 [(5, .app 11 0)] [(11, .buf (.int .u64) c11 0 false)]
def St6 (c11 : List Int) : St := stL 49 [(4, .app 11 0)] [(11, .buf (.int .u64) c11 0 false)]
def j2 {α : Type} (Rt : (List Int) → Option α) (c11 : List Int) : Option α :=
  Rt c11
theorem j2_eq {α : Type} (k : Nat) (Q : Ex → St → Option α) (c11 : List Int) :
    (den C k) cd4 Q (St5 c11) = j2 (fun (c11 : List Int) => Q .ret (St6 c11)) c11 := by
  have h : ∀ (D L : DT α), denJ D L Js C cd4 Q (St5 c11) =
        Q .ret (St6 c11) := by
    intro D L; kernel_rfl
  refine (show (den C k) cd4 Q (St5 c11) = denJ (den C k) (lp C k) Js C cd4 Q (St5 c11) from (denJ_den _ _ _ _ _ _).symm).trans ((h (den C k) (lp C k)).trans ?_)
  first | rfl | kernel_rfl
theorem a0 {α : Type} (k : Nat) (Q : Ex → St → Option α) (x1 : List Int) (x6 : Int) (x13 : Int) (x14 : Int) (c11 : List Int) :
    (lp C k) cd0 (blkQ C 0 (sq (den C k) (lp C k) Js C cd4 Q)) (St1 x1 x6 x13 x14 c11) = l0 k (fun (c11 : List Int) => j2 (fun (c11 : List Int) => Q .ret (St6 c11)) c11) k x1 x6 x13 x14 c11 :=
  (show (lp C k) cd0 (blkQ C 0 (sq (den C k) (lp C k) Js C cd4 Q)) (St1 x1 x6 x13 x14 c11) = iter (rnd C k cd0 12 (blkQ C 0 (sq (den C k) (lp C k) Js C cd4 Q))) k (St1 x1 x6 x13 x14 c11) by kernel_rfl).trans ((l0_eq k (blkQ C 0 (sq (den C k) (lp C k) Js C cd4 Q)) k x1 x6 x13 x14 c11).trans (l0_congr k _ _ (fun c11 => ((show (blkQ C 0 (sq (den C k) (lp C k) Js C cd4 Q)) (.exit 0) (St4 c11) = (den C k) cd4 Q (St5 c11) by kernel_rfl).trans (by simp only [j2_eq]))) k x1 x6 x13 x14 c11))
def top {α : Type} (k : Nat) (Rt : (List Int) → Option α) (x0 : List Int) (x1 : List Int) : Option α :=
  if (fitB (0 + x0.length) 8 && (Nat.beq 0 0 || Nat.blt 0 x0.length)) = true then
    l0 k (fun (c11 : List Int) => j2 Rt c11) k x1 0 (x0.length : Int) 0 x0
  else none
theorem top_eq {α : Type} (k : Nat) (Q : Ex → St → Option α) (x0 : List Int) (x1 : List Int) :
    (den C k) (cB Try.f108) Q (St0 x0 x1) = top k (fun (c11 : List Int) => Q .ret (St6 c11)) x0 x1 := by
  have h : ∀ (D L : DT α), denJ D L Js C (cB Try.f108) Q (St0 x0 x1) =
        if (fitB (0 + x0.length) 8 && (Nat.beq 0 0 || Nat.blt 0 x0.length)) = true then
          L cd0 (blkQ C 0 (sq D L Js C cd4 Q)) (St1 x1 0 (x0.length : Int) 0 x0)
        else none := by
    intro D L; kernel_rfl
  refine (show (den C k) (cB Try.f108) Q (St0 x0 x1) = denJ (den C k) (lp C k) Js C (cB Try.f108) Q (St0 x0 x1) from (denJ_den _ _ _ _ _ _).symm).trans ((h (den C k) (lp C k)).trans ?_)
  simp only [a0]
  first | rfl | kernel_rfl
def run (x0 : List Int) (x1 : List Int) : Option (List Int) := top (α := List Int) fuel (fun (c11 : List Int) => some c11) x0 x1
def F : Fn := ⟨(.pair (.sl (.int .u64)) (.pair (.sl (.int .u64)) .unit)), (.sl (.int .u64)), false, fun x => run x.1 x.2.1⟩
set_option maxRecDepth 100000 in
theorem con : Con Try.prog 108 F := by
  refine con_of_den (C := C) (ctx_ok (by kernel_rfl) (by kernel_rfl) (by kernel_rfl) (by kernel_rfl) trivial) (by kernel_rfl) Try.func108 (c := cB Try.f108) (by kernel_rfl) (by kernel_rfl) F fuel (fun x => by simp [F, spread, Try.ntmps108]) ?_
  intro x r h
  rw [← h]
  have h1 : start F Try.f108.ntmps x = (St0 x.1 x.2.1) := by kernel_rfl
  rw [h1]
  refine (top_eq fuel (fin C Try.f108.results.toList F.rs F.multi) x.1 x.2.1).trans ?_
  kernel_rfl
theorem named : Named Try.prog 108 := named_of Try.func108 (by kernel_rfl) (by kernel_rfl)
end Go.Bx.basculeref_less
namespace Go.Bx.basculeref_compare
open Go Go.Proofs Go.Bx
set_option maxRecDepth 100000
set_option linter.unusedVariables false
def Js : List Nat := [8, 10, 14]
def C : Ctx := ⟨[(3, (.int .i64)), (54, (.int .u64)), (114, (.sl (.int .u64)))], [], [], fnL [], noSh, [], invL [], [(2, [4]), (1, []), (4, [0, 1, 5]), (6, [0, 1, 5]), (21, [0, 1, 5, 6, 7]), (27, [0, 1, 5, 6, 7]), (39, [])], [], [], 0, 0⟩
def St0 (x0 : List Int) (x1 : List Int) : St := stL 40 [(0, .data (.sl (.int .u64)) x0), (1, .data (.sl (.int .u64)) x1)] []
def St1 (x0 : List Int) (x1 : List Int) (x5 : Int) : St := stL 40 [(0, .data (.sl (.int .u64)) x0), (1, .data (.sl (.int .u64)) x1), (5, .data (.int .i64) x5)] []
noncomputable def cd0 : Code := cL (cL (cR (cL (cR (cB Try.f106)))))
def St2 (x0 : List Int) (x1 : List Int) (x5 : Int) (x6 : Int) (x7 : Int) : St := stL 40 [(0, .data (.sl (.int .u64)) x0), (1, .data (.sl (.int .u64)) x1), (5, .data (.int .i64) x5), (6, .data (.int .u64) x6), (7, .data (.int .u64) x7)] []
noncomputable def cd1 : Code := cR (cR (cL (cL (cR (cL (cR (cB Try.f106)))))))
noncomputable def cd2 : Code := cR (cR (cL (cL (cR (cL (cL (cR (cL (cR (cB Try.f106))))))))))
def St3 (x0 : List Int) (x1 : List Int) (x5 : Int) (x6 : Int) (x7 : Int) : St := stL 40 [(0, .data (.sl (.int .u64)) x0), (1, .data (.sl (.int .u64)) x1), (5, .data (.int .i64) x5), (6, .data (.int .u64) x6), (7, .data (.int .u64) x7)] []
noncomputable def cd3 : Code := cR (cR (cR (cL (cL (cR (cL (cL (cR (cL (cR (cB Try.f106)))))))))))
def St4 (x4 : Int) : St := stL 40 [(4, .data (.int .i64) x4)] []
def j1 {α : Type} (Nx : (List Int) → (List Int) → Int → Option α) (Rt : Int → Option α) (x0 : List Int) (x1 : List Int) (x5 : Int) (x6 : Int) (x7 : Int) : Option α :=
  if (decide (x6 < x7)) = true then
    Rt (-1)
  else
    if (decide (x6 > x7)) = true then
      Rt 1
    else
      Nx x0 x1 (IntKind.i64.wrap (x5 - 1))
theorem j1_eq {α : Type} (k : Nat) (next : St → Option α) (Q : Ex → St → Option α) (x0 : List Int) (x1 : List Int) (x5 : Int) (x6 : Int) (x7 : Int) :
    (den C k) cd3 (blkQ C 1 (sq (den C k) (lp C k) Js C cd1 (lq C 6 next Q))) (St3 x0 x1 x5 x6 x7) = j1 (fun (x0 : List Int) (x1 : List Int) (x5 : Int) => next (St1 x0 x1 x5)) (fun (x4 : Int) => Q .ret (St4 x4)) x0 x1 x5 x6 x7 := by
  have h : ∀ (D L : DT α), denJ D L Js C cd3 (blkQ C 1 (sq D L Js C cd1 (lq C 6 next Q))) (St3 x0 x1 x5 x6 x7) =
        if (decide (x6 < x7)) = true then
          Q .ret (St4 (-1))
        else
          if (decide (x6 > x7)) = true then
            Q .ret (St4 1)
          else
            next (St1 x0 x1 (IntKind.i64.wrap (x5 - 1))) := by
    intro D L; kernel_rfl
  refine (show (den C k) cd3 (blkQ C 1 (sq (den C k) (lp C k) Js C cd1 (lq C 6 next Q))) (St3 x0 x1 x5 x6 x7) = denJ (den C k) (lp C k) Js C cd3 (blkQ C 1 (sq (den C k) (lp C k) Js C cd1 (lq C 6 next Q))) (St3 x0 x1 x5 x6 x7) from (denJ_den _ _ _ _ _ _).symm).trans ((h (den C k) (lp C k)).trans ?_)
  first | rfl | kernel_rfl
def j0 {α : Type} (Nx : (List Int) → (List Int) → Int → Option α) (Rt : Int → Option α) (x0 : List Int) (x1 : List Int) (x5 : Int) (x6 : Int) (x7 : Int) : Option α :=
  if (decide (x5 < (x1.length : Int))) = true then
    if 0 ≤ x5 ∧ x5 < (x1.length : Int) then
      j1 Nx Rt x0 x1 x5 x6 (List.getD x1 (Int.toNat x5) 0)
    else none
  else
    j1 Nx Rt x0 x1 x5 x6 x7
theorem j0_eq {α : Type} (k : Nat) (next : St → Option α) (Q : Ex → St → Option α) (x0 : List Int) (x1 : List Int) (x5 : Int) (x6 : Int) (x7 : Int) :
    (den C k) cd2 (blkQ C 1 (sq (den C k) (lp C k) Js C cd1 (lq C 6 next Q))) (St2 x0 x1 x5 x6 x7) = j0 (fun (x0 : List Int) (x1 : List Int) (x5 : Int) => next (St1 x0 x1 x5)) (fun (x4 : Int) => Q .ret (St4 x4)) x0 x1 x5 x6 x7 := by
  have h : ∀ (D L : DT α), denJ D L Js C cd2 (blkQ C 1 (sq D L Js C cd1 (lq C 6 next Q))) (St2 x0 x1 x5 x6 x7) =
        if (decide (x5 < (x1.length : Int))) = true then
          if 0 ≤ x5 ∧ x5 < (x1.length : Int) then
            D cd3 (blkQ C 1 (sq D L Js C cd1 (lq C 6 next Q))) (St3 x0 x1 x5 x6 (List.getD x1 (Int.toNat x5) 0))
          else none
        else
          D cd3 (blkQ C 1 (sq D L Js C cd1 (lq C 6 next Q))) (St3 x0 x1 x5 x6 x7) := by
    intro D L; kernel_rfl
  refine (show (den C k) cd2 (blkQ C 1 (sq (den C k) (lp C k) Js C cd1 (lq C 6 next Q))) (St2 x0 x1 x5 x6 x7) = denJ (den C k) (lp C k) Js C cd2 (blkQ C 1 (sq (den C k) (lp C k) Js C cd1 (lq C 6 next Q))) (St2 x0 x1 x5 x6 x7) from (denJ_den _ _ _ _ _ _).symm).trans ((h (den C k) (lp C k)).trans ?_)
  simp only [j1_eq]
  first | rfl | kernel_rfl
def St5 : St := stL 40 [] []
def l0s {α : Type} (Nx : (List Int) → (List Int) → Int → Option α) (Rt : Int → Option α) (Xt0 : Option α) (x0 : List Int) (x1 : List Int) (x5 : Int) : Option α :=
  if (decide (x5 ≥ 0)) = true then
    if (decide (x5 < (x0.length : Int))) = true then
      if 0 ≤ x5 ∧ x5 < (x0.length : Int) then
        j0 Nx Rt x0 x1 x5 (List.getD x0 (Int.toNat x5) 0) 0
      else none
    else
      j0 Nx Rt x0 x1 x5 0 0
  else
    Xt0
theorem l0s_eq {α : Type} (k : Nat) (next : St → Option α) (Q : Ex → St → Option α) (x0 : List Int) (x1 : List Int) (x5 : Int) :
    rnd C k cd0 6 Q next (St1 x0 x1 x5) = l0s (fun (x0 : List Int) (x1 : List Int) (x5 : Int) => next (St1 x0 x1 x5)) (fun (x4 : Int) => Q .ret (St4 x4)) (Q (.exit 0) St5) x0 x1 x5 := by
  have h : ∀ (D L : DT α), denJ D L Js C cd0 (lq C 6 next Q) (St1 x0 x1 x5) =
        if (decide (x5 ≥ 0)) = true then
          if (decide (x5 < (x0.length : Int))) = true then
            if 0 ≤ x5 ∧ x5 < (x0.length : Int) then
              D cd2 (blkQ C 1 (sq D L Js C cd1 (lq C 6 next Q))) (St2 x0 x1 x5 (List.getD x0 (Int.toNat x5) 0) 0)
            else none
          else
            D cd2 (blkQ C 1 (sq D L Js C cd1 (lq C 6 next Q))) (St2 x0 x1 x5 0 0)
        else
          Q (.exit 0) St5 := by
    intro D L; kernel_rfl
  refine (show rnd C k cd0 6 Q next (St1 x0 x1 x5) = denJ (den C k) (lp C k) Js C cd0 (lq C 6 next Q) (St1 x0 x1 x5) from (denJ_den _ _ _ _ _ _).symm).trans ((h (den C k) (lp C k)).trans ?_)
  simp only [j0_eq]
  first | rfl | kernel_rfl
def l0 {α : Type} (k : Nat) (Rt : Int → Option α) (Xt0 : Option α) : Nat → (List Int) → (List Int) → Int → Option α
  | 0, _, _, _ => none
  | n + 1, x0, x1, x5 => l0s (l0 k Rt Xt0 n) Rt Xt0 x0 x1 x5
theorem l0_eq {α : Type} (k : Nat) (Q : Ex → St → Option α) : ∀ (n : Nat) (x0 : List Int) (x1 : List Int) (x5 : Int), iter (rnd C k cd0 6 Q) n (St1 x0 x1 x5) = l0 k (fun (x4 : Int) => Q .ret (St4 x4)) (Q (.exit 0) St5) n x0 x1 x5
  | 0, _, _, _ => rfl
  | n + 1, x0, x1, x5 => (iter_succ _ _ _).trans ((l0s_eq k (iter (rnd C k cd0 6 Q) n) Q x0 x1 x5).trans (congrArg (fun N => l0s N (fun (x4 : Int) => Q .ret (St4 x4)) (Q (.exit 0) St5) x0 x1 x5) (funext fun x0 => funext fun x1 => funext fun x5 => l0_eq k Q n x0 x1 x5)))
theorem l0_congr {α : Type} (k : Nat) (Rt : Int → Option α) (Xt0 : Option α) (Rtq : Int → Option α) (Xt0q : Option α) (hRt : ∀ (x4 : Int), Rt x4 = Rtq x4) (hXt0 : Xt0 = Xt0q) (n : Nat) (x0 : List Int) (x1 : List Int) (x5 : Int) : l0 k Rt Xt0 n x0 x1 x5 = l0 k Rtq Xt0q n x0 x1 x5 := by
  obtain rfl : Rt = Rtq := by funext x4; exact hRt x4
  obtain rfl : Xt0 = Xt0q := hXt0
  rfl
noncomputable def cd4 : Code := cR (cR (cB Try.f106))
def St6 : St := stL 40 [] []
def j2 {α : Type} (Rt : Int → Option α) : Option α :=
  Rt 0
theorem j2_eq {α : Type} (k : Nat) (Q : Ex → St → Option α) :
    (den C k) cd4 Q St6 = j2 (fun (x4 : Int) => Q .ret (St4 x4)) := by
  have h : ∀ (D L : DT α), denJ D L Js C cd4 Q St6 =
        Q .ret (St4 0) := by
    intro D L; kernel_rfl
  refine (show (den C k) cd4 Q St6 = denJ (den C k) (lp C k) Js C cd4 Q St6 from (denJ_den _ _ _ _ _ _).symm).trans ((h (den C k) (lp C k)).trans ?_)
  first | rfl | kernel_rfl
theorem a0 {α : Type} (k : Nat) (Q : Ex → St → Option α) (x0 : List Int) (x1 : List Int) (x5 : Int) :
    (lp C k) cd0 (blkQ C 0 (sq (den C k) (lp C k) Js C cd4 Q)) (St1 x0 x1 x5) = l0 k (fun (x4 : Int) => (fun (x4 : Int) => Q .ret (St4 x4)) x4) (j2 (fun (x4 : Int) => Q .ret (St4 x4))) k x0 x1 x5 :=
  (show (lp C k) cd0 (blkQ C 0 (sq (den C k) (lp C k) Js C cd4 Q)) (St1 x0 x1 x5) = iter (rnd C k cd0 6 (blkQ C 0 (sq (den C k) (lp C k) Js C cd4 Q))) k (St1 x0 x1 x5) by kernel_rfl).trans ((l0_eq k (blkQ C 0 (sq (den C k) (lp C k) Js C cd4 Q)) k x0 x1 x5).trans (l0_congr k _ _ _ _ (fun x4 => (show (blkQ C 0 (sq (den C k) (lp C k) Js C cd4 Q)) .ret (St4 x4) = Q .ret (St4 x4) by kernel_rfl)) ((show (blkQ C 0 (sq (den C k) (lp C k) Js C cd4 Q)) (.exit 0) St5 = (den C k) cd4 Q St6 by kernel_rfl).trans (by simp only [j2_eq])) k x0 x1 x5))
def top {α : Type} (k : Nat) (Rt : Int → Option α) (x0 : List Int) (x1 : List Int) : Option α :=
  l0 k (fun (x4 : Int) => Rt x4) (j2 Rt) k x0 x1 (IntKind.i64.wrap ((if (x1.length : Int) > (x0.length : Int) then (x1.length : Int) else (x0.length : Int)) - 1))
theorem top_eq {α : Type} (k : Nat) (Q : Ex → St → Option α) (x0 : List Int) (x1 : List Int) :
    (den C k) (cB Try.f106) Q (St0 x0 x1) = top k (fun (x4 : Int) => Q .ret (St4 x4)) x0 x1 := by
  have h : ∀ (D L : DT α), denJ D L Js C (cB Try.f106) Q (St0 x0 x1) =
        L cd0 (blkQ C 0 (sq D L Js C cd4 Q)) (St1 x0 x1 (IntKind.i64.wrap ((if (x1.length : Int) > (x0.length : Int) then (x1.length : Int) else (x0.length : Int)) - 1))) := by
    intro D L; kernel_rfl
  refine (show (den C k) (cB Try.f106) Q (St0 x0 x1) = denJ (den C k) (lp C k) Js C (cB Try.f106) Q (St0 x0 x1) from (denJ_den _ _ _ _ _ _).symm).trans ((h (den C k) (lp C k)).trans ?_)
  simp only [a0]
  first | rfl | kernel_rfl
def run (x0 : List Int) (x1 : List Int) : Option (Int) := top (α := Int) fuel (fun (x4 : Int) => some x4) x0 x1
def F : Fn := ⟨(.pair (.sl (.int .u64)) (.pair (.sl (.int .u64)) .unit)), (.int .i64), false, fun x => run x.1 x.2.1⟩
set_option maxRecDepth 100000 in
theorem con : Con Try.prog 106 F := by
  refine con_of_den (C := C) (ctx_ok (by kernel_rfl) (by kernel_rfl) (by kernel_rfl) (by kernel_rfl) trivial) (by kernel_rfl) Try.func106 (c := cB Try.f106) (by kernel_rfl) (by kernel_rfl) F fuel (fun x => by simp [F, spread, Try.ntmps106]) ?_
  intro x r h
  rw [← h]
  have h1 : start F Try.f106.ntmps x = (St0 x.1 x.2.1) := by kernel_rfl
  rw [h1]
  refine (top_eq fuel (fin C Try.f106.results.toList F.rs F.multi) x.1 x.2.1).trans ?_
  kernel_rfl
theorem named : Named Try.prog 106 := named_of Try.func106 (by kernel_rfl) (by kernel_rfl)
end Go.Bx.basculeref_compare
namespace Go.Bx.wide_Bytes
open Go Go.Proofs Go.Bx
set_option maxRecDepth 100000
set_option linter.unusedVariables false
def Js : List Nat := [8]
def C : Ctx := ⟨[(5, (.int .u8)), (54, (.int .u64)), (56, (.arr 4 (.int .u64))), (69, (.arr 32 (.int .u8)))], [], [], fnL [], noSh, [], invL [], [(2, [2]), (1, [2, 3]), (4, [1, 2, 3, 5]), (9, [1, 2, 3, 5]), (21, [2, 3])], [], [], 0, 0⟩
def St0 (x0 : List Int) : St := stL 22 [(0, .data (.arr 4 (.int .u64)) x0)] []
def St1 (x5 : Int) (c1 : List Int) (c2 : List Int) (c3 : List Int) : St := stL 22 [(1, .ref 1 0 []), (2, .ref 2 0 []), (3, .ref 3 0 []), (5, .data (.int .i64) x5)] [(1, .cell (.arr 4 (.int .u64)) (.data (.arr 4 (.int .u64)) c1) false), (2, .cell (.arr 32 (.int .u8)) (.data (.arr 32 (.int .u8)) c2) false), (3, .cell (.arr 32 (.int .u8)) (.data (.arr 32 (.int .u8)) c3) false)]
noncomputable def cd0 : Code := cL (cL (cR (cL (cR (cR (cB Try.f81))))))
def St2 (c2 : List Int) (c3 : List Int) : St := stL 22 [(2, .ref 2 0 []), (3, .ref 3 0 [])] [(2, .cell (.arr 32 (.int .u8)) (.data (.arr 32 (.int .u8)) c2) false), (3, .cell (.arr 32 (.int .u8)) (.data (.arr 32 (.int .u8)) c3) false)]
def l0s {α : Type} (Nx : Int → (List Int) → (List Int) → (List Int) → Option α) (Xt0 : (List Int) → (List Int) → Option α) (x5 : Int) (c1 : List Int) (c2 : List Int) (c3 : List Int) : Option α :=
  if (decide (x5 < 32)) = true then
    if 0 ≤ (IntKind.i64.wrap (Int.tdiv x5 8)) ∧ (IntKind.i64.wrap (Int.tdiv x5 8)) < (4 : Int) then
      if 0 ≤ (IntKind.i64.wrap (8 * (Int.tmod x5 8))) then
        if 0 ≤ (IntKind.i64.wrap (31 - x5)) ∧ (IntKind.i64.wrap (31 - x5)) < (32 : Int) then
          Nx (IntKind.i64.wrap (x5 + 1)) c1 c2 (List.set c3 (Int.toNat (IntKind.i64.wrap (31 - x5))) (IntKind.u8.wrap (shrI .u64 (List.getD c1 (Int.toNat (IntKind.i64.wrap (Int.tdiv x5 8))) 0) (IntKind.i64.wrap (8 * (Int.tmod x5 8))))))
        else none
      else none
    else none
  else
    Xt0 c2 c3
theorem l0s_eq {α : Type} (k : Nat) (next : St → Option α) (Q : Ex → St → Option α) (x5 : Int) (c1 : List Int) (c2 : List Int) (c3 : List Int) :
    rnd C k cd0 9 Q next (St1 x5 c1 c2 c3) = l0s (fun (x5 : Int) (c1 : List Int) (c2 : List Int) (c3 : List Int) => next (St1 x5 c1 c2 c3)) (fun (c2 : List Int) (c3 : List Int) => Q (.exit 0) (St2 c2 c3)) x5 c1 c2 c3 := by
  have h : ∀ (D L : DT α), denJ D L Js C cd0 (lq C 9 next Q) (St1 x5 c1 c2 c3) =
        if (decide (x5 < 32)) = true then
          if 0 ≤ (IntKind.i64.wrap (Int.tdiv x5 8)) ∧ (IntKind.i64.wrap (Int.tdiv x5 8)) < (4 : Int) then
            if 0 ≤ (IntKind.i64.wrap (8 * (Int.tmod x5 8))) then
              if 0 ≤ (IntKind.i64.wrap (31 - x5)) ∧ (IntKind.i64.wrap (31 - x5)) < (32 : Int) then
                next (St1 (IntKind.i64.wrap (x5 + 1)) c1 c2 (List.set c3 (Int.toNat (IntKind.i64.wrap (31 - x5))) (IntKind.u8.wrap (shrI .u64 (List.getD c1 (Int.toNat (IntKind.i64.wrap (Int.tdiv x5 8))) 0) (IntKind.i64.wrap (8 * (Int.tmod x5 8)))))))
              else none
            else none
          else none
        else
          Q (.exit 0) (St2 c2 c3) := by
    intro D L; kernel_rfl
  refine (show rnd C k cd0 9 Q next (St1 x5 c1 c2 c3) = denJ (den C k) (lp C k) Js C cd0 (lq C 9 next Q) (St1 x5 c1 c2 c3) from (denJ_den _ _ _ _ _ _).symm).trans ((h (den C k) (lp C k)).trans ?_)
  first | rfl | kernel_rfl
def l0 {α : Type} (k : Nat) (Xt0 : (List Int) → (List Int) → Option α) : Nat → Int → (List Int) → (List Int) → (List Int) → Option α
  | 0, _, _, _, _ => none
  | n + 1, x5, c1, c2, c3 => l0s (l0 k Xt0 n) Xt0 x5 c1 c2 c3
theorem l0_eq {α : Type} (k : Nat) (Q : Ex → St → Option α) : ∀ (n : Nat) (x5 : Int) (c1 : List Int) (c2 : List Int) (c3 : List Int), iter (rnd C k cd0 9 Q) n (St1 x5 c1 c2 c3) = l0 k (fun (c2 : List Int) (c3 : List Int) => Q (.exit 0) (St2 c2 c3)) n x5 c1 c2 c3
  | 0, _, _, _, _ => rfl
  | n + 1, x5, c1, c2, c3 => (iter_succ _ _ _).trans ((l0s_eq k (iter (rnd C k cd0 9 Q) n) Q x5 c1 c2 c3).trans (congrArg (fun N => l0s N (fun (c2 : List Int) (c3 : List Int) => Q (.exit 0) (St2 c2 c3)) x5 c1 c2 c3) (funext fun x5 => funext fun c1 => funext fun c2 => funext fun c3 => l0_eq k Q n x5 c1 c2 c3)))
theorem l0_congr {α : Type} (k : Nat) (Xt0 : (List Int) → (List Int) → Option α) (Xt0q : (List Int) → (List Int) → Option α) (hXt0 : ∀ (c2 : List Int) (c3 : List Int), Xt0 c2 c3 = Xt0q c2 c3) (n : Nat) (x5 : Int) (c1 : List Int) (c2 : List Int) (c3 : List Int) : l0 k Xt0 n x5 c1 c2 c3 = l0 k Xt0q n x5 c1 c2 c3 := by
  obtain rfl : Xt0 = Xt0q := by funext c2; funext c3; exact hXt0 c2 c3
  rfl
noncomputable def cd1 : Code := cR (cR (cR (cB Try.f81)))
def St3 (c2 : List Int) (c3 : List Int) : St := stL 22 [(2, .ref 2 0 []), (3, .ref 3 0 [])] [(2, .cell (.arr 32 (.int .u8)) (.data (.arr 32 (.int .u8)) c2) false), (3, .cell (.arr 32 (.int .u8)) (.data (.arr 32 (.int .u8)) c3) false)]
def St4 (c2 : List Int) : St := stL 22 [(2, .ref 2 0 [])] [(2, .cell (.arr 32 (.int .u8)) (.data (.arr 32 (.int .u8)) c2) false)]
def j0 {α : Type} (Rt : (List Int) → Option α) (c2 : List Int) (c3 : List Int) : Option α :=
  Rt c3
theorem j0_eq {α : Type} (k : Nat) (Q : Ex → St → Option α) (c2 : List Int) (c3 : List Int) :
    (den C k) cd1 Q (St3 c2 c3) = j0 (fun (c2 : List Int) => Q .ret (St4 c2)) c2 c3 := by
  have h : ∀ (D L : DT α), denJ D L Js C cd1 Q (St3 c2 c3) =
        Q .ret (St4 c3) := by
    intro D L; kernel_rfl
  refine (show (den C k) cd1 Q (St3 c2 c3) = denJ (den C k) (lp C k) Js C cd1 Q (St3 c2 c3) from (denJ_den _ _ _ _ _ _).symm).trans ((h (den C k) (lp C k)).trans ?_)
  first | rfl | kernel_rfl
theorem a0 {α : Type} (k : Nat) (Q : Ex → St → Option α) (x5 : Int) (c1 : List Int) (c2 : List Int) (c3 : List Int) :
    (lp C k) cd0 (blkQ C 0 (sq (den C k) (lp C k) Js C cd1 Q)) (St1 x5 c1 c2 c3) = l0 k (fun (c2 : List Int) (c3 : List Int) => j0 (fun (c2 : List Int) => Q .ret (St4 c2)) c2 c3) k x5 c1 c2 c3 :=
  (show (lp C k) cd0 (blkQ C 0 (sq (den C k) (lp C k) Js C cd1 Q)) (St1 x5 c1 c2 c3) = iter (rnd C k cd0 9 (blkQ C 0 (sq (den C k) (lp C k) Js C cd1 Q))) k (St1 x5 c1 c2 c3) by kernel_rfl).trans ((l0_eq k (blkQ C 0 (sq (den C k) (lp C k) Js C cd1 Q)) k x5 c1 c2 c3).trans (l0_congr k _ _ (fun c2 c3 => ((show (blkQ C 0 (sq (den C k) (lp C k) Js C cd1 Q)) (.exit 0) (St2 c2 c3) = (den C k) cd1 Q (St3 c2 c3) by kernel_rfl).trans (by simp only [j0_eq]))) k x5 c1 c2 c3))
def top {α : Type} (k : Nat) (Rt : (List Int) → Option α) (x0 : List Int) : Option α :=
  l0 k (fun (c2 : List Int) (c3 : List Int) => j0 Rt c2 c3) k 0 x0 (List.replicate 32 0) (List.replicate 32 0)
theorem top_eq {α : Type} (k : Nat) (Q : Ex → St → Option α) (x0 : List Int) :
    (den C k) (cB Try.f81) Q (St0 x0) = top k (fun (c2 : List Int) => Q .ret (St4 c2)) x0 := by
  have h : ∀ (D L : DT α), denJ D L Js C (cB Try.f81) Q (St0 x0) =
        L cd0 (blkQ C 0 (sq D L Js C cd1 Q)) (St1 0 x0 (List.replicate 32 0) (List.replicate 32 0)) := by
    intro D L; kernel_rfl
  refine (show (den C k) (cB Try.f81) Q (St0 x0) = denJ (den C k) (lp C k) Js C (cB Try.f81) Q (St0 x0) from (denJ_den _ _ _ _ _ _).symm).trans ((h (den C k) (lp C k)).trans ?_)
  simp only [a0]
  first | rfl | kernel_rfl
def run (x0 : List Int) : Option (List Int) := top (α := List Int) fuel (fun (c2 : List Int) => some c2) x0
def F : Fn := ⟨(.pair (.arr 4 (.int .u64)) .unit), (.arr 32 (.int .u8)), false, fun x => run x.1⟩
set_option maxRecDepth 100000 in
theorem con : Con Try.prog 81 F := by
  refine con_of_den (C := C) (ctx_ok (by kernel_rfl) (by kernel_rfl) (by kernel_rfl) (by kernel_rfl) trivial) (by kernel_rfl) Try.func81 (c := cB Try.f81) (by kernel_rfl) (by kernel_rfl) F fuel (fun x => by simp [F, spread, Try.ntmps81]) ?_
  intro x r h
  rw [← h]
  have h1 : start F Try.f81.ntmps x = (St0 x.1) := by kernel_rfl
  rw [h1]
  refine (top_eq fuel (fin C Try.f81.results.toList F.rs F.multi) x.1).trans ?_
  kernel_rfl
theorem named : Named Try.prog 81 := named_of Try.func81 (by kernel_rfl) (by kernel_rfl)
end Go.Bx.wide_Bytes
namespace Go.Bx.basculeref_big
open Go Go.Proofs Go.Bx
set_option maxRecDepth 100000
set_option linter.unusedVariables false
def Js : List Nat := [8]
def C : Ctx := ⟨[(3, (.int .i64)), (5, (.int .u8)), (9, .str), (54, (.int .u64)), (59, (.sl (.int .u8)))], [], [], fnL [], noSh, [], invL [], [(2, [4]), (1, [5]), (4, [0, 5, 6, 7]), (9, [0, 5, 6, 7]), (21, [5])], [], [], 0, 0⟩
def St0 (x0 : Int) (x1 : Int) : St := stL 19 [(0, .data (.int .u64) x0), (1, .data (.int .i64) x1)] []
def St1 (x0 : Int) (x5 : List Int) (x6 : Int) (x7 : Int) : St := stL 19 [(0, .data (.int .u64) x0), (5, .data .str x5), (6, .data (.int .i64) x6), (7, .data (.int .i64) x7)] []
noncomputable def cd0 : Code := cL (cL (cR (cL (cR (cR (cB Try.f85))))))
def St2 (x5 : List Int) : St := stL 19 [(5, .data .str x5)] []
def l0s {α : Type} (Nx : Int → (List Int) → Int → Int → Option α) (Xt0 : (List Int) → Option α) (x0 : Int) (x5 : List Int) (x6 : Int) (x7 : Int) : Option α :=
  if (decide (x7 < x6)) = true then
    if Nat.ble (1 + x5.length) 9223372036854775807 = true then
      Nx (shrI .u64 x0 8) ([(IntKind.u8.wrap x0)] ++ x5) x6 (IntKind.i64.wrap (x7 + 1))
    else none
  else
    Xt0 x5
theorem l0s_eq {α : Type} (k : Nat) (next : St → Option α) (Q : Ex → St → Option α) (x0 : Int) (x5 : List Int) (x6 : Int) (x7 : Int) :
    rnd C k cd0 9 Q next (St1 x0 x5 x6 x7) = l0s (fun (x0 : Int) (x5 : List Int) (x6 : Int) (x7 : Int) => next (St1 x0 x5 x6 x7)) (fun (x5 : List Int) => Q (.exit 0) (St2 x5)) x0 x5 x6 x7 := by
  have h : ∀ (D L : DT α), denJ D L Js C cd0 (lq C 9 next Q) (St1 x0 x5 x6 x7) =
        if (decide (x7 < x6)) = true then
          if Nat.ble (1 + x5.length) 9223372036854775807 = true then
            next (St1 (shrI .u64 x0 8) ([(IntKind.u8.wrap x0)] ++ x5) x6 (IntKind.i64.wrap (x7 + 1)))
          else none
        else
          Q (.exit 0) (St2 x5) := by
    intro D L; kernel_rfl
  refine (show rnd C k cd0 9 Q next (St1 x0 x5 x6 x7) = denJ (den C k) (lp C k) Js C cd0 (lq C 9 next Q) (St1 x0 x5 x6 x7) from (denJ_den _ _ _ _ _ _).symm).trans ((h (den C k) (lp C k)).trans ?_)
  first | rfl | kernel_rfl
def l0 {α : Type} (k : Nat) (Xt0 : (List Int) → Option α) : Nat → Int → (List Int) → Int → Int → Option α
  | 0, _, _, _, _ => none
  | n + 1, x0, x5, x6, x7 => l0s (l0 k Xt0 n) Xt0 x0 x5 x6 x7
theorem l0_eq {α : Type} (k : Nat) (Q : Ex → St → Option α) : ∀ (n : Nat) (x0 : Int) (x5 : List Int) (x6 : Int) (x7 : Int), iter (rnd C k cd0 9 Q) n (St1 x0 x5 x6 x7) = l0 k (fun (x5 : List Int) => Q (.exit 0) (St2 x5)) n x0 x5 x6 x7
  | 0, _, _, _, _ => rfl
  | n + 1, x0, x5, x6, x7 => (iter_succ _ _ _).trans ((l0s_eq k (iter (rnd C k cd0 9 Q) n) Q x0 x5 x6 x7).trans (congrArg (fun N => l0s N (fun (x5 : List Int) => Q (.exit 0) (St2 x5)) x0 x5 x6 x7) (funext fun x0 => funext fun x5 => funext fun x6 => funext fun x7 => l0_eq k Q n x0 x5 x6 x7)))
theorem l0_congr {α : Type} (k : Nat) (Xt0 : (List Int) → Option α) (Xt0q : (List Int) → Option α) (hXt0 : ∀ (x5 : List Int), Xt0 x5 = Xt0q x5) (n : Nat) (x0 : Int) (x5 : List Int) (x6 : Int) (x7 : Int) : l0 k Xt0 n x0 x5 x6 x7 = l0 k Xt0q n x0 x5 x6 x7 := by
  obtain rfl : Xt0 = Xt0q := by funext x5; exact hXt0 x5
  rfl
noncomputable def cd1 : Code := cR (cR (cR (cB Try.f85)))
def St3 (x5 : List Int) : St := stL 19 [(5, .data .str x5)] []
def St4 (x4 : List Int) : St := stL 19 [(4, .data .str x4)] []
def j0 {α : Type} (Rt : (List Int) → Option α) (x5 : List Int) : Option α :=
  Rt x5
theorem j0_eq {α : Type} (k : Nat) (Q : Ex → St → Option α) (x5 : List Int) :
    (den C k) cd1 Q (St3 x5) = j0 (fun (x4 : List Int) => Q .ret (St4 x4)) x5 := by
  have h : ∀ (D L : DT α), denJ D L Js C cd1 Q (St3 x5) =
        Q .ret (St4 x5) := by
    intro D L; kernel_rfl
  refine (show (den C k) cd1 Q (St3 x5) = denJ (den C k) (lp C k) Js C cd1 Q (St3 x5) from (denJ_den _ _ _ _ _ _).symm).trans ((h (den C k) (lp C k)).trans ?_)
  first | rfl | kernel_rfl
theorem a0 {α : Type} (k : Nat) (Q : Ex → St → Option α) (x0 : Int) (x5 : List Int) (x6 : Int) (x7 : Int) :
    (lp C k) cd0 (blkQ C 0 (sq (den C k) (lp C k) Js C cd1 Q)) (St1 x0 x5 x6 x7) = l0 k (fun (x5 : List Int) => j0 (fun (x4 : List Int) => Q .ret (St4 x4)) x5) k x0 x5 x6 x7 :=
  (show (lp C k) cd0 (blkQ C 0 (sq (den C k) (lp C k) Js C cd1 Q)) (St1 x0 x5 x6 x7) = iter (rnd C k cd0 9 (blkQ C 0 (sq (den C k) (lp C k) Js C cd1 Q))) k (St1 x0 x5 x6 x7) by kernel_rfl).trans ((l0_eq k (blkQ C 0 (sq (den C k) (lp C k) Js C cd1 Q)) k x0 x5 x6 x7).trans (l0_congr k _ _ (fun x5 => ((show (blkQ C 0 (sq (den C k) (lp C k) Js C cd1 Q)) (.exit 0) (St2 x5) = (den C k) cd1 Q (St3 x5) by kernel_rfl).trans (by simp only [j0_eq]))) k x0 x5 x6 x7))
def top {α : Type} (k : Nat) (Rt : (List Int) → Option α) (x0 : Int) (x1 : Int) : Option α :=
  l0 k (fun (x5 : List Int) => j0 Rt x5) k x0 [] x1 0
theorem top_eq {α : Type} (k : Nat) (Q : Ex → St → Option α) (x0 : Int) (x1 : Int) :
    (den C k) (cB Try.f85) Q (St0 x0 x1) = top k (fun (x4 : List Int) => Q .ret (St4 x4)) x0 x1 := by
  have h : ∀ (D L : DT α), denJ D L Js C (cB Try.f85) Q (St0 x0 x1) =
        L cd0 (blkQ C 0 (sq D L Js C cd1 Q)) (St1 x0 [] x1 0) := by
    intro D L; kernel_rfl
  refine (show (den C k) (cB Try.f85) Q (St0 x0 x1) = denJ (den C k) (lp C k) Js C (cB Try.f85) Q (St0 x0 x1) from (denJ_den _ _ _ _ _ _).symm).trans ((h (den C k) (lp C k)).trans ?_)
  simp only [a0]
  first | rfl | kernel_rfl
def run (x0 : Int) (x1 : Int) : Option (List Int) := top (α := List Int) fuel (fun (x4 : List Int) => some x4) x0 x1
def F : Fn := ⟨(.pair (.int .u64) (.pair (.int .i64) .unit)), .str, false, fun x => run x.1 x.2.1⟩
set_option maxRecDepth 100000 in
theorem con : Con Try.prog 85 F := by
  refine con_of_den (C := C) (ctx_ok (by kernel_rfl) (by kernel_rfl) (by kernel_rfl) (by kernel_rfl) trivial) (by kernel_rfl) Try.func85 (c := cB Try.f85) (by kernel_rfl) (by kernel_rfl) F fuel (fun x => by simp [F, spread, Try.ntmps85]) ?_
  intro x r h
  rw [← h]
  have h1 : start F Try.f85.ntmps x = (St0 x.1 x.2.1) := by kernel_rfl
  rw [h1]
  refine (top_eq fuel (fin C Try.f85.results.toList F.rs F.multi) x.1 x.2.1).trans ?_
  kernel_rfl
theorem named : Named Try.prog 85 := named_of Try.func85 (by kernel_rfl) (by kernel_rfl)
end Go.Bx.basculeref_big
namespace Go.Bx.basculeref_text
open Go Go.Proofs Go.Bx
set_option maxRecDepth 100000
set_option linter.unusedVariables false
def Js : List Nat := []
def C : Ctx := ⟨[(9, .str), (54, (.int .u64)), (56, (.arr 4 (.int .u64)))], [], [], fnL [(85, Go.Bx.basculeref_big.F)], noSh, [], invL [], [(2, [2])], [], [], 0, 0⟩
def St0 (x0 : List Int) : St := stL 18 [(0, .data (.arr 4 (.int .u64)) x0)] []
def St1 (x2 : List Int) : St := stL 18 [(2, .data .str x2)] []
def top {α : Type} (Rt : (List Int) → Option α) (x0 : List Int) : Option α :=
  (Go.Bx.basculeref_big.run (List.getD x0 3 0) 8).bind fun y1 =>
  (Go.Bx.basculeref_big.run (List.getD x0 2 0) 8).bind fun y2 =>
  if Nat.ble (y1.length + y2.length) 9223372036854775807 = true then
    (Go.Bx.basculeref_big.run (List.getD x0 1 0) 8).bind fun y3 =>
    if Nat.ble ((y1 ++ y2).length + y3.length) 9223372036854775807 = true then
      (Go.Bx.basculeref_big.run (List.getD x0 0 0) 8).bind fun y4 =>
      if Nat.ble (((y1 ++ y2) ++ y3).length + y4.length) 9223372036854775807 = true then
        Rt (((y1 ++ y2) ++ y3) ++ y4)
      else none
    else none
  else none
theorem top_eq {α : Type} (k : Nat) (Q : Ex → St → Option α) (x0 : List Int) :
    (den C k) (cB Try.f86) Q (St0 x0) = top (fun (x2 : List Int) => Q .ret (St1 x2)) x0 := by
  have h : ∀ (D L : DT α), denJ D L Js C (cB Try.f86) Q (St0 x0) =
        (Go.Bx.basculeref_big.run (List.getD x0 3 0) 8).bind fun y1 =>
        (Go.Bx.basculeref_big.run (List.getD x0 2 0) 8).bind fun y2 =>
        if Nat.ble (y1.length + y2.length) 9223372036854775807 = true then
          (Go.Bx.basculeref_big.run (List.getD x0 1 0) 8).bind fun y3 =>
          if Nat.ble ((y1 ++ y2).length + y3.length) 9223372036854775807 = true then
            (Go.Bx.basculeref_big.run (List.getD x0 0 0) 8).bind fun y4 =>
            if Nat.ble (((y1 ++ y2) ++ y3).length + y4.length) 9223372036854775807 = true then
              Q .ret (St1 (((y1 ++ y2) ++ y3) ++ y4))
            else none
          else none
        else none := by
    intro D L; kernel_rfl
  refine (show (den C k) (cB Try.f86) Q (St0 x0) = denJ (den C k) (lp C k) Js C (cB Try.f86) Q (St0 x0) from (denJ_den _ _ _ _ _ _).symm).trans ((h (den C k) (lp C k)).trans ?_)
  first | rfl | kernel_rfl
def run (x0 : List Int) : Option (List Int) := top (α := List Int) (fun (x2 : List Int) => some x2) x0
def F : Fn := ⟨(.pair (.arr 4 (.int .u64)) .unit), .str, false, fun x => run x.1⟩
set_option maxRecDepth 100000 in
theorem con : Con Try.prog 86 F := by
  refine con_of_den (C := C) (ctx_ok (by kernel_rfl) (by kernel_rfl) (by kernel_rfl) (by kernel_rfl) ⟨.inl ⟨Go.Bx.basculeref_big.con, Go.Bx.basculeref_big.named⟩, trivial⟩) (by kernel_rfl) Try.func86 (c := cB Try.f86) (by kernel_rfl) (by kernel_rfl) F fuel (fun x => by simp [F, spread, Try.ntmps86]) ?_
  intro x r h
  rw [← h]
  have h1 : start F Try.f86.ntmps x = (St0 x.1) := by kernel_rfl
  rw [h1]
  refine (top_eq fuel (fin C Try.f86.results.toList F.rs F.multi) x.1).trans ?_
  kernel_rfl
theorem named : Named Try.prog 86 := named_of Try.func86 (by kernel_rfl) (by kernel_rfl)
end Go.Bx.basculeref_text
namespace Go.Bx.basculeref_word
open Go Go.Proofs Go.Bx
set_option maxRecDepth 100000
set_option linter.unusedVariables false
def Js : List Nat := [7]
def C : Ctx := ⟨[(5, (.int .u8)), (9, .str), (69, (.arr 32 (.int .u8)))], [], [], fnL [], noSh, [], invL [], [(2, [2]), (1, [2, 3]), (4, [0, 2, 3, 4]), (9, [0, 2, 3, 4]), (18, [2, 3])], [], [], 0, 0⟩
def St0 (x0 : List Int) : St := stL 21 [(0, .data .str x0)] []
def St1 (x0 : List Int) (x4 : Int) (c2 : List Int) (c3 : List Int) : St := stL 21 [(0, .data .str x0), (2, .ref 2 0 []), (3, .ref 3 0 []), (4, .data (.int .i64) x4)] [(2, .cell (.arr 32 (.int .u8)) (.data (.arr 32 (.int .u8)) c2) false), (3, .cell (.arr 32 (.int .u8)) (.data (.arr 32 (.int .u8)) c3) false)]
noncomputable def cd0 : Code := cL (cL (cR (cL (cR (cR (cB Try.f94))))))
def St2 (c2 : List Int) (c3 : List Int) : St := stL 21 [(2, .ref 2 0 []), (3, .ref 3 0 [])] [(2, .cell (.arr 32 (.int .u8)) (.data (.arr 32 (.int .u8)) c2) false), (3, .cell (.arr 32 (.int .u8)) (.data (.arr 32 (.int .u8)) c3) false)]
def l0s {α : Type} (Nx : (List Int) → Int → (List Int) → (List Int) → Option α) (Xt0 : (List Int) → (List Int) → Option α) (x0 : List Int) (x4 : Int) (c2 : List Int) (c3 : List Int) : Option α :=
  if (cond (decide (x4 < (x0.length : Int))) (decide (x4 < 32)) false) = true then
    if 0 ≤ x4 ∧ x4 < (x0.length : Int) then
      if 0 ≤ x4 ∧ x4 < (32 : Int) then
        Nx x0 (IntKind.i64.wrap (x4 + 1)) c2 (List.set c3 (Int.toNat x4) (List.getD x0 (Int.toNat x4) 0))
      else none
    else none
  else
    Xt0 c2 c3
theorem l0s_eq {α : Type} (k : Nat) (next : St → Option α) (Q : Ex → St → Option α) (x0 : List Int) (x4 : Int) (c2 : List Int) (c3 : List Int) :
    rnd C k cd0 9 Q next (St1 x0 x4 c2 c3) = l0s (fun (x0 : List Int) (x4 : Int) (c2 : List Int) (c3 : List Int) => next (St1 x0 x4 c2 c3)) (fun (c2 : List Int) (c3 : List Int) => Q (.exit 0) (St2 c2 c3)) x0 x4 c2 c3 := by
  have h : ∀ (D L : DT α), denJ D L Js C cd0 (lq C 9 next Q) (St1 x0 x4 c2 c3) =
        if (cond (decide (x4 < (x0.length : Int))) (decide (x4 < 32)) false) = true then
          if 0 ≤ x4 ∧ x4 < (x0.length : Int) then
            if 0 ≤ x4 ∧ x4 < (32 : Int) then
              next (St1 x0 (IntKind.i64.wrap (x4 + 1)) c2 (List.set c3 (Int.toNat x4) (List.getD x0 (Int.toNat x4) 0)))
            else none
          else none
        else
          Q (.exit 0) (St2 c2 c3) := by
    intro D L; kernel_rfl
  refine (show rnd C k cd0 9 Q next (St1 x0 x4 c2 c3) = denJ (den C k) (lp C k) Js C cd0 (lq C 9 next Q) (St1 x0 x4 c2 c3) from (denJ_den _ _ _ _ _ _).symm).trans ((h (den C k) (lp C k)).trans ?_)
  first | rfl | kernel_rfl
def l0 {α : Type} (k : Nat) (Xt0 : (List Int) → (List Int) → Option α) : Nat → (List Int) → Int → (List Int) → (List Int) → Option α
  | 0, _, _, _, _ => none
  | n + 1, x0, x4, c2, c3 => l0s (l0 k Xt0 n) Xt0 x0 x4 c2 c3
theorem l0_eq {α : Type} (k : Nat) (Q : Ex → St → Option α) : ∀ (n : Nat) (x0 : List Int) (x4 : Int) (c2 : List Int) (c3 : List Int), iter (rnd C k cd0 9 Q) n (St1 x0 x4 c2 c3) = l0 k (fun (c2 : List Int) (c3 : List Int) => Q (.exit 0) (St2 c2 c3)) n x0 x4 c2 c3
  | 0, _, _, _, _ => rfl
  | n + 1, x0, x4, c2, c3 => (iter_succ _ _ _).trans ((l0s_eq k (iter (rnd C k cd0 9 Q) n) Q x0 x4 c2 c3).trans (congrArg (fun N => l0s N (fun (c2 : List Int) (c3 : List Int) => Q (.exit 0) (St2 c2 c3)) x0 x4 c2 c3) (funext fun x0 => funext fun x4 => funext fun c2 => funext fun c3 => l0_eq k Q n x0 x4 c2 c3)))
theorem l0_congr {α : Type} (k : Nat) (Xt0 : (List Int) → (List Int) → Option α) (Xt0q : (List Int) → (List Int) → Option α) (hXt0 : ∀ (c2 : List Int) (c3 : List Int), Xt0 c2 c3 = Xt0q c2 c3) (n : Nat) (x0 : List Int) (x4 : Int) (c2 : List Int) (c3 : List Int) : l0 k Xt0 n x0 x4 c2 c3 = l0 k Xt0q n x0 x4 c2 c3 := by
  obtain rfl : Xt0 = Xt0q := by funext c2; funext c3; exact hXt0 c2 c3
  rfl
noncomputable def cd1 : Code := cR (cR (cR (cB Try.f94)))
def St3 (c2 : List Int) (c3 : List Int) : St := stL 21 [(2, .ref 2 0 []), (3, .ref 3 0 [])] [(2, .cell (.arr 32 (.int .u8)) (.data (.arr 32 (.int .u8)) c2) false), (3, .cell (.arr 32 (.int .u8)) (.data (.arr 32 (.int .u8)) c3) false)]
def St4 (c2 : List Int) : St := stL 21 [(2, .ref 2 0 [])] [(2, .cell (.arr 32 (.int .u8)) (.data (.arr 32 (.int .u8)) c2) false)]
def j0 {α : Type} (Rt : (List Int) → Option α) (c2 : List Int) (c3 : List Int) : Option α :=
  Rt c3
theorem j0_eq {α : Type} (k : Nat) (Q : Ex → St → Option α) (c2 : List Int) (c3 : List Int) :
    (den C k) cd1 Q (St3 c2 c3) = j0 (fun (c2 : List Int) => Q .ret (St4 c2)) c2 c3 := by
  have h : ∀ (D L : DT α), denJ D L Js C cd1 Q (St3 c2 c3) =
        Q .ret (St4 c3) := by
    intro D L; kernel_rfl
  refine (show (den C k) cd1 Q (St3 c2 c3) = denJ (den C k) (lp C k) Js C cd1 Q (St3 c2 c3) from (denJ_den _ _ _ _ _ _).symm).trans ((h (den C k) (lp C k)).trans ?_)
  first | rfl | kernel_rfl
theorem a0 {α : Type} (k : Nat) (Q : Ex → St → Option α) (x0 : List Int) (x4 : Int) (c2 : List Int) (c3 : List Int) :
    (lp C k) cd0 (blkQ C 0 (sq (den C k) (lp C k) Js C cd1 Q)) (St1 x0 x4 c2 c3) = l0 k (fun (c2 : List Int) (c3 : List Int) => j0 (fun (c2 : List Int) => Q .ret (St4 c2)) c2 c3) k x0 x4 c2 c3 :=
  (show (lp C k) cd0 (blkQ C 0 (sq (den C k) (lp C k) Js C cd1 Q)) (St1 x0 x4 c2 c3) = iter (rnd C k cd0 9 (blkQ C 0 (sq (den C k) (lp C k) Js C cd1 Q))) k (St1 x0 x4 c2 c3) by kernel_rfl).trans ((l0_eq k (blkQ C 0 (sq (den C k) (lp C k) Js C cd1 Q)) k x0 x4 c2 c3).trans (l0_congr k _ _ (fun c2 c3 => ((show (blkQ C 0 (sq (den C k) (lp C k) Js C cd1 Q)) (.exit 0) (St2 c2 c3) = (den C k) cd1 Q (St3 c2 c3) by kernel_rfl).trans (by simp only [j0_eq]))) k x0 x4 c2 c3))
def top {α : Type} (k : Nat) (Rt : (List Int) → Option α) (x0 : List Int) : Option α :=
  l0 k (fun (c2 : List Int) (c3 : List Int) => j0 Rt c2 c3) k x0 0 (List.replicate 32 0) (List.replicate 32 0)
theorem top_eq {α : Type} (k : Nat) (Q : Ex → St → Option α) (x0 : List Int) :
    (den C k) (cB Try.f94) Q (St0 x0) = top k (fun (c2 : List Int) => Q .ret (St4 c2)) x0 := by
  have h : ∀ (D L : DT α), denJ D L Js C (cB Try.f94) Q (St0 x0) =
        L cd0 (blkQ C 0 (sq D L Js C cd1 Q)) (St1 x0 0 (List.replicate 32 0) (List.replicate 32 0)) := by
    intro D L; kernel_rfl
  refine (show (den C k) (cB Try.f94) Q (St0 x0) = denJ (den C k) (lp C k) Js C (cB Try.f94) Q (St0 x0) from (denJ_den _ _ _ _ _ _).symm).trans ((h (den C k) (lp C k)).trans ?_)
  simp only [a0]
  first | rfl | kernel_rfl
def run (x0 : List Int) : Option (List Int) := top (α := List Int) fuel (fun (c2 : List Int) => some c2) x0
def F : Fn := ⟨(.pair .str .unit), (.arr 32 (.int .u8)), false, fun x => run x.1⟩
set_option maxRecDepth 100000 in
theorem con : Con Try.prog 94 F := by
  refine con_of_den (C := C) (ctx_ok (by kernel_rfl) (by kernel_rfl) (by kernel_rfl) (by kernel_rfl) trivial) (by kernel_rfl) Try.func94 (c := cB Try.f94) (by kernel_rfl) (by kernel_rfl) F fuel (fun x => by simp [F, spread, Try.ntmps94]) ?_
  intro x r h
  rw [← h]
  have h1 : start F Try.f94.ntmps x = (St0 x.1) := by kernel_rfl
  rw [h1]
  refine (top_eq fuel (fin C Try.f94.results.toList F.rs F.multi) x.1).trans ?_
  kernel_rfl
theorem named : Named Try.prog 94 := named_of Try.func94 (by kernel_rfl) (by kernel_rfl)
end Go.Bx.basculeref_word
namespace Go.Bx.basculeref_number
open Go Go.Proofs Go.Bx
set_option maxRecDepth 100000
set_option linter.unusedVariables false
def Js : List Nat := [7]
def C : Ctx := ⟨[(3, (.int .i64)), (5, (.int .u8)), (9, .str), (54, (.int .u64))], [], [], fnL [], noSh, [], invL [], [(2, [2]), (1, [3]), (4, [0, 3, 4]), (9, [0, 3, 4]), (18, [3])], [], [], 0, 0⟩
def St0 (x0 : List Int) : St := stL 20 [(0, .data .str x0)] []
def St1 (x0 : List Int) (x3 : Int) (x4 : Int) : St := stL 20 [(0, .data .str x0), (3, .data (.int .u64) x3), (4, .data (.int .i64) x4)] []
noncomputable def cd0 : Code := cL (cL (cR (cL (cR (cR (cB Try.f92))))))
def St2 (x3 : Int) : St := stL 20 [(3, .data (.int .u64) x3)] []
def l0s {α : Type} (Nx : (List Int) → Int → Int → Option α) (Xt0 : Int → Option α) (x0 : List Int) (x3 : Int) (x4 : Int) : Option α :=
  if (decide (x4 < (x0.length : Int))) = true then
    if 0 ≤ x4 ∧ x4 < (x0.length : Int) then
      Nx x0 (IntKind.u64.wrap ((IntKind.u64.wrap (x3 * 256)) + (IntKind.u64.wrap (List.getD x0 (Int.toNat x4) 0)))) (IntKind.i64.wrap (x4 + 1))
    else none
  else
    Xt0 x3
theorem l0s_eq {α : Type} (k : Nat) (next : St → Option α) (Q : Ex → St → Option α) (x0 : List Int) (x3 : Int) (x4 : Int) :
    rnd C k cd0 9 Q next (St1 x0 x3 x4) = l0s (fun (x0 : List Int) (x3 : Int) (x4 : Int) => next (St1 x0 x3 x4)) (fun (x3 : Int) => Q (.exit 0) (St2 x3)) x0 x3 x4 := by
  have h : ∀ (D L : DT α), denJ D L Js C cd0 (lq C 9 next Q) (St1 x0 x3 x4) =
        if (decide (x4 < (x0.length : Int))) = true then
          if 0 ≤ x4 ∧ x4 < (x0.length : Int) then
            next (St1 x0 (IntKind.u64.wrap ((IntKind.u64.wrap (x3 * 256)) + (IntKind.u64.wrap (List.getD x0 (Int.toNat x4) 0)))) (IntKind.i64.wrap (x4 + 1)))
          else none
        else
          Q (.exit 0) (St2 x3) := by
    intro D L; kernel_rfl
  refine (show rnd C k cd0 9 Q next (St1 x0 x3 x4) = denJ (den C k) (lp C k) Js C cd0 (lq C 9 next Q) (St1 x0 x3 x4) from (denJ_den _ _ _ _ _ _).symm).trans ((h (den C k) (lp C k)).trans ?_)
  first | rfl | kernel_rfl
def l0 {α : Type} (k : Nat) (Xt0 : Int → Option α) : Nat → (List Int) → Int → Int → Option α
  | 0, _, _, _ => none
  | n + 1, x0, x3, x4 => l0s (l0 k Xt0 n) Xt0 x0 x3 x4
theorem l0_eq {α : Type} (k : Nat) (Q : Ex → St → Option α) : ∀ (n : Nat) (x0 : List Int) (x3 : Int) (x4 : Int), iter (rnd C k cd0 9 Q) n (St1 x0 x3 x4) = l0 k (fun (x3 : Int) => Q (.exit 0) (St2 x3)) n x0 x3 x4
  | 0, _, _, _ => rfl
  | n + 1, x0, x3, x4 => (iter_succ _ _ _).trans ((l0s_eq k (iter (rnd C k cd0 9 Q) n) Q x0 x3 x4).trans (congrArg (fun N => l0s N (fun (x3 : Int) => Q (.exit 0) (St2 x3)) x0 x3 x4) (funext fun x0 => funext fun x3 => funext fun x4 => l0_eq k Q n x0 x3 x4)))
theorem l0_congr {α : Type} (k : Nat) (Xt0 : Int → Option α) (Xt0q : Int → Option α) (hXt0 : ∀ (x3 : Int), Xt0 x3 = Xt0q x3) (n : Nat) (x0 : List Int) (x3 : Int) (x4 : Int) : l0 k Xt0 n x0 x3 x4 = l0 k Xt0q n x0 x3 x4 := by
  obtain rfl : Xt0 = Xt0q := by funext x3; exact hXt0 x3
  rfl
noncomputable def cd1 : Code := cR (cR (cR (cB Try.f92)))
def St3 (x3 : Int) : St := stL 20 [(3, .data (.int .u64) x3)] []
def St4 (x2 : Int) : St := stL 20 [(2, .data (.int .i64) x2)] []
def j0 {α : Type} (Rt : Int → Option α) (x3 : Int) : Option α :=
  Rt (IntKind.i64.wrap x3)
theorem j0_eq {α : Type} (k : Nat) (Q : Ex → St → Option α) (x3 : Int) :
    (den C k) cd1 Q (St3 x3) = j0 (fun (x2 : Int) => Q .ret (St4 x2)) x3 := by
  have h : ∀ (D L : DT α), denJ D L Js C cd1 Q (St3 x3) =
        Q .ret (St4 (IntKind.i64.wrap x3)) := by
    intro D L; kernel_rfl
  refine (show (den C k) cd1 Q (St3 x3) = denJ (den C k) (lp C k) Js C cd1 Q (St3 x3) from (denJ_den _ _ _ _ _ _).symm).trans ((h (den C k) (lp C k)).trans ?_)
  first | rfl | kernel_rfl
theorem a0 {α : Type} (k : Nat) (Q : Ex → St → Option α) (x0 : List Int) (x3 : Int) (x4 : Int) :
    (lp C k) cd0 (blkQ C 0 (sq (den C k) (lp C k) Js C cd1 Q)) (St1 x0 x3 x4) = l0 k (fun (x3 : Int) => j0 (fun (x2 : Int) => Q .ret (St4 x2)) x3) k x0 x3 x4 :=
  (show (lp C k) cd0 (blkQ C 0 (sq (den C k) (lp C k) Js C cd1 Q)) (St1 x0 x3 x4) = iter (rnd C k cd0 9 (blkQ C 0 (sq (den C k) (lp C k) Js C cd1 Q))) k (St1 x0 x3 x4) by kernel_rfl).trans ((l0_eq k (blkQ C 0 (sq (den C k) (lp C k) Js C cd1 Q)) k x0 x3 x4).trans (l0_congr k _ _ (fun x3 => ((show (blkQ C 0 (sq (den C k) (lp C k) Js C cd1 Q)) (.exit 0) (St2 x3) = (den C k) cd1 Q (St3 x3) by kernel_rfl).trans (by simp only [j0_eq]))) k x0 x3 x4))
def top {α : Type} (k : Nat) (Rt : Int → Option α) (x0 : List Int) : Option α :=
  l0 k (fun (x3 : Int) => j0 Rt x3) k x0 0 0
theorem top_eq {α : Type} (k : Nat) (Q : Ex → St → Option α) (x0 : List Int) :
    (den C k) (cB Try.f92) Q (St0 x0) = top k (fun (x2 : Int) => Q .ret (St4 x2)) x0 := by
  have h : ∀ (D L : DT α), denJ D L Js C (cB Try.f92) Q (St0 x0) =
        L cd0 (blkQ C 0 (sq D L Js C cd1 Q)) (St1 x0 0 0) := by
    intro D L; kernel_rfl
  refine (show (den C k) (cB Try.f92) Q (St0 x0) = denJ (den C k) (lp C k) Js C (cB Try.f92) Q (St0 x0) from (denJ_den _ _ _ _ _ _).symm).trans ((h (den C k) (lp C k)).trans ?_)
  simp only [a0]
  first | rfl | kernel_rfl
def run (x0 : List Int) : Option (Int) := top (α := Int) fuel (fun (x2 : Int) => some x2) x0
def F : Fn := ⟨(.pair .str .unit), (.int .i64), false, fun x => run x.1⟩
set_option maxRecDepth 100000 in
theorem con : Con Try.prog 92 F := by
  refine con_of_den (C := C) (ctx_ok (by kernel_rfl) (by kernel_rfl) (by kernel_rfl) (by kernel_rfl) trivial) (by kernel_rfl) Try.func92 (c := cB Try.f92) (by kernel_rfl) (by kernel_rfl) F fuel (fun x => by simp [F, spread, Try.ntmps92]) ?_
  intro x r h
  rw [← h]
  have h1 : start F Try.f92.ntmps x = (St0 x.1) := by kernel_rfl
  rw [h1]
  refine (top_eq fuel (fin C Try.f92.results.toList F.rs F.multi) x.1).trans ?_
  kernel_rfl
theorem named : Named Try.prog 92 := named_of Try.func92 (by kernel_rfl) (by kernel_rfl)
end Go.Bx.basculeref_number
namespace Go.Bx.wide_From
open Go Go.Proofs Go.Bx
set_option maxRecDepth 100000
set_option linter.unusedVariables false
def Js : List Nat := [9]
def C : Ctx := ⟨[(5, (.int .u8)), (54, (.int .u64)), (56, (.arr 4 (.int .u64))), (69, (.arr 32 (.int .u8)))], [], [], fnL [], noSh, [], invL [], [(2, [2]), (1, [2, 3]), (4, [2, 3, 7, 8]), (9, [2, 3, 7, 8]), (24, [2, 3])], [], [], 0, 0⟩
def St0 (x0 : List Int) : St := stL 28 [(0, .data (.arr 32 (.int .u8)) x0)] []
def St1 (x7 : List Int) (x8 : Int) (c2 : List Int) (c3 : List Int) : St := stL 28 [(2, .ref 2 0 []), (3, .ref 3 0 []), (7, .data (.arr 32 (.int .u8)) x7), (8, .data (.int .i64) x8)] [(2, .cell (.arr 4 (.int .u64)) (.data (.arr 4 (.int .u64)) c2) false), (3, .cell (.arr 4 (.int .u64)) (.data (.arr 4 (.int .u64)) c3) false)]
noncomputable def cd0 : Code := cL (cL (cR (cL (cR (cR (cB Try.f89))))))
def St2 (c2 : List Int) (c3 : List Int) : St := stL 28 [(2, .ref 2 0 []), (3, .ref 3 0 [])] [(2, .cell (.arr 4 (.int .u64)) (.data (.arr 4 (.int .u64)) c2) false), (3, .cell (.arr 4 (.int .u64)) (.data (.arr 4 (.int .u64)) c3) false)]
def l0s {α : Type} (Nx : (List Int) → Int → (List Int) → (List Int) → Option α) (Xt0 : (List Int) → (List Int) → Option α) (x7 : List Int) (x8 : Int) (c2 : List Int) (c3 : List Int) : Option α :=
  if (decide (x8 < 32)) = true then
    if 0 ≤ x8 ∧ x8 < (32 : Int) then
      if 0 ≤ (IntKind.i64.wrap (Int.tdiv (IntKind.i64.wrap (31 - x8)) 8)) ∧ (IntKind.i64.wrap (Int.tdiv (IntKind.i64.wrap (31 - x8)) 8)) < (4 : Int) then
        if 0 ≤ (IntKind.i64.wrap (8 * (Int.tmod (IntKind.i64.wrap (31 - x8)) 8))) then
          if 0 ≤ (IntKind.i64.wrap (Int.tdiv (IntKind.i64.wrap (31 - x8)) 8)) ∧ (IntKind.i64.wrap (Int.tdiv (IntKind.i64.wrap (31 - x8)) 8)) < (4 : Int) then
            Nx x7 (IntKind.i64.wrap (x8 + 1)) c2 (List.set c3 (Int.toNat (IntKind.i64.wrap (Int.tdiv (IntKind.i64.wrap (31 - x8)) 8))) (bor .u64 (List.getD c3 (Int.toNat (IntKind.i64.wrap (Int.tdiv (IntKind.i64.wrap (31 - x8)) 8))) 0) (shlI .u64 (IntKind.u64.wrap (List.getD x7 (Int.toNat x8) 0)) (IntKind.i64.wrap (8 * (Int.tmod (IntKind.i64.wrap (31 - x8)) 8))))))
          else none
        else none
      else none
    else none
  else
    Xt0 c2 c3
theorem l0s_eq {α : Type} (k : Nat) (next : St → Option α) (Q : Ex → St → Option α) (x7 : List Int) (x8 : Int) (c2 : List Int) (c3 : List Int) :
    rnd C k cd0 9 Q next (St1 x7 x8 c2 c3) = l0s (fun (x7 : List Int) (x8 : Int) (c2 : List Int) (c3 : List Int) => next (St1 x7 x8 c2 c3)) (fun (c2 : List Int) (c3 : List Int) => Q (.exit 0) (St2 c2 c3)) x7 x8 c2 c3 := by
  have h : ∀ (D L : DT α), denJ D L Js C cd0 (lq C 9 next Q) (St1 x7 x8 c2 c3) =
        if (decide (x8 < 32)) = true then
          if 0 ≤ x8 ∧ x8 < (32 : Int) then
            if 0 ≤ (IntKind.i64.wrap (Int.tdiv (IntKind.i64.wrap (31 - x8)) 8)) ∧ (IntKind.i64.wrap (Int.tdiv (IntKind.i64.wrap (31 - x8)) 8)) < (4 : Int) then
              if 0 ≤ (IntKind.i64.wrap (8 * (Int.tmod (IntKind.i64.wrap (31 - x8)) 8))) then
                if 0 ≤ (IntKind.i64.wrap (Int.tdiv (IntKind.i64.wrap (31 - x8)) 8)) ∧ (IntKind.i64.wrap (Int.tdiv (IntKind.i64.wrap (31 - x8)) 8)) < (4 : Int) then
                  next (St1 x7 (IntKind.i64.wrap (x8 + 1)) c2 (List.set c3 (Int.toNat (IntKind.i64.wrap (Int.tdiv (IntKind.i64.wrap (31 - x8)) 8))) (bor .u64 (List.getD c3 (Int.toNat (IntKind.i64.wrap (Int.tdiv (IntKind.i64.wrap (31 - x8)) 8))) 0) (shlI .u64 (IntKind.u64.wrap (List.getD x7 (Int.toNat x8) 0)) (IntKind.i64.wrap (8 * (Int.tmod (IntKind.i64.wrap (31 - x8)) 8)))))))
                else none
              else none
            else none
          else none
        else
          Q (.exit 0) (St2 c2 c3) := by
    intro D L; kernel_rfl
  refine (show rnd C k cd0 9 Q next (St1 x7 x8 c2 c3) = denJ (den C k) (lp C k) Js C cd0 (lq C 9 next Q) (St1 x7 x8 c2 c3) from (denJ_den _ _ _ _ _ _).symm).trans ((h (den C k) (lp C k)).trans ?_)
  first | rfl | kernel_rfl
def l0 {α : Type} (k : Nat) (Xt0 : (List Int) → (List Int) → Option α) : Nat → (List Int) → Int → (List Int) → (List Int) → Option α
  | 0, _, _, _, _ => none
  | n + 1, x7, x8, c2, c3 => l0s (l0 k Xt0 n) Xt0 x7 x8 c2 c3
theorem l0_eq {α : Type} (k : Nat) (Q : Ex → St → Option α) : ∀ (n : Nat) (x7 : List Int) (x8 : Int) (c2 : List Int) (c3 : List Int), iter (rnd C k cd0 9 Q) n (St1 x7 x8 c2 c3) = l0 k (fun (c2 : List Int) (c3 : List Int) => Q (.exit 0) (St2 c2 c3)) n x7 x8 c2 c3
  | 0, _, _, _, _ => rfl
  | n + 1, x7, x8, c2, c3 => (iter_succ _ _ _).trans ((l0s_eq k (iter (rnd C k cd0 9 Q) n) Q x7 x8 c2 c3).trans (congrArg (fun N => l0s N (fun (c2 : List Int) (c3 : List Int) => Q (.exit 0) (St2 c2 c3)) x7 x8 c2 c3) (funext fun x7 => funext fun x8 => funext fun c2 => funext fun c3 => l0_eq k Q n x7 x8 c2 c3)))
theorem l0_congr {α : Type} (k : Nat) (Xt0 : (List Int) → (List Int) → Option α) (Xt0q : (List Int) → (List Int) → Option α) (hXt0 : ∀ (c2 : List Int) (c3 : List Int), Xt0 c2 c3 = Xt0q c2 c3) (n : Nat) (x7 : List Int) (x8 : Int) (c2 : List Int) (c3 : List Int) : l0 k Xt0 n x7 x8 c2 c3 = l0 k Xt0q n x7 x8 c2 c3 := by
  obtain rfl : Xt0 = Xt0q := by funext c2; funext c3; exact hXt0 c2 c3
  rfl
noncomputable def cd1 : Code := cR (cR (cR (cB Try.f89)))
def St3 (c2 : List Int) (c3 : List Int) : St := stL 28 [(2, .ref 2 0 []), (3, .ref 3 0 [])] [(2, .cell (.arr 4 (.int .u64)) (.data (.arr 4 (.int .u64)) c2) false), (3, .cell (.arr 4 (.int .u64)) (.data (.arr 4 (.int .u64)) c3) false)]
def St4 (c2 : List Int) : St := stL 28 [(2, .ref 2 0 [])] [(2, .cell (.arr 4 (.int .u64)) (.data (.arr 4 (.int .u64)) c2) false)]
def j0 {α : Type} (Rt : (List Int) → Option α) (c2 : List Int) (c3 : List Int) : Option α :=
  Rt c3
theorem j0_eq {α : Type} (k : Nat) (Q : Ex → St → Option α) (c2 : List Int) (c3 : List Int) :
    (den C k) cd1 Q (St3 c2 c3) = j0 (fun (c2 : List Int) => Q .ret (St4 c2)) c2 c3 := by
  have h : ∀ (D L : DT α), denJ D L Js C cd1 Q (St3 c2 c3) =
        Q .ret (St4 c3) := by
    intro D L; kernel_rfl
  refine (show (den C k) cd1 Q (St3 c2 c3) = denJ (den C k) (lp C k) Js C cd1 Q (St3 c2 c3) from (denJ_den _ _ _ _ _ _).symm).trans ((h (den C k) (lp C k)).trans ?_)
  first | rfl | kernel_rfl
theorem a0 {α : Type} (k : Nat) (Q : Ex → St → Option α) (x7 : List Int) (x8 : Int) (c2 : List Int) (c3 : List Int) :
    (lp C k) cd0 (blkQ C 0 (sq (den C k) (lp C k) Js C cd1 Q)) (St1 x7 x8 c2 c3) = l0 k (fun (c2 : List Int) (c3 : List Int) => j0 (fun (c2 : List Int) => Q .ret (St4 c2)) c2 c3) k x7 x8 c2 c3 :=
  (show (lp C k) cd0 (blkQ C 0 (sq (den C k) (lp C k) Js C cd1 Q)) (St1 x7 x8 c2 c3) = iter (rnd C k cd0 9 (blkQ C 0 (sq (den C k) (lp C k) Js C cd1 Q))) k (St1 x7 x8 c2 c3) by kernel_rfl).trans ((l0_eq k (blkQ C 0 (sq (den C k) (lp C k) Js C cd1 Q)) k x7 x8 c2 c3).trans (l0_congr k _ _ (fun c2 c3 => ((show (blkQ C 0 (sq (den C k) (lp C k) Js C cd1 Q)) (.exit 0) (St2 c2 c3) = (den C k) cd1 Q (St3 c2 c3) by kernel_rfl).trans (by simp only [j0_eq]))) k x7 x8 c2 c3))
def top {α : Type} (k : Nat) (Rt : (List Int) → Option α) (x0 : List Int) : Option α :=
  l0 k (fun (c2 : List Int) (c3 : List Int) => j0 Rt c2 c3) k x0 0 [0, 0, 0, 0] [0, 0, 0, 0]
theorem top_eq {α : Type} (k : Nat) (Q : Ex → St → Option α) (x0 : List Int) :
    (den C k) (cB Try.f89) Q (St0 x0) = top k (fun (c2 : List Int) => Q .ret (St4 c2)) x0 := by
  have h : ∀ (D L : DT α), denJ D L Js C (cB Try.f89) Q (St0 x0) =
        L cd0 (blkQ C 0 (sq D L Js C cd1 Q)) (St1 x0 0 [0, 0, 0, 0] [0, 0, 0, 0]) := by
    intro D L; kernel_rfl
  refine (show (den C k) (cB Try.f89) Q (St0 x0) = denJ (den C k) (lp C k) Js C (cB Try.f89) Q (St0 x0) from (denJ_den _ _ _ _ _ _).symm).trans ((h (den C k) (lp C k)).trans ?_)
  simp only [a0]
  first | rfl | kernel_rfl
def run (x0 : List Int) : Option (List Int) := top (α := List Int) fuel (fun (c2 : List Int) => some c2) x0
def F : Fn := ⟨(.pair (.arr 32 (.int .u8)) .unit), (.arr 4 (.int .u64)), false, fun x => run x.1⟩
set_option maxRecDepth 100000 in
theorem con : Con Try.prog 89 F := by
  refine con_of_den (C := C) (ctx_ok (by kernel_rfl) (by kernel_rfl) (by kernel_rfl) (by kernel_rfl) trivial) (by kernel_rfl) Try.func89 (c := cB Try.f89) (by kernel_rfl) (by kernel_rfl) F fuel (fun x => by simp [F, spread, Try.ntmps89]) ?_
  intro x r h
  rw [← h]
  have h1 : start F Try.f89.ntmps x = (St0 x.1) := by kernel_rfl
  rw [h1]
  refine (top_eq fuel (fin C Try.f89.results.toList F.rs F.multi) x.1).trans ?_
  kernel_rfl
theorem named : Named Try.prog 89 := named_of Try.func89 (by kernel_rfl) (by kernel_rfl)
end Go.Bx.wide_From
namespace Go.Bx.basculeref_FromBytes
open Go Go.Proofs Go.Bx
set_option maxRecDepth 100000
set_option linter.unusedVariables false
def Js : List Nat := [8]
def C : Ctx := ⟨[(5, (.int .u8)), (54, (.int .u64)), (56, (.arr 4 (.int .u64))), (69, (.arr 32 (.int .u8)))], [], [], fnL [], noSh, [], invL [], [(2, [2]), (1, [2, 3]), (4, [2, 3, 6, 7]), (9, [2, 3, 6, 7]), (21, [2, 3])], [], [], 0, 0⟩
def St0 (x0 : List Int) : St := stL 26 [(0, .data (.arr 32 (.int .u8)) x0)] []
def St1 (x6 : List Int) (x7 : Int) (c2 : List Int) (c3 : List Int) : St := stL 26 [(2, .ref 2 0 []), (3, .ref 3 0 []), (6, .data (.arr 32 (.int .u8)) x6), (7, .data (.int .i64) x7)] [(2, .cell (.arr 4 (.int .u64)) (.data (.arr 4 (.int .u64)) c2) false), (3, .cell (.arr 4 (.int .u64)) (.data (.arr 4 (.int .u64)) c3) false)]
noncomputable def cd0 : Code := cL (cL (cR (cL (cR (cR (cB Try.f112))))))
def St2 (c2 : List Int) (c3 : List Int) : St := stL 26 [(2, .ref 2 0 []), (3, .ref 3 0 [])] [(2, .cell (.arr 4 (.int .u64)) (.data (.arr 4 (.int .u64)) c2) false), (3, .cell (.arr 4 (.int .u64)) (.data (.arr 4 (.int .u64)) c3) false)]
def l0s {α : Type} (Nx : (List Int) → Int → (List Int) → (List Int) → Option α) (Xt0 : (List Int) → (List Int) → Option α) (x6 : List Int) (x7 : Int) (c2 : List Int) (c3 : List Int) : Option α :=
  if (decide (x7 < 32)) = true then
    if 0 ≤ x7 ∧ x7 < (32 : Int) then
      if 0 ≤ (IntKind.i64.wrap (3 - (IntKind.i64.wrap (Int.tdiv x7 8)))) ∧ (IntKind.i64.wrap (3 - (IntKind.i64.wrap (Int.tdiv x7 8)))) < (4 : Int) then
        if 0 ≤ (IntKind.i64.wrap (3 - (IntKind.i64.wrap (Int.tdiv x7 8)))) ∧ (IntKind.i64.wrap (3 - (IntKind.i64.wrap (Int.tdiv x7 8)))) < (4 : Int) then
          Nx x6 (IntKind.i64.wrap (x7 + 1)) c2 (List.set c3 (Int.toNat (IntKind.i64.wrap (3 - (IntKind.i64.wrap (Int.tdiv x7 8))))) (IntKind.u64.wrap ((IntKind.u64.wrap ((List.getD c3 (Int.toNat (IntKind.i64.wrap (3 - (IntKind.i64.wrap (Int.tdiv x7 8))))) 0) * 256)) + (IntKind.u64.wrap (List.getD x6 (Int.toNat x7) 0)))))
        else none
      else none
    else none
  else
    Xt0 c2 c3
theorem l0s_eq {α : Type} (k : Nat) (next : St → Option α) (Q : Ex → St → Option α) (x6 : List Int) (x7 : Int) (c2 : List Int) (c3 : List Int) :
    rnd C k cd0 9 Q next (St1 x6 x7 c2 c3) = l0s (fun (x6 : List Int) (x7 : Int) (c2 : List Int) (c3 : List Int) => next (St1 x6 x7 c2 c3)) (fun (c2 : List Int) (c3 : List Int) => Q (.exit 0) (St2 c2 c3)) x6 x7 c2 c3 := by
  have h : ∀ (D L : DT α), denJ D L Js C cd0 (lq C 9 next Q) (St1 x6 x7 c2 c3) =
        if (decide (x7 < 32)) = true then
          if 0 ≤ x7 ∧ x7 < (32 : Int) then
            if 0 ≤ (IntKind.i64.wrap (3 - (IntKind.i64.wrap (Int.tdiv x7 8)))) ∧ (IntKind.i64.wrap (3 - (IntKind.i64.wrap (Int.tdiv x7 8)))) < (4 : Int) then
              if 0 ≤ (IntKind.i64.wrap (3 - (IntKind.i64.wrap (Int.tdiv x7 8)))) ∧ (IntKind.i64.wrap (3 - (IntKind.i64.wrap (Int.tdiv x7 8)))) < (4 : Int) then
                next (St1 x6 (IntKind.i64.wrap (x7 + 1)) c2 (List.set c3 (Int.toNat (IntKind.i64.wrap (3 - (IntKind.i64.wrap (Int.tdiv x7 8))))) (IntKind.u64.wrap ((IntKind.u64.wrap ((List.getD c3 (Int.toNat (IntKind.i64.wrap (3 - (IntKind.i64.wrap (Int.tdiv x7 8))))) 0) * 256)) + (IntKind.u64.wrap (List.getD x6 (Int.toNat x7) 0))))))
              else none
            else none
          else none
        else
          Q (.exit 0) (St2 c2 c3) := by
    intro D L; kernel_rfl
  refine (show rnd C k cd0 9 Q next (St1 x6 x7 c2 c3) = denJ (den C k) (lp C k) Js C cd0 (lq C 9 next Q) (St1 x6 x7 c2 c3) from (denJ_den _ _ _ _ _ _).symm).trans ((h (den C k) (lp C k)).trans ?_)
  first | rfl | kernel_rfl
def l0 {α : Type} (k : Nat) (Xt0 : (List Int) → (List Int) → Option α) : Nat → (List Int) → Int → (List Int) → (List Int) → Option α
  | 0, _, _, _, _ => none
  | n + 1, x6, x7, c2, c3 => l0s (l0 k Xt0 n) Xt0 x6 x7 c2 c3
theorem l0_eq {α : Type} (k : Nat) (Q : Ex → St → Option α) : ∀ (n : Nat) (x6 : List Int) (x7 : Int) (c2 : List Int) (c3 : List Int), iter (rnd C k cd0 9 Q) n (St1 x6 x7 c2 c3) = l0 k (fun (c2 : List Int) (c3 : List Int) => Q (.exit 0) (St2 c2 c3)) n x6 x7 c2 c3
  | 0, _, _, _, _ => rfl
  | n + 1, x6, x7, c2, c3 => (iter_succ _ _ _).trans ((l0s_eq k (iter (rnd C k cd0 9 Q) n) Q x6 x7 c2 c3).trans (congrArg (fun N => l0s N (fun (c2 : List Int) (c3 : List Int) => Q (.exit 0) (St2 c2 c3)) x6 x7 c2 c3) (funext fun x6 => funext fun x7 => funext fun c2 => funext fun c3 => l0_eq k Q n x6 x7 c2 c3)))
theorem l0_congr {α : Type} (k : Nat) (Xt0 : (List Int) → (List Int) → Option α) (Xt0q : (List Int) → (List Int) → Option α) (hXt0 : ∀ (c2 : List Int) (c3 : List Int), Xt0 c2 c3 = Xt0q c2 c3) (n : Nat) (x6 : List Int) (x7 : Int) (c2 : List Int) (c3 : List Int) : l0 k Xt0 n x6 x7 c2 c3 = l0 k Xt0q n x6 x7 c2 c3 := by
  obtain rfl : Xt0 = Xt0q := by funext c2; funext c3; exact hXt0 c2 c3
  rfl
noncomputable def cd1 : Code := cR (cR (cR (cB Try.f112)))
def St3 (c2 : List Int) (c3 : List Int) : St := stL 26 [(2, .ref 2 0 []), (3, .ref 3 0 [])] [(2, .cell (.arr 4 (.int .u64)) (.data (.arr 4 (.int .u64)) c2) false), (3, .cell (.arr 4 (.int .u64)) (.data (.arr 4 (.int .u64)) c3) false)]
def St4 (c2 : List Int) : St := stL 26 [(2, .ref 2 0 [])] [(2, .cell (.arr 4 (.int .u64)) (.data (.arr 4 (.int .u64)) c2) false)]
def j0 {α : Type} (Rt : (List Int) → Option α) (c2 : List Int) (c3 : List Int) : Option α :=
  Rt c3
theorem j0_eq {α : Type} (k : Nat) (Q : Ex → St → Option α) (c2 : List Int) (c3 : List Int) :
    (den C k) cd1 Q (St3 c2 c3) = j0 (fun (c2 : List Int) => Q .ret (St4 c2)) c2 c3 := by
  have h : ∀ (D L : DT α), denJ D L Js C cd1 Q (St3 c2 c3) =
        Q .ret (St4 c3) := by
    intro D L; kernel_rfl
  refine (show (den C k) cd1 Q (St3 c2 c3) = denJ (den C k) (lp C k) Js C cd1 Q (St3 c2 c3) from (denJ_den _ _ _ _ _ _).symm).trans ((h (den C k) (lp C k)).trans ?_)
  first | rfl | kernel_rfl
theorem a0 {α : Type} (k : Nat) (Q : Ex → St → Option α) (x6 : List Int) (x7 : Int) (c2 : List Int) (c3 : List Int) :
    (lp C k) cd0 (blkQ C 0 (sq (den C k) (lp C k) Js C cd1 Q)) (St1 x6 x7 c2 c3) = l0 k (fun (c2 : List Int) (c3 : List Int) => j0 (fun (c2 : List Int) => Q .ret (St4 c2)) c2 c3) k x6 x7 c2 c3 :=
  (show (lp C k) cd0 (blkQ C 0 (sq (den C k) (lp C k) Js C cd1 Q)) (St1 x6 x7 c2 c3) = iter (rnd C k cd0 9 (blkQ C 0 (sq (den C k) (lp C k) Js C cd1 Q))) k (St1 x6 x7 c2 c3) by kernel_rfl).trans ((l0_eq k (blkQ C 0 (sq (den C k) (lp C k) Js C cd1 Q)) k x6 x7 c2 c3).trans (l0_congr k _ _ (fun c2 c3 => ((show (blkQ C 0 (sq (den C k) (lp C k) Js C cd1 Q)) (.exit 0) (St2 c2 c3) = (den C k) cd1 Q (St3 c2 c3) by kernel_rfl).trans (by simp only [j0_eq]))) k x6 x7 c2 c3))
def top {α : Type} (k : Nat) (Rt : (List Int) → Option α) (x0 : List Int) : Option α :=
  l0 k (fun (c2 : List Int) (c3 : List Int) => j0 Rt c2 c3) k x0 0 [0, 0, 0, 0] [0, 0, 0, 0]
theorem top_eq {α : Type} (k : Nat) (Q : Ex → St → Option α) (x0 : List Int) :
    (den C k) (cB Try.f112) Q (St0 x0) = top k (fun (c2 : List Int) => Q .ret (St4 c2)) x0 := by
  have h : ∀ (D L : DT α), denJ D L Js C (cB Try.f112) Q (St0 x0) =
        L cd0 (blkQ C 0 (sq D L Js C cd1 Q)) (St1 x0 0 [0, 0, 0, 0] [0, 0, 0, 0]) := by
    intro D L; kernel_rfl
  refine (show (den C k) (cB Try.f112) Q (St0 x0) = denJ (den C k) (lp C k) Js C (cB Try.f112) Q (St0 x0) from (denJ_den _ _ _ _ _ _).symm).trans ((h (den C k) (lp C k)).trans ?_)
  simp only [a0]
  first | rfl | kernel_rfl
def run (x0 : List Int) : Option (List Int) := top (α := List Int) fuel (fun (c2 : List Int) => some c2) x0
def F : Fn := ⟨(.pair (.arr 32 (.int .u8)) .unit), (.arr 4 (.int .u64)), false, fun x => run x.1⟩
set_option maxRecDepth 100000 in
theorem con : Con Try.prog 112 F := by
  refine con_of_den (C := C) (ctx_ok (by kernel_rfl) (by kernel_rfl) (by kernel_rfl) (by kernel_rfl) trivial) (by kernel_rfl) Try.func112 (c := cB Try.f112) (by kernel_rfl) (by kernel_rfl) F fuel (fun x => by simp [F, spread, Try.ntmps112]) ?_
  intro x r h
  rw [← h]
  have h1 : start F Try.f112.ntmps x = (St0 x.1) := by kernel_rfl
  rw [h1]
  refine (top_eq fuel (fin C Try.f112.results.toList F.rs F.multi) x.1).trans ?_
  kernel_rfl
theorem named : Named Try.prog 112 := named_of Try.func112 (by kernel_rfl) (by kernel_rfl)
end Go.Bx.basculeref_FromBytes
namespace Go.Bx.basculeref_wideOf
open Go Go.Proofs Go.Bx
set_option maxRecDepth 100000
set_option linter.unusedVariables false
def Js : List Nat := []
def C : Ctx := ⟨[(9, .str), (56, (.arr 4 (.int .u64)))], [], [], fnL [(94, Go.Bx.basculeref_word.F), (112, Go.Bx.basculeref_FromBytes.F)], noSh, [], invL [], [(2, [2])], [], [], 0, 0⟩
def St0 (x0 : List Int) : St := stL 6 [(0, .data .str x0)] []
def St1 (c2 : List Int) : St := stL 6 [(2, .ref 2 0 [])] [(2, .cell (.arr 4 (.int .u64)) (.data (.arr 4 (.int .u64)) c2) false)]
def top {α : Type} (Rt : (List Int) → Option α) (x0 : List Int) : Option α :=
  (Go.Bx.basculeref_word.run x0).bind fun y1 =>
  (Go.Bx.basculeref_FromBytes.run y1).bind fun y2 =>
  Rt y2
theorem top_eq {α : Type} (k : Nat) (Q : Ex → St → Option α) (x0 : List Int) :
    (den C k) (cB Try.f93) Q (St0 x0) = top (fun (c2 : List Int) => Q .ret (St1 c2)) x0 := by
  have h : ∀ (D L : DT α), denJ D L Js C (cB Try.f93) Q (St0 x0) =
        (Go.Bx.basculeref_word.run x0).bind fun y1 =>
        (Go.Bx.basculeref_FromBytes.run y1).bind fun y2 =>
        Q .ret (St1 y2) := by
    intro D L; kernel_rfl
  refine (show (den C k) (cB Try.f93) Q (St0 x0) = denJ (den C k) (lp C k) Js C (cB Try.f93) Q (St0 x0) from (denJ_den _ _ _ _ _ _).symm).trans ((h (den C k) (lp C k)).trans ?_)
  first | rfl | kernel_rfl
def run (x0 : List Int) : Option (List Int) := top (α := List Int) (fun (c2 : List Int) => some c2) x0
def F : Fn := ⟨(.pair .str .unit), (.arr 4 (.int .u64)), false, fun x => run x.1⟩
set_option maxRecDepth 100000 in
theorem con : Con Try.prog 93 F := by
  refine con_of_den (C := C) (ctx_ok (by kernel_rfl) (by kernel_rfl) (by kernel_rfl) (by kernel_rfl) ⟨.inl ⟨Go.Bx.basculeref_word.con, Go.Bx.basculeref_word.named⟩, ⟨.inl ⟨Go.Bx.basculeref_FromBytes.con, Go.Bx.basculeref_FromBytes.named⟩, trivial⟩⟩) (by kernel_rfl) Try.func93 (c := cB Try.f93) (by kernel_rfl) (by kernel_rfl) F fuel (fun x => by simp [F, spread, Try.ntmps93]) ?_
  intro x r h
  rw [← h]
  have h1 : start F Try.f93.ntmps x = (St0 x.1) := by kernel_rfl
  rw [h1]
  refine (top_eq fuel (fin C Try.f93.results.toList F.rs F.multi) x.1).trans ?_
  kernel_rfl
theorem named : Named Try.prog 93 := named_of Try.func93 (by kernel_rfl) (by kernel_rfl)
end Go.Bx.basculeref_wideOf
namespace Go.Bx.paper_eye__take_s1
open Go Go.Proofs Go.Bx
set_option maxRecDepth 100000
set_option linter.unusedVariables false
def Js : List Nat := []
def C : Ctx := ⟨[(4, .bool), (59, (.sl (.int .u8))), (149, (.pair (.sl (.int .u8)) (.pair .bool .unit)))], [], [], fnL [], noSh, [], invL [], [(2, [4])], [(2, [.dat true 4 [], .dat false 0 []])], [], 1, 0⟩
def St0 (x1 : Int) (c0 : List Int × Bool × Unit) : St := stL 38 [(0, .ref 0 0 []), (1, .data (.int .i64) x1)] [(0, .cell (.pair (.sl (.int .u8)) (.pair .bool .unit)) (.data (.pair (.sl (.int .u8)) (.pair .bool .unit)) c0) false)]
def St1 (x4 : List Int) (c0 : List Int × Bool × Unit) : St := stL 38 [(4, .data (.sl (.int .u8)) x4)] [(0, .cell (.pair (.sl (.int .u8)) (.pair .bool .unit)) (.data (.pair (.sl (.int .u8)) (.pair .bool .unit)) c0) false)]
def top {α : Type} (Rt : (List Int) → (List Int × Bool × Unit) → Option α) (x1 : Int) (c0 : List Int × Bool × Unit) : Option α :=
  if (decide ((c0.1.length : Int) < x1)) = true then
    if 0 ≤ x1 ∧ id x1 = x1 ∧ fitB x1.toNat 1 = true then
      Rt (List.replicate (Int.toNat x1) 0) ([], false, ())
    else none
  else
    if 0 ≤ (0 : Int) ∧ (0 : Int) ≤ x1 ∧ x1 ≤ (c0.1.length : Int) ∧ x1 = x1 then
      if 0 ≤ x1 ∧ x1 ≤ (c0.1.length : Int) ∧ (c0.1.length : Int) ≤ (c0.1.length : Int) then
        Rt (cutL c0.1 0 x1) ((cutL c0.1 x1 (c0.1.length : Int)), c0.2)
      else none
    else none
theorem top_eq {α : Type} (k : Nat) (Q : Ex → St → Option α) (x1 : Int) (c0 : List Int × Bool × Unit) :
    (den C k) (cB Try.f111) (endQ C Q) (St0 x1 c0) = top (fun (x4 : List Int) (c0 : List Int × Bool × Unit) => Q .ret (St1 x4 c0)) x1 c0 := by
  have h : ∀ (D L : DT α), denJ D L Js C (cB Try.f111) (endQ C Q) (St0 x1 c0) =
        if (decide ((c0.1.length : Int) < x1)) = true then
          if 0 ≤ x1 ∧ id x1 = x1 ∧ fitB x1.toNat 1 = true then
            Q .ret (St1 (List.replicate (Int.toNat x1) 0) ([], false, ()))
          else none
        else
          if 0 ≤ (0 : Int) ∧ (0 : Int) ≤ x1 ∧ x1 ≤ (c0.1.length : Int) ∧ x1 = x1 then
            if 0 ≤ x1 ∧ x1 ≤ (c0.1.length : Int) ∧ (c0.1.length : Int) ≤ (c0.1.length : Int) then
              Q .ret (St1 (cutL c0.1 0 x1) ((cutL c0.1 x1 (c0.1.length : Int)), c0.2))
            else none
          else none := by
    intro D L; kernel_rfl
  refine (show (den C k) (cB Try.f111) (endQ C Q) (St0 x1 c0) = denJ (den C k) (lp C k) Js C (cB Try.f111) (endQ C Q) (St0 x1 c0) from (denJ_den _ _ _ _ _ _).symm).trans ((h (den C k) (lp C k)).trans ?_)
  first | rfl | kernel_rfl
def run (x1 : Int) (c0 : List Int × Bool × Unit) : Option (List Int × (List Int × Bool × Unit) × Unit) := top (α := List Int × (List Int × Bool × Unit) × Unit) (fun (x4 : List Int) (c0 : List Int × Bool × Unit) => some (x4, c0, ())) x1 c0
def Sp : Spec := ⟨[.ref 0 0 [], hD (.int .i64)], [(0, hC (.pair (.sl (.int .u8)) (.pair .bool .unit)) (hD (.pair (.sl (.int .u8)) (.pair .bool .unit))) false)], (.pair (.int .i64) (.pair (.pair (.sl (.int .u8)) (.pair .bool .unit)) .unit)), hD (.sl (.int .u8)), [(0, hC (.pair (.sl (.int .u8)) (.pair .bool .unit)) (hD (.pair (.sl (.int .u8)) (.pair .bool .unit))) false)], (.pair (.sl (.int .u8)) (.pair (.pair (.sl (.int .u8)) (.pair .bool .unit)) .unit)), fun x => run x.1 x.2.1⟩
set_option maxRecDepth 100000 in
theorem sok : SOk Try.prog 111 Sp.h := by
  refine sok_of_den (C := C) (ctx_ok (by kernel_rfl) (by kernel_rfl) (by kernel_rfl) (by kernel_rfl) trivial) (by kernel_rfl) Try.func111 (c := cB Try.f111) (by kernel_rfl) (by kernel_rfl) Sp fuel (by kernel_rfl) (by kernel_rfl) ?_
  intro x r h
  rw [← h]
  have h1 : Sp.start x Try.f111.ntmps = (St0 x.1 x.2.1) := by kernel_rfl
  rw [h1]
  refine (top_eq fuel (finS C Try.f111.results.toList Sp.read) x.1 x.2.1).trans ?_
  kernel_rfl
theorem named : Named Try.prog 111 := named_of Try.func111 (by kernel_rfl) (by kernel_rfl)
end Go.Bx.paper_eye__take_s1
namespace Go.Bx.paper_eye__number_s1
open Go Go.Proofs Go.Bx
set_option maxRecDepth 100000
set_option linter.unusedVariables false
def Js : List Nat := [8]
def C : Ctx := ⟨[(3, (.int .i64)), (5, (.int .u8)), (59, (.sl (.int .u8)))], [], [], fnL [], shL [(111, [.one Go.Bx.paper_eye__take_s1.Sp])], [(10, 24)], invL [], [(2, [4]), (1, [5]), (4, [5, 10, 11, 12]), (9, [5, 10, 11, 12]), (21, [5])], [], [], 1, 0⟩
def St0 (x1 : Int) (c0 : List Int × Bool × Unit) : St := stL 23 [(0, .ref 0 0 []), (1, .data (.int .i64) x1)] [(0, .cell (.pair (.sl (.int .u8)) (.pair .bool .unit)) (.data (.pair (.sl (.int .u8)) (.pair .bool .unit)) c0) false)]
def St1 (x5 : Int) (x10 : List Int) (x11 : Int) (x12 : Int) (c0 : List Int × Bool × Unit) : St := stL 23 [(5, .data (.int .i64) x5), (10, .data (.sl (.int .u8)) x10), (11, .data (.int .i64) x11), (12, .data (.int .i64) x12)] [(0, .cell (.pair (.sl (.int .u8)) (.pair .bool .unit)) (.data (.pair (.sl (.int .u8)) (.pair .bool .unit)) c0) false)]
noncomputable def cd0 : Code := cL (cL (cR (cL (cR (cR (cB Try.f88))))))
def St2 (x5 : Int) (c0 : List Int × Bool × Unit) : St := stL 23 [(5, .data (.int .i64) x5)] [(0, .cell (.pair (.sl (.int .u8)) (.pair .bool .unit)) (.data (.pair (.sl (.int .u8)) (.pair .bool .unit)) c0) false)]
def l0s {α : Type} (Nx : Int → (List Int) → Int → Int → (List Int × Bool × Unit) → Option α) (Xt0 : Int → (List Int × Bool × Unit) → Option α) (x5 : Int) (x10 : List Int) (x11 : Int) (x12 : Int) (c0 : List Int × Bool × Unit) : Option α :=
  if (decide (x12 < x11)) = true then
    if 0 ≤ x12 ∧ x12 < (x10.length : Int) then
      Nx (bor .i64 (shlI .i64 x5 8) (IntKind.i64.wrap (List.getD x10 (Int.toNat x12) 0))) x10 x11 (IntKind.i64.wrap (x12 + 1)) c0
    else none
  else
    Xt0 x5 c0
theorem l0s_eq {α : Type} (k : Nat) (next : St → Option α) (Q : Ex → St → Option α) (x5 : Int) (x10 : List Int) (x11 : Int) (x12 : Int) (c0 : List Int × Bool × Unit) :
    rnd C k cd0 9 Q next (St1 x5 x10 x11 x12 c0) = l0s (fun (x5 : Int) (x10 : List Int) (x11 : Int) (x12 : Int) (c0 : List Int × Bool × Unit) => next (St1 x5 x10 x11 x12 c0)) (fun (x5 : Int) (c0 : List Int × Bool × Unit) => Q (.exit 0) (St2 x5 c0)) x5 x10 x11 x12 c0 := by
  have h : ∀ (D L : DT α), denJ D L Js C cd0 (lq C 9 next Q) (St1 x5 x10 x11 x12 c0) =
        if (decide (x12 < x11)) = true then
          if 0 ≤ x12 ∧ x12 < (x10.length : Int) then
            next (St1 (bor .i64 (shlI .i64 x5 8) (IntKind.i64.wrap (List.getD x10 (Int.toNat x12) 0))) x10 x11 (IntKind.i64.wrap (x12 + 1)) c0)
          else none
        else
          Q (.exit 0) (St2 x5 c0) := by
    intro D L; kernel_rfl
  refine (show rnd C k cd0 9 Q next (St1 x5 x10 x11 x12 c0) = denJ (den C k) (lp C k) Js C cd0 (lq C 9 next Q) (St1 x5 x10 x11 x12 c0) from (denJ_den _ _ _ _ _ _).symm).trans ((h (den C k) (lp C k)).trans ?_)
  first | rfl | kernel_rfl
def l0 {α : Type} (k : Nat) (Xt0 : Int → (List Int × Bool × Unit) → Option α) : Nat → Int → (List Int) → Int → Int → (List Int × Bool × Unit) → Option α
  | 0, _, _, _, _, _ => none
  | n + 1, x5, x10, x11, x12, c0 => l0s (l0 k Xt0 n) Xt0 x5 x10 x11 x12 c0
theorem l0_eq {α : Type} (k : Nat) (Q : Ex → St → Option α) : ∀ (n : Nat) (x5 : Int) (x10 : List Int) (x11 : Int) (x12 : Int) (c0 : List Int × Bool × Unit), iter (rnd C k cd0 9 Q) n (St1 x5 x10 x11 x12 c0) = l0 k (fun (x5 : Int) (c0 : List Int × Bool × Unit) => Q (.exit 0) (St2 x5 c0)) n x5 x10 x11 x12 c0
  | 0, _, _, _, _, _ => rfl
  | n + 1, x5, x10, x11, x12, c0 => (iter_succ _ _ _).trans ((l0s_eq k (iter (rnd C k cd0 9 Q) n) Q x5 x10 x11 x12 c0).trans (congrArg (fun N => l0s N (fun (x5 : Int) (c0 : List Int × Bool × Unit) => Q (.exit 0) (St2 x5 c0)) x5 x10 x11 x12 c0) (funext fun x5 => funext fun x10 => funext fun x11 => funext fun x12 => funext fun c0 => l0_eq k Q n x5 x10 x11 x12 c0)))
theorem l0_congr {α : Type} (k : Nat) (Xt0 : Int → (List Int × Bool × Unit) → Option α) (Xt0q : Int → (List Int × Bool × Unit) → Option α) (hXt0 : ∀ (x5 : Int) (c0 : List Int × Bool × Unit), Xt0 x5 c0 = Xt0q x5 c0) (n : Nat) (x5 : Int) (x10 : List Int) (x11 : Int) (x12 : Int) (c0 : List Int × Bool × Unit) : l0 k Xt0 n x5 x10 x11 x12 c0 = l0 k Xt0q n x5 x10 x11 x12 c0 := by
  obtain rfl : Xt0 = Xt0q := by funext x5; funext c0; exact hXt0 x5 c0
  rfl
noncomputable def cd1 : Code := cR (cR (cR (cB Try.f88)))
def St3 (x5 : Int) (c0 : List Int × Bool × Unit) : St := stL 23 [(5, .data (.int .i64) x5)] [(0, .cell (.pair (.sl (.int .u8)) (.pair .bool .unit)) (.data (.pair (.sl (.int .u8)) (.pair .bool .unit)) c0) false)]
def St4 (x4 : Int) (c0 : List Int × Bool × Unit) : St := stL 23 [(4, .data (.int .i64) x4)] [(0, .cell (.pair (.sl (.int .u8)) (.pair .bool .unit)) (.data (.pair (.sl (.int .u8)) (.pair .bool .unit)) c0) false)]
def j0 {α : Type} (Rt : Int → (List Int × Bool × Unit) → Option α) (x5 : Int) (c0 : List Int × Bool × Unit) : Option α :=
  Rt x5 c0
theorem j0_eq {α : Type} (k : Nat) (Q : Ex → St → Option α) (x5 : Int) (c0 : List Int × Bool × Unit) :
    (den C k) cd1 (endQ C Q) (St3 x5 c0) = j0 (fun (x4 : Int) (c0 : List Int × Bool × Unit) => Q .ret (St4 x4 c0)) x5 c0 := by
  have h : ∀ (D L : DT α), denJ D L Js C cd1 (endQ C Q) (St3 x5 c0) =
        Q .ret (St4 x5 c0) := by
    intro D L; kernel_rfl
  refine (show (den C k) cd1 (endQ C Q) (St3 x5 c0) = denJ (den C k) (lp C k) Js C cd1 (endQ C Q) (St3 x5 c0) from (denJ_den _ _ _ _ _ _).symm).trans ((h (den C k) (lp C k)).trans ?_)
  first | rfl | kernel_rfl
theorem a0 {α : Type} (k : Nat) (Q : Ex → St → Option α) (x5 : Int) (x10 : List Int) (x11 : Int) (x12 : Int) (c0 : List Int × Bool × Unit) :
    (lp C k) cd0 (blkQ C 0 (sq (den C k) (lp C k) Js C cd1 (endQ C Q))) (St1 x5 x10 x11 x12 c0) = l0 k (fun (x5 : Int) (c0 : List Int × Bool × Unit) => j0 (fun (x4 : Int) (c0 : List Int × Bool × Unit) => Q .ret (St4 x4 c0)) x5 c0) k x5 x10 x11 x12 c0 :=
  (show (lp C k) cd0 (blkQ C 0 (sq (den C k) (lp C k) Js C cd1 (endQ C Q))) (St1 x5 x10 x11 x12 c0) = iter (rnd C k cd0 9 (blkQ C 0 (sq (den C k) (lp C k) Js C cd1 (endQ C Q)))) k (St1 x5 x10 x11 x12 c0) by kernel_rfl).trans ((l0_eq k (blkQ C 0 (sq (den C k) (lp C k) Js C cd1 (endQ C Q))) k x5 x10 x11 x12 c0).trans (l0_congr k _ _ (fun x5 c0 => ((show (blkQ C 0 (sq (den C k) (lp C k) Js C cd1 (endQ C Q))) (.exit 0) (St2 x5 c0) = (den C k) cd1 (endQ C Q) (St3 x5 c0) by kernel_rfl).trans (by simp only [j0_eq]))) k x5 x10 x11 x12 c0))
def top {α : Type} (k : Nat) (Rt : Int → (List Int × Bool × Unit) → Option α) (x1 : Int) (c0 : List Int × Bool × Unit) : Option α :=
  (Go.Bx.paper_eye__take_s1.run x1 c0).bind fun y1 =>
  l0 k (fun (x5 : Int) (c0 : List Int × Bool × Unit) => j0 Rt x5 c0) k 0 y1.1 (y1.1.length : Int) 0 y1.2.1
theorem top_eq {α : Type} (k : Nat) (Q : Ex → St → Option α) (x1 : Int) (c0 : List Int × Bool × Unit) :
    (den C k) (cB Try.f88) (endQ C Q) (St0 x1 c0) = top k (fun (x4 : Int) (c0 : List Int × Bool × Unit) => Q .ret (St4 x4 c0)) x1 c0 := by
  have h : ∀ (D L : DT α), denJ D L Js C (cB Try.f88) (endQ C Q) (St0 x1 c0) =
        (Go.Bx.paper_eye__take_s1.run x1 c0).bind fun y1 =>
        L cd0 (blkQ C 0 (sq D L Js C cd1 (endQ C Q))) (St1 0 y1.1 (y1.1.length : Int) 0 y1.2.1) := by
    intro D L; kernel_rfl
  refine (show (den C k) (cB Try.f88) (endQ C Q) (St0 x1 c0) = denJ (den C k) (lp C k) Js C (cB Try.f88) (endQ C Q) (St0 x1 c0) from (denJ_den _ _ _ _ _ _).symm).trans ((h (den C k) (lp C k)).trans ?_)
  simp only [a0]
  first | rfl | kernel_rfl
def run (x1 : Int) (c0 : List Int × Bool × Unit) : Option (Int × (List Int × Bool × Unit) × Unit) := top (α := Int × (List Int × Bool × Unit) × Unit) fuel (fun (x4 : Int) (c0 : List Int × Bool × Unit) => some (x4, c0, ())) x1 c0
def Sp : Spec := ⟨[.ref 0 0 [], hD (.int .i64)], [(0, hC (.pair (.sl (.int .u8)) (.pair .bool .unit)) (hD (.pair (.sl (.int .u8)) (.pair .bool .unit))) false)], (.pair (.int .i64) (.pair (.pair (.sl (.int .u8)) (.pair .bool .unit)) .unit)), hD (.int .i64), [(0, hC (.pair (.sl (.int .u8)) (.pair .bool .unit)) (hD (.pair (.sl (.int .u8)) (.pair .bool .unit))) false)], (.pair (.int .i64) (.pair (.pair (.sl (.int .u8)) (.pair .bool .unit)) .unit)), fun x => run x.1 x.2.1⟩
set_option maxRecDepth 100000 in
theorem sok : SOk Try.prog 88 Sp.h := by
  refine sok_of_den (C := C) (ctx_ok_sh (by kernel_rfl) (by kernel_rfl) (by kernel_rfl) (by kernel_rfl) trivial ⟨⟨⟨Go.Bx.paper_eye__take_s1.sok, trivial⟩, Go.Bx.paper_eye__take_s1.named⟩, trivial⟩) (by kernel_rfl) Try.func88 (c := cB Try.f88) (by kernel_rfl) (by kernel_rfl) Sp fuel (by kernel_rfl) (by kernel_rfl) ?_
  intro x r h
  rw [← h]
  have h1 : Sp.start x Try.f88.ntmps = (St0 x.1 x.2.1) := by kernel_rfl
  rw [h1]
  refine (top_eq fuel (finS C Try.f88.results.toList Sp.read) x.1 x.2.1).trans ?_
  kernel_rfl
theorem named : Named Try.prog 88 := named_of Try.func88 (by kernel_rfl) (by kernel_rfl)
end Go.Bx.paper_eye__number_s1
namespace Go.Bx.paper_eye__word_s0
open Go Go.Proofs Go.Bx
set_option maxRecDepth 100000
set_option linter.unusedVariables false
def Js : List Nat := []
def C : Ctx := ⟨[(59, (.sl (.int .u8))), (69, (.arr 32 (.int .u8)))], [], [], fnL [], shL [(111, [.one Go.Bx.paper_eye__take_s1.Sp])], [(6, 10)], invL [], [(2, [2])], [], [], 1, 0⟩
def St0 (c0 : List Int × Bool × Unit) : St := stL 9 [(0, .ref 0 0 [])] [(0, .cell (.pair (.sl (.int .u8)) (.pair .bool .unit)) (.data (.pair (.sl (.int .u8)) (.pair .bool .unit)) c0) false)]
def St1 (c0 : List Int × Bool × Unit) (c3 : List Int) : St := stL 9 [(2, .ref 3 0 [])] [(0, .cell (.pair (.sl (.int .u8)) (.pair .bool .unit)) (.data (.pair (.sl (.int .u8)) (.pair .bool .unit)) c0) false), (3, .cell (.arr 32 (.int .u8)) (.data (.arr 32 (.int .u8)) c3) false)]
def top {α : Type} (Rt : (List Int × Bool × Unit) → (List Int) → Option α) (c0 : List Int × Bool × Unit) : Option α :=
  (Go.Bx.paper_eye__take_s1.run 32 c0).bind fun y1 =>
  Rt y1.2.1 (cpyL (List.replicate 32 0) 0 32 y1.1)
theorem top_eq {α : Type} (k : Nat) (Q : Ex → St → Option α) (c0 : List Int × Bool × Unit) :
    (den C k) (cB Try.f90) (endQ C Q) (St0 c0) = top (fun (c0 : List Int × Bool × Unit) (c3 : List Int) => Q .ret (St1 c0 c3)) c0 := by
  have h : ∀ (D L : DT α), denJ D L Js C (cB Try.f90) (endQ C Q) (St0 c0) =
        (Go.Bx.paper_eye__take_s1.run 32 c0).bind fun y1 =>
        Q .ret (St1 y1.2.1 (cpyL (List.replicate 32 0) 0 32 y1.1)) := by
    intro D L; kernel_rfl
  refine (show (den C k) (cB Try.f90) (endQ C Q) (St0 c0) = denJ (den C k) (lp C k) Js C (cB Try.f90) (endQ C Q) (St0 c0) from (denJ_den _ _ _ _ _ _).symm).trans ((h (den C k) (lp C k)).trans ?_)
  first | rfl | kernel_rfl
def run (c0 : List Int × Bool × Unit) : Option (List Int × (List Int × Bool × Unit) × List Int × Unit) := top (α := List Int × (List Int × Bool × Unit) × List Int × Unit) (fun (c0 : List Int × Bool × Unit) (c3 : List Int) => some (c3, c0, c3, ())) c0
def Sp : Spec := ⟨[.ref 0 0 []], [(0, hC (.pair (.sl (.int .u8)) (.pair .bool .unit)) (hD (.pair (.sl (.int .u8)) (.pair .bool .unit))) false)], (.pair (.pair (.sl (.int .u8)) (.pair .bool .unit)) .unit), hD (.arr 32 (.int .u8)), [(0, hC (.pair (.sl (.int .u8)) (.pair .bool .unit)) (hD (.pair (.sl (.int .u8)) (.pair .bool .unit))) false), (3, hC (.arr 32 (.int .u8)) (hD (.arr 32 (.int .u8))) false)], (.pair (.arr 32 (.int .u8)) (.pair (.pair (.sl (.int .u8)) (.pair .bool .unit)) (.pair (.arr 32 (.int .u8)) .unit))), fun x => run x.1⟩
set_option maxRecDepth 100000 in
theorem sok : SOk Try.prog 90 Sp.h := by
  refine sok_of_den (C := C) (ctx_ok_sh (by kernel_rfl) (by kernel_rfl) (by kernel_rfl) (by kernel_rfl) trivial ⟨⟨⟨Go.Bx.paper_eye__take_s1.sok, trivial⟩, Go.Bx.paper_eye__take_s1.named⟩, trivial⟩) (by kernel_rfl) Try.func90 (c := cB Try.f90) (by kernel_rfl) (by kernel_rfl) Sp fuel (by kernel_rfl) (by kernel_rfl) ?_
  intro x r h
  rw [← h]
  have h1 : Sp.start x Try.f90.ntmps = (St0 x.1) := by kernel_rfl
  rw [h1]
  refine (top_eq fuel (finS C Try.f90.results.toList Sp.read) x.1).trans ?_
  kernel_rfl
theorem named : Named Try.prog 90 := named_of Try.func90 (by kernel_rfl) (by kernel_rfl)
end Go.Bx.paper_eye__word_s0
namespace Go.Bx.gate_value
open Go Go.Proofs Go.Bx
set_option maxRecDepth 100000
set_option linter.unusedVariables false
def Js : List Nat := []
def C : Ctx := ⟨[(3, (.int .i64)), (4, .bool)], [], [], fnL [], noSh, [], invL [], [(2, [2])], [], [], 0, 0⟩
def St0 (x0 : Int) : St := stL 9 [(0, .data (.int .i64) x0)] []
def St1 (x2 : Bool) : St := stL 9 [(2, .data .bool x2)] []
def top {α : Type} (Rt : Bool → Option α) (x0 : Int) : Option α :=
  Rt (cond (decide (x0 ≥ 0)) (decide (x0 ≤ 1073741824)) false)
theorem top_eq {α : Type} (k : Nat) (Q : Ex → St → Option α) (x0 : Int) :
    (den C k) (cB Try.f60) Q (St0 x0) = top (fun (x2 : Bool) => Q .ret (St1 x2)) x0 := by
  have h : ∀ (D L : DT α), denJ D L Js C (cB Try.f60) Q (St0 x0) =
        Q .ret (St1 (cond (decide (x0 ≥ 0)) (decide (x0 ≤ 1073741824)) false)) := by
    intro D L; kernel_rfl
  refine (show (den C k) (cB Try.f60) Q (St0 x0) = denJ (den C k) (lp C k) Js C (cB Try.f60) Q (St0 x0) from (denJ_den _ _ _ _ _ _).symm).trans ((h (den C k) (lp C k)).trans ?_)
  first | rfl | kernel_rfl
def run (x0 : Int) : Option (Bool) := top (α := Bool) (fun (x2 : Bool) => some x2) x0
def F : Fn := ⟨(.pair (.int .i64) .unit), .bool, false, fun x => run x.1⟩
set_option maxRecDepth 100000 in
theorem con : Con Try.prog 60 F := by
  refine con_of_den (C := C) (ctx_ok (by kernel_rfl) (by kernel_rfl) (by kernel_rfl) (by kernel_rfl) trivial) (by kernel_rfl) Try.func60 (c := cB Try.f60) (by kernel_rfl) (by kernel_rfl) F fuel (fun x => by simp [F, spread, Try.ntmps60]) ?_
  intro x r h
  rw [← h]
  have h1 : start F Try.f60.ntmps x = (St0 x.1) := by kernel_rfl
  rw [h1]
  refine (top_eq fuel (fin C Try.f60.results.toList F.rs F.multi) x.1).trans ?_
  kernel_rfl
theorem named : Named Try.prog 60 := named_of Try.func60 (by kernel_rfl) (by kernel_rfl)
end Go.Bx.gate_value
namespace Go.Bx.gate_Check
open Go Go.Proofs Go.Bx
set_option maxRecDepth 100000
set_option linter.unusedVariables false
def Js : List Nat := [10, 20, 21]
def C : Ctx := ⟨[(3, (.int .i64)), (23, (.int .i64)), (39, (.arr 3 (.int .i64))), (40, (.sl (.pair (.int .i64) (.pair (.int .i64) (.pair (.int .i64) (.pair (.int .i64) .unit)))))), (42, (.pair (.arr 3 (.int .i64)) (.pair (.arr 3 (.int .i64)) (.pair (.int .i64) (.pair (.sl (.pair (.int .i64) (.pair (.int .i64) (.pair (.int .i64) (.pair (.int .i64) .unit))))) (.pair (.sl (.pair (.int .i64) (.pair (.int .i64) (.pair (.int .i64) (.pair (.int .i64) .unit))))) .unit)))))), (103, (.pair (.int .i64) (.pair (.int .i64) (.pair (.int .i64) (.pair (.int .i64) .unit)))))], [], [], fnL [(60, Go.Bx.gate_value.F)], noSh, [], invL [], [(2, [2]), (7, [3]), (10, [1, 3, 5, 54, 55, 56]), (13, [1, 3, 5, 54, 55, 56]), (16, [1, 3, 5, 7, 54, 55, 56, 91, 92, 93]), (1, [1, 3]), (4, [1, 3, 28]), (15, [1, 3, 28]), (27, [1, 3]), (33, [1, 3, 5, 54, 55, 56]), (45, [1, 3, 5, 7, 54, 55, 56, 91, 92, 93]), (57, [1, 3, 5, 54, 55, 56]), (60, [3])], [], [50], 0, 0⟩
def St0 (x0 : List Int × List Int × Int × List (Int × Int × Int × Int × Unit) × List (Int × Int × Int × Int × Unit) × Unit) : St := stL 109 [(0, .data (.pair (.arr 3 (.int .i64)) (.pair (.arr 3 (.int .i64)) (.pair (.int .i64) (.pair (.sl (.pair (.int .i64) (.pair (.int .i64) (.pair (.int .i64) (.pair (.int .i64) .unit))))) (.pair (.sl (.pair (.int .i64) (.pair (.int .i64) (.pair (.int .i64) (.pair (.int .i64) .unit))))) .unit))))) x0)] []
def St1 (x2 : Int) : St := stL 109 [(2, .data (.int .i64) x2)] []
def St2 (x3 : Bool) (x28 : Int) (c1 : List Int × List Int × Int × List (Int × Int × Int × Int × Unit) × List (Int × Int × Int × Int × Unit) × Unit) : St := stL 109 [(1, .ref 1 0 []), (3, .data .bool x3), (28, .data (.int .i64) x28)] [(1, .cell (.pair (.arr 3 (.int .i64)) (.pair (.arr 3 (.int .i64)) (.pair (.int .i64) (.pair (.sl (.pair (.int .i64) (.pair (.int .i64) (.pair (.int .i64) (.pair (.int .i64) .unit))))) (.pair (.sl (.pair (.int .i64) (.pair (.int .i64) (.pair (.int .i64) (.pair (.int .i64) .unit))))) .unit))))) (.data (.pair (.arr 3 (.int .i64)) (.pair (.arr 3 (.int .i64)) (.pair (.int .i64) (.pair (.sl (.pair (.int .i64) (.pair (.int .i64) (.pair (.int .i64) (.pair (.int .i64) .unit))))) (.pair (.sl (.pair (.int .i64) (.pair (.int .i64) (.pair (.int .i64) (.pair (.int .i64) .unit))))) .unit))))) c1) false)]
noncomputable def cd0 : Code := cL (cL (cR (cL (cR (cR (cR (cB Try.f28)))))))
def St3 (x3 : Bool) (c1 : List Int × List Int × Int × List (Int × Int × Int × Int × Unit) × List (Int × Int × Int × Int × Unit) × Unit) : St := stL 109 [(1, .ref 1 0 []), (3, .data .bool x3)] [(1, .cell (.pair (.arr 3 (.int .i64)) (.pair (.arr 3 (.int .i64)) (.pair (.int .i64) (.pair (.sl (.pair (.int .i64) (.pair (.int .i64) (.pair (.int .i64) (.pair (.int .i64) .unit))))) (.pair (.sl (.pair (.int .i64) (.pair (.int .i64) (.pair (.int .i64) (.pair (.int .i64) .unit))))) .unit))))) (.data (.pair (.arr 3 (.int .i64)) (.pair (.arr 3 (.int .i64)) (.pair (.int .i64) (.pair (.sl (.pair (.int .i64) (.pair (.int .i64) (.pair (.int .i64) (.pair (.int .i64) .unit))))) (.pair (.sl (.pair (.int .i64) (.pair (.int .i64) (.pair (.int .i64) (.pair (.int .i64) .unit))))) .unit))))) c1) false)]
def l0s {α : Type} (Nx : Bool → Int → (List Int × List Int × Int × List (Int × Int × Int × Int × Unit) × List (Int × Int × Int × Int × Unit) × Unit) → Option α) (Xt0 : Bool → (List Int × List Int × Int × List (Int × Int × Int × Int × Unit) × List (Int × Int × Int × Int × Unit) × Unit) → Option α) (x3 : Bool) (x28 : Int) (c1 : List Int × List Int × Int × List (Int × Int × Int × Int × Unit) × List (Int × Int × Int × Int × Unit) × Unit) : Option α :=
  if (decide (x28 < 3)) = true then
    cond (decide (0 ≤ x28 ∧ x28 < (3 : Int)) || !(x3 == true)) (
      (if (x3 == true) = true then Go.Bx.gate_value.run (List.getD c1.1 (Int.toNat x28) 0) else some false).bind fun y1 =>
      cond (decide (0 ≤ x28 ∧ x28 < (3 : Int)) || !((cond x3 y1 false) == true)) (
        (if ((cond x3 y1 false) == true) = true then Go.Bx.gate_value.run (List.getD c1.2.1 (Int.toNat x28) 0) else some false).bind fun y2 =>
        Nx (cond (cond x3 y1 false) y2 false) (IntKind.i64.wrap (x28 + 1)) c1) none) none
  else
    Xt0 x3 c1
theorem l0s_eq {α : Type} (k : Nat) (next : St → Option α) (Q : Ex → St → Option α) (x3 : Bool) (x28 : Int) (c1 : List Int × List Int × Int × List (Int × Int × Int × Int × Unit) × List (Int × Int × Int × Int × Unit) × Unit) :
    rnd C k cd0 15 Q next (St2 x3 x28 c1) = l0s (fun (x3 : Bool) (x28 : Int) (c1 : List Int × List Int × Int × List (Int × Int × Int × Int × Unit) × List (Int × Int × Int × Int × Unit) × Unit) => next (St2 x3 x28 c1)) (fun (x3 : Bool) (c1 : List Int × List Int × Int × List (Int × Int × Int × Int × Unit) × List (Int × Int × Int × Int × Unit) × Unit) => Q (.exit 0) (St3 x3 c1)) x3 x28 c1 := by
  have h : ∀ (D L : DT α), denJ D L Js C cd0 (lq C 15 next Q) (St2 x3 x28 c1) =
        if (decide (x28 < 3)) = true then
          cond (decide (0 ≤ x28 ∧ x28 < (3 : Int)) || !(x3 == true)) (
            (if (x3 == true) = true then Go.Bx.gate_value.run (List.getD c1.1 (Int.toNat x28) 0) else some false).bind fun y1 =>
            cond (decide (0 ≤ x28 ∧ x28 < (3 : Int)) || !((cond x3 y1 false) == true)) (
              (if ((cond x3 y1 false) == true) = true then Go.Bx.gate_value.run (List.getD c1.2.1 (Int.toNat x28) 0) else some false).bind fun y2 =>
              next (St2 (cond (cond x3 y1 false) y2 false) (IntKind.i64.wrap (x28 + 1)) c1)) none) none
        else
          Q (.exit 0) (St3 x3 c1) := by
    intro D L; kernel_rfl
  refine (show rnd C k cd0 15 Q next (St2 x3 x28 c1) = denJ (den C k) (lp C k) Js C cd0 (lq C 15 next Q) (St2 x3 x28 c1) from (denJ_den _ _ _ _ _ _).symm).trans ((h (den C k) (lp C k)).trans ?_)
  first | rfl | kernel_rfl
def l0 {α : Type} (k : Nat) (Xt0 : Bool → (List Int × List Int × Int × List (Int × Int × Int × Int × Unit) × List (Int × Int × Int × Int × Unit) × Unit) → Option α) : Nat → Bool → Int → (List Int × List Int × Int × List (Int × Int × Int × Int × Unit) × List (Int × Int × Int × Int × Unit) × Unit) → Option α
  | 0, _, _, _ => none
  | n + 1, x3, x28, c1 => l0s (l0 k Xt0 n) Xt0 x3 x28 c1
theorem l0_eq {α : Type} (k : Nat) (Q : Ex → St → Option α) : ∀ (n : Nat) (x3 : Bool) (x28 : Int) (c1 : List Int × List Int × Int × List (Int × Int × Int × Int × Unit) × List (Int × Int × Int × Int × Unit) × Unit), iter (rnd C k cd0 15 Q) n (St2 x3 x28 c1) = l0 k (fun (x3 : Bool) (c1 : List Int × List Int × Int × List (Int × Int × Int × Int × Unit) × List (Int × Int × Int × Int × Unit) × Unit) => Q (.exit 0) (St3 x3 c1)) n x3 x28 c1
  | 0, _, _, _ => rfl
  | n + 1, x3, x28, c1 => (iter_succ _ _ _).trans ((l0s_eq k (iter (rnd C k cd0 15 Q) n) Q x3 x28 c1).trans (congrArg (fun N => l0s N (fun (x3 : Bool) (c1 : List Int × List Int × Int × List (Int × Int × Int × Int × Unit) × List (Int × Int × Int × Int × Unit) × Unit) => Q (.exit 0) (St3 x3 c1)) x3 x28 c1) (funext fun x3 => funext fun x28 => funext fun c1 => l0_eq k Q n x3 x28 c1)))
theorem l0_congr {α : Type} (k : Nat) (Xt0 : Bool → (List Int × List Int × Int × List (Int × Int × Int × Int × Unit) × List (Int × Int × Int × Int × Unit) × Unit) → Option α) (Xt0q : Bool → (List Int × List Int × Int × List (Int × Int × Int × Int × Unit) × List (Int × Int × Int × Int × Unit) × Unit) → Option α) (hXt0 : ∀ (x3 : Bool) (c1 : List Int × List Int × Int × List (Int × Int × Int × Int × Unit) × List (Int × Int × Int × Int × Unit) × Unit), Xt0 x3 c1 = Xt0q x3 c1) (n : Nat) (x3 : Bool) (x28 : Int) (c1 : List Int × List Int × Int × List (Int × Int × Int × Int × Unit) × List (Int × Int × Int × Int × Unit) × Unit) : l0 k Xt0 n x3 x28 c1 = l0 k Xt0q n x3 x28 c1 := by
  obtain rfl : Xt0 = Xt0q := by funext x3; funext c1; exact hXt0 x3 c1
  rfl
noncomputable def cd1 : Code := cR (cR (cR (cR (cB Try.f28))))
def St4 (x3 : Bool) (c1 : List Int × List Int × Int × List (Int × Int × Int × Int × Unit) × List (Int × Int × Int × Int × Unit) × Unit) : St := stL 109 [(1, .ref 1 0 []), (3, .data .bool x3)] [(1, .cell (.pair (.arr 3 (.int .i64)) (.pair (.arr 3 (.int .i64)) (.pair (.int .i64) (.pair (.sl (.pair (.int .i64) (.pair (.int .i64) (.pair (.int .i64) (.pair (.int .i64) .unit))))) (.pair (.sl (.pair (.int .i64) (.pair (.int .i64) (.pair (.int .i64) (.pair (.int .i64) .unit))))) .unit))))) (.data (.pair (.arr 3 (.int .i64)) (.pair (.arr 3 (.int .i64)) (.pair (.int .i64) (.pair (.sl (.pair (.int .i64) (.pair (.int .i64) (.pair (.int .i64) (.pair (.int .i64) .unit))))) (.pair (.sl (.pair (.int .i64) (.pair (.int .i64) (.pair (.int .i64) (.pair (.int .i64) .unit))))) .unit))))) c1) false)]
def St5 (x3 : Bool) (x55 : Int) (x56 : Int) (c1 : List Int × List Int × Int × List (Int × Int × Int × Int × Unit) × List (Int × Int × Int × Int × Unit) × Unit) (c50 : List (Int × Int × Int × Int × Unit)) : St := stL 109 [(1, .ref 1 0 []), (3, .data .bool x3), (5, .app 50 0), (54, .app 50 0), (55, .data (.int .i64) x55), (56, .data (.int .i64) x56)] [(1, .cell (.pair (.arr 3 (.int .i64)) (.pair (.arr 3 (.int .i64)) (.pair (.int .i64) (.pair (.sl (.pair (.int .i64) (.pair (.int .i64) (.pair (.int .i64) (.pair (.int .i64) .unit))))) (.pair (.sl (.pair (.int .i64) (.pair (.int .i64) (.pair (.int .i64) (.pair (.int .i64) .unit))))) .unit))))) (.data (.pair (.arr 3 (.int .i64)) (.pair (.arr 3 (.int .i64)) (.pair (.int .i64) (.pair (.sl (.pair (.int .i64) (.pair (.int .i64) (.pair (.int .i64) (.pair (.int .i64) .unit))))) (.pair (.sl (.pair (.int .i64) (.pair (.int .i64) (.pair (.int .i64) (.pair (.int .i64) .unit))))) .unit))))) c1) false), (50, .buf (.pair (.int .i64) (.pair (.int .i64) (.pair (.int .i64) (.pair (.int .i64) .unit)))) c50 0 true)]
noncomputable def cd2 : Code := cL (cL (cR (cL (cR (cR (cR (cR (cR (cB Try.f28)))))))))
def St6 (x3 : Bool) (x55 : Int) (x56 : Int) (x91 : List (Int × Int × Int × Int × Unit)) (x92 : Int) (x93 : Int) (c1 : List Int × List Int × Int × List (Int × Int × Int × Int × Unit) × List (Int × Int × Int × Int × Unit) × Unit) (c7 : Int × Int × Int × Int × Unit) (c50 : List (Int × Int × Int × Int × Unit)) : St := stL 109 [(1, .ref 1 0 []), (3, .data .bool x3), (5, .app 50 0), (7, .ref 7 0 []), (54, .app 50 0), (55, .data (.int .i64) x55), (56, .data (.int .i64) x56), (91, .data (.sl (.pair (.int .i64) (.pair (.int .i64) (.pair (.int .i64) (.pair (.int .i64) .unit))))) x91), (92, .data (.int .i64) x92), (93, .data (.int .i64) x93)] [(1, .cell (.pair (.arr 3 (.int .i64)) (.pair (.arr 3 (.int .i64)) (.pair (.int .i64) (.pair (.sl (.pair (.int .i64) (.pair (.int .i64) (.pair (.int .i64) (.pair (.int .i64) .unit))))) (.pair (.sl (.pair (.int .i64) (.pair (.int .i64) (.pair (.int .i64) (.pair (.int .i64) .unit))))) .unit))))) (.data (.pair (.arr 3 (.int .i64)) (.pair (.arr 3 (.int .i64)) (.pair (.int .i64) (.pair (.sl (.pair (.int .i64) (.pair (.int .i64) (.pair (.int .i64) (.pair (.int .i64) .unit))))) (.pair (.sl (.pair (.int .i64) (.pair (.int .i64) (.pair (.int .i64) (.pair (.int .i64) .unit))))) .unit))))) c1) false), (7, .cell (.pair (.int .i64) (.pair (.int .i64) (.pair (.int .i64) (.pair (.int .i64) .unit)))) (.data (.pair (.int .i64) (.pair (.int .i64) (.pair (.int .i64) (.pair (.int .i64) .unit)))) c7) false), (50, .buf (.pair (.int .i64) (.pair (.int .i64) (.pair (.int .i64) (.pair (.int .i64) .unit)))) c50 0 true)]
noncomputable def cd3 : Code := cL (cL (cR (cR (cR (cL (cL (cR (cR (cL (cL (cR (cL (cR (cR (cR (cR (cR (cB Try.f28))))))))))))))))))
def St7 (x3 : Bool) (x55 : Int) (x56 : Int) (c1 : List Int × List Int × Int × List (Int × Int × Int × Int × Unit) × List (Int × Int × Int × Int × Unit) × Unit) (c50 : List (Int × Int × Int × Int × Unit)) : St := stL 109 [(1, .ref 1 0 []), (3, .data .bool x3), (5, .app 50 0), (54, .app 50 0), (55, .data (.int .i64) x55), (56, .data (.int .i64) x56)] [(1, .cell (.pair (.arr 3 (.int .i64)) (.pair (.arr 3 (.int .i64)) (.pair (.int .i64) (.pair (.sl (.pair (.int .i64) (.pair (.int .i64) (.pair (.int .i64) (.pair (.int .i64) .unit))))) (.pair (.sl (.pair (.int .i64) (.pair (.int .i64) (.pair (.int .i64) (.pair (.int .i64) .unit))))) .unit))))) (.data (.pair (.arr 3 (.int .i64)) (.pair (.arr 3 (.int .i64)) (.pair (.int .i64) (.pair (.sl (.pair (.int .i64) (.pair (.int .i64) (.pair (.int .i64) (.pair (.int .i64) .unit))))) (.pair (.sl (.pair (.int .i64) (.pair (.int .i64) (.pair (.int .i64) (.pair (.int .i64) .unit))))) .unit))))) c1) false), (50, .buf (.pair (.int .i64) (.pair (.int .i64) (.pair (.int .i64) (.pair (.int .i64) .unit)))) c50 0 true)]
def l2s {α : Type} (Nx : Bool → Int → Int → (List (Int × Int × Int × Int × Unit)) → Int → Int → (List Int × List Int × Int × List (Int × Int × Int × Int × Unit) × List (Int × Int × Int × Int × Unit) × Unit) → (Int × Int × Int × Int × Unit) → (List (Int × Int × Int × Int × Unit)) → Option α) (Xt4 : Bool → Int → Int → (List Int × List Int × Int × List (Int × Int × Int × Int × Unit) × List (Int × Int × Int × Int × Unit) × Unit) → (List (Int × Int × Int × Int × Unit)) → Option α) (x3 : Bool) (x55 : Int) (x56 : Int) (x91 : List (Int × Int × Int × Int × Unit)) (x92 : Int) (x93 : Int) (c1 : List Int × List Int × Int × List (Int × Int × Int × Int × Unit) × List (Int × Int × Int × Int × Unit) × Unit) (c7 : Int × Int × Int × Int × Unit) (c50 : List (Int × Int × Int × Int × Unit)) : Option α :=
  if (decide (x93 < x92)) = true then
    if 0 ≤ x93 ∧ x93 < (x91.length : Int) then
      Nx (cond x3 (c7.1 != (List.getD x91 (Int.toNat x93) (0, 0, 0, 0, ())).1) false) x55 x56 x91 x92 (IntKind.i64.wrap (x93 + 1)) c1 c7 c50
    else none
  else
    Xt4 x3 x55 x56 c1 c50
theorem l2s_eq {α : Type} (k : Nat) (next : St → Option α) (Q : Ex → St → Option α) (x3 : Bool) (x55 : Int) (x56 : Int) (x91 : List (Int × Int × Int × Int × Unit)) (x92 : Int) (x93 : Int) (c1 : List Int × List Int × Int × List (Int × Int × Int × Int × Unit) × List (Int × Int × Int × Int × Unit) × Unit) (c7 : Int × Int × Int × Int × Unit) (c50 : List (Int × Int × Int × Int × Unit)) :
    rnd C k cd3 45 Q next (St6 x3 x55 x56 x91 x92 x93 c1 c7 c50) = l2s (fun (x3 : Bool) (x55 : Int) (x56 : Int) (x91 : List (Int × Int × Int × Int × Unit)) (x92 : Int) (x93 : Int) (c1 : List Int × List Int × Int × List (Int × Int × Int × Int × Unit) × List (Int × Int × Int × Int × Unit) × Unit) (c7 : Int × Int × Int × Int × Unit) (c50 : List (Int × Int × Int × Int × Unit)) => next (St6 x3 x55 x56 x91 x92 x93 c1 c7 c50)) (fun (x3 : Bool) (x55 : Int) (x56 : Int) (c1 : List Int × List Int × Int × List (Int × Int × Int × Int × Unit) × List (Int × Int × Int × Int × Unit) × Unit) (c50 : List (Int × Int × Int × Int × Unit)) => Q (.exit 4) (St7 x3 x55 x56 c1 c50)) x3 x55 x56 x91 x92 x93 c1 c7 c50 := by
  have h : ∀ (D L : DT α), denJ D L Js C cd3 (lq C 45 next Q) (St6 x3 x55 x56 x91 x92 x93 c1 c7 c50) =
        if (decide (x93 < x92)) = true then
          if 0 ≤ x93 ∧ x93 < (x91.length : Int) then
            next (St6 (cond x3 (c7.1 != (List.getD x91 (Int.toNat x93) (0, 0, 0, 0, ())).1) false) x55 x56 x91 x92 (IntKind.i64.wrap (x93 + 1)) c1 c7 c50)
          else none
        else
          Q (.exit 4) (St7 x3 x55 x56 c1 c50) := by
    intro D L; kernel_rfl
  refine (show rnd C k cd3 45 Q next (St6 x3 x55 x56 x91 x92 x93 c1 c7 c50) = denJ (den C k) (lp C k) Js C cd3 (lq C 45 next Q) (St6 x3 x55 x56 x91 x92 x93 c1 c7 c50) from (denJ_den _ _ _ _ _ _).symm).trans ((h (den C k) (lp C k)).trans ?_)
  first | rfl | kernel_rfl
def l2 {α : Type} (k : Nat) (Xt4 : Bool → Int → Int → (List Int × List Int × Int × List (Int × Int × Int × Int × Unit) × List (Int × Int × Int × Int × Unit) × Unit) → (List (Int × Int × Int × Int × Unit)) → Option α) : Nat → Bool → Int → Int → (List (Int × Int × Int × Int × Unit)) → Int → Int → (List Int × List Int × Int × List (Int × Int × Int × Int × Unit) × List (Int × Int × Int × Int × Unit) × Unit) → (Int × Int × Int × Int × Unit) → (List (Int × Int × Int × Int × Unit)) → Option α
  | 0, _, _, _, _, _, _, _, _, _ => none
  | n + 1, x3, x55, x56, x91, x92, x93, c1, c7, c50 => l2s (l2 k Xt4 n) Xt4 x3 x55 x56 x91 x92 x93 c1 c7 c50
theorem l2_eq {α : Type} (k : Nat) (Q : Ex → St → Option α) : ∀ (n : Nat) (x3 : Bool) (x55 : Int) (x56 : Int) (x91 : List (Int × Int × Int × Int × Unit)) (x92 : Int) (x93 : Int) (c1 : List Int × List Int × Int × List (Int × Int × Int × Int × Unit) × List (Int × Int × Int × Int × Unit) × Unit) (c7 : Int × Int × Int × Int × Unit) (c50 : List (Int × Int × Int × Int × Unit)), iter (rnd C k cd3 45 Q) n (St6 x3 x55 x56 x91 x92 x93 c1 c7 c50) = l2 k (fun (x3 : Bool) (x55 : Int) (x56 : Int) (c1 : List Int × List Int × Int × List (Int × Int × Int × Int × Unit) × List (Int × Int × Int × Int × Unit) × Unit) (c50 : List (Int × Int × Int × Int × Unit)) => Q (.exit 4) (St7 x3 x55 x56 c1 c50)) n x3 x55 x56 x91 x92 x93 c1 c7 c50
  | 0, _, _, _, _, _, _, _, _, _ => rfl
  | n + 1, x3, x55, x56, x91, x92, x93, c1, c7, c50 => (iter_succ _ _ _).trans ((l2s_eq k (iter (rnd C k cd3 45 Q) n) Q x3 x55 x56 x91 x92 x93 c1 c7 c50).trans (congrArg (fun N => l2s N (fun (x3 : Bool) (x55 : Int) (x56 : Int) (c1 : List Int × List Int × Int × List (Int × Int × Int × Int × Unit) × List (Int × Int × Int × Int × Unit) × Unit) (c50 : List (Int × Int × Int × Int × Unit)) => Q (.exit 4) (St7 x3 x55 x56 c1 c50)) x3 x55 x56 x91 x92 x93 c1 c7 c50) (funext fun x3 => funext fun x55 => funext fun x56 => funext fun x91 => funext fun x92 => funext fun x93 => funext fun c1 => funext fun c7 => funext fun c50 => l2_eq k Q n x3 x55 x56 x91 x92 x93 c1 c7 c50)))
theorem l2_congr {α : Type} (k : Nat) (Xt4 : Bool → Int → Int → (List Int × List Int × Int × List (Int × Int × Int × Int × Unit) × List (Int × Int × Int × Int × Unit) × Unit) → (List (Int × Int × Int × Int × Unit)) → Option α) (Xt4q : Bool → Int → Int → (List Int × List Int × Int × List (Int × Int × Int × Int × Unit) × List (Int × Int × Int × Int × Unit) × Unit) → (List (Int × Int × Int × Int × Unit)) → Option α) (hXt4 : ∀ (x3 : Bool) (x55 : Int) (x56 : Int) (c1 : List Int × List Int × Int × List (Int × Int × Int × Int × Unit) × List (Int × Int × Int × Int × Unit) × Unit) (c50 : List (Int × Int × Int × Int × Unit)), Xt4 x3 x55 x56 c1 c50 = Xt4q x3 x55 x56 c1 c50) (n : Nat) (x3 : Bool) (x55 : Int) (x56 : Int) (x91 : List (Int × Int × Int × Int × Unit)) (x92 : Int) (x93 : Int) (c1 : List Int × List Int × Int × List (Int × Int × Int × Int × Unit) × List (Int × Int × Int × Int × Unit) × Unit) (c7 : Int × Int × Int × Int × Unit) (c50 : List (Int × Int × Int × Int × Unit)) : l2 k Xt4 n x3 x55 x56 x91 x92 x93 c1 c7 c50 = l2 k Xt4q n x3 x55 x56 x91 x92 x93 c1 c7 c50 := by
  obtain rfl : Xt4 = Xt4q := by funext x3; funext x55; funext x56; funext c1; funext c50; exact hXt4 x3 x55 x56 c1 c50
  rfl
noncomputable def cd4 : Code := cR (cR (cR (cL (cL (cR (cL (cR (cR (cR (cR (cR (cB Try.f28))))))))))))
def St8 (x3 : Bool) (x55 : Int) (x56 : Int) (c1 : List Int × List Int × Int × List (Int × Int × Int × Int × Unit) × List (Int × Int × Int × Int × Unit) × Unit) (c50 : List (Int × Int × Int × Int × Unit)) : St := stL 109 [(1, .ref 1 0 []), (3, .data .bool x3), (5, .app 50 0), (54, .app 50 0), (55, .data (.int .i64) x55), (56, .data (.int .i64) x56)] [(1, .cell (.pair (.arr 3 (.int .i64)) (.pair (.arr 3 (.int .i64)) (.pair (.int .i64) (.pair (.sl (.pair (.int .i64) (.pair (.int .i64) (.pair (.int .i64) (.pair (.int .i64) .unit))))) (.pair (.sl (.pair (.int .i64) (.pair (.int .i64) (.pair (.int .i64) (.pair (.int .i64) .unit))))) .unit))))) (.data (.pair (.arr 3 (.int .i64)) (.pair (.arr 3 (.int .i64)) (.pair (.int .i64) (.pair (.sl (.pair (.int .i64) (.pair (.int .i64) (.pair (.int .i64) (.pair (.int .i64) .unit))))) (.pair (.sl (.pair (.int .i64) (.pair (.int .i64) (.pair (.int .i64) (.pair (.int .i64) .unit))))) .unit))))) c1) false), (50, .buf (.pair (.int .i64) (.pair (.int .i64) (.pair (.int .i64) (.pair (.int .i64) .unit)))) c50 0 true)]
def j1 {α : Type} (Nx : Bool → Int → Int → (List Int × List Int × Int × List (Int × Int × Int × Int × Unit) × List (Int × Int × Int × Int × Unit) × Unit) → (List (Int × Int × Int × Int × Unit)) → Option α) (x3 : Bool) (x55 : Int) (x56 : Int) (c1 : List Int × List Int × Int × List (Int × Int × Int × Int × Unit) × List (Int × Int × Int × Int × Unit) × Unit) (c50 : List (Int × Int × Int × Int × Unit)) : Option α :=
  Nx x3 x55 (IntKind.i64.wrap (x56 + 1)) c1 c50
theorem j1_eq {α : Type} (k : Nat) (next : St → Option α) (Q : Ex → St → Option α) (x3 : Bool) (x55 : Int) (x56 : Int) (c1 : List Int × List Int × Int × List (Int × Int × Int × Int × Unit) × List (Int × Int × Int × Int × Unit) × Unit) (c50 : List (Int × Int × Int × Int × Unit)) :
    (den C k) cd4 (lq C 33 next Q) (St8 x3 x55 x56 c1 c50) = j1 (fun (x3 : Bool) (x55 : Int) (x56 : Int) (c1 : List Int × List Int × Int × List (Int × Int × Int × Int × Unit) × List (Int × Int × Int × Int × Unit) × Unit) (c50 : List (Int × Int × Int × Int × Unit)) => next (St5 x3 x55 x56 c1 c50)) x3 x55 x56 c1 c50 := by
  have h : ∀ (D L : DT α), denJ D L Js C cd4 (lq C 33 next Q) (St8 x3 x55 x56 c1 c50) =
        next (St5 x3 x55 (IntKind.i64.wrap (x56 + 1)) c1 c50) := by
    intro D L; kernel_rfl
  refine (show (den C k) cd4 (lq C 33 next Q) (St8 x3 x55 x56 c1 c50) = denJ (den C k) (lp C k) Js C cd4 (lq C 33 next Q) (St8 x3 x55 x56 c1 c50) from (denJ_den _ _ _ _ _ _).symm).trans ((h (den C k) (lp C k)).trans ?_)
  first | rfl | kernel_rfl
theorem a0 {α : Type} (k : Nat) (next : St → Option α) (Q : Ex → St → Option α) (x3 : Bool) (x55 : Int) (x56 : Int) (x91 : List (Int × Int × Int × Int × Unit)) (x92 : Int) (x93 : Int) (c1 : List Int × List Int × Int × List (Int × Int × Int × Int × Unit) × List (Int × Int × Int × Int × Unit) × Unit) (c7 : Int × Int × Int × Int × Unit) (c50 : List (Int × Int × Int × Int × Unit)) :
    (lp C k) cd3 (blkQ C 4 (blkQ C 3 (sq (den C k) (lp C k) Js C cd4 (lq C 33 next Q)))) (St6 x3 x55 x56 x91 x92 x93 c1 c7 c50) = l2 k (fun (x3 : Bool) (x55 : Int) (x56 : Int) (c1 : List Int × List Int × Int × List (Int × Int × Int × Int × Unit) × List (Int × Int × Int × Int × Unit) × Unit) (c50 : List (Int × Int × Int × Int × Unit)) => j1 (fun (x3 : Bool) (x55 : Int) (x56 : Int) (c1 : List Int × List Int × Int × List (Int × Int × Int × Int × Unit) × List (Int × Int × Int × Int × Unit) × Unit) (c50 : List (Int × Int × Int × Int × Unit)) => next (St5 x3 x55 x56 c1 c50)) x3 x55 x56 c1 c50) k x3 x55 x56 x91 x92 x93 c1 c7 c50 :=
  (show (lp C k) cd3 (blkQ C 4 (blkQ C 3 (sq (den C k) (lp C k) Js C cd4 (lq C 33 next Q)))) (St6 x3 x55 x56 x91 x92 x93 c1 c7 c50) = iter (rnd C k cd3 45 (blkQ C 4 (blkQ C 3 (sq (den C k) (lp C k) Js C cd4 (lq C 33 next Q))))) k (St6 x3 x55 x56 x91 x92 x93 c1 c7 c50) by kernel_rfl).trans ((l2_eq k (blkQ C 4 (blkQ C 3 (sq (den C k) (lp C k) Js C cd4 (lq C 33 next Q)))) k x3 x55 x56 x91 x92 x93 c1 c7 c50).trans (l2_congr k _ _ (fun x3 x55 x56 c1 c50 => ((show (blkQ C 4 (blkQ C 3 (sq (den C k) (lp C k) Js C cd4 (lq C 33 next Q)))) (.exit 4) (St7 x3 x55 x56 c1 c50) = (den C k) cd4 (lq C 33 next Q) (St8 x3 x55 x56 c1 c50) by kernel_rfl).trans (by simp only [j1_eq]))) k x3 x55 x56 x91 x92 x93 c1 c7 c50))
def St9 (x3 : Bool) : St := stL 109 [(3, .data .bool x3)] []
def l1s {α : Type} (k : Nat) (Nx : Bool → Int → Int → (List Int × List Int × Int × List (Int × Int × Int × Int × Unit) × List (Int × Int × Int × Int × Unit) × Unit) → (List (Int × Int × Int × Int × Unit)) → Option α) (Xt2 : Bool → Option α) (x3 : Bool) (x55 : Int) (x56 : Int) (c1 : List Int × List Int × Int × List (Int × Int × Int × Int × Unit) × List (Int × Int × Int × Int × Unit) × Unit) (c50 : List (Int × Int × Int × Int × Unit)) : Option α :=
  if (decide (x56 < x55)) = true then
    if 0 ≤ x56 ∧ x56 < (c50.length : Int) then
      (if (x3 == true) = true then Go.Bx.gate_value.run (List.getD c50 (Int.toNat x56) (0, 0, 0, 0, ())).2.1 else some false).bind fun y3 =>
      if 0 ≤ (0 : Int) ∧ (0 : Int) ≤ x56 ∧ x56 ≤ (c50.length : Int) then
        l2 k (fun (x3 : Bool) (x55 : Int) (x56 : Int) (c1 : List Int × List Int × Int × List (Int × Int × Int × Int × Unit) × List (Int × Int × Int × Int × Unit) × Unit) (c50 : List (Int × Int × Int × Int × Unit)) => j1 Nx x3 x55 x56 c1 c50) k (cond (cond (cond (cond (cond x3 y3 false) (decide ((List.getD c50 (Int.toNat x56) (0, 0, 0, 0, ())).2.2.1 ≥ 0)) false) (decide ((List.getD c50 (Int.toNat x56) (0, 0, 0, 0, ())).2.2.1 < 3)) false) (decide ((List.getD c50 (Int.toNat x56) (0, 0, 0, 0, ())).2.2.2.1 ≥ 0)) false) (decide ((List.getD c50 (Int.toNat x56) (0, 0, 0, 0, ())).2.2.2.1 ≤ c1.2.2.1)) false) x55 x56 (cutL c50 0 x56) ((cutL c50 0 x56).length : Int) 0 c1 (List.getD c50 (Int.toNat x56) (0, 0, 0, 0, ())) c50
      else none
    else none
  else
    Xt2 x3
theorem l1s_eq {α : Type} (k : Nat) (next : St → Option α) (Q : Ex → St → Option α) (x3 : Bool) (x55 : Int) (x56 : Int) (c1 : List Int × List Int × Int × List (Int × Int × Int × Int × Unit) × List (Int × Int × Int × Int × Unit) × Unit) (c50 : List (Int × Int × Int × Int × Unit)) :
    rnd C k cd2 33 Q next (St5 x3 x55 x56 c1 c50) = l1s k (fun (x3 : Bool) (x55 : Int) (x56 : Int) (c1 : List Int × List Int × Int × List (Int × Int × Int × Int × Unit) × List (Int × Int × Int × Int × Unit) × Unit) (c50 : List (Int × Int × Int × Int × Unit)) => next (St5 x3 x55 x56 c1 c50)) (fun (x3 : Bool) => Q (.exit 2) (St9 x3)) x3 x55 x56 c1 c50 := by
  have h : ∀ (D L : DT α), denJ D L Js C cd2 (lq C 33 next Q) (St5 x3 x55 x56 c1 c50) =
        if (decide (x56 < x55)) = true then
          if 0 ≤ x56 ∧ x56 < (c50.length : Int) then
            (if (x3 == true) = true then Go.Bx.gate_value.run (List.getD c50 (Int.toNat x56) (0, 0, 0, 0, ())).2.1 else some false).bind fun y3 =>
            if 0 ≤ (0 : Int) ∧ (0 : Int) ≤ x56 ∧ x56 ≤ (c50.length : Int) then
              L cd3 (blkQ C 4 (blkQ C 3 (sq D L Js C cd4 (lq C 33 next Q)))) (St6 (cond (cond (cond (cond (cond x3 y3 false) (decide ((List.getD c50 (Int.toNat x56) (0, 0, 0, 0, ())).2.2.1 ≥ 0)) false) (decide ((List.getD c50 (Int.toNat x56) (0, 0, 0, 0, ())).2.2.1 < 3)) false) (decide ((List.getD c50 (Int.toNat x56) (0, 0, 0, 0, ())).2.2.2.1 ≥ 0)) false) (decide ((List.getD c50 (Int.toNat x56) (0, 0, 0, 0, ())).2.2.2.1 ≤ c1.2.2.1)) false) x55 x56 (cutL c50 0 x56) ((cutL c50 0 x56).length : Int) 0 c1 (List.getD c50 (Int.toNat x56) (0, 0, 0, 0, ())) c50)
            else none
          else none
        else
          Q (.exit 2) (St9 x3) := by
    intro D L; kernel_rfl
  refine (show rnd C k cd2 33 Q next (St5 x3 x55 x56 c1 c50) = denJ (den C k) (lp C k) Js C cd2 (lq C 33 next Q) (St5 x3 x55 x56 c1 c50) from (denJ_den _ _ _ _ _ _).symm).trans ((h (den C k) (lp C k)).trans ?_)
  simp only [a0]
  first | rfl | kernel_rfl
def l1 {α : Type} (k : Nat) (Xt2 : Bool → Option α) : Nat → Bool → Int → Int → (List Int × List Int × Int × List (Int × Int × Int × Int × Unit) × List (Int × Int × Int × Int × Unit) × Unit) → (List (Int × Int × Int × Int × Unit)) → Option α
  | 0, _, _, _, _, _ => none
  | n + 1, x3, x55, x56, c1, c50 => l1s k (l1 k Xt2 n) Xt2 x3 x55 x56 c1 c50
theorem l1_eq {α : Type} (k : Nat) (Q : Ex → St → Option α) : ∀ (n : Nat) (x3 : Bool) (x55 : Int) (x56 : Int) (c1 : List Int × List Int × Int × List (Int × Int × Int × Int × Unit) × List (Int × Int × Int × Int × Unit) × Unit) (c50 : List (Int × Int × Int × Int × Unit)), iter (rnd C k cd2 33 Q) n (St5 x3 x55 x56 c1 c50) = l1 k (fun (x3 : Bool) => Q (.exit 2) (St9 x3)) n x3 x55 x56 c1 c50
  | 0, _, _, _, _, _ => rfl
  | n + 1, x3, x55, x56, c1, c50 => (iter_succ _ _ _).trans ((l1s_eq k (iter (rnd C k cd2 33 Q) n) Q x3 x55 x56 c1 c50).trans (congrArg (fun N => l1s k N (fun (x3 : Bool) => Q (.exit 2) (St9 x3)) x3 x55 x56 c1 c50) (funext fun x3 => funext fun x55 => funext fun x56 => funext fun c1 => funext fun c50 => l1_eq k Q n x3 x55 x56 c1 c50)))
theorem l1_congr {α : Type} (k : Nat) (Xt2 : Bool → Option α) (Xt2q : Bool → Option α) (hXt2 : ∀ (x3 : Bool), Xt2 x3 = Xt2q x3) (n : Nat) (x3 : Bool) (x55 : Int) (x56 : Int) (c1 : List Int × List Int × Int × List (Int × Int × Int × Int × Unit) × List (Int × Int × Int × Int × Unit) × Unit) (c50 : List (Int × Int × Int × Int × Unit)) : l1 k Xt2 n x3 x55 x56 c1 c50 = l1 k Xt2q n x3 x55 x56 c1 c50 := by
  obtain rfl : Xt2 = Xt2q := by funext x3; exact hXt2 x3
  rfl
noncomputable def cd5 : Code := cR (cR (cR (cR (cR (cR (cB Try.f28))))))
def St10 (x3 : Bool) : St := stL 109 [(3, .data .bool x3)] []
def j2 {α : Type} (Rt : Int → Option α) (x3 : Bool) : Option α :=
  if (not x3) = true then
    Rt 12
  else
    Rt 0
theorem j2_eq {α : Type} (k : Nat) (Q : Ex → St → Option α) (x3 : Bool) :
    (den C k) cd5 Q (St10 x3) = j2 (fun (x2 : Int) => Q .ret (St1 x2)) x3 := by
  have h : ∀ (D L : DT α), denJ D L Js C cd5 Q (St10 x3) =
        if (not x3) = true then
          Q .ret (St1 12)
        else
          Q .ret (St1 0) := by
    intro D L; kernel_rfl
  refine (show (den C k) cd5 Q (St10 x3) = denJ (den C k) (lp C k) Js C cd5 Q (St10 x3) from (denJ_den _ _ _ _ _ _).symm).trans ((h (den C k) (lp C k)).trans ?_)
  first | rfl | kernel_rfl
theorem a1 {α : Type} (k : Nat) (Q : Ex → St → Option α) (x3 : Bool) (x55 : Int) (x56 : Int) (c1 : List Int × List Int × Int × List (Int × Int × Int × Int × Unit) × List (Int × Int × Int × Int × Unit) × Unit) (c50 : List (Int × Int × Int × Int × Unit)) :
    (lp C k) cd2 (blkQ C 2 (sq (den C k) (lp C k) Js C cd5 Q)) (St5 x3 x55 x56 c1 c50) = l1 k (fun (x3 : Bool) => j2 (fun (x2 : Int) => Q .ret (St1 x2)) x3) k x3 x55 x56 c1 c50 :=
  (show (lp C k) cd2 (blkQ C 2 (sq (den C k) (lp C k) Js C cd5 Q)) (St5 x3 x55 x56 c1 c50) = iter (rnd C k cd2 33 (blkQ C 2 (sq (den C k) (lp C k) Js C cd5 Q))) k (St5 x3 x55 x56 c1 c50) by kernel_rfl).trans ((l1_eq k (blkQ C 2 (sq (den C k) (lp C k) Js C cd5 Q)) k x3 x55 x56 c1 c50).trans (l1_congr k _ _ (fun x3 => ((show (blkQ C 2 (sq (den C k) (lp C k) Js C cd5 Q)) (.exit 2) (St9 x3) = (den C k) cd5 Q (St10 x3) by kernel_rfl).trans (by simp only [j2_eq]))) k x3 x55 x56 c1 c50))
def j0 {α : Type} (k : Nat) (Rt : Int → Option α) (x3 : Bool) (c1 : List Int × List Int × Int × List (Int × Int × Int × Int × Unit) × List (Int × Int × Int × Int × Unit) × Unit) : Option α :=
  if fitB (0 + c1.2.2.2.1.length) 32 = true then
    if fitB (c1.2.2.2.1.length + c1.2.2.2.2.1.length) 32 = true then
      l1 k (fun (x3 : Bool) => j2 Rt x3) k x3 ((c1.2.2.2.1 ++ c1.2.2.2.2.1).length : Int) 0 c1 (c1.2.2.2.1 ++ c1.2.2.2.2.1)
    else none
  else none
theorem j0_eq {α : Type} (k : Nat) (Q : Ex → St → Option α) (x3 : Bool) (c1 : List Int × List Int × Int × List (Int × Int × Int × Int × Unit) × List (Int × Int × Int × Int × Unit) × Unit) :
    (den C k) cd1 Q (St4 x3 c1) = j0 k (fun (x2 : Int) => Q .ret (St1 x2)) x3 c1 := by
  have h : ∀ (D L : DT α), denJ D L Js C cd1 Q (St4 x3 c1) =
        if fitB (0 + c1.2.2.2.1.length) 32 = true then
          if fitB (c1.2.2.2.1.length + c1.2.2.2.2.1.length) 32 = true then
            L cd2 (blkQ C 2 (sq D L Js C cd5 Q)) (St5 x3 ((c1.2.2.2.1 ++ c1.2.2.2.2.1).length : Int) 0 c1 (c1.2.2.2.1 ++ c1.2.2.2.2.1))
          else none
        else none := by
    intro D L; kernel_rfl
  refine (show (den C k) cd1 Q (St4 x3 c1) = denJ (den C k) (lp C k) Js C cd1 Q (St4 x3 c1) from (denJ_den _ _ _ _ _ _).symm).trans ((h (den C k) (lp C k)).trans ?_)
  simp only [a1]
  first | rfl | kernel_rfl
theorem a2 {α : Type} (k : Nat) (Q : Ex → St → Option α) (x3 : Bool) (x28 : Int) (c1 : List Int × List Int × Int × List (Int × Int × Int × Int × Unit) × List (Int × Int × Int × Int × Unit) × Unit) :
    (lp C k) cd0 (blkQ C 0 (sq (den C k) (lp C k) Js C cd1 Q)) (St2 x3 x28 c1) = l0 k (fun (x3 : Bool) (c1 : List Int × List Int × Int × List (Int × Int × Int × Int × Unit) × List (Int × Int × Int × Int × Unit) × Unit) => j0 k (fun (x2 : Int) => Q .ret (St1 x2)) x3 c1) k x3 x28 c1 :=
  (show (lp C k) cd0 (blkQ C 0 (sq (den C k) (lp C k) Js C cd1 Q)) (St2 x3 x28 c1) = iter (rnd C k cd0 15 (blkQ C 0 (sq (den C k) (lp C k) Js C cd1 Q))) k (St2 x3 x28 c1) by kernel_rfl).trans ((l0_eq k (blkQ C 0 (sq (den C k) (lp C k) Js C cd1 Q)) k x3 x28 c1).trans (l0_congr k _ _ (fun x3 c1 => ((show (blkQ C 0 (sq (den C k) (lp C k) Js C cd1 Q)) (.exit 0) (St3 x3 c1) = (den C k) cd1 Q (St4 x3 c1) by kernel_rfl).trans (by simp only [j0_eq]))) k x3 x28 c1))
def top {α : Type} (k : Nat) (Rt : Int → Option α) (x0 : List Int × List Int × Int × List (Int × Int × Int × Int × Unit) × List (Int × Int × Int × Int × Unit) × Unit) : Option α :=
  if (cond (decide ((x0.2.2.2.1.length : Int) > 40)) true (decide ((x0.2.2.2.2.1.length : Int) > 40))) = true then
    Rt 1
  else
    l0 k (fun (x3 : Bool) (c1 : List Int × List Int × Int × List (Int × Int × Int × Int × Unit) × List (Int × Int × Int × Int × Unit) × Unit) => j0 k Rt x3 c1) k (cond (decide (x0.2.2.1 ≥ 0)) (decide (x0.2.2.1 ≤ 1099511627776)) false) 0 x0
theorem top_eq {α : Type} (k : Nat) (Q : Ex → St → Option α) (x0 : List Int × List Int × Int × List (Int × Int × Int × Int × Unit) × List (Int × Int × Int × Int × Unit) × Unit) :
    (den C k) (cB Try.f28) Q (St0 x0) = top k (fun (x2 : Int) => Q .ret (St1 x2)) x0 := by
  have h : ∀ (D L : DT α), denJ D L Js C (cB Try.f28) Q (St0 x0) =
        if (cond (decide ((x0.2.2.2.1.length : Int) > 40)) true (decide ((x0.2.2.2.2.1.length : Int) > 40))) = true then
          Q .ret (St1 1)
        else
          L cd0 (blkQ C 0 (sq D L Js C cd1 Q)) (St2 (cond (decide (x0.2.2.1 ≥ 0)) (decide (x0.2.2.1 ≤ 1099511627776)) false) 0 x0) := by
    intro D L; kernel_rfl
  refine (show (den C k) (cB Try.f28) Q (St0 x0) = denJ (den C k) (lp C k) Js C (cB Try.f28) Q (St0 x0) from (denJ_den _ _ _ _ _ _).symm).trans ((h (den C k) (lp C k)).trans ?_)
  simp only [a2]
  first | rfl | kernel_rfl
def run (x0 : List Int × List Int × Int × List (Int × Int × Int × Int × Unit) × List (Int × Int × Int × Int × Unit) × Unit) : Option (Int) := top (α := Int) fuel (fun (x2 : Int) => some x2) x0
def F : Fn := ⟨(.pair (.pair (.arr 3 (.int .i64)) (.pair (.arr 3 (.int .i64)) (.pair (.int .i64) (.pair (.sl (.pair (.int .i64) (.pair (.int .i64) (.pair (.int .i64) (.pair (.int .i64) .unit))))) (.pair (.sl (.pair (.int .i64) (.pair (.int .i64) (.pair (.int .i64) (.pair (.int .i64) .unit))))) .unit))))) .unit), (.int .i64), false, fun x => run x.1⟩
set_option maxRecDepth 100000 in
theorem con : Con Try.prog 28 F := by
  refine con_of_den (C := C) (ctx_ok (by kernel_rfl) (by kernel_rfl) (by kernel_rfl) (by kernel_rfl) ⟨.inl ⟨Go.Bx.gate_value.con, Go.Bx.gate_value.named⟩, trivial⟩) (by kernel_rfl) Try.func28 (c := cB Try.f28) (by kernel_rfl) (by kernel_rfl) F fuel (fun x => by simp [F, spread, Try.ntmps28]) ?_
  intro x r h
  rw [← h]
  have h1 : start F Try.f28.ntmps x = (St0 x.1) := by kernel_rfl
  rw [h1]
  refine (top_eq fuel (fin C Try.f28.results.toList F.rs F.multi) x.1).trans ?_
  kernel_rfl
theorem named : Named Try.prog 28 := named_of Try.func28 (by kernel_rfl) (by kernel_rfl)
end Go.Bx.gate_Check
namespace Go.Bx.basculeref_upTo
open Go Go.Proofs Go.Bx
set_option maxRecDepth 100000
set_option linter.unusedVariables false
def Js : List Nat := []
def C : Ctx := ⟨[(3, (.int .i64)), (4, .bool)], [], [], fnL [], noSh, [], invL [], [(2, [4])], [], [], 0, 0⟩
def St0 (x0 : Int) (x1 : Int) : St := stL 12 [(0, .data (.int .i64) x0), (1, .data (.int .i64) x1)] []
def St1 (x4 : Bool) : St := stL 12 [(4, .data .bool x4)] []
def top {α : Type} (Rt : Bool → Option α) (x0 : Int) (x1 : Int) : Option α :=
  Rt (cond (decide (0 ≤ x0)) (decide (x0 ≤ x1)) false)
theorem top_eq {α : Type} (k : Nat) (Q : Ex → St → Option α) (x0 : Int) (x1 : Int) :
    (den C k) (cB Try.f61) Q (St0 x0 x1) = top (fun (x4 : Bool) => Q .ret (St1 x4)) x0 x1 := by
  have h : ∀ (D L : DT α), denJ D L Js C (cB Try.f61) Q (St0 x0 x1) =
        Q .ret (St1 (cond (decide (0 ≤ x0)) (decide (x0 ≤ x1)) false)) := by
    intro D L; kernel_rfl
  refine (show (den C k) (cB Try.f61) Q (St0 x0 x1) = denJ (den C k) (lp C k) Js C (cB Try.f61) Q (St0 x0 x1) from (denJ_den _ _ _ _ _ _).symm).trans ((h (den C k) (lp C k)).trans ?_)
  first | rfl | kernel_rfl
def run (x0 : Int) (x1 : Int) : Option (Bool) := top (α := Bool) (fun (x4 : Bool) => some x4) x0 x1
def F : Fn := ⟨(.pair (.int .i64) (.pair (.int .i64) .unit)), .bool, false, fun x => run x.1 x.2.1⟩
set_option maxRecDepth 100000 in
theorem con : Con Try.prog 61 F := by
  refine con_of_den (C := C) (ctx_ok (by kernel_rfl) (by kernel_rfl) (by kernel_rfl) (by kernel_rfl) trivial) (by kernel_rfl) Try.func61 (c := cB Try.f61) (by kernel_rfl) (by kernel_rfl) F fuel (fun x => by simp [F, spread, Try.ntmps61]) ?_
  intro x r h
  rw [← h]
  have h1 : start F Try.f61.ntmps x = (St0 x.1 x.2.1) := by kernel_rfl
  rw [h1]
  refine (top_eq fuel (fin C Try.f61.results.toList F.rs F.multi) x.1 x.2.1).trans ?_
  kernel_rfl
theorem named : Named Try.prog 61 := named_of Try.func61 (by kernel_rfl) (by kernel_rfl)
end Go.Bx.basculeref_upTo
namespace Go.Bx.basculeref_GateFault
open Go Go.Proofs Go.Bx
set_option maxRecDepth 100000
set_option linter.unusedVariables false
def Js : List Nat := [10, 22, 23]
def C : Ctx := ⟨[(3, (.int .i64)), (23, (.int .i64)), (39, (.arr 3 (.int .i64))), (40, (.sl (.pair (.int .i64) (.pair (.int .i64) (.pair (.int .i64) (.pair (.int .i64) .unit)))))), (42, (.pair (.arr 3 (.int .i64)) (.pair (.arr 3 (.int .i64)) (.pair (.int .i64) (.pair (.sl (.pair (.int .i64) (.pair (.int .i64) (.pair (.int .i64) (.pair (.int .i64) .unit))))) (.pair (.sl (.pair (.int .i64) (.pair (.int .i64) (.pair (.int .i64) (.pair (.int .i64) .unit))))) .unit)))))), (103, (.pair (.int .i64) (.pair (.int .i64) (.pair (.int .i64) (.pair (.int .i64) .unit))))), (106, (.sl (.sl (.pair (.int .i64) (.pair (.int .i64) (.pair (.int .i64) (.pair (.int .i64) .unit)))))))], [], [(105, (3, 3))], fnL [(61, Go.Bx.basculeref_upTo.F)], noSh, [], invL [], [(2, [2]), (7, [3, 5, 6]), (10, [1, 3, 5, 6, 48, 49, 50]), (13, [1, 3, 5, 6, 48, 49, 50]), (16, [1, 3, 5, 6, 48, 49, 50, 54, 55, 56]), (1, [1, 3]), (4, [1, 3, 24]), (15, [1, 3, 24]), (27, [1, 3]), (36, [1, 3, 5, 6, 48, 49, 50]), (45, [1, 3, 5, 6, 48, 49, 50, 54, 55, 56]), (63, [1, 3, 5, 6, 48, 49, 50]), (66, [3, 5, 6])], [], [], 0, 0⟩
def St0 (x0 : List Int × List Int × Int × List (Int × Int × Int × Int × Unit) × List (Int × Int × Int × Int × Unit) × Unit) : St := stL 95 [(0, .data (.pair (.arr 3 (.int .i64)) (.pair (.arr 3 (.int .i64)) (.pair (.int .i64) (.pair (.sl (.pair (.int .i64) (.pair (.int .i64) (.pair (.int .i64) (.pair (.int .i64) .unit))))) (.pair (.sl (.pair (.int .i64) (.pair (.int .i64) (.pair (.int .i64) (.pair (.int .i64) .unit))))) .unit))))) x0)] []
def St1 (x2 : Int) : St := stL 95 [(2, .data (.int .i64) x2)] []
def St2 (x3 : Bool) (x24 : Int) (c1 : List Int × List Int × Int × List (Int × Int × Int × Int × Unit) × List (Int × Int × Int × Int × Unit) × Unit) : St := stL 95 [(1, .ref 1 0 []), (3, .data .bool x3), (24, .data (.int .i64) x24)] [(1, .cell (.pair (.arr 3 (.int .i64)) (.pair (.arr 3 (.int .i64)) (.pair (.int .i64) (.pair (.sl (.pair (.int .i64) (.pair (.int .i64) (.pair (.int .i64) (.pair (.int .i64) .unit))))) (.pair (.sl (.pair (.int .i64) (.pair (.int .i64) (.pair (.int .i64) (.pair (.int .i64) .unit))))) .unit))))) (.data (.pair (.arr 3 (.int .i64)) (.pair (.arr 3 (.int .i64)) (.pair (.int .i64) (.pair (.sl (.pair (.int .i64) (.pair (.int .i64) (.pair (.int .i64) (.pair (.int .i64) .unit))))) (.pair (.sl (.pair (.int .i64) (.pair (.int .i64) (.pair (.int .i64) (.pair (.int .i64) .unit))))) .unit))))) c1) false)]
noncomputable def cd0 : Code := cL (cL (cR (cL (cR (cR (cR (cB Try.f29)))))))
def St3 (x3 : Bool) (c1 : List Int × List Int × Int × List (Int × Int × Int × Int × Unit) × List (Int × Int × Int × Int × Unit) × Unit) : St := stL 95 [(1, .ref 1 0 []), (3, .data .bool x3)] [(1, .cell (.pair (.arr 3 (.int .i64)) (.pair (.arr 3 (.int .i64)) (.pair (.int .i64) (.pair (.sl (.pair (.int .i64) (.pair (.int .i64) (.pair (.int .i64) (.pair (.int .i64) .unit))))) (.pair (.sl (.pair (.int .i64) (.pair (.int .i64) (.pair (.int .i64) (.pair (.int .i64) .unit))))) .unit))))) (.data (.pair (.arr 3 (.int .i64)) (.pair (.arr 3 (.int .i64)) (.pair (.int .i64) (.pair (.sl (.pair (.int .i64) (.pair (.int .i64) (.pair (.int .i64) (.pair (.int .i64) .unit))))) (.pair (.sl (.pair (.int .i64) (.pair (.int .i64) (.pair (.int .i64) (.pair (.int .i64) .unit))))) .unit))))) c1) false)]
def l0s {α : Type} (Nx : Bool → Int → (List Int × List Int × Int × List (Int × Int × Int × Int × Unit) × List (Int × Int × Int × Int × Unit) × Unit) → Option α) (Xt0 : Bool → (List Int × List Int × Int × List (Int × Int × Int × Int × Unit) × List (Int × Int × Int × Int × Unit) × Unit) → Option α) (x3 : Bool) (x24 : Int) (c1 : List Int × List Int × Int × List (Int × Int × Int × Int × Unit) × List (Int × Int × Int × Int × Unit) × Unit) : Option α :=
  if (decide (x24 < 3)) = true then
    cond (decide (0 ≤ x24 ∧ x24 < (3 : Int)) || !(x3 == true)) (
      (if (x3 == true) = true then Go.Bx.basculeref_upTo.run (List.getD c1.1 (Int.toNat x24) 0) 1073741824 else some false).bind fun y2 =>
      cond (decide (0 ≤ x24 ∧ x24 < (3 : Int)) || !((cond x3 y2 false) == true)) (
        (if ((cond x3 y2 false) == true) = true then Go.Bx.basculeref_upTo.run (List.getD c1.2.1 (Int.toNat x24) 0) 1073741824 else some false).bind fun y3 =>
        Nx (cond (cond x3 y2 false) y3 false) (IntKind.i64.wrap (x24 + 1)) c1) none) none
  else
    Xt0 x3 c1
theorem l0s_eq {α : Type} (k : Nat) (next : St → Option α) (Q : Ex → St → Option α) (x3 : Bool) (x24 : Int) (c1 : List Int × List Int × Int × List (Int × Int × Int × Int × Unit) × List (Int × Int × Int × Int × Unit) × Unit) :
    rnd C k cd0 15 Q next (St2 x3 x24 c1) = l0s (fun (x3 : Bool) (x24 : Int) (c1 : List Int × List Int × Int × List (Int × Int × Int × Int × Unit) × List (Int × Int × Int × Int × Unit) × Unit) => next (St2 x3 x24 c1)) (fun (x3 : Bool) (c1 : List Int × List Int × Int × List (Int × Int × Int × Int × Unit) × List (Int × Int × Int × Int × Unit) × Unit) => Q (.exit 0) (St3 x3 c1)) x3 x24 c1 := by
  have h : ∀ (D L : DT α), denJ D L Js C cd0 (lq C 15 next Q) (St2 x3 x24 c1) =
        if (decide (x24 < 3)) = true then
          cond (decide (0 ≤ x24 ∧ x24 < (3 : Int)) || !(x3 == true)) (
            (if (x3 == true) = true then Go.Bx.basculeref_upTo.run (List.getD c1.1 (Int.toNat x24) 0) 1073741824 else some false).bind fun y2 =>
            cond (decide (0 ≤ x24 ∧ x24 < (3 : Int)) || !((cond x3 y2 false) == true)) (
              (if ((cond x3 y2 false) == true) = true then Go.Bx.basculeref_upTo.run (List.getD c1.2.1 (Int.toNat x24) 0) 1073741824 else some false).bind fun y3 =>
              next (St2 (cond (cond x3 y2 false) y3 false) (IntKind.i64.wrap (x24 + 1)) c1)) none) none
        else
          Q (.exit 0) (St3 x3 c1) := by
    intro D L; kernel_rfl
  refine (show rnd C k cd0 15 Q next (St2 x3 x24 c1) = denJ (den C k) (lp C k) Js C cd0 (lq C 15 next Q) (St2 x3 x24 c1) from (denJ_den _ _ _ _ _ _).symm).trans ((h (den C k) (lp C k)).trans ?_)
  first | rfl | kernel_rfl
def l0 {α : Type} (k : Nat) (Xt0 : Bool → (List Int × List Int × Int × List (Int × Int × Int × Int × Unit) × List (Int × Int × Int × Int × Unit) × Unit) → Option α) : Nat → Bool → Int → (List Int × List Int × Int × List (Int × Int × Int × Int × Unit) × List (Int × Int × Int × Int × Unit) × Unit) → Option α
  | 0, _, _, _ => none
  | n + 1, x3, x24, c1 => l0s (l0 k Xt0 n) Xt0 x3 x24 c1
theorem l0_eq {α : Type} (k : Nat) (Q : Ex → St → Option α) : ∀ (n : Nat) (x3 : Bool) (x24 : Int) (c1 : List Int × List Int × Int × List (Int × Int × Int × Int × Unit) × List (Int × Int × Int × Int × Unit) × Unit), iter (rnd C k cd0 15 Q) n (St2 x3 x24 c1) = l0 k (fun (x3 : Bool) (c1 : List Int × List Int × Int × List (Int × Int × Int × Int × Unit) × List (Int × Int × Int × Int × Unit) × Unit) => Q (.exit 0) (St3 x3 c1)) n x3 x24 c1
  | 0, _, _, _ => rfl
  | n + 1, x3, x24, c1 => (iter_succ _ _ _).trans ((l0s_eq k (iter (rnd C k cd0 15 Q) n) Q x3 x24 c1).trans (congrArg (fun N => l0s N (fun (x3 : Bool) (c1 : List Int × List Int × Int × List (Int × Int × Int × Int × Unit) × List (Int × Int × Int × Int × Unit) × Unit) => Q (.exit 0) (St3 x3 c1)) x3 x24 c1) (funext fun x3 => funext fun x24 => funext fun c1 => l0_eq k Q n x3 x24 c1)))
theorem l0_congr {α : Type} (k : Nat) (Xt0 : Bool → (List Int × List Int × Int × List (Int × Int × Int × Int × Unit) × List (Int × Int × Int × Int × Unit) × Unit) → Option α) (Xt0q : Bool → (List Int × List Int × Int × List (Int × Int × Int × Int × Unit) × List (Int × Int × Int × Int × Unit) × Unit) → Option α) (hXt0 : ∀ (x3 : Bool) (c1 : List Int × List Int × Int × List (Int × Int × Int × Int × Unit) × List (Int × Int × Int × Int × Unit) × Unit), Xt0 x3 c1 = Xt0q x3 c1) (n : Nat) (x3 : Bool) (x24 : Int) (c1 : List Int × List Int × Int × List (Int × Int × Int × Int × Unit) × List (Int × Int × Int × Int × Unit) × Unit) : l0 k Xt0 n x3 x24 c1 = l0 k Xt0q n x3 x24 c1 := by
  obtain rfl : Xt0 = Xt0q := by funext x3; funext c1; exact hXt0 x3 c1
  rfl
noncomputable def cd1 : Code := cR (cR (cR (cR (cB Try.f29))))
def St4 (x3 : Bool) (c1 : List Int × List Int × Int × List (Int × Int × Int × Int × Unit) × List (Int × Int × Int × Int × Unit) × Unit) : St := stL 95 [(1, .ref 1 0 []), (3, .data .bool x3)] [(1, .cell (.pair (.arr 3 (.int .i64)) (.pair (.arr 3 (.int .i64)) (.pair (.int .i64) (.pair (.sl (.pair (.int .i64) (.pair (.int .i64) (.pair (.int .i64) (.pair (.int .i64) .unit))))) (.pair (.sl (.pair (.int .i64) (.pair (.int .i64) (.pair (.int .i64) (.pair (.int .i64) .unit))))) .unit))))) (.data (.pair (.arr 3 (.int .i64)) (.pair (.arr 3 (.int .i64)) (.pair (.int .i64) (.pair (.sl (.pair (.int .i64) (.pair (.int .i64) (.pair (.int .i64) (.pair (.int .i64) .unit))))) (.pair (.sl (.pair (.int .i64) (.pair (.int .i64) (.pair (.int .i64) (.pair (.int .i64) .unit))))) .unit))))) c1) false)]
def St5 (x3 : Bool) (x6 : Int) (x48 : List (List (Int × Int × Int × Int × Unit))) (x49 : Int) (x50 : Int) (c1 : List Int × List Int × Int × List (Int × Int × Int × Int × Unit) × List (Int × Int × Int × Int × Unit) × Unit) (c43 : List (Int × Int)) : St := stL 95 [(1, .ref 1 0 []), (3, .data .bool x3), (5, .map 43), (6, .data (.int .i64) x6), (48, .full (.sl (.pair (.int .i64) (.pair (.int .i64) (.pair (.int .i64) (.pair (.int .i64) .unit))))) x48), (49, .data (.int .i64) x49), (50, .data (.int .i64) x50)] [(1, .cell (.pair (.arr 3 (.int .i64)) (.pair (.arr 3 (.int .i64)) (.pair (.int .i64) (.pair (.sl (.pair (.int .i64) (.pair (.int .i64) (.pair (.int .i64) (.pair (.int .i64) .unit))))) (.pair (.sl (.pair (.int .i64) (.pair (.int .i64) (.pair (.int .i64) (.pair (.int .i64) .unit))))) .unit))))) (.data (.pair (.arr 3 (.int .i64)) (.pair (.arr 3 (.int .i64)) (.pair (.int .i64) (.pair (.sl (.pair (.int .i64) (.pair (.int .i64) (.pair (.int .i64) (.pair (.int .i64) .unit))))) (.pair (.sl (.pair (.int .i64) (.pair (.int .i64) (.pair (.int .i64) (.pair (.int .i64) .unit))))) .unit))))) c1) false), (43, .map (.int .i64) (.int .i64) c43)]
noncomputable def cd2 : Code := cL (cL (cR (cL (cR (cR (cR (cR (cR (cR (cB Try.f29))))))))))
def St6 (x3 : Bool) (x6 : Int) (x48 : List (List (Int × Int × Int × Int × Unit))) (x49 : Int) (x50 : Int) (x54 : List (Int × Int × Int × Int × Unit)) (x55 : Int) (x56 : Int) (c1 : List Int × List Int × Int × List (Int × Int × Int × Int × Unit) × List (Int × Int × Int × Int × Unit) × Unit) (c43 : List (Int × Int)) : St := stL 95 [(1, .ref 1 0 []), (3, .data .bool x3), (5, .map 43), (6, .data (.int .i64) x6), (48, .full (.sl (.pair (.int .i64) (.pair (.int .i64) (.pair (.int .i64) (.pair (.int .i64) .unit))))) x48), (49, .data (.int .i64) x49), (50, .data (.int .i64) x50), (54, .data (.sl (.pair (.int .i64) (.pair (.int .i64) (.pair (.int .i64) (.pair (.int .i64) .unit))))) x54), (55, .data (.int .i64) x55), (56, .data (.int .i64) x56)] [(1, .cell (.pair (.arr 3 (.int .i64)) (.pair (.arr 3 (.int .i64)) (.pair (.int .i64) (.pair (.sl (.pair (.int .i64) (.pair (.int .i64) (.pair (.int .i64) (.pair (.int .i64) .unit))))) (.pair (.sl (.pair (.int .i64) (.pair (.int .i64) (.pair (.int .i64) (.pair (.int .i64) .unit))))) .unit))))) (.data (.pair (.arr 3 (.int .i64)) (.pair (.arr 3 (.int .i64)) (.pair (.int .i64) (.pair (.sl (.pair (.int .i64) (.pair (.int .i64) (.pair (.int .i64) (.pair (.int .i64) .unit))))) (.pair (.sl (.pair (.int .i64) (.pair (.int .i64) (.pair (.int .i64) (.pair (.int .i64) .unit))))) .unit))))) c1) false), (43, .map (.int .i64) (.int .i64) c43)]
noncomputable def cd3 : Code := cL (cL (cR (cR (cL (cL (cR (cR (cL (cL (cR (cL (cR (cR (cR (cR (cR (cR (cB Try.f29))))))))))))))))))
def St7 (x3 : Bool) (x6 : Int) (x48 : List (List (Int × Int × Int × Int × Unit))) (x49 : Int) (x50 : Int) (c1 : List Int × List Int × Int × List (Int × Int × Int × Int × Unit) × List (Int × Int × Int × Int × Unit) × Unit) (c43 : List (Int × Int)) : St := stL 95 [(1, .ref 1 0 []), (3, .data .bool x3), (5, .map 43), (6, .data (.int .i64) x6), (48, .full (.sl (.pair (.int .i64) (.pair (.int .i64) (.pair (.int .i64) (.pair (.int .i64) .unit))))) x48), (49, .data (.int .i64) x49), (50, .data (.int .i64) x50)] [(1, .cell (.pair (.arr 3 (.int .i64)) (.pair (.arr 3 (.int .i64)) (.pair (.int .i64) (.pair (.sl (.pair (.int .i64) (.pair (.int .i64) (.pair (.int .i64) (.pair (.int .i64) .unit))))) (.pair (.sl (.pair (.int .i64) (.pair (.int .i64) (.pair (.int .i64) (.pair (.int .i64) .unit))))) .unit))))) (.data (.pair (.arr 3 (.int .i64)) (.pair (.arr 3 (.int .i64)) (.pair (.int .i64) (.pair (.sl (.pair (.int .i64) (.pair (.int .i64) (.pair (.int .i64) (.pair (.int .i64) .unit))))) (.pair (.sl (.pair (.int .i64) (.pair (.int .i64) (.pair (.int .i64) (.pair (.int .i64) .unit))))) .unit))))) c1) false), (43, .map (.int .i64) (.int .i64) c43)]
def l2s {α : Type} (Nx : Bool → Int → (List (List (Int × Int × Int × Int × Unit))) → Int → Int → (List (Int × Int × Int × Int × Unit)) → Int → Int → (List Int × List Int × Int × List (Int × Int × Int × Int × Unit) × List (Int × Int × Int × Int × Unit) × Unit) → (List (Int × Int)) → Option α) (Xt4 : Bool → Int → (List (List (Int × Int × Int × Int × Unit))) → Int → Int → (List Int × List Int × Int × List (Int × Int × Int × Int × Unit) × List (Int × Int × Int × Int × Unit) × Unit) → (List (Int × Int)) → Option α) (x3 : Bool) (x6 : Int) (x48 : List (List (Int × Int × Int × Int × Unit))) (x49 : Int) (x50 : Int) (x54 : List (Int × Int × Int × Int × Unit)) (x55 : Int) (x56 : Int) (c1 : List Int × List Int × Int × List (Int × Int × Int × Int × Unit) × List (Int × Int × Int × Int × Unit) × Unit) (c43 : List (Int × Int)) : Option α :=
  if (decide (x56 < x55)) = true then
    if 0 ≤ x56 ∧ x56 < (x54.length : Int) then
      (if (x3 == true) = true then Go.Bx.basculeref_upTo.run (List.getD x54 (Int.toNat x56) (0, 0, 0, 0, ())).2.1 1073741824 else some false).bind fun y4 =>
      (if ((cond x3 y4 false) == true) = true then Go.Bx.basculeref_upTo.run (List.getD x54 (Int.toNat x56) (0, 0, 0, 0, ())).2.2.1 2 else some false).bind fun y5 =>
      (if ((cond (cond x3 y4 false) y5 false) == true) = true then Go.Bx.basculeref_upTo.run (List.getD x54 (Int.toNat x56) (0, 0, 0, 0, ())).2.2.2.1 c1.2.2.1 else some false).bind fun y6 =>
      Nx (cond (cond (cond x3 y4 false) y5 false) y6 false) (IntKind.i64.wrap (x6 + 1)) x48 x49 x50 x54 x55 (IntKind.i64.wrap (x56 + 1)) c1 (setM (beqD (.int .i64)) (List.getD x54 (Int.toNat x56) (0, 0, 0, 0, ())).1 (IntKind.i64.wrap ((getM (beqD (.int .i64)) (List.getD x54 (Int.toNat x56) (0, 0, 0, 0, ())).1 0 c43) + 1)) c43)
    else none
  else
    Xt4 x3 x6 x48 x49 x50 c1 c43
theorem l2s_eq {α : Type} (k : Nat) (next : St → Option α) (Q : Ex → St → Option α) (x3 : Bool) (x6 : Int) (x48 : List (List (Int × Int × Int × Int × Unit))) (x49 : Int) (x50 : Int) (x54 : List (Int × Int × Int × Int × Unit)) (x55 : Int) (x56 : Int) (c1 : List Int × List Int × Int × List (Int × Int × Int × Int × Unit) × List (Int × Int × Int × Int × Unit) × Unit) (c43 : List (Int × Int)) :
    rnd C k cd3 45 Q next (St6 x3 x6 x48 x49 x50 x54 x55 x56 c1 c43) = l2s (fun (x3 : Bool) (x6 : Int) (x48 : List (List (Int × Int × Int × Int × Unit))) (x49 : Int) (x50 : Int) (x54 : List (Int × Int × Int × Int × Unit)) (x55 : Int) (x56 : Int) (c1 : List Int × List Int × Int × List (Int × Int × Int × Int × Unit) × List (Int × Int × Int × Int × Unit) × Unit) (c43 : List (Int × Int)) => next (St6 x3 x6 x48 x49 x50 x54 x55 x56 c1 c43)) (fun (x3 : Bool) (x6 : Int) (x48 : List (List (Int × Int × Int × Int × Unit))) (x49 : Int) (x50 : Int) (c1 : List Int × List Int × Int × List (Int × Int × Int × Int × Unit) × List (Int × Int × Int × Int × Unit) × Unit) (c43 : List (Int × Int)) => Q (.exit 4) (St7 x3 x6 x48 x49 x50 c1 c43)) x3 x6 x48 x49 x50 x54 x55 x56 c1 c43 := by
  have h : ∀ (D L : DT α), denJ D L Js C cd3 (lq C 45 next Q) (St6 x3 x6 x48 x49 x50 x54 x55 x56 c1 c43) =
        if (decide (x56 < x55)) = true then
          if 0 ≤ x56 ∧ x56 < (x54.length : Int) then
            (if (x3 == true) = true then Go.Bx.basculeref_upTo.run (List.getD x54 (Int.toNat x56) (0, 0, 0, 0, ())).2.1 1073741824 else some false).bind fun y4 =>
            (if ((cond x3 y4 false) == true) = true then Go.Bx.basculeref_upTo.run (List.getD x54 (Int.toNat x56) (0, 0, 0, 0, ())).2.2.1 2 else some false).bind fun y5 =>
            (if ((cond (cond x3 y4 false) y5 false) == true) = true then Go.Bx.basculeref_upTo.run (List.getD x54 (Int.toNat x56) (0, 0, 0, 0, ())).2.2.2.1 c1.2.2.1 else some false).bind fun y6 =>
            next (St6 (cond (cond (cond x3 y4 false) y5 false) y6 false) (IntKind.i64.wrap (x6 + 1)) x48 x49 x50 x54 x55 (IntKind.i64.wrap (x56 + 1)) c1 (setM (beqD (.int .i64)) (List.getD x54 (Int.toNat x56) (0, 0, 0, 0, ())).1 (IntKind.i64.wrap ((getM (beqD (.int .i64)) (List.getD x54 (Int.toNat x56) (0, 0, 0, 0, ())).1 0 c43) + 1)) c43))
          else none
        else
          Q (.exit 4) (St7 x3 x6 x48 x49 x50 c1 c43) := by
    intro D L; kernel_rfl
  refine (show rnd C k cd3 45 Q next (St6 x3 x6 x48 x49 x50 x54 x55 x56 c1 c43) = denJ (den C k) (lp C k) Js C cd3 (lq C 45 next Q) (St6 x3 x6 x48 x49 x50 x54 x55 x56 c1 c43) from (denJ_den _ _ _ _ _ _).symm).trans ((h (den C k) (lp C k)).trans ?_)
  first | rfl | kernel_rfl
def l2 {α : Type} (k : Nat) (Xt4 : Bool → Int → (List (List (Int × Int × Int × Int × Unit))) → Int → Int → (List Int × List Int × Int × List (Int × Int × Int × Int × Unit) × List (Int × Int × Int × Int × Unit) × Unit) → (List (Int × Int)) → Option α) : Nat → Bool → Int → (List (List (Int × Int × Int × Int × Unit))) → Int → Int → (List (Int × Int × Int × Int × Unit)) → Int → Int → (List Int × List Int × Int × List (Int × Int × Int × Int × Unit) × List (Int × Int × Int × Int × Unit) × Unit) → (List (Int × Int)) → Option α
  | 0, _, _, _, _, _, _, _, _, _, _ => none
  | n + 1, x3, x6, x48, x49, x50, x54, x55, x56, c1, c43 => l2s (l2 k Xt4 n) Xt4 x3 x6 x48 x49 x50 x54 x55 x56 c1 c43
theorem l2_eq {α : Type} (k : Nat) (Q : Ex → St → Option α) : ∀ (n : Nat) (x3 : Bool) (x6 : Int) (x48 : List (List (Int × Int × Int × Int × Unit))) (x49 : Int) (x50 : Int) (x54 : List (Int × Int × Int × Int × Unit)) (x55 : Int) (x56 : Int) (c1 : List Int × List Int × Int × List (Int × Int × Int × Int × Unit) × List (Int × Int × Int × Int × Unit) × Unit) (c43 : List (Int × Int)), iter (rnd C k cd3 45 Q) n (St6 x3 x6 x48 x49 x50 x54 x55 x56 c1 c43) = l2 k (fun (x3 : Bool) (x6 : Int) (x48 : List (List (Int × Int × Int × Int × Unit))) (x49 : Int) (x50 : Int) (c1 : List Int × List Int × Int × List (Int × Int × Int × Int × Unit) × List (Int × Int × Int × Int × Unit) × Unit) (c43 : List (Int × Int)) => Q (.exit 4) (St7 x3 x6 x48 x49 x50 c1 c43)) n x3 x6 x48 x49 x50 x54 x55 x56 c1 c43
  | 0, _, _, _, _, _, _, _, _, _, _ => rfl
  | n + 1, x3, x6, x48, x49, x50, x54, x55, x56, c1, c43 => (iter_succ _ _ _).trans ((l2s_eq k (iter (rnd C k cd3 45 Q) n) Q x3 x6 x48 x49 x50 x54 x55 x56 c1 c43).trans (congrArg (fun N => l2s N (fun (x3 : Bool) (x6 : Int) (x48 : List (List (Int × Int × Int × Int × Unit))) (x49 : Int) (x50 : Int) (c1 : List Int × List Int × Int × List (Int × Int × Int × Int × Unit) × List (Int × Int × Int × Int × Unit) × Unit) (c43 : List (Int × Int)) => Q (.exit 4) (St7 x3 x6 x48 x49 x50 c1 c43)) x3 x6 x48 x49 x50 x54 x55 x56 c1 c43) (funext fun x3 => funext fun x6 => funext fun x48 => funext fun x49 => funext fun x50 => funext fun x54 => funext fun x55 => funext fun x56 => funext fun c1 => funext fun c43 => l2_eq k Q n x3 x6 x48 x49 x50 x54 x55 x56 c1 c43)))
theorem l2_congr {α : Type} (k : Nat) (Xt4 : Bool → Int → (List (List (Int × Int × Int × Int × Unit))) → Int → Int → (List Int × List Int × Int × List (Int × Int × Int × Int × Unit) × List (Int × Int × Int × Int × Unit) × Unit) → (List (Int × Int)) → Option α) (Xt4q : Bool → Int → (List (List (Int × Int × Int × Int × Unit))) → Int → Int → (List Int × List Int × Int × List (Int × Int × Int × Int × Unit) × List (Int × Int × Int × Int × Unit) × Unit) → (List (Int × Int)) → Option α) (hXt4 : ∀ (x3 : Bool) (x6 : Int) (x48 : List (List (Int × Int × Int × Int × Unit))) (x49 : Int) (x50 : Int) (c1 : List Int × List Int × Int × List (Int × Int × Int × Int × Unit) × List (Int × Int × Int × Int × Unit) × Unit) (c43 : List (Int × Int)), Xt4 x3 x6 x48 x49 x50 c1 c43 = Xt4q x3 x6 x48 x49 x50 c1 c43) (n : Nat) (x3 : Bool) (x6 : Int) (x48 : List (List (Int × Int × Int × Int × Unit))) (x49 : Int) (x50 : Int) (x54 : List (Int × Int × Int × Int × Unit)) (x55 : Int) (x56 : Int) (c1 : List Int × List Int × Int × List (Int × Int × Int × Int × Unit) × List (Int × Int × Int × Int × Unit) × Unit) (c43 : List (Int × Int)) : l2 k Xt4 n x3 x6 x48 x49 x50 x54 x55 x56 c1 c43 = l2 k Xt4q n x3 x6 x48 x49 x50 x54 x55 x56 c1 c43 := by
  obtain rfl : Xt4 = Xt4q := by funext x3; funext x6; funext x48; funext x49; funext x50; funext c1; funext c43; exact hXt4 x3 x6 x48 x49 x50 c1 c43
  rfl
noncomputable def cd4 : Code := cR (cR (cR (cL (cL (cR (cL (cR (cR (cR (cR (cR (cR (cB Try.f29)))))))))))))
def St8 (x3 : Bool) (x6 : Int) (x48 : List (List (Int × Int × Int × Int × Unit))) (x49 : Int) (x50 : Int) (c1 : List Int × List Int × Int × List (Int × Int × Int × Int × Unit) × List (Int × Int × Int × Int × Unit) × Unit) (c43 : List (Int × Int)) : St := stL 95 [(1, .ref 1 0 []), (3, .data .bool x3), (5, .map 43), (6, .data (.int .i64) x6), (48, .full (.sl (.pair (.int .i64) (.pair (.int .i64) (.pair (.int .i64) (.pair (.int .i64) .unit))))) x48), (49, .data (.int .i64) x49), (50, .data (.int .i64) x50)] [(1, .cell (.pair (.arr 3 (.int .i64)) (.pair (.arr 3 (.int .i64)) (.pair (.int .i64) (.pair (.sl (.pair (.int .i64) (.pair (.int .i64) (.pair (.int .i64) (.pair (.int .i64) .unit))))) (.pair (.sl (.pair (.int .i64) (.pair (.int .i64) (.pair (.int .i64) (.pair (.int .i64) .unit))))) .unit))))) (.data (.pair (.arr 3 (.int .i64)) (.pair (.arr 3 (.int .i64)) (.pair (.int .i64) (.pair (.sl (.pair (.int .i64) (.pair (.int .i64) (.pair (.int .i64) (.pair (.int .i64) .unit))))) (.pair (.sl (.pair (.int .i64) (.pair (.int .i64) (.pair (.int .i64) (.pair (.int .i64) .unit))))) .unit))))) c1) false), (43, .map (.int .i64) (.int .i64) c43)]
def j1 {α : Type} (Nx : Bool → Int → (List (List (Int × Int × Int × Int × Unit))) → Int → Int → (List Int × List Int × Int × List (Int × Int × Int × Int × Unit) × List (Int × Int × Int × Int × Unit) × Unit) → (List (Int × Int)) → Option α) (x3 : Bool) (x6 : Int) (x48 : List (List (Int × Int × Int × Int × Unit))) (x49 : Int) (x50 : Int) (c1 : List Int × List Int × Int × List (Int × Int × Int × Int × Unit) × List (Int × Int × Int × Int × Unit) × Unit) (c43 : List (Int × Int)) : Option α :=
  Nx x3 x6 x48 x49 (IntKind.i64.wrap (x50 + 1)) c1 c43
theorem j1_eq {α : Type} (k : Nat) (next : St → Option α) (Q : Ex → St → Option α) (x3 : Bool) (x6 : Int) (x48 : List (List (Int × Int × Int × Int × Unit))) (x49 : Int) (x50 : Int) (c1 : List Int × List Int × Int × List (Int × Int × Int × Int × Unit) × List (Int × Int × Int × Int × Unit) × Unit) (c43 : List (Int × Int)) :
    (den C k) cd4 (lq C 36 next Q) (St8 x3 x6 x48 x49 x50 c1 c43) = j1 (fun (x3 : Bool) (x6 : Int) (x48 : List (List (Int × Int × Int × Int × Unit))) (x49 : Int) (x50 : Int) (c1 : List Int × List Int × Int × List (Int × Int × Int × Int × Unit) × List (Int × Int × Int × Int × Unit) × Unit) (c43 : List (Int × Int)) => next (St5 x3 x6 x48 x49 x50 c1 c43)) x3 x6 x48 x49 x50 c1 c43 := by
  have h : ∀ (D L : DT α), denJ D L Js C cd4 (lq C 36 next Q) (St8 x3 x6 x48 x49 x50 c1 c43) =
        next (St5 x3 x6 x48 x49 (IntKind.i64.wrap (x50 + 1)) c1 c43) := by
    intro D L; kernel_rfl
  refine (show (den C k) cd4 (lq C 36 next Q) (St8 x3 x6 x48 x49 x50 c1 c43) = denJ (den C k) (lp C k) Js C cd4 (lq C 36 next Q) (St8 x3 x6 x48 x49 x50 c1 c43) from (denJ_den _ _ _ _ _ _).symm).trans ((h (den C k) (lp C k)).trans ?_)
  first | rfl | kernel_rfl
theorem a0 {α : Type} (k : Nat) (next : St → Option α) (Q : Ex → St → Option α) (x3 : Bool) (x6 : Int) (x48 : List (List (Int × Int × Int × Int × Unit))) (x49 : Int) (x50 : Int) (x54 : List (Int × Int × Int × Int × Unit)) (x55 : Int) (x56 : Int) (c1 : List Int × List Int × Int × List (Int × Int × Int × Int × Unit) × List (Int × Int × Int × Int × Unit) × Unit) (c43 : List (Int × Int)) :
    (lp C k) cd3 (blkQ C 4 (blkQ C 3 (sq (den C k) (lp C k) Js C cd4 (lq C 36 next Q)))) (St6 x3 x6 x48 x49 x50 x54 x55 x56 c1 c43) = l2 k (fun (x3 : Bool) (x6 : Int) (x48 : List (List (Int × Int × Int × Int × Unit))) (x49 : Int) (x50 : Int) (c1 : List Int × List Int × Int × List (Int × Int × Int × Int × Unit) × List (Int × Int × Int × Int × Unit) × Unit) (c43 : List (Int × Int)) => j1 (fun (x3 : Bool) (x6 : Int) (x48 : List (List (Int × Int × Int × Int × Unit))) (x49 : Int) (x50 : Int) (c1 : List Int × List Int × Int × List (Int × Int × Int × Int × Unit) × List (Int × Int × Int × Int × Unit) × Unit) (c43 : List (Int × Int)) => next (St5 x3 x6 x48 x49 x50 c1 c43)) x3 x6 x48 x49 x50 c1 c43) k x3 x6 x48 x49 x50 x54 x55 x56 c1 c43 :=
  (show (lp C k) cd3 (blkQ C 4 (blkQ C 3 (sq (den C k) (lp C k) Js C cd4 (lq C 36 next Q)))) (St6 x3 x6 x48 x49 x50 x54 x55 x56 c1 c43) = iter (rnd C k cd3 45 (blkQ C 4 (blkQ C 3 (sq (den C k) (lp C k) Js C cd4 (lq C 36 next Q))))) k (St6 x3 x6 x48 x49 x50 x54 x55 x56 c1 c43) by kernel_rfl).trans ((l2_eq k (blkQ C 4 (blkQ C 3 (sq (den C k) (lp C k) Js C cd4 (lq C 36 next Q)))) k x3 x6 x48 x49 x50 x54 x55 x56 c1 c43).trans (l2_congr k _ _ (fun x3 x6 x48 x49 x50 c1 c43 => ((show (blkQ C 4 (blkQ C 3 (sq (den C k) (lp C k) Js C cd4 (lq C 36 next Q)))) (.exit 4) (St7 x3 x6 x48 x49 x50 c1 c43) = (den C k) cd4 (lq C 36 next Q) (St8 x3 x6 x48 x49 x50 c1 c43) by kernel_rfl).trans (by simp only [j1_eq]))) k x3 x6 x48 x49 x50 x54 x55 x56 c1 c43))
def St9 (x3 : Bool) (x6 : Int) (c43 : List (Int × Int)) : St := stL 95 [(3, .data .bool x3), (5, .map 43), (6, .data (.int .i64) x6)] [(43, .map (.int .i64) (.int .i64) c43)]
def l1s {α : Type} (k : Nat) (Nx : Bool → Int → (List (List (Int × Int × Int × Int × Unit))) → Int → Int → (List Int × List Int × Int × List (Int × Int × Int × Int × Unit) × List (Int × Int × Int × Int × Unit) × Unit) → (List (Int × Int)) → Option α) (Xt2 : Bool → Int → (List (Int × Int)) → Option α) (x3 : Bool) (x6 : Int) (x48 : List (List (Int × Int × Int × Int × Unit))) (x49 : Int) (x50 : Int) (c1 : List Int × List Int × Int × List (Int × Int × Int × Int × Unit) × List (Int × Int × Int × Int × Unit) × Unit) (c43 : List (Int × Int)) : Option α :=
  if (decide (x50 < x49)) = true then
    if 0 ≤ x50 ∧ x50 < (x48.length : Int) then
      l2 k (fun (x3 : Bool) (x6 : Int) (x48 : List (List (Int × Int × Int × Int × Unit))) (x49 : Int) (x50 : Int) (c1 : List Int × List Int × Int × List (Int × Int × Int × Int × Unit) × List (Int × Int × Int × Int × Unit) × Unit) (c43 : List (Int × Int)) => j1 Nx x3 x6 x48 x49 x50 c1 c43) k x3 x6 x48 x49 x50 (List.getD x48 (Int.toNat x50) []) ((List.getD x48 (Int.toNat x50) []).length : Int) 0 c1 c43
    else none
  else
    Xt2 x3 x6 c43
theorem l1s_eq {α : Type} (k : Nat) (next : St → Option α) (Q : Ex → St → Option α) (x3 : Bool) (x6 : Int) (x48 : List (List (Int × Int × Int × Int × Unit))) (x49 : Int) (x50 : Int) (c1 : List Int × List Int × Int × List (Int × Int × Int × Int × Unit) × List (Int × Int × Int × Int × Unit) × Unit) (c43 : List (Int × Int)) :
    rnd C k cd2 36 Q next (St5 x3 x6 x48 x49 x50 c1 c43) = l1s k (fun (x3 : Bool) (x6 : Int) (x48 : List (List (Int × Int × Int × Int × Unit))) (x49 : Int) (x50 : Int) (c1 : List Int × List Int × Int × List (Int × Int × Int × Int × Unit) × List (Int × Int × Int × Int × Unit) × Unit) (c43 : List (Int × Int)) => next (St5 x3 x6 x48 x49 x50 c1 c43)) (fun (x3 : Bool) (x6 : Int) (c43 : List (Int × Int)) => Q (.exit 2) (St9 x3 x6 c43)) x3 x6 x48 x49 x50 c1 c43 := by
  have h : ∀ (D L : DT α), denJ D L Js C cd2 (lq C 36 next Q) (St5 x3 x6 x48 x49 x50 c1 c43) =
        if (decide (x50 < x49)) = true then
          if 0 ≤ x50 ∧ x50 < (x48.length : Int) then
            L cd3 (blkQ C 4 (blkQ C 3 (sq D L Js C cd4 (lq C 36 next Q)))) (St6 x3 x6 x48 x49 x50 (List.getD x48 (Int.toNat x50) []) ((List.getD x48 (Int.toNat x50) []).length : Int) 0 c1 c43)
          else none
        else
          Q (.exit 2) (St9 x3 x6 c43) := by
    intro D L; kernel_rfl
  refine (show rnd C k cd2 36 Q next (St5 x3 x6 x48 x49 x50 c1 c43) = denJ (den C k) (lp C k) Js C cd2 (lq C 36 next Q) (St5 x3 x6 x48 x49 x50 c1 c43) from (denJ_den _ _ _ _ _ _).symm).trans ((h (den C k) (lp C k)).trans ?_)
  simp only [a0]
  first | rfl | kernel_rfl
def l1 {α : Type} (k : Nat) (Xt2 : Bool → Int → (List (Int × Int)) → Option α) : Nat → Bool → Int → (List (List (Int × Int × Int × Int × Unit))) → Int → Int → (List Int × List Int × Int × List (Int × Int × Int × Int × Unit) × List (Int × Int × Int × Int × Unit) × Unit) → (List (Int × Int)) → Option α
  | 0, _, _, _, _, _, _, _ => none
  | n + 1, x3, x6, x48, x49, x50, c1, c43 => l1s k (l1 k Xt2 n) Xt2 x3 x6 x48 x49 x50 c1 c43
theorem l1_eq {α : Type} (k : Nat) (Q : Ex → St → Option α) : ∀ (n : Nat) (x3 : Bool) (x6 : Int) (x48 : List (List (Int × Int × Int × Int × Unit))) (x49 : Int) (x50 : Int) (c1 : List Int × List Int × Int × List (Int × Int × Int × Int × Unit) × List (Int × Int × Int × Int × Unit) × Unit) (c43 : List (Int × Int)), iter (rnd C k cd2 36 Q) n (St5 x3 x6 x48 x49 x50 c1 c43) = l1 k (fun (x3 : Bool) (x6 : Int) (c43 : List (Int × Int)) => Q (.exit 2) (St9 x3 x6 c43)) n x3 x6 x48 x49 x50 c1 c43
  | 0, _, _, _, _, _, _, _ => rfl
  | n + 1, x3, x6, x48, x49, x50, c1, c43 => (iter_succ _ _ _).trans ((l1s_eq k (iter (rnd C k cd2 36 Q) n) Q x3 x6 x48 x49 x50 c1 c43).trans (congrArg (fun N => l1s k N (fun (x3 : Bool) (x6 : Int) (c43 : List (Int × Int)) => Q (.exit 2) (St9 x3 x6 c43)) x3 x6 x48 x49 x50 c1 c43) (funext fun x3 => funext fun x6 => funext fun x48 => funext fun x49 => funext fun x50 => funext fun c1 => funext fun c43 => l1_eq k Q n x3 x6 x48 x49 x50 c1 c43)))
theorem l1_congr {α : Type} (k : Nat) (Xt2 : Bool → Int → (List (Int × Int)) → Option α) (Xt2q : Bool → Int → (List (Int × Int)) → Option α) (hXt2 : ∀ (x3 : Bool) (x6 : Int) (c43 : List (Int × Int)), Xt2 x3 x6 c43 = Xt2q x3 x6 c43) (n : Nat) (x3 : Bool) (x6 : Int) (x48 : List (List (Int × Int × Int × Int × Unit))) (x49 : Int) (x50 : Int) (c1 : List Int × List Int × Int × List (Int × Int × Int × Int × Unit) × List (Int × Int × Int × Int × Unit) × Unit) (c43 : List (Int × Int)) : l1 k Xt2 n x3 x6 x48 x49 x50 c1 c43 = l1 k Xt2q n x3 x6 x48 x49 x50 c1 c43 := by
  obtain rfl : Xt2 = Xt2q := by funext x3; funext x6; funext c43; exact hXt2 x3 x6 c43
  rfl
noncomputable def cd5 : Code := cR (cR (cR (cR (cR (cR (cR (cB Try.f29)))))))
def St10 (x3 : Bool) (x6 : Int) (c43 : List (Int × Int)) : St := stL 95 [(3, .data .bool x3), (5, .map 43), (6, .data (.int .i64) x6)] [(43, .map (.int .i64) (.int .i64) c43)]
def j2 {α : Type} (Rt : Int → Option α) (x3 : Bool) (x6 : Int) (c43 : List (Int × Int)) : Option α :=
  cond (decide (Nat.ble c43.length 9223372036854775807 = true) || !((not x3) == false)) (
    if (cond (not x3) true ((c43.length : Int) != x6)) = true then
      Rt 12
    else
      Rt 0) none
theorem j2_eq {α : Type} (k : Nat) (Q : Ex → St → Option α) (x3 : Bool) (x6 : Int) (c43 : List (Int × Int)) :
    (den C k) cd5 Q (St10 x3 x6 c43) = j2 (fun (x2 : Int) => Q .ret (St1 x2)) x3 x6 c43 := by
  have h : ∀ (D L : DT α), denJ D L Js C cd5 Q (St10 x3 x6 c43) =
        cond (decide (Nat.ble c43.length 9223372036854775807 = true) || !((not x3) == false)) (
          if (cond (not x3) true ((c43.length : Int) != x6)) = true then
            Q .ret (St1 12)
          else
            Q .ret (St1 0)) none := by
    intro D L; kernel_rfl
  refine (show (den C k) cd5 Q (St10 x3 x6 c43) = denJ (den C k) (lp C k) Js C cd5 Q (St10 x3 x6 c43) from (denJ_den _ _ _ _ _ _).symm).trans ((h (den C k) (lp C k)).trans ?_)
  first | rfl | kernel_rfl
theorem a1 {α : Type} (k : Nat) (Q : Ex → St → Option α) (x3 : Bool) (x6 : Int) (x48 : List (List (Int × Int × Int × Int × Unit))) (x49 : Int) (x50 : Int) (c1 : List Int × List Int × Int × List (Int × Int × Int × Int × Unit) × List (Int × Int × Int × Int × Unit) × Unit) (c43 : List (Int × Int)) :
    (lp C k) cd2 (blkQ C 2 (sq (den C k) (lp C k) Js C cd5 Q)) (St5 x3 x6 x48 x49 x50 c1 c43) = l1 k (fun (x3 : Bool) (x6 : Int) (c43 : List (Int × Int)) => j2 (fun (x2 : Int) => Q .ret (St1 x2)) x3 x6 c43) k x3 x6 x48 x49 x50 c1 c43 :=
  (show (lp C k) cd2 (blkQ C 2 (sq (den C k) (lp C k) Js C cd5 Q)) (St5 x3 x6 x48 x49 x50 c1 c43) = iter (rnd C k cd2 36 (blkQ C 2 (sq (den C k) (lp C k) Js C cd5 Q))) k (St5 x3 x6 x48 x49 x50 c1 c43) by kernel_rfl).trans ((l1_eq k (blkQ C 2 (sq (den C k) (lp C k) Js C cd5 Q)) k x3 x6 x48 x49 x50 c1 c43).trans (l1_congr k _ _ (fun x3 x6 c43 => ((show (blkQ C 2 (sq (den C k) (lp C k) Js C cd5 Q)) (.exit 2) (St9 x3 x6 c43) = (den C k) cd5 Q (St10 x3 x6 c43) by kernel_rfl).trans (by simp only [j2_eq]))) k x3 x6 x48 x49 x50 c1 c43))
def j0 {α : Type} (k : Nat) (Rt : Int → Option α) (x3 : Bool) (c1 : List Int × List Int × Int × List (Int × Int × Int × Int × Unit) × List (Int × Int × Int × Int × Unit) × Unit) : Option α :=
  l1 k (fun (x3 : Bool) (x6 : Int) (c43 : List (Int × Int)) => j2 Rt x3 x6 c43) k x3 0 [c1.2.2.2.1, c1.2.2.2.2.1] 2 0 c1 []
theorem j0_eq {α : Type} (k : Nat) (Q : Ex → St → Option α) (x3 : Bool) (c1 : List Int × List Int × Int × List (Int × Int × Int × Int × Unit) × List (Int × Int × Int × Int × Unit) × Unit) :
    (den C k) cd1 Q (St4 x3 c1) = j0 k (fun (x2 : Int) => Q .ret (St1 x2)) x3 c1 := by
  have h : ∀ (D L : DT α), denJ D L Js C cd1 Q (St4 x3 c1) =
        L cd2 (blkQ C 2 (sq D L Js C cd5 Q)) (St5 x3 0 [c1.2.2.2.1, c1.2.2.2.2.1] 2 0 c1 []) := by
    intro D L; kernel_rfl
  refine (show (den C k) cd1 Q (St4 x3 c1) = denJ (den C k) (lp C k) Js C cd1 Q (St4 x3 c1) from (denJ_den _ _ _ _ _ _).symm).trans ((h (den C k) (lp C k)).trans ?_)
  simp only [a1]
  first | rfl | kernel_rfl
theorem a2 {α : Type} (k : Nat) (Q : Ex → St → Option α) (x3 : Bool) (x24 : Int) (c1 : List Int × List Int × Int × List (Int × Int × Int × Int × Unit) × List (Int × Int × Int × Int × Unit) × Unit) :
    (lp C k) cd0 (blkQ C 0 (sq (den C k) (lp C k) Js C cd1 Q)) (St2 x3 x24 c1) = l0 k (fun (x3 : Bool) (c1 : List Int × List Int × Int × List (Int × Int × Int × Int × Unit) × List (Int × Int × Int × Int × Unit) × Unit) => j0 k (fun (x2 : Int) => Q .ret (St1 x2)) x3 c1) k x3 x24 c1 :=
  (show (lp C k) cd0 (blkQ C 0 (sq (den C k) (lp C k) Js C cd1 Q)) (St2 x3 x24 c1) = iter (rnd C k cd0 15 (blkQ C 0 (sq (den C k) (lp C k) Js C cd1 Q))) k (St2 x3 x24 c1) by kernel_rfl).trans ((l0_eq k (blkQ C 0 (sq (den C k) (lp C k) Js C cd1 Q)) k x3 x24 c1).trans (l0_congr k _ _ (fun x3 c1 => ((show (blkQ C 0 (sq (den C k) (lp C k) Js C cd1 Q)) (.exit 0) (St3 x3 c1) = (den C k) cd1 Q (St4 x3 c1) by kernel_rfl).trans (by simp only [j0_eq]))) k x3 x24 c1))
def top {α : Type} (k : Nat) (Rt : Int → Option α) (x0 : List Int × List Int × Int × List (Int × Int × Int × Int × Unit) × List (Int × Int × Int × Int × Unit) × Unit) : Option α :=
  if (cond (decide ((x0.2.2.2.1.length : Int) > 40)) true (decide ((x0.2.2.2.2.1.length : Int) > 40))) = true then
    Rt 1
  else
    (Go.Bx.basculeref_upTo.run x0.2.2.1 1099511627776).bind fun y1 =>
    l0 k (fun (x3 : Bool) (c1 : List Int × List Int × Int × List (Int × Int × Int × Int × Unit) × List (Int × Int × Int × Int × Unit) × Unit) => j0 k Rt x3 c1) k y1 0 x0
theorem top_eq {α : Type} (k : Nat) (Q : Ex → St → Option α) (x0 : List Int × List Int × Int × List (Int × Int × Int × Int × Unit) × List (Int × Int × Int × Int × Unit) × Unit) :
    (den C k) (cB Try.f29) Q (St0 x0) = top k (fun (x2 : Int) => Q .ret (St1 x2)) x0 := by
  have h : ∀ (D L : DT α), denJ D L Js C (cB Try.f29) Q (St0 x0) =
        if (cond (decide ((x0.2.2.2.1.length : Int) > 40)) true (decide ((x0.2.2.2.2.1.length : Int) > 40))) = true then
          Q .ret (St1 1)
        else
          (Go.Bx.basculeref_upTo.run x0.2.2.1 1099511627776).bind fun y1 =>
          L cd0 (blkQ C 0 (sq D L Js C cd1 Q)) (St2 y1 0 x0) := by
    intro D L; kernel_rfl
  refine (show (den C k) (cB Try.f29) Q (St0 x0) = denJ (den C k) (lp C k) Js C (cB Try.f29) Q (St0 x0) from (denJ_den _ _ _ _ _ _).symm).trans ((h (den C k) (lp C k)).trans ?_)
  simp only [a2]
  first | rfl | kernel_rfl
def run (x0 : List Int × List Int × Int × List (Int × Int × Int × Int × Unit) × List (Int × Int × Int × Int × Unit) × Unit) : Option (Int) := top (α := Int) fuel (fun (x2 : Int) => some x2) x0
def F : Fn := ⟨(.pair (.pair (.arr 3 (.int .i64)) (.pair (.arr 3 (.int .i64)) (.pair (.int .i64) (.pair (.sl (.pair (.int .i64) (.pair (.int .i64) (.pair (.int .i64) (.pair (.int .i64) .unit))))) (.pair (.sl (.pair (.int .i64) (.pair (.int .i64) (.pair (.int .i64) (.pair (.int .i64) .unit))))) .unit))))) .unit), (.int .i64), false, fun x => run x.1⟩
set_option maxRecDepth 100000 in
theorem con : Con Try.prog 29 F := by
  refine con_of_den (C := C) (ctx_ok (by kernel_rfl) (by kernel_rfl) (by kernel_rfl) (by kernel_rfl) ⟨.inl ⟨Go.Bx.basculeref_upTo.con, Go.Bx.basculeref_upTo.named⟩, trivial⟩) (by kernel_rfl) Try.func29 (c := cB Try.f29) (by kernel_rfl) (by kernel_rfl) F fuel (fun x => by simp [F, spread, Try.ntmps29]) ?_
  intro x r h
  rw [← h]
  have h1 : start F Try.f29.ntmps x = (St0 x.1) := by kernel_rfl
  rw [h1]
  refine (top_eq fuel (fin C Try.f29.results.toList F.rs F.multi) x.1).trans ?_
  kernel_rfl
theorem named : Named Try.prog 29 := named_of Try.func29 (by kernel_rfl) (by kernel_rfl)
end Go.Bx.basculeref_GateFault
namespace Go.Bx.gate_used
open Go Go.Proofs Go.Bx
set_option maxRecDepth 100000
set_option linter.unusedVariables false
def Js : List Nat := [8, 9]
def C : Ctx := ⟨[(3, (.int .i64)), (40, (.sl (.pair (.int .i64) (.pair (.int .i64) (.pair (.int .i64) (.pair (.int .i64) .unit)))))), (42, (.pair (.arr 3 (.int .i64)) (.pair (.arr 3 (.int .i64)) (.pair (.int .i64) (.pair (.sl (.pair (.int .i64) (.pair (.int .i64) (.pair (.int .i64) (.pair (.int .i64) .unit))))) (.pair (.sl (.pair (.int .i64) (.pair (.int .i64) (.pair (.int .i64) (.pair (.int .i64) .unit))))) .unit)))))), (103, (.pair (.int .i64) (.pair (.int .i64) (.pair (.int .i64) (.pair (.int .i64) .unit)))))], [], [], fnL [], noSh, [], invL [], [(2, [4]), (1, [5]), (4, [1, 2, 5, 9, 10, 11]), (9, [1, 2, 5, 9, 10, 11]), (21, [1, 2, 5, 9, 10, 11]), (24, [5])], [], [], 0, 0⟩
def St0 (x0 : List Int × List Int × Int × List (Int × Int × Int × Int × Unit) × List (Int × Int × Int × Int × Unit) × Unit) (x1 : Int) : St := stL 33 [(0, .data (.pair (.arr 3 (.int .i64)) (.pair (.arr 3 (.int .i64)) (.pair (.int .i64) (.pair (.sl (.pair (.int .i64) (.pair (.int .i64) (.pair (.int .i64) (.pair (.int .i64) .unit))))) (.pair (.sl (.pair (.int .i64) (.pair (.int .i64) (.pair (.int .i64) (.pair (.int .i64) .unit))))) .unit))))) x0), (1, .data (.int .i64) x1)] []
def St1 (x1 : Int) (x5 : Int) (x9 : List (Int × Int × Int × Int × Unit)) (x10 : Int) (x11 : Int) (c2 : List Int × List Int × Int × List (Int × Int × Int × Int × Unit) × List (Int × Int × Int × Int × Unit) × Unit) : St := stL 33 [(1, .data (.int .i64) x1), (2, .ref 2 0 []), (5, .data (.int .i64) x5), (9, .data (.sl (.pair (.int .i64) (.pair (.int .i64) (.pair (.int .i64) (.pair (.int .i64) .unit))))) x9), (10, .data (.int .i64) x10), (11, .data (.int .i64) x11)] [(2, .cell (.pair (.arr 3 (.int .i64)) (.pair (.arr 3 (.int .i64)) (.pair (.int .i64) (.pair (.sl (.pair (.int .i64) (.pair (.int .i64) (.pair (.int .i64) (.pair (.int .i64) .unit))))) (.pair (.sl (.pair (.int .i64) (.pair (.int .i64) (.pair (.int .i64) (.pair (.int .i64) .unit))))) .unit))))) (.data (.pair (.arr 3 (.int .i64)) (.pair (.arr 3 (.int .i64)) (.pair (.int .i64) (.pair (.sl (.pair (.int .i64) (.pair (.int .i64) (.pair (.int .i64) (.pair (.int .i64) .unit))))) (.pair (.sl (.pair (.int .i64) (.pair (.int .i64) (.pair (.int .i64) (.pair (.int .i64) .unit))))) .unit))))) c2) false)]
noncomputable def cd0 : Code := cL (cL (cR (cL (cR (cR (cB Try.f104))))))
def St2 (x1 : Int) (x5 : Int) (x9 : List (Int × Int × Int × Int × Unit)) (x10 : Int) (x11 : Int) (c2 : List Int × List Int × Int × List (Int × Int × Int × Int × Unit) × List (Int × Int × Int × Int × Unit) × Unit) : St := stL 33 [(1, .data (.int .i64) x1), (2, .ref 2 0 []), (5, .data (.int .i64) x5), (9, .data (.sl (.pair (.int .i64) (.pair (.int .i64) (.pair (.int .i64) (.pair (.int .i64) .unit))))) x9), (10, .data (.int .i64) x10), (11, .data (.int .i64) x11)] [(2, .cell (.pair (.arr 3 (.int .i64)) (.pair (.arr 3 (.int .i64)) (.pair (.int .i64) (.pair (.sl (.pair (.int .i64) (.pair (.int .i64) (.pair (.int .i64) (.pair (.int .i64) .unit))))) (.pair (.sl (.pair (.int .i64) (.pair (.int .i64) (.pair (.int .i64) (.pair (.int .i64) .unit))))) .unit))))) (.data (.pair (.arr 3 (.int .i64)) (.pair (.arr 3 (.int .i64)) (.pair (.int .i64) (.pair (.sl (.pair (.int .i64) (.pair (.int .i64) (.pair (.int .i64) (.pair (.int .i64) .unit))))) (.pair (.sl (.pair (.int .i64) (.pair (.int .i64) (.pair (.int .i64) (.pair (.int .i64) .unit))))) .unit))))) c2) false)]
noncomputable def cd1 : Code := cR (cR (cR (cL (cL (cR (cL (cR (cR (cB Try.f104)))))))))
def j0 {α : Type} (Nx : Int → Int → (List (Int × Int × Int × Int × Unit)) → Int → Int → (List Int × List Int × Int × List (Int × Int × Int × Int × Unit) × List (Int × Int × Int × Int × Unit) × Unit) → Option α) (x1 : Int) (x5 : Int) (x9 : List (Int × Int × Int × Int × Unit)) (x10 : Int) (x11 : Int) (c2 : List Int × List Int × Int × List (Int × Int × Int × Int × Unit) × List (Int × Int × Int × Int × Unit) × Unit) : Option α :=
  Nx x1 x5 x9 x10 (IntKind.i64.wrap (x11 + 1)) c2
theorem j0_eq {α : Type} (k : Nat) (next : St → Option α) (Q : Ex → St → Option α) (x1 : Int) (x5 : Int) (x9 : List (Int × Int × Int × Int × Unit)) (x10 : Int) (x11 : Int) (c2 : List Int × List Int × Int × List (Int × Int × Int × Int × Unit) × List (Int × Int × Int × Int × Unit) × Unit) :
    (den C k) cd1 (lq C 9 next Q) (St2 x1 x5 x9 x10 x11 c2) = j0 (fun (x1 : Int) (x5 : Int) (x9 : List (Int × Int × Int × Int × Unit)) (x10 : Int) (x11 : Int) (c2 : List Int × List Int × Int × List (Int × Int × Int × Int × Unit) × List (Int × Int × Int × Int × Unit) × Unit) => next (St1 x1 x5 x9 x10 x11 c2)) x1 x5 x9 x10 x11 c2 := by
  have h : ∀ (D L : DT α), denJ D L Js C cd1 (lq C 9 next Q) (St2 x1 x5 x9 x10 x11 c2) =
        next (St1 x1 x5 x9 x10 (IntKind.i64.wrap (x11 + 1)) c2) := by
    intro D L; kernel_rfl
  refine (show (den C k) cd1 (lq C 9 next Q) (St2 x1 x5 x9 x10 x11 c2) = denJ (den C k) (lp C k) Js C cd1 (lq C 9 next Q) (St2 x1 x5 x9 x10 x11 c2) from (denJ_den _ _ _ _ _ _).symm).trans ((h (den C k) (lp C k)).trans ?_)
  first | rfl | kernel_rfl
def St3 (x5 : Int) : St := stL 33 [(5, .data (.int .i64) x5)] []
def l0s {α : Type} (Nx : Int → Int → (List (Int × Int × Int × Int × Unit)) → Int → Int → (List Int × List Int × Int × List (Int × Int × Int × Int × Unit) × List (Int × Int × Int × Int × Unit) × Unit) → Option α) (Xt0 : Int → Option α) (x1 : Int) (x5 : Int) (x9 : List (Int × Int × Int × Int × Unit)) (x10 : Int) (x11 : Int) (c2 : List Int × List Int × Int × List (Int × Int × Int × Int × Unit) × List (Int × Int × Int × Int × Unit) × Unit) : Option α :=
  if (decide (x11 < x10)) = true then
    if 0 ≤ x11 ∧ x11 < (x9.length : Int) then
      if (cond ((List.getD x9 (Int.toNat x11) (0, 0, 0, 0, ())).2.2.1 == x1) (decide ((IntKind.i64.wrap (c2.2.2.1 - (List.getD x9 (Int.toNat x11) (0, 0, 0, 0, ())).2.2.2.1)) < 24)) false) = true then
        j0 Nx x1 (IntKind.i64.wrap (x5 + (List.getD x9 (Int.toNat x11) (0, 0, 0, 0, ())).2.1)) x9 x10 x11 c2
      else
        j0 Nx x1 x5 x9 x10 x11 c2
    else none
  else
    Xt0 x5
theorem l0s_eq {α : Type} (k : Nat) (next : St → Option α) (Q : Ex → St → Option α) (x1 : Int) (x5 : Int) (x9 : List (Int × Int × Int × Int × Unit)) (x10 : Int) (x11 : Int) (c2 : List Int × List Int × Int × List (Int × Int × Int × Int × Unit) × List (Int × Int × Int × Int × Unit) × Unit) :
    rnd C k cd0 9 Q next (St1 x1 x5 x9 x10 x11 c2) = l0s (fun (x1 : Int) (x5 : Int) (x9 : List (Int × Int × Int × Int × Unit)) (x10 : Int) (x11 : Int) (c2 : List Int × List Int × Int × List (Int × Int × Int × Int × Unit) × List (Int × Int × Int × Int × Unit) × Unit) => next (St1 x1 x5 x9 x10 x11 c2)) (fun (x5 : Int) => Q (.exit 0) (St3 x5)) x1 x5 x9 x10 x11 c2 := by
  have h : ∀ (D L : DT α), denJ D L Js C cd0 (lq C 9 next Q) (St1 x1 x5 x9 x10 x11 c2) =
        if (decide (x11 < x10)) = true then
          if 0 ≤ x11 ∧ x11 < (x9.length : Int) then
            if (cond ((List.getD x9 (Int.toNat x11) (0, 0, 0, 0, ())).2.2.1 == x1) (decide ((IntKind.i64.wrap (c2.2.2.1 - (List.getD x9 (Int.toNat x11) (0, 0, 0, 0, ())).2.2.2.1)) < 24)) false) = true then
              D cd1 (lq C 9 next Q) (St2 x1 (IntKind.i64.wrap (x5 + (List.getD x9 (Int.toNat x11) (0, 0, 0, 0, ())).2.1)) x9 x10 x11 c2)
            else
              D cd1 (lq C 9 next Q) (St2 x1 x5 x9 x10 x11 c2)
          else none
        else
          Q (.exit 0) (St3 x5) := by
    intro D L; kernel_rfl
  refine (show rnd C k cd0 9 Q next (St1 x1 x5 x9 x10 x11 c2) = denJ (den C k) (lp C k) Js C cd0 (lq C 9 next Q) (St1 x1 x5 x9 x10 x11 c2) from (denJ_den _ _ _ _ _ _).symm).trans ((h (den C k) (lp C k)).trans ?_)
  simp only [j0_eq]
  first | rfl | kernel_rfl
def l0 {α : Type} (k : Nat) (Xt0 : Int → Option α) : Nat → Int → Int → (List (Int × Int × Int × Int × Unit)) → Int → Int → (List Int × List Int × Int × List (Int × Int × Int × Int × Unit) × List (Int × Int × Int × Int × Unit) × Unit) → Option α
  | 0, _, _, _, _, _, _ => none
  | n + 1, x1, x5, x9, x10, x11, c2 => l0s (l0 k Xt0 n) Xt0 x1 x5 x9 x10 x11 c2
theorem l0_eq {α : Type} (k : Nat) (Q : Ex → St → Option α) : ∀ (n : Nat) (x1 : Int) (x5 : Int) (x9 : List (Int × Int × Int × Int × Unit)) (x10 : Int) (x11 : Int) (c2 : List Int × List Int × Int × List (Int × Int × Int × Int × Unit) × List (Int × Int × Int × Int × Unit) × Unit), iter (rnd C k cd0 9 Q) n (St1 x1 x5 x9 x10 x11 c2) = l0 k (fun (x5 : Int) => Q (.exit 0) (St3 x5)) n x1 x5 x9 x10 x11 c2
  | 0, _, _, _, _, _, _ => rfl
  | n + 1, x1, x5, x9, x10, x11, c2 => (iter_succ _ _ _).trans ((l0s_eq k (iter (rnd C k cd0 9 Q) n) Q x1 x5 x9 x10 x11 c2).trans (congrArg (fun N => l0s N (fun (x5 : Int) => Q (.exit 0) (St3 x5)) x1 x5 x9 x10 x11 c2) (funext fun x1 => funext fun x5 => funext fun x9 => funext fun x10 => funext fun x11 => funext fun c2 => l0_eq k Q n x1 x5 x9 x10 x11 c2)))
theorem l0_congr {α : Type} (k : Nat) (Xt0 : Int → Option α) (Xt0q : Int → Option α) (hXt0 : ∀ (x5 : Int), Xt0 x5 = Xt0q x5) (n : Nat) (x1 : Int) (x5 : Int) (x9 : List (Int × Int × Int × Int × Unit)) (x10 : Int) (x11 : Int) (c2 : List Int × List Int × Int × List (Int × Int × Int × Int × Unit) × List (Int × Int × Int × Int × Unit) × Unit) : l0 k Xt0 n x1 x5 x9 x10 x11 c2 = l0 k Xt0q n x1 x5 x9 x10 x11 c2 := by
  obtain rfl : Xt0 = Xt0q := by funext x5; exact hXt0 x5
  rfl
noncomputable def cd2 : Code := cR (cR (cR (cB Try.f104)))
def St4 (x5 : Int) : St := stL 33 [(5, .data (.int .i64) x5)] []
def St5 (x4 : Int) : St := stL 33 [(4, .data (.int .i64) x4)] []
def j1 {α : Type} (Rt : Int → Option α) (x5 : Int) : Option α :=
  Rt x5
theorem j1_eq {α : Type} (k : Nat) (Q : Ex → St → Option α) (x5 : Int) :
    (den C k) cd2 Q (St4 x5) = j1 (fun (x4 : Int) => Q .ret (St5 x4)) x5 := by
  have h : ∀ (D L : DT α), denJ D L Js C cd2 Q (St4 x5) =
        Q .ret (St5 x5) := by
    intro D L; kernel_rfl
  refine (show (den C k) cd2 Q (St4 x5) = denJ (den C k) (lp C k) Js C cd2 Q (St4 x5) from (denJ_den _ _ _ _ _ _).symm).trans ((h (den C k) (lp C k)).trans ?_)
  first | rfl | kernel_rfl
theorem a0 {α : Type} (k : Nat) (Q : Ex → St → Option α) (x1 : Int) (x5 : Int) (x9 : List (Int × Int × Int × Int × Unit)) (x10 : Int) (x11 : Int) (c2 : List Int × List Int × Int × List (Int × Int × Int × Int × Unit) × List (Int × Int × Int × Int × Unit) × Unit) :
    (lp C k) cd0 (blkQ C 0 (sq (den C k) (lp C k) Js C cd2 Q)) (St1 x1 x5 x9 x10 x11 c2) = l0 k (fun (x5 : Int) => j1 (fun (x4 : Int) => Q .ret (St5 x4)) x5) k x1 x5 x9 x10 x11 c2 :=
  (show (lp C k) cd0 (blkQ C 0 (sq (den C k) (lp C k) Js C cd2 Q)) (St1 x1 x5 x9 x10 x11 c2) = iter (rnd C k cd0 9 (blkQ C 0 (sq (den C k) (lp C k) Js C cd2 Q))) k (St1 x1 x5 x9 x10 x11 c2) by kernel_rfl).trans ((l0_eq k (blkQ C 0 (sq (den C k) (lp C k) Js C cd2 Q)) k x1 x5 x9 x10 x11 c2).trans (l0_congr k _ _ (fun x5 => ((show (blkQ C 0 (sq (den C k) (lp C k) Js C cd2 Q)) (.exit 0) (St3 x5) = (den C k) cd2 Q (St4 x5) by kernel_rfl).trans (by simp only [j1_eq]))) k x1 x5 x9 x10 x11 c2))
def top {α : Type} (k : Nat) (Rt : Int → Option α) (x0 : List Int × List Int × Int × List (Int × Int × Int × Int × Unit) × List (Int × Int × Int × Int × Unit) × Unit) (x1 : Int) : Option α :=
  l0 k (fun (x5 : Int) => j1 Rt x5) k x1 0 x0.2.2.2.1 (x0.2.2.2.1.length : Int) 0 x0
theorem top_eq {α : Type} (k : Nat) (Q : Ex → St → Option α) (x0 : List Int × List Int × Int × List (Int × Int × Int × Int × Unit) × List (Int × Int × Int × Int × Unit) × Unit) (x1 : Int) :
    (den C k) (cB Try.f104) Q (St0 x0 x1) = top k (fun (x4 : Int) => Q .ret (St5 x4)) x0 x1 := by
  have h : ∀ (D L : DT α), denJ D L Js C (cB Try.f104) Q (St0 x0 x1) =
        L cd0 (blkQ C 0 (sq D L Js C cd2 Q)) (St1 x1 0 x0.2.2.2.1 (x0.2.2.2.1.length : Int) 0 x0) := by
    intro D L; kernel_rfl
  refine (show (den C k) (cB Try.f104) Q (St0 x0 x1) = denJ (den C k) (lp C k) Js C (cB Try.f104) Q (St0 x0 x1) from (denJ_den _ _ _ _ _ _).symm).trans ((h (den C k) (lp C k)).trans ?_)
  simp only [a0]
  first | rfl | kernel_rfl
def run (x0 : List Int × List Int × Int × List (Int × Int × Int × Int × Unit) × List (Int × Int × Int × Int × Unit) × Unit) (x1 : Int) : Option (Int) := top (α := Int) fuel (fun (x4 : Int) => some x4) x0 x1
def F : Fn := ⟨(.pair (.pair (.arr 3 (.int .i64)) (.pair (.arr 3 (.int .i64)) (.pair (.int .i64) (.pair (.sl (.pair (.int .i64) (.pair (.int .i64) (.pair (.int .i64) (.pair (.int .i64) .unit))))) (.pair (.sl (.pair (.int .i64) (.pair (.int .i64) (.pair (.int .i64) (.pair (.int .i64) .unit))))) .unit))))) (.pair (.int .i64) .unit)), (.int .i64), false, fun x => run x.1 x.2.1⟩
set_option maxRecDepth 100000 in
theorem con : Con Try.prog 104 F := by
  refine con_of_den (C := C) (ctx_ok (by kernel_rfl) (by kernel_rfl) (by kernel_rfl) (by kernel_rfl) trivial) (by kernel_rfl) Try.func104 (c := cB Try.f104) (by kernel_rfl) (by kernel_rfl) F fuel (fun x => by simp [F, spread, Try.ntmps104]) ?_
  intro x r h
  rw [← h]
  have h1 : start F Try.f104.ntmps x = (St0 x.1 x.2.1) := by kernel_rfl
  rw [h1]
  refine (top_eq fuel (fin C Try.f104.results.toList F.rs F.multi) x.1 x.2.1).trans ?_
  kernel_rfl
theorem named : Named Try.prog 104 := named_of Try.func104 (by kernel_rfl) (by kernel_rfl)
end Go.Bx.gate_used
namespace Go.Bx.gate_fits
open Go Go.Proofs Go.Bx
set_option maxRecDepth 100000
set_option linter.unusedVariables false
def Js : List Nat := []
def C : Ctx := ⟨[(3, (.int .i64)), (4, .bool), (39, (.arr 3 (.int .i64))), (40, (.sl (.pair (.int .i64) (.pair (.int .i64) (.pair (.int .i64) (.pair (.int .i64) .unit)))))), (42, (.pair (.arr 3 (.int .i64)) (.pair (.arr 3 (.int .i64)) (.pair (.int .i64) (.pair (.sl (.pair (.int .i64) (.pair (.int .i64) (.pair (.int .i64) (.pair (.int .i64) .unit))))) (.pair (.sl (.pair (.int .i64) (.pair (.int .i64) (.pair (.int .i64) (.pair (.int .i64) .unit))))) .unit)))))), (103, (.pair (.int .i64) (.pair (.int .i64) (.pair (.int .i64) (.pair (.int .i64) .unit)))))], [], [], fnL [(104, Go.Bx.gate_used.F)], noSh, [], invL [], [(2, [4])], [], [], 0, 0⟩
def St0 (x0 : List Int × List Int × Int × List (Int × Int × Int × Int × Unit) × List (Int × Int × Int × Int × Unit) × Unit) (x1 : Int × Int × Int × Int × Unit) : St := stL 34 [(0, .data (.pair (.arr 3 (.int .i64)) (.pair (.arr 3 (.int .i64)) (.pair (.int .i64) (.pair (.sl (.pair (.int .i64) (.pair (.int .i64) (.pair (.int .i64) (.pair (.int .i64) .unit))))) (.pair (.sl (.pair (.int .i64) (.pair (.int .i64) (.pair (.int .i64) (.pair (.int .i64) .unit))))) .unit))))) x0), (1, .data (.pair (.int .i64) (.pair (.int .i64) (.pair (.int .i64) (.pair (.int .i64) .unit)))) x1)] []
def St1 (x4 : Bool) : St := stL 34 [(4, .data .bool x4)] []
def top {α : Type} (Rt : Bool → Option α) (x0 : List Int × List Int × Int × List (Int × Int × Int × Int × Unit) × List (Int × Int × Int × Int × Unit) × Unit) (x1 : Int × Int × Int × Int × Unit) : Option α :=
  if 0 ≤ x1.2.2.1 ∧ x1.2.2.1 < (3 : Int) then
    (if ((decide (x1.2.1 < (List.getD x0.2.1 (Int.toNat x1.2.2.1) 0))) == true) = true then Go.Bx.gate_used.run x0 x1.2.2.1 else some 0).bind fun y1 =>
    cond (decide (0 ≤ x1.2.2.1 ∧ x1.2.2.1 < (3 : Int)) || !((decide (x1.2.1 < (List.getD x0.2.1 (Int.toNat x1.2.2.1) 0))) == true)) (
      Rt (cond (cond (decide (x1.2.1 < (List.getD x0.2.1 (Int.toNat x1.2.2.1) 0))) (decide ((IntKind.i64.wrap (y1 + x1.2.1)) ≤ (List.getD x0.1 (Int.toNat x1.2.2.1) 0))) false) (decide ((x0.2.2.2.1.length : Int) < 40)) false)) none
  else none
theorem top_eq {α : Type} (k : Nat) (Q : Ex → St → Option α) (x0 : List Int × List Int × Int × List (Int × Int × Int × Int × Unit) × List (Int × Int × Int × Int × Unit) × Unit) (x1 : Int × Int × Int × Int × Unit) :
    (den C k) (cB Try.f63) Q (St0 x0 x1) = top (fun (x4 : Bool) => Q .ret (St1 x4)) x0 x1 := by
  have h : ∀ (D L : DT α), denJ D L Js C (cB Try.f63) Q (St0 x0 x1) =
        if 0 ≤ x1.2.2.1 ∧ x1.2.2.1 < (3 : Int) then
          (if ((decide (x1.2.1 < (List.getD x0.2.1 (Int.toNat x1.2.2.1) 0))) == true) = true then Go.Bx.gate_used.run x0 x1.2.2.1 else some 0).bind fun y1 =>
          cond (decide (0 ≤ x1.2.2.1 ∧ x1.2.2.1 < (3 : Int)) || !((decide (x1.2.1 < (List.getD x0.2.1 (Int.toNat x1.2.2.1) 0))) == true)) (
            Q .ret (St1 (cond (cond (decide (x1.2.1 < (List.getD x0.2.1 (Int.toNat x1.2.2.1) 0))) (decide ((IntKind.i64.wrap (y1 + x1.2.1)) ≤ (List.getD x0.1 (Int.toNat x1.2.2.1) 0))) false) (decide ((x0.2.2.2.1.length : Int) < 40)) false))) none
        else none := by
    intro D L; kernel_rfl
  refine (show (den C k) (cB Try.f63) Q (St0 x0 x1) = denJ (den C k) (lp C k) Js C (cB Try.f63) Q (St0 x0 x1) from (denJ_den _ _ _ _ _ _).symm).trans ((h (den C k) (lp C k)).trans ?_)
  first | rfl | kernel_rfl
def run (x0 : List Int × List Int × Int × List (Int × Int × Int × Int × Unit) × List (Int × Int × Int × Int × Unit) × Unit) (x1 : Int × Int × Int × Int × Unit) : Option (Bool) := top (α := Bool) (fun (x4 : Bool) => some x4) x0 x1
def F : Fn := ⟨(.pair (.pair (.arr 3 (.int .i64)) (.pair (.arr 3 (.int .i64)) (.pair (.int .i64) (.pair (.sl (.pair (.int .i64) (.pair (.int .i64) (.pair (.int .i64) (.pair (.int .i64) .unit))))) (.pair (.sl (.pair (.int .i64) (.pair (.int .i64) (.pair (.int .i64) (.pair (.int .i64) .unit))))) .unit))))) (.pair (.pair (.int .i64) (.pair (.int .i64) (.pair (.int .i64) (.pair (.int .i64) .unit)))) .unit)), .bool, false, fun x => run x.1 x.2.1⟩
set_option maxRecDepth 100000 in
theorem con : Con Try.prog 63 F := by
  refine con_of_den (C := C) (ctx_ok (by kernel_rfl) (by kernel_rfl) (by kernel_rfl) (by kernel_rfl) ⟨.inl ⟨Go.Bx.gate_used.con, Go.Bx.gate_used.named⟩, trivial⟩) (by kernel_rfl) Try.func63 (c := cB Try.f63) (by kernel_rfl) (by kernel_rfl) F fuel (fun x => by simp [F, spread, Try.ntmps63]) ?_
  intro x r h
  rw [← h]
  have h1 : start F Try.f63.ntmps x = (St0 x.1 x.2.1) := by kernel_rfl
  rw [h1]
  refine (top_eq fuel (fin C Try.f63.results.toList F.rs F.multi) x.1 x.2.1).trans ?_
  kernel_rfl
theorem named : Named Try.prog 63 := named_of Try.func63 (by kernel_rfl) (by kernel_rfl)
end Go.Bx.gate_fits
